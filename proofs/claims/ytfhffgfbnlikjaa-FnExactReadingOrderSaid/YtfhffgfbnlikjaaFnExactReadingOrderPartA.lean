import Derived.Test.YtfhffgfbnlikjaaFnExactReadingOrderGen
namespace Go.Proofs.Ytfhffgfbnlikjaa
open Go Go.Eng Go.Eng.Cod
set_option maxRecDepth 100000
set_option linter.unusedVariables false
set_option linter.unusedSimpArgs false
theorem nil_ok : kBr Try.prog (kCa []) := E0
def kDv (a b c : Int) : Bool := decide (b ≤ a) && decide (a ≤ c)
theorem ok_q13 : kAs Try.prog n_q13 (T3 kDv) := pureT3 nil_ok mixed hb_q13 fun a b c => by
  simp [e_q13, kDv]
theorem ok_q38 : kAs Try.prog n_q38 (T3 kDv) := pureT3 nil_ok mixed hb_q38 fun a b c => by
  simp [e_q38, kDv]
theorem ok_q39 : kAs Try.prog n_q39 (T2 fun a b : Int => max a b) := pureT2 nil_ok mixed hb_q39 fun a b => by
  simp [e_q39, maxI]
def kB6 (b : Box) : Bool := kDv b.x1 0 b.x2 && kDv b.y1 0 b.y2 && decide (b.x2 ≤ 4095) && decide (b.y2 ≤ 4095)
theorem ok_q4 : kAs Try.prog n_q4 (T1 kB6) :=
  pureT1 (E1 ok_q13) mixed hb_q4 fun b => by
  simp [e_q4, kCa, kG1, kAc, cut, kB6]
theorem ok_q41 : kAs Try.prog n_q41 (T1 kB6) :=
  pureT1 (E1 ok_q38) mixed hb_q41 fun b => by
  simp [e_q41, kCa, kG1, kAc, cut, kB6]
theorem ok_q26 : kAs Try.prog n_q26 (T1 fun b : Box => b) := pureT1 nil_ok mixed hb_q26 fun b => by
  simp [e_q26, kG1, kAc, cut, kAw, kBe, retL, resL, pack]
theorem ok_q16 : kAs Try.prog n_q16 (T2 fun a b : Box => decide (a = b)) := pureT2 nil_ok mixed hb_q16 fun a b => by
  simp [e_q16, kG1, kAc, cut]
  obtain ⟨a1, a2, a3, a4⟩ := a
  obtain ⟨b1, b2, b3, b4⟩ := b
  simp
theorem ok_q8 : kAs Try.prog n_q8 (T1 fun b : Box => !kB6 b) := pureT1 (E1 ok_q4) mixed hb_q8 fun b => by
  simp [e_q8, kCa, kG1, kAc, cut]
def isIdx (n : Int) (k : Int) : Bool := kDv k 0 (n - 1)
theorem grow_of_below {W w' : World} (h : BelowD W.heap.size W w') : ∃ q os, w' = Go.Sort.grow (W.drewN q) os := by
  refine ⟨w'.drawn - W.drawn, w'.heap.extract W.heap.size w'.heap.size, ?_⟩
  have hd := h.drawn trivial
  have hs := h.size
  have e1 : w'.heap = W.heap ++ w'.heap.extract W.heap.size w'.heap.size := by
    apply Array.ext
    · simp
      omega
    · intro i h1 h2
      by_cases hi : i < W.heap.size
      · have b := h.block i hi
        rw [Array.getElem?_eq_getElem h1, Array.getElem?_eq_getElem hi] at b
        rw [Array.getElem_append_left hi]
        exact Option.some.inj b
      · rw [Array.getElem_append_right (by omega), Array.getElem_extract]
        congr 1
        omega
  obtain ⟨h1, h2, h3⟩ := (⟨h.os, h.tape, h.output⟩ : _ ∧ _ ∧ _)
  cases w' with
  | mk hp tp dr os out =>
    unfold Go.Sort.grow World.drewN
    simp only at *
    subst h1 h2 h3
    rw [← e1]
    congr 1
    omega
abbrev IxT (m : Nat) := {i : Int // 0 ≤ i ∧ i < ((m + 1 : Nat) : Int)}
instance instIxT (m : Nat) : Inhabited (IxT m) := ⟨⟨0, by omega, by omega⟩⟩
def encIx {m : Nat} (x : IxT m) : Value := .int .i64 x.1
theorem callPure_below {P : Program} {X : Nat → Prop} {w : World} {ρ : RM} {g : Nat} {f : List AV → Option AV} (hf : kAs P g f) {h : kA4} {args ds : List AV} {r : AV} (hds : kBb (snap h depth) args = some ds) (hr' : f ds = some r) (hr : HRep P X ρ h w)
    {vs : Array Value} (hn : vs.size = args.length) (hvs : ∀ (i : Nat) (d : AV) (u : Value), args[i]? = some d → vs[i]? = some u → Rep (Own X ρ) w ρ d u) :
    kI3 P g vs w fun e w' => ∃ u, e = .returned u ∧ BelowD w.heap.size w w' ∧ RepN noX w.heap.size w' r u := by
  have hl := (kCj hds).1
  refine hf ds r hr' noX w vs hr.glob.glob (by omega) (fun i d u e1 e2 => ?_)
  obtain ⟨a, e3, e4⟩ := kCz hds e1
  exact snap_ok hr (List.prefix_refl _) depth a d u e4 (hvs i a u e3 e2)
theorem repN_sc1 {X : Nat → Prop} {B : Nat} {w : World} {u v : Value} (h : RepN X B w (.sc u) v) : v = u := by
  obtain ⟨ρ0, _, h2⟩ := h
  obtain ⟨h3, h4⟩ := h2 0
  obtain ⟨_, g⟩ := h4 (mat depth (.sc u) 0).2 (fun i ob e => by simpa using e)
  have : (mat depth (.sc u) 0).1 = .sc u := rfl
  rw [this] at g
  cases g
  rfl
theorem toIx {m : Nat} : ∀ {zs : List Int}, (∀ z ∈ zs, 0 ≤ z ∧ z < ((m + 1 : Nat) : Int)) → ∃ xs : List (IxT m), zs = xs.map (·.1)
  | [], _ => ⟨[], rfl⟩
  | z :: zs, h => by
    obtain ⟨xs, e⟩ := toIx (zs := zs) fun y hy => h y (List.mem_cons_of_mem _ hy)
    exact ⟨⟨z, h z List.mem_cons_self⟩ :: xs, by rw [List.map_cons, ← e]⟩
def ltC (cf : Int → Int → Int) (x y : Int) : Bool := decide (cf x y < 0)
def kH7 (cf : Int → Int → Int) (zs : List Int) : List Int := zs.mergeSort fun x y => !ltC cf y x
theorem sortC_len (cf : Int → Int → Int) (zs : List Int) : (kH7 cf zs).length = zs.length := List.length_mergeSort _
theorem hrep_put {P : Program} {X : Nat → Prop} {ρ : RM} {w : World} {h : kA4} (hr : HRep P X ρ h w) {o : Nat} {io : OI} (hρ : ρ o = some io) {ob : AObj} (hob : h[o]? = some ob) (hk : io.k = 1) (ys : List Int) (hy : ys.length = io.ep) (hC : io.ep ≤ io.C) (q : Nat) (os : Array Obj) :
    HRep P X (ρ.put o ⟨io.b, io.C, io.k, ys.length⟩) (h.set o ⟨1, ys.map fun z => [iv z]⟩) (Go.Sort.grow ((w.drewN q).setCells io.b 0 (ys.map (Value.int .i64))) os) ∧ Step ρ w (ρ.put o ⟨io.b, io.C, io.k, ys.length⟩) (Go.Sort.grow ((w.drewN q).setCells io.b 0 (ys.map (Value.int .i64))) os) := by
  have hd : ∀ b : Nat, (w.drewN q).heap[b]? = w.heap[b]? := fun b => rfl
  have hr1 : HRep P X ρ h (w.drewN q) := hr.keepAll (Nat.le_refl _) fun b _ => hd b
  have st1 : Step ρ w ρ (w.drewN q) := Step.keepAll (Nat.le_refl _) (fun b _ => hd b) rfl rfl rfl (Nat.le_add_right _ _)
  obtain ⟨hr2, st2⟩ := hr1.write (ob' := ⟨1, ys.map fun z => [iv z]⟩) hρ hob hk.symm (by simp only [List.length_map]; omega) (by simp only [List.length_map]; omega)
    (fun row hrow => by
      obtain ⟨z, _, rfl⟩ := List.mem_map.1 hrow
      exact ⟨by rw [hk]; rfl, rfl⟩) 0 (ys.map (Value.int .i64)) (by rw [hk, List.length_map]; omega) (fun i j c hcell => by
      obtain ⟨row, q1, q2⟩ := kB5 hcell
      simp only [List.getElem?_map] at q1
      cases q3 : ys[i]? with
      | none => rw [q3] at q1; cases q1
      | some z =>
        rw [q3] at q1
        cases q1
        have hil := (List.getElem?_eq_some_iff.1 q3).1
        cases j with
        | zero =>
          cases q2
          refine ⟨.int .i64 z, ?_, .sc rfl⟩
          rw [if_pos ⟨by omega, by rw [hk, List.length_map]; omega⟩, hk, List.getElem?_map]
          simp only [Nat.mul_one, Nat.add_zero, Nat.sub_zero, q3]
          rfl
        | succ j => simp at q2)
  simp only [List.length_map] at hr2 st2
  have hg : ∀ b : Nat, b < ((w.drewN q).setCells io.b 0 (ys.map (Value.int .i64))).heap.size → (Go.Sort.grow ((w.drewN q).setCells io.b 0 (ys.map (Value.int .i64))) os).heap[b]? = ((w.drewN q).setCells io.b 0 (ys.map (Value.int .i64))).heap[b]? := fun b hb => Go.Sort.heap_grow_old _ _ hb
  have hsg : ((w.drewN q).setCells io.b 0 (ys.map (Value.int .i64))).heap.size ≤ (Go.Sort.grow ((w.drewN q).setCells io.b 0 (ys.map (Value.int .i64))) os).heap.size := by rw [Go.Sort.size_grow]; omega
  exact ⟨hr2.keepAll hsg hg, (st1.trans st2).trans (Step.keepAll hsg hg rfl rfl rfl (Nat.le_refl _))⟩
def kG9 {Z : Type} [Cod Z] (len : Z → Nat) (gc : Nat) (cf : Z → Int → Int → Int) : List AV → kA4 → Option (AV × kA4)
  | [.sl o ep 0 n, .fn f [.ptr oc 1 0 0]], h => if f = gc ∧ oc ≠ o then (match h[o]?, h[oc]? with
    | some ob, some ⟨1, [[cv]]⟩ => (match intsOf ob.rows, (Cod.dec cv : Option Z) with
      | some zs, some q => if ob.rows.length = ep ∧ n = ep ∧ ob.k = 1 ∧ n ≤ 4294967296 ∧ (∀ z ∈ zs, 0 ≤ z ∧ z < (len q : Int)) then some (.tup [], h.set o ⟨1, (kH7 (cf q) zs).map fun z => [iv z]⟩) else none
      | _, _ => none)
    | _, _ => none) else none
  | [.sc (.slice none 0 0), .fn f [.ptr _ 1 0 0]], h => if f = gc then some (.tup [], h) else none
  | _, _ => none
theorem map_sortC {m : Nat} (cf : Int → Int → Int) (xs : List (IxT m)) : kH7 cf (xs.map (·.1)) = (xs.mergeSort fun x y => !Go.Proofs.ltOf (fun a b : IxT m => cf a.1 b.1) y x).map (·.1) := by
  unfold kH7
  exact (List.map_mergeSort (r := fun x y : IxT m => !Go.Proofs.ltOf (fun a b : IxT m => cf a.1 b.1) y x) (s := fun x y => !ltC cf y x) (f := fun x : IxT m => x.1) (l := xs) (fun a _ b _ => rfl)).symm
structure TotC (n : Nat) (cf : Int → Int → Int) : Prop where
  irr : ∀ x : Int, 0 ≤ x → x < n → ltC cf x x = false
  tr : ∀ x y z : Int, 0 ≤ x → x < n → 0 ≤ y → y < n → 0 ≤ z → z < n → ltC cf x y = true → ltC cf y z = true → ltC cf x z = true
  tri : ∀ x y : Int, 0 ≤ x → x < n → 0 ≤ y → y < n → ltC cf x y = true ∨ x = y ∨ ltC cf y x = true
theorem TotC.swo {m : Nat} {cf : Int → Int → Int} (h : TotC (m + 1) cf) : Go.Sort.SWO (Go.Proofs.ltOf fun a b : IxT m => cf a.1 b.1) where
  irrefl x := h.irr x.1 x.2.1 x.2.2
  trans x y z h1 h2 := h.tr x.1 y.1 z.1 x.2.1 x.2.2 y.2.1 y.2.2 z.2.1 z.2.2 h1 h2
  ntrans x y z h1 h2 := by
    show ltC cf x.1 z.1 = false
    have h1' : ltC cf x.1 y.1 = false := h1
    have h2' : ltC cf y.1 z.1 = false := h2
    cases e : ltC cf x.1 z.1 with
    | false => rfl
    | true =>
      rcases h.tri x.1 y.1 x.2.1 x.2.2 y.2.1 y.2.2 with g | g | g
      · rw [g] at h1'; cases h1'
      · rw [← g] at h2'; rw [e] at h2'; cases h2'
      · have := h.tr _ _ _ y.2.1 y.2.2 x.2.1 x.2.2 z.2.1 z.2.2 g e
        rw [this] at h2'; cases h2'
theorem TotC.one {m : Nat} {cf : Int → Int → Int} (h : TotC (m + 1) cf) (x y : IxT m) (h1 : (Go.Proofs.ltOf fun a b : IxT m => cf a.1 b.1) x y = false) (h2 : (Go.Proofs.ltOf fun a b : IxT m => cf a.1 b.1) y x = false) : x = y := by
  have h1' : ltC cf x.1 y.1 = false := h1
  have h2' : ltC cf y.1 x.1 = false := h2
  rcases h.tri x.1 y.1 x.2.1 x.2.2 y.2.1 y.2.2 with g | g | g
  · rw [g] at h1'; cases h1'
  · exact Subtype.ext g
  · rw [g] at h2'; cases h2'
theorem gen_sortC {P : Program} {g gc : Nat} {Z : Type} [Cod Z] {len : Z → Nat} {f : List AV → Option AV} {cf : Z → Int → Int → Int} (hbody : kAh P g) (hbc : kAh P gc) (hf : kAs P gc f) (htot : ∀ q, TotC (len q) (cf q))
    (hcf : ∀ (q : Z) (x y : Int) (h : kA4) (oc : Nat), 0 ≤ x → x < len q → 0 ≤ y → y < len q → h[oc]? = some ⟨1, [[Cod.enc q]]⟩ → ∃ ds, kBb (snap h depth) [iv x, iv y, .ptr oc 1 0 0] = some ds ∧ f ds = some (iv (cf q x y)))
    (hc : ∀ (m : Nat) (c : IxT m → IxT m → Int), Go.Sort.SWO (Go.Proofs.ltOf c) → (∀ x y, (Go.Proofs.ltOf c) x y = false → (Go.Proofs.ltOf c) y x = false → x = y) → ∀ (cb : Array Value) (blk off cap : Nat) (d : Array (IxT m)) (w : World), Go.Proofs.CmpLays1 P gc cb encIx c blk off d.size w → Go.Sort.Holds encIx w blk off d → blk < w.heap.size → d.size < 4611686018427387904 →
      Calls P g #[.slice (some ⟨blk, off, none⟩) d.size cap, .func (.func gc) #[] cb] w fun e w' => e = .returned (.tuple #[]) ∧ ∃ n os, w' = Go.Proofs.sortWorld encIx w blk off n (d.toList.mergeSort fun x y => !(Go.Proofs.ltOf c) y x).toArray os)
    (hn : ∀ (p : Option Addr) (cap : Nat) (fv : Value) (w : World), Calls P g #[.slice p 0 cap, fv] w fun e w' => e = .returned (.tuple #[]) ∧ w' = w) : GenOK P g (kG9 len gc cf) := by
  intro az h r h' hF X ρ w vs hr hsz hvs
  unfold kG9 at hF
  split at hF
  · rename_i o ep n f0 oc
    split at hF
    · rename_i hf0
      obtain ⟨rfl, hne⟩ := hf0
      split at hF
      · rename_i ob cv hob hoc
        split at hF
        · rename_i zs q hzs hq
          split at hF
          · rename_i hcnd
            obtain ⟨c1, c2, c3, c4, c5⟩ := hcnd
            cases hF
            have hrows := intsOf_spec hzs
            have hcv := Cod.ed _ _ hq
            subst hcv
            obtain ⟨v, u, rfl⟩ : ∃ v u, vs = #[v, u] := by
              match vs, hsz with
              | ⟨[v, u]⟩, _ => exact ⟨v, u, rfl⟩
            have hv := hvs 0 _ v rfl rfl
            have hu := hvs 1 _ u rfl rfl
            have hzl : zs.length = n := by
              have := congrArg List.length hrows
              rw [List.length_map] at this
              omega
            unfold kI3
            rw [kD2 hbody]
            show Calls P g _ w _
            cases hu with
            | @fn _ _ _ fvs hfn hfc =>
              obtain ⟨cbv, rfl⟩ : ∃ cbv, fvs = #[cbv] := by
                match fvs, hfn with
                | ⟨[cbv]⟩, _ => exact ⟨cbv, rfl⟩
              have hcb := hfc 0 _ cbv rfl rfl
              cases hv with
              | @sl _ _ _ _ _ cap a io hρ he hh =>
                obtain ⟨ob0, e0, R⟩ := hr.obj o io hρ
                rw [hob] at e0
                cases e0
                have hep : io.ep = ep := by rw [← R.ep]; exact c1
                obtain ⟨k1, k2, k3⟩ := hh hep
                have hk : io.k = 1 := by rw [← R.k]; exact c3
                have hCle := R.le
                cases n with
                | zero =>
                  have hz0 : zs = [] := List.length_eq_zero_iff.1 hzl
                  subst hz0
                  refine (hn (some a) cap _ w).mono fun e w' ⟨h1, h2⟩ => ?_
                  subst h1 h2
                  refine ⟨_, rfl, ρ, ?_, Step.refl _ _, .tup rfl fun i c v h => by simp at h⟩
                  have e1 : h.set o ⟨1, (kH7 (cf q) []).map fun z => [iv z]⟩ = h := by
                    obtain ⟨hlt, e2⟩ := List.getElem?_eq_some_iff.1 hob
                    have e3 : ob = ⟨1, (kH7 (cf q) []).map fun z => [iv z]⟩ := by
                      cases ob
                      simp only at c3 hrows
                      subst c3 hrows
                      simp [kH7]
                    rw [← e3, ← e2]
                    exact List.set_getElem_self hlt
                  rw [e1]
                  exact hr
                | succ n =>
                  have ha := k3 (by omega)
                  subst ha
                  simp only [Nat.zero_mul]
                  obtain ⟨m, hm⟩ : ∃ m, len q = m + 1 := by
                    have h0 := c5 zs[0] (List.getElem_mem _)
                    exact ⟨len q - 1, by omega⟩
                  obtain ⟨xs, rfl⟩ := toIx (m := m) (zs := zs) (by rw [← hm]; exact c5)
                  rw [List.length_map] at hzl
                  have hcellz : ∀ j (x : IxT m), xs[j]? = some x → w.cell? ⟨io.b, j, none⟩ = some (.int .i64 x.1) := fun j x hj => by
                    have hc0 : kB4 ob.rows j 0 = some (iv x.1) := by
                      rw [hrows]
                      unfold kB4
                      rw [List.getElem?_map, List.getElem?_map, hj]
                      rfl
                    obtain ⟨v, e1, e2⟩ := R.cells j 0 _ hc0
                    rw [rep_int e2, hk, Nat.mul_one, Nat.add_zero] at e1
                    exact e1
                  have hH : Go.Sort.Holds encIx w io.b 0 xs.toArray := fun j hj => by
                    have hj' : j < xs.length := by simpa using hj
                    rw [Nat.zero_add]
                    refine ⟨?_, (R.there j (by rw [hk]; omega)).2⟩
                    rw [hcellz j _ (List.getElem?_eq_getElem hj')]
                    simp [encIx, hj']
                  have htq := htot q
                  rw [hm] at htq
                  have back : ∀ (N : Nat) (ys : List (IxT m)) (os : Array Obj), ys.length = xs.length → Go.Proofs.sortWorld encIx w io.b 0 N ys.toArray os = Go.Sort.grow ((w.drewN N).setCells io.b 0 ((ys.map (·.1)).map (Value.int .i64))) os := fun N ys os hy => by
                    have hput := Go.Lib.putRow_eq_setCells encIx w io.b 0 xs.toArray ys N hH (by simpa using hy)
                    rw [List.map_map]
                    show Go.Sort.grow (Go.Sort.putRow encIx (Go.Sort.ahead w N) io.b 0 ys.toArray) os = _
                    rw [hput]
                    rfl
                  have hcmp : Go.Proofs.CmpLays1 P f0 #[cbv] encIx (fun a b : IxT m => cf q a.1 b.1) io.b 0 xs.toArray.size w := fun N os dk hdk x y => by
                    have hdl : dk.toList.length = xs.length := by simpa using hdk
                    have eW := back N dk.toList os hdl
                    rw [Array.toArray_toList] at eW
                    obtain ⟨hrd, _⟩ := hrep_put hr hρ hob hk (dk.toList.map (·.1)) (by rw [List.length_map, hdl]; omega) hCle N os
                    rw [← eW] at hrd
                    obtain ⟨ds, d1, d2⟩ := hcf q x.1 y.1 (h.set o ⟨1, (dk.toList.map (·.1)).map fun z => [iv z]⟩) oc x.2.1 (by have := x.2.2; omega) y.2.1 (by have := y.2.2; omega) (by rw [List.getElem?_set_ne (Ne.symm hne)]; exact hoc)
                    have hp := callPure_below hf d1 d2 hrd (vs := #[encIx x, encIx y] ++ #[cbv]) (by simp) (fun i d u e1 e2 => by
                      match i, e1, e2 with
                      | 0, e1, e2 => cases e1; cases e2; exact .sc rfl
                      | 1, e1, e2 => cases e1; cases e2; exact .sc rfl
                      | 2, e1, e2 =>
                        cases e1; cases e2
                        cases hcb with
                        | @ptr _ _ _ _ _ a' io' hρ' he' hh' => exact .ptr (by rw [kCl hne]; exact hρ') he' hh'
                      | i + 3, e1, e2 => simp at e1)
                    unfold kI3 at hp
                    rw [kD2 hbc] at hp
                    refine (show Calls P f0 _ _ _ from hp).mono fun e w' ⟨v, h1, h2, h3⟩ => ?_
                    have hv := repN_sc1 h3
                    subst hv
                    exact ⟨h1, grow_of_below h2⟩
                  have hcall := hc m (fun a b : IxT m => cf q a.1 b.1) htq.swo htq.one #[cbv] io.b 0 cap xs.toArray w hcmp hH R.lt (by simp; omega)
                  have hsz2 : xs.toArray.size = n + 1 := by simp [hzl]
                  rw [hsz2] at hcall
                  refine hcall.mono fun e w' ⟨h1, N, os, h2⟩ => ?_
                  subst h1
                  have hlen : (xs.mergeSort fun x y => !(Go.Proofs.ltOf fun a b : IxT m => cf q a.1 b.1) y x).length = xs.length := List.length_mergeSort _
                  rw [List.toList_toArray, back N _ os hlen, ← map_sortC] at h2
                  obtain ⟨hrd, st⟩ := hrep_put hr hρ hob hk (kH7 (cf q) (xs.map (·.1))) (by rw [sortC_len, List.length_map]; omega) hCle N os
                  rw [← h2] at hrd st
                  exact ⟨_, rfl, _, hrd, st, .tup rfl fun i c v h => by simp at h⟩
          · cases hF
        · cases hF
      · cases hF
    · cases hF
  · rename_i f0 oc
    split at hF
    · rename_i hf0
      subst hf0
      cases hF
      obtain ⟨v, u, rfl⟩ : ∃ v u, vs = #[v, u] := by
        match vs, hsz with
        | ⟨[v, u]⟩, _ => exact ⟨v, u, rfl⟩
      have hv := hvs 0 _ v rfl rfl
      cases hv
      unfold kI3
      rw [kD2 hbody]
      show Calls P g _ w _
      refine (hn none 0 u w).mono fun e w' ⟨h1, h2⟩ => ?_
      subst h1 h2
      exact ⟨_, rfl, ρ, hr, Step.refl _ _, .tup rfl fun i c v h => by simp at h⟩
    · cases hF
  · cases hF
theorem ids_ne {L : List Ent} (nd : (L.filterMap fun e => kE8 e.1).Nodup) {i j : Nat} {e e' : Ent} (hi : L[i]? = some e) (hj : L[j]? = some e') (hij : i < j) {o o' : Nat} (h1 : kE8 e.1 = some o) (h2 : kE8 e'.1 = some o') : o ≠ o' := by
  have hL : L = L.take j ++ L.drop j := (List.take_append_drop j L).symm
  rw [hL, List.filterMap_append, List.nodup_append] at nd
  refine nd.2.2 o (List.mem_filterMap.2 ⟨e, ?_, h1⟩) o' (List.mem_filterMap.2 ⟨e', ?_, h2⟩)
  · refine List.mem_of_getElem? (i := i) ?_
    rw [List.getElem?_take, if_pos hij]
    exact hi
  · refine List.mem_of_getElem? (i := 0) ?_
    rw [List.getElem?_drop, Nat.add_zero]
    exact hj
def sortCO {Z : Type} (len : Z → Nat) (cf : Z → Int → Int → Int) (q : Z) (s : Sl Int) : Option (Sl Int) := match s with
  | none => some none
  | some l => bif decide (l.length ≤ 4294967296) && l.all fun z => decide (0 ≤ z) && decide (z < (len q : Int)) then some (some (kH7 (cf q) l)) else none
theorem sim_sortRow {A Z γ δ : Type} [Row A] [Inn A Int] [Cod Z] {B : Base} {h : kA4} {l : List Ent} {Q : δ → γ → Prop} {len : Z → Nat} {cf : Z → Int → Int → Int} {x y : AV} {ps : PS A} {a : A} (O : Hold B h (l ++ D2 x ps)) {s : Sl A} (hs : pj ps = s) {m : Nat} {k : Int} (hk : k = (m : Int)) (hm : (ps.getD [])[m]? = some (a, y))
    {q : Z} {oc : Nat} (i : Nat) (hi : l[i]? = some (.ptr oc 1 0 0, .pt 1 [Cod.enc q])) {env : Nat → Contract} {g gc : Nat} (he : env g = .gen (kG9 len gc cf)) (mk : Sl Int → A) (h3 : ∀ w, Inn.sub (mk w) = w) (h4 : ∀ w, Inn.row (mk w) y = Inn.row a y)
    {F : AV → kA4 → Option γ} {G : Sl Int → Option δ} (K : ∀ w ps' h', pj ps' = kC9 s k (mk w) → h.length ≤ h'.length → Hold B h' (l ++ D2 x ps') → Sim (F (.tup []) h') (G w) Q) :
    Sim (kA3 (kAx (env g) [y, .fn gc [.ptr oc 1 0 0]] h) F) (kA0 (sortCO len cf q (Inn.sub a)) G) Q := by
  subst hs hk
  rw [he]
  show Sim (kA3 (kG9 len gc cf [y, .fn gc [.ptr oc 1 0 0]] h) F) _ Q
  cases ps with
  | none => simp at hm
  | some p =>
    have hm' : p[m]? = some (a, y) := hm
    have hlt := kGr hm'
    have hj : (l ++ D2 x (some p))[l.length + 1 + m]? = some (y, obS (Inn.sub a)) := D2.at (A := A) (x := x) hm
    have hil := kGr hi
    have hi' : (l ++ D2 x (some p))[i]? = some (.ptr oc 1 0 0, .pt 1 [Cod.enc q]) := by rw [List.getElem?_append_left hil]; exact hi
    have hoc := O.ptr hi'
    have fin : ∀ (w : Sl Int) (v' : EV), obS w = v' → p.set m (mk w, y) = p.set m (mk w, y) → ((l ++ D2 (A := A) x (some p)).set (l.length + 1 + m) (y, obS w)) = l ++ D2 (A := A) x (some (p.set m (mk w, y))) := fun w _ _ _ => by
      rw [List.set_append_right _ _ (by omega)]
      have e0 : l.length + 1 + m - l.length = m + 1 := by omega
      rw [e0]
      have e1 : (p.set m (mk w, y)).map (fun p => Inn.row p.1 p.2) = p.map fun p => Inn.row p.1 p.2 := by
        rw [List.map_set]
        have e3 : Inn.row (mk w, y).1 (mk w, y).2 = (p.map fun p => Inn.row p.1 p.2)[m]'(by simpa using hlt) := by
          have := (List.getElem?_eq_some_iff.1 hm').2
          simp only [List.getElem_map, this, h4]
        rw [e3]
        exact List.set_getElem_self _
      simp only [D2, List.set_cons_succ, e1, List.map_set, h3]
    cases ha : Inn.sub a with
    | none =>
      rw [ha] at hj
      have hy := O.nilE hj
      subst hy
      have e : kG9 len gc cf [kBd, .fn gc [.ptr oc 1 0 0]] h = some (.tup [], h) := by
        show (if gc = gc then some (AV.tup [], h) else none) = _
        rw [if_pos rfl]
      rw [e, kBs]
      show Sim _ (kA0 (some none) G) Q
      rw [kA2]
      refine K none (some (p.set m (mk none, kBd))) h (by simp [pj, kC9, List.map_set]) (Nat.le_refl _) ?_
      rw [← fin none _ rfl rfl]
      have e2 : (l ++ D2 (A := A) x (some p)).set (l.length + 1 + m) (kBd, obS (none : Sl Int)) = l ++ D2 (A := A) x (some p) := by
        obtain ⟨hl2, e⟩ := List.getElem?_eq_some_iff.1 hj
        rw [← e]
        exact List.set_getElem_self hl2
      rw [e2]
      exact O
    | some zs =>
      rw [ha] at hj
      show Sim _ (kA0 (bif decide (zs.length ≤ 4294967296) && zs.all fun z => decide (0 ≤ z) && decide (z < (len q : Int)) then some (some (kH7 (cf q) zs)) else none) G) Q
      cases hc : decide (zs.length ≤ 4294967296) && zs.all fun z => decide (0 ≤ z) && decide (z < (len q : Int)) with
      | false => exact kD5
      | true =>
        rw [cond_true, kA2]
        rw [Bool.and_eq_true, decide_eq_true_eq, List.all_eq_true] at hc
        obtain ⟨c1, c2⟩ := hc
        obtain ⟨o, rfl, h5⟩ := O.sl (k := Row.w Int) (rows := zs.map Row.cells) hj
        have hne : oc ≠ o := ids_ne O.nd hi' hj (by omega) rfl rfl
        have e2 : intsOf (zs.map Row.cells) = some zs := intsOf_map zs
        have c2' : ∀ z ∈ zs, 0 ≤ z ∧ z < (len q : Int) := fun z hz => by
          have := c2 z hz
          rw [Bool.and_eq_true, decide_eq_true_eq, decide_eq_true_eq] at this
          exact this
        have h2 : kG9 len gc cf [.sl o (zs.map Row.cells).length 0 (zs.map Row.cells).length, .fn gc [.ptr oc 1 0 0]] h = some (.tup [], h.set o ⟨Row.w Int, (kH7 (cf q) zs).map Row.cells⟩) := by
          have hw1 : Row.w Int = 1 := rfl
          have hde : (Cod.dec (Cod.enc q) : Option Z) = some q := Cod.de q
          show (if gc = gc ∧ oc ≠ o then _ else none) = _
          rw [if_pos ⟨rfl, hne⟩]
          simp only [h5, hoc, e2, hde]
          rw [if_pos ⟨trivial, trivial, rfl, by rw [List.length_map]; exact c1, c2'⟩]
          rfl
        rw [h2, kBs]
        have O' := O.update (o := o) (v' := .sl (Row.w Int) ((kH7 (cf q) zs).map Row.cells)) hj rfl rfl
        refine K (some (kH7 (cf q) zs)) (some (p.set m (mk (some (kH7 (cf q) zs)), .sl o (zs.map Row.cells).length 0 (zs.map Row.cells).length))) _ (by simp [pj, kC9, List.map_set]) (by simp) ?_
        rw [← fin _ _ rfl rfl]
        simpa [obS, EV.at, sortC_len] using O'
def digT (k : Nat) (out : ByteArray) : ByteArray := if _h : k = 0 then out else digT (k / 10) (⟨#[(48 + k % 10).toUInt8]⟩ ++ out)
termination_by k
decreasing_by omega
def markT (k : Nat) : ByteArray := bif decide (k = 0) then ⟨#[109, 48]⟩ else ⟨#[109]⟩ ++ digT k ⟨#[]⟩
def mrow : List Bool → Nat → List AV
  | [], _ => []
  | b :: ks, k => (bif b then sv (markT k) else iv (k : Nat)) :: mrow ks (k + 1)
def mrows (ks : List Bool) : Nat → Nat → List (List AV)
  | _, 0 => []
  | k, m + 1 => mrow ks k :: mrows ks (k + ks.length) m
theorem set_same {h : kA4} {o : Nat} {x : AObj} (ho : h[o]? = some x) : h.set o x = h := by
  obtain ⟨hlt, e⟩ := List.getElem?_eq_some_iff.1 ho
  rw [← e]
  exact List.set_getElem_self hlt
theorem kGs {h : kA4} {o n w i : Nat} {P S : List (List AV)} {r : List AV} (ho : h[o]? = some ⟨w, P ++ r :: S⟩) (hi : i = P.length) (hn : P.length + (S.length + 1) = n) : kA5 w (.sl o n 0 n) (iv (i : Nat)) h = some (.ptr o n i 0) := by
  have i1 : idx (iv (i : Int)) n = some i := idx_lt (by omega)
  have hl : (P ++ r :: S).length = n := by simp; omega
  simp only [kA5, ho, hl, i1, and_self, if_true, Nat.zero_add]
theorem kFm {h : kA4} {o n w i j : Nat} {P S : List (List AV)} {r : List AV} {v : AV} (ho : h[o]? = some ⟨w, P ++ r :: S⟩) (hi : i = P.length) (hn : P.length + (S.length + 1) = n) (hv : v.cells = [v]) (hf : v.flat = true) (hj : j < r.length) : kAw 1 (.ptr o n i j) v h = some (h.set o ⟨w, P ++ r.set j v :: S⟩) := by
  have hl : (P ++ r :: S).length = n := by simp; omega
  have hg : (P ++ r :: S)[i]? = some r := by simp [hi]
  simp only [kAw, ho, hl, if_true, hg]
  rw [if_pos ⟨by rw [hv]; rfl, by omega, by rw [hv]; simp [hf]⟩]
  congr 3
  rw [hi, hv]
  have hs : kBe r j [v] = r.set j v := by
    unfold kBe
    simp only [List.length_cons, List.length_nil, Nat.zero_add]
    exact (List.set_eq_take_append_cons_drop (l := r) (i := j) (a := v)).symm ▸ (by simp [hj])
  rw [hs]
  simp
theorem lp_q23 (env : Nat → Contract) {y2 y3 y4 y18 : AV} (o n : Nat) : ∀ (S P : List (List AV)) (k i : Nat) (h : kA4), i = P.length → P.length + S.length = n → n ≤ 4294967296 → (∀ r ∈ S, r.length = 1) → k + 1 * S.length ≤ 1000000000 → h[o]? = some ⟨1, P ++ S⟩ →
    (kA0 (kBm hm0_q23 xm0_q23 (lb0_q23 env) [.sl o n 0 n, iv (k : Nat), y2, y3, y4, iv (i : Nat), .top, .top, .top, .top, .top, .top, .top, .top, .top, .top, .top, .top, y18] h) fun r => lk0_q23 env r.1 r.2.1 r.2.2) = some (iv ((k + 1 * S.length : Nat) : Int), h.set o ⟨1, P ++ mrows [false] k S.length⟩) := by
  intro S
  induction S with
  | nil =>
    intro P k i h hi hl hn hr hk ho
    have : ¬ i < n := by simp at hl; omega
    have hs := set_same ho
    simp at hs
    rw [kBm.eq_1]
    simp [e_lb0_q23, restr, e_lk0x0_q23, this, mrows, hs]
  | cons r S ih =>
    intro P k i h hi hl hn hr hk ho
    have hl' : P.length + (S.length + 1) = n := by simpa using hl
    simp only [List.length_cons] at hk
    have hlt : i < n := by omega
    have hrl := hr r (by simp)
    obtain ⟨c0, rfl⟩ : ∃ c0, r = [c0] := by
      match r, hrl with
      | [c0], _ => exact ⟨c0, rfl⟩
    have olt := (List.getElem?_eq_some_iff.1 ho).1
    have a0 := kGs (w := 1) (r := [c0]) ho hi hl'
    have s0 := kFm (j := 0) (v := iv (k : Int)) ho hi hl' rfl rfl (by simp)
    simp only [List.set_cons_zero, List.set_cons_succ, List.set_set] at s0
    have g0 : (h.set o ⟨1, P ++ [(iv (k : Int))] :: S⟩)[o]? = some ⟨1, P ++ [(iv (k : Int))] :: S⟩ := by simp [olt]
    have w0 : wr ((k : Int) + 1) = ((k + 1 : Nat) : Int) := by rw [kBj (by omega) (by omega)]; omega
    have wi : wr ((i : Int) + 1) = ((i + 1 : Nat) : Int) := by rw [kBj (by omega) (by omega)]; omega
    have r := ih (P ++ [[(iv (k : Int))]]) (k + 1) (i + 1) (h.set o ⟨1, P ++ [(iv (k : Int))] :: S⟩) (by simp [hi]) (by simp; omega) hn (fun r hr' => hr r (by simp [hr'])) (by omega) (by simp [olt])
    have hlz : ((i : Int) < (n : Nat)) := by omega
    rw [kBm.eq_1]
    simp only [e_lb0_q23, aLenK_sl, kA2, kAa, condB_bv, hlz, decide_true, cond_true, kHc, Nat.zero_add, a0, s0, w0, wi, kAi, restr, cond_false]
    rw [r]
    simp only [mrows, mrow, List.length_cons, List.set_set, List.append_assoc, List.singleton_append, cond_true, cond_false, Nat.add_assoc]
    congr 3
    · omega
theorem kHt (env : Nat → Contract) (R : List (List AV)) (o n : Nat) (hn : R.length = n) (hl : n ≤ 4294967296) (hr : ∀ r ∈ R, r.length = 1) (k : Nat) (hk : k + 1 * n ≤ 1000000000) (h : kA4) (ho : h[o]? = some ⟨1, R⟩) :
    kAo Try.prog env n_q23 [.sl o n 0 n, iv (k : Nat)] h = some (iv ((k + 1 * n : Nat) : Int), h.set o ⟨1, mrows [false] k n⟩) := by
  have L := fun {y2 y3 y4 y18} => @lp_q23 env y2 y3 y4 y18 o n R [] k 0 h rfl (by simpa using hn) hl hr (by rw [hn]; exact hk) (by simpa using ho)
  rw [hn] at L
  simp [-Int.natCast_add] at L
  simp [-Int.natCast_add, e_q23, L]
theorem lp_q22 (env : Nat → Contract) {y2 y3 y4 y40 : AV} (o n : Nat) : ∀ (S P : List (List AV)) (k i : Nat) (h : kA4), i = P.length → P.length + S.length = n → n ≤ 4294967296 → (∀ r ∈ S, r.length = 4) → k + 4 * S.length ≤ 1000000000 → h[o]? = some ⟨4, P ++ S⟩ →
    (kA0 (kBm hm0_q22 xm0_q22 (lb0_q22 env) [.sl o n 0 n, iv (k : Nat), y2, y3, y4, iv (i : Nat), .top, .top, .top, .top, .top, .top, .top, .top, .top, .top, .top, .top, .top, .top, .top, .top, .top, .top, .top, .top, .top, .top, .top, .top, .top, .top, .top, .top, .top, .top, .top, .top, .top, .top, y40] h) fun r => lk0_q22 env r.1 r.2.1 r.2.2) = some (iv ((k + 4 * S.length : Nat) : Int), h.set o ⟨4, P ++ mrows [false, false, false, false] k S.length⟩) := by
  intro S
  induction S with
  | nil =>
    intro P k i h hi hl hn hr hk ho
    have : ¬ i < n := by simp at hl; omega
    have hs := set_same ho
    simp at hs
    rw [kBm.eq_1]
    simp [e_lb0_q22, restr, e_lk0x0_q22, this, mrows, hs]
  | cons r S ih =>
    intro P k i h hi hl hn hr hk ho
    have hl' : P.length + (S.length + 1) = n := by simpa using hl
    simp only [List.length_cons] at hk
    have hlt : i < n := by omega
    have hrl := hr r (by simp)
    obtain ⟨c0, c1, c2, c3, rfl⟩ : ∃ c0 c1 c2 c3, r = [c0, c1, c2, c3] := by
      match r, hrl with
      | [c0, c1, c2, c3], _ => exact ⟨c0, c1, c2, c3, rfl⟩
    have olt := (List.getElem?_eq_some_iff.1 ho).1
    have a0 := kGs (w := 4) (r := [c0, c1, c2, c3]) ho hi hl'
    have s0 := kFm (j := 0) (v := iv (k : Int)) ho hi hl' rfl rfl (by simp)
    simp only [List.set_cons_zero, List.set_cons_succ, List.set_set] at s0
    have g0 : (h.set o ⟨4, P ++ [(iv (k : Int)), c1, c2, c3] :: S⟩)[o]? = some ⟨4, P ++ [(iv (k : Int)), c1, c2, c3] :: S⟩ := by simp [olt]
    have w0 : wr ((k : Int) + 1) = ((k + 1 : Nat) : Int) := by rw [kBj (by omega) (by omega)]; omega
    have a1 := kGs (w := 4) (r := [(iv (k : Int)), c1, c2, c3]) g0 hi hl'
    have s1 := kFm (j := 1) (v := iv ((k + 1 : Nat) : Int)) g0 hi hl' rfl rfl (by simp)
    simp only [List.set_cons_zero, List.set_cons_succ, List.set_set] at s1
    have g1 : (h.set o ⟨4, P ++ [(iv (k : Int)), (iv ((k + 1 : Nat) : Int)), c2, c3] :: S⟩)[o]? = some ⟨4, P ++ [(iv (k : Int)), (iv ((k + 1 : Nat) : Int)), c2, c3] :: S⟩ := by simp [olt]
    have w1 : wr (((k + 1 : Nat) : Int) + 1) = ((k + 2 : Nat) : Int) := by rw [kBj (by omega) (by omega)]; omega
    have a2 := kGs (w := 4) (r := [(iv (k : Int)), (iv ((k + 1 : Nat) : Int)), c2, c3]) g1 hi hl'
    have s2 := kFm (j := 2) (v := iv ((k + 2 : Nat) : Int)) g1 hi hl' rfl rfl (by simp)
    simp only [List.set_cons_zero, List.set_cons_succ, List.set_set] at s2
    have g2 : (h.set o ⟨4, P ++ [(iv (k : Int)), (iv ((k + 1 : Nat) : Int)), (iv ((k + 2 : Nat) : Int)), c3] :: S⟩)[o]? = some ⟨4, P ++ [(iv (k : Int)), (iv ((k + 1 : Nat) : Int)), (iv ((k + 2 : Nat) : Int)), c3] :: S⟩ := by simp [olt]
    have w2 : wr (((k + 2 : Nat) : Int) + 1) = ((k + 3 : Nat) : Int) := by rw [kBj (by omega) (by omega)]; omega
    have a3 := kGs (w := 4) (r := [(iv (k : Int)), (iv ((k + 1 : Nat) : Int)), (iv ((k + 2 : Nat) : Int)), c3]) g2 hi hl'
    have s3 := kFm (j := 3) (v := iv ((k + 3 : Nat) : Int)) g2 hi hl' rfl rfl (by simp)
    simp only [List.set_cons_zero, List.set_cons_succ, List.set_set] at s3
    have g3 : (h.set o ⟨4, P ++ [(iv (k : Int)), (iv ((k + 1 : Nat) : Int)), (iv ((k + 2 : Nat) : Int)), (iv ((k + 3 : Nat) : Int))] :: S⟩)[o]? = some ⟨4, P ++ [(iv (k : Int)), (iv ((k + 1 : Nat) : Int)), (iv ((k + 2 : Nat) : Int)), (iv ((k + 3 : Nat) : Int))] :: S⟩ := by simp [olt]
    have w3 : wr (((k + 3 : Nat) : Int) + 1) = ((k + 4 : Nat) : Int) := by rw [kBj (by omega) (by omega)]; omega
    have wi : wr ((i : Int) + 1) = ((i + 1 : Nat) : Int) := by rw [kBj (by omega) (by omega)]; omega
    have r := ih (P ++ [[(iv (k : Int)), (iv ((k + 1 : Nat) : Int)), (iv ((k + 2 : Nat) : Int)), (iv ((k + 3 : Nat) : Int))]]) (k + 4) (i + 1) (h.set o ⟨4, P ++ [(iv (k : Int)), (iv ((k + 1 : Nat) : Int)), (iv ((k + 2 : Nat) : Int)), (iv ((k + 3 : Nat) : Int))] :: S⟩) (by simp [hi]) (by simp; omega) hn (fun r hr' => hr r (by simp [hr'])) (by omega) (by simp [olt])
    have hlz : ((i : Int) < (n : Nat)) := by omega
    rw [kBm.eq_1]
    simp only [e_lb0_q22, aLenK_sl, kA2, kAa, condB_bv, hlz, decide_true, cond_true, kHc, Nat.zero_add, a0, s0, w0, a1, s1, w1, a2, s2, w2, a3, s3, w3, wi, kAi, restr, cond_false]
    rw [r]
    simp only [mrows, mrow, List.length_cons, List.set_set, List.append_assoc, List.singleton_append, cond_true, cond_false, Nat.add_assoc]
    congr 3
    · omega
theorem gen_laws_markBoxS (env : Nat → Contract) (R : List (List AV)) (o n : Nat) (hn : R.length = n) (hl : n ≤ 4294967296) (hr : ∀ r ∈ R, r.length = 4) (k : Nat) (hk : k + 4 * n ≤ 1000000000) (h : kA4) (ho : h[o]? = some ⟨4, R⟩) :
    kAo Try.prog env n_q22 [.sl o n 0 n, iv (k : Nat)] h = some (iv ((k + 4 * n : Nat) : Int), h.set o ⟨4, mrows [false, false, false, false] k n⟩) := by
  have L := fun {y2 y3 y4 y40} => @lp_q22 env y2 y3 y4 y40 o n R [] k 0 h rfl (by simpa using hn) hl hr (by rw [hn]; exact hk) (by simpa using ho)
  rw [hn] at L
  simp [-Int.natCast_add] at L
  simp [-Int.natCast_add, e_q22, L]
def cmpI (a b : Int) : Int := bif decide (a < b) then -1 else bif decide (b < a) then 1 else 0
theorem ok_q2 : kAs Try.prog n_q2 (T1 fun _ : Int => false) := pureT1 E0 mixed hb_q2 fun a => by
  simp [e_q2]
theorem ok_q0 : kAs Try.prog n_q0 (T2 cmpI) := pureT2 (E1 ok_q2) mixed hb_q0 fun a b => by
  by_cases w1 : a < b <;> by_cases w2 : b < a <;> simp [e_q0, kCa, cmpI, w1, w2]
theorem ok_q9 : kAs Try.prog n_q9 (R1 fun q : Sl Box => some (.fn kFi [.np 1 [[Sl.enc q]] 0 0])) := pureR1 E0 mixed hb_q9 fun q r h => by
  cases h
  apply pureG
  rw [e_q9]
  cases q <;> rfl
theorem hand_ltr (q : Sl Box) (ok : Bool) (h : kA4) (hok : ok = true) : kEe (.fn kFi [.np 1 [[Sl.enc q]] 0 0]) ok h = some (.fn kFi [.ptr h.length 1 0 0], h ++ [⟨1, [[Sl.enc q]]⟩]) := by
  subst hok
  unfold kEe
  rw [Bool.or_true, if_pos rfl]
  cases q <;> rfl
def mkI : Int → Nat → List Int
  | _, 0 => []
  | k, n + 1 => k :: mkI (k + 1) n
def mkB : Int → Nat → List Box
  | _, 0 => []
  | k, n + 1 => ⟨k, k + 1, k + 2, k + 3⟩ :: mkB (k + 4) n
theorem mkI_len : ∀ (n : Nat) (k : Int), (mkI k n).length = n
  | 0, _ => rfl
  | n + 1, k => by simp [mkI, mkI_len n]
theorem mkB_len : ∀ (n : Nat) (k : Int), (mkB k n).length = n
  | 0, _ => rfl
  | n + 1, k => by simp [mkB, mkB_len n]
def t_q23 (s : Sl Int) (k : Int) : Option (Int × Sl Int) := bif decide (0 ≤ k) && decide (k + 1 * ((s.getD []).length : Nat) ≤ 1000000000) then some (k + 1 * ((s.getD []).length : Nat), s.map fun l => mkI k l.length) else none
def t_q22 (s : Sl Box) (k : Int) : Option (Int × Sl Box) := bif decide (0 ≤ k) && decide (k + 4 * ((s.getD []).length : Nat) ≤ 1000000000) then some (k + 4 * ((s.getD []).length : Nat), s.map fun l => mkB k l.length) else none
theorem mrows_I : ∀ (n k : Nat), mrows [false] k n = (mkI (k : Int) n).map Row.cells
  | 0, _ => rfl
  | n + 1, k => by
    have ih := mrows_I n (k + 1)
    show [iv (k : Int)] :: mrows [false] (k + 1) n = [iv (k : Int)] :: (mkI ((k : Int) + 1) n).map Row.cells
    rw [ih]
    rfl
theorem kI9 : MarkOK (kAo Try.prog (kCa []) n_q23) t_q23 := by
  intro s k r s' h
  unfold t_q23 at h
  cases c : decide (0 ≤ k) && decide (k + 1 * ((s.getD []).length : Nat) ≤ 1000000000) with
  | false => rw [c] at h; cases h
  | true =>
    rw [c] at h
    simp only [cond_true, Option.some.injEq, Prod.mk.injEq] at h
    obtain ⟨rfl, rfl⟩ := h
    simp only [Bool.and_eq_true, decide_eq_true_eq] at c
    obtain ⟨m, rfl⟩ := Int.eq_ofNat_of_zero_le c.1
    cases s with
    | none =>
      refine .inl ⟨rfl, rfl, fun h => ?_⟩
      rw [e_q23, kBm.eq_1]
      simp [e_lb0_q23, e_lk0x0_q23, restr]
    | some l =>
      refine .inr ⟨l, mkI m l.length, rfl, rfl, mkI_len _ _, fun o h ho => ?_⟩
      have g := kHt (kCa []) (l.map Row.cells) o l.length (by simp) (by simp only [Option.getD_some] at c; omega) (fun r hr => by
        obtain ⟨a, _, rfl⟩ := List.mem_map.1 hr
        rfl) m (by simp only [Option.getD_some] at c; omega) h ho
      rw [mrows_I] at g
      rw [g]
      simp only [Option.getD_some]
      congr 3
theorem mrows_B : ∀ (n k : Nat), mrows [false, false, false, false] k n = (mkB (k : Int) n).map Row.cells
  | 0, _ => rfl
  | n + 1, k => by
    have ih := mrows_B n (k + 4)
    show [iv (k : Int), iv ((k + 1 : Nat) : Int), iv ((k + 1 + 1 : Nat) : Int), iv ((k + 1 + 1 + 1 : Nat) : Int)] :: mrows [false, false, false, false] (k + 4) n = [iv (k : Int), iv ((k : Int) + 1), iv ((k : Int) + 2), iv ((k : Int) + 3)] :: (mkB ((k : Int) + 4) n).map Row.cells
    rw [ih]
    rfl
theorem mk_laws_markBoxS : MarkOK (kAo Try.prog (kCa []) n_q22) t_q22 := by
  intro s k r s' h
  unfold t_q22 at h
  cases c : decide (0 ≤ k) && decide (k + 4 * ((s.getD []).length : Nat) ≤ 1000000000) with
  | false => rw [c] at h; cases h
  | true =>
    rw [c] at h
    simp only [cond_true, Option.some.injEq, Prod.mk.injEq] at h
    obtain ⟨rfl, rfl⟩ := h
    simp only [Bool.and_eq_true, decide_eq_true_eq] at c
    obtain ⟨m, rfl⟩ := Int.eq_ofNat_of_zero_le c.1
    cases s with
    | none =>
      refine .inl ⟨rfl, rfl, fun h => ?_⟩
      rw [e_q22, kBm.eq_1]
      simp [e_lb0_q22, e_lk0x0_q22, restr]
    | some l =>
      refine .inr ⟨l, mkB m l.length, rfl, rfl, mkB_len _ _, fun o h ho => ?_⟩
      have g := gen_laws_markBoxS (kCa []) (l.map Row.cells) o l.length (by simp) (by simp only [Option.getD_some] at c; omega) (fun r hr => by
        obtain ⟨a, _, rfl⟩ := List.mem_map.1 hr
        rfl) m (by simp only [Option.getD_some] at c; omega) h ho
      rw [mrows_B] at g
      rw [g]
      simp only [Option.getD_some]
      congr 3
def mkL : List (Sl Int) → Int → Option (Int × List (Sl Int))
  | [], k => some (k, [])
  | a :: l, k => kA0 (t_q23 a k) fun p => kA0 (mkL l p.1) fun q => some (q.1, p.2 :: q.2)
def t_q24 (s : Sl (Sl Int)) (k : Int) : Option (Int × Sl (Sl Int)) := bif decide ((s.getD []).length ≤ 4294967296) then match s with
  | none => some (k, none)
  | some l => kA0 (mkL l k) fun q => some (q.1, some q.2) else none
noncomputable def ev_q24 : Nat → Contract := kCa [(n_q23, .gen (kAo Try.prog (kCa []) n_q23))]
theorem kHz : kBr Try.prog ev_q24 := kGg (kD3 E0 mixed hb_q23) E0
theorem lp_q24 {B : Base} {l : List Ent} {x y2 y3 y4 y18 : AV} : ∀ (n i : Nat) (q : List (Sl Int × AV)) (k r : Int) (t : List (Sl Int)) (h : kA4), i + n = q.length → q.length ≤ 4294967296 → Hold B h (l ++ D2 x (some q)) → mkL ((q.drop i).map Prod.fst) k = some (r, t) →
    ∃ h' q', (kA0 (kBm hm0_q24 xm0_q24 (lb0_q24 ev_q24) [x, iv k, y2, y3, y4, iv (i : Nat), .top, .top, .top, .top, .top, .top, .top, .top, .top, .top, .top, .top, y18] h) fun r => lk0_q24 ev_q24 r.1 r.2.1 r.2.2) = some (iv r, h') ∧ q'.map Prod.fst = (q.take i).map Prod.fst ++ t ∧ Hold B h' (l ++ D2 x (some q')) := by
  intro n
  induction n with
  | zero =>
    intro i q k r t h hi hq O hm
    have e : q.drop i = [] := List.drop_eq_nil_of_le (by omega)
    rw [e] at hm
    cases hm
    have hl : kBf .slice x = some (iv (q.length : Nat)) := by simpa [pj] using D2.len O
    have : ¬ i < q.length := by omega
    refine ⟨h, q, ?_, ?_, O⟩
    · rw [kBm.eq_1]
      simp [e_lb0_q24, restr, e_lk0x0_q24, hl, this]
    · rw [List.take_of_length_le (by omega), List.append_nil]
  | succ n ih =>
    intro i q k r t h hi hq O hm
    have hlt : i < q.length := by omega
    obtain ⟨⟨a, y⟩, hy⟩ : ∃ p, q[i]? = some p := ⟨q[i], List.getElem?_eq_getElem hlt⟩
    have hd : q.drop i = (a, y) :: q.drop (i + 1) := by
      rw [List.drop_eq_getElem_cons hlt]
      rw [List.getElem?_eq_getElem hlt] at hy
      rw [Option.some.inj hy]
    rw [hd] at hm
    change kA0 (t_q23 a k) (fun p => kA0 (mkL ((q.drop (i + 1)).map Prod.fst) p.1) fun q => some (q.1, p.2 :: q.2)) = some (r, t) at hm
    cases e1 : t_q23 a k with
    | none => rw [e1] at hm; cases hm
    | some p =>
      obtain ⟨k1, a'⟩ := p
      rw [e1, kA2] at hm
      cases e2 : mkL ((q.drop (i + 1)).map Prod.fst) k1 with
      | none => rw [e2] at hm; cases hm
      | some p2 =>
        obtain ⟨r2, t2⟩ := p2
        rw [e2] at hm
        cases hm
        have hl : kBf .slice x = some (iv (q.length : Nat)) := by simpa [pj] using D2.len O
        have hy' : ((some q : PS (Sl Int)).getD [])[i]? = some (a, y) := hy
        have hat := D2.at (A := Sl Int) (l := l) (x := x) hy'
        obtain ⟨o, hx, ho⟩ := D2.head O
        have e3 : kA5 1 x (iv ((i : Nat) : Int)) h = some (elp x i 0) := by
          subst hx
          simp only [kA5, ho, List.length_map]
          rw [if_pos ⟨trivial, rfl⟩, idx_lt hlt]
          rfl
        have e4 : kAc false 1 (elp x i 0) h = some y := by
          rw [D2.ld O hy' false 1 0]
          simp [Inn.row, cut]
        obtain ⟨h1, e5, O1⟩ := O.mark _ hat kI9 e1
        have hset : (l ++ D2 x (some q)).set (l.length + 1 + i) (y, obS a') = l ++ D2 (A := Sl Int) x (some (q.set i (a', y))) := by
          rw [List.set_append_right _ _ (by omega)]
          have : l.length + 1 + i - l.length = i + 1 := by omega
          rw [this]
          have hr : (q.set i (a', y)).map (fun p => Inn.row (A := Sl Int) p.1 p.2) = q.map fun p => Inn.row (A := Sl Int) p.1 p.2 := by
            rw [List.map_set]
            apply List.ext_getElem?
            intro j
            by_cases ej : i = j
            · subst ej
              rw [List.getElem?_set_self (by simpa using hlt), List.getElem?_map, hy]
              rfl
            · rw [List.getElem?_set_ne ej]
          simp only [D2, List.set_cons_succ, hr, List.map_set]
          rfl
        have O2 : Hold B h1 (l ++ D2 (A := Sl Int) x (some (q.set i (a', y)))) := by
          rw [← hset]
          exact O1
        have ec : kAx (ev_q24 n_q23) [y, iv k] h = some (iv k1, h1) := by
          have : ev_q24 n_q23 = .gen (kAo Try.prog (kCa []) n_q23) := by simp [ev_q24, kCa]
          rw [this]
          exact e5
        have hdrop : (q.set i (a', y)).drop (i + 1) = q.drop (i + 1) := by
          rw [List.drop_set_of_lt (by omega)]
        obtain ⟨h2, q2, f1, f2, f3⟩ := ih (i + 1) (q.set i (a', y)) k1 r2 t2 h1 (by simp; omega) (by simpa using hq) O2 (by rw [hdrop]; exact e2)
        refine ⟨h2, q2, ?_, ?_, f3⟩
        · rw [kBm.eq_1]
          have hw : wr ((i : Int) + 1) = ((i + 1 : Nat) : Int) := by rw [kBj (by omega) (by omega)]; omega
          simp [-Int.natCast_add, e_lb0_q24, restr, hl, hlt, e3, e4, ec, hw]
          simpa [-Int.natCast_add] using f1
        · rw [f2, List.take_add_one, List.map_append]
          have : (q.set i (a', y))[i]? = some (a', y) := List.getElem?_set_self (by simpa using hlt)
          rw [this, List.take_set_of_le (Nat.le_refl _)]
          simp
theorem kI2 : MarkDOK (kAo Try.prog ev_q24 n_q24) t_q24 := by
  intro B h l x ps k r s' O hm
  unfold t_q24 at hm
  cases c : decide (((pj ps).getD []).length ≤ 4294967296) with
  | false => rw [c] at hm; cases hm
  | true =>
    rw [c, cond_true] at hm
    have hc := of_decide_eq_true c
    cases ps with
    | none =>
      cases hm
      have hx := D2.nil O
      subst hx
      refine ⟨h, none, ?_, rfl, O⟩
      rw [e_q24, kBm.eq_1]
      simp [e_lb0_q24, e_lk0x0_q24, restr]
    | some q =>
      change kA0 (mkL (q.map Prod.fst) k) (fun q => some (q.1, some q.2)) = some (r, s') at hm
      cases e2 : mkL (q.map Prod.fst) k with
      | none => rw [e2] at hm; cases hm
      | some p2 =>
        obtain ⟨r2, t2⟩ := p2
        rw [e2] at hm
        cases hm
        obtain ⟨h1, q1, f1, f2, f3⟩ := lp_q24 (y2 := und) (y3 := und) (y4 := iv 0) (y18 := und) q.length 0 q k r2 t2 h (by omega) (by simpa [pj] using hc) O e2
        refine ⟨h1, some q1, ?_, by simpa [pj] using f2, f3⟩
        rw [e_q24]
        exact f1
abbrev P3 := Option (List (AV × PS (Sl Int)))
def j3 (p : AV × PS (Sl Int)) : FRows := ⟨pj p.2⟩
def pj3 (qs : P3) : Sl FRows := qs.map (List.map j3)
def D3 (x : AV) (qs : P3) : List Ent := match qs with
  | none => [(x, .nil)]
  | some q => (x, .sl 1 (q.map fun p => [p.1])) :: q.flatMap fun p => D2 p.1 p.2
def rT (s : Sl FRows) : AV := match s with
  | none => kBd
  | some l => .nw 1 (l.map fun a => [rD a.values])
theorem D3.head {B : Base} {h : kA4} {l : List Ent} {x : AV} {q : List (AV × PS (Sl Int))} (O : Hold B h (l ++ D3 x (some q))) : ∃ o, x = .sl o q.length 0 q.length ∧ h[o]? = some ⟨1, q.map fun p => [p.1]⟩ := by
  obtain ⟨o, h1, h2⟩ := O.sl (i := l.length) (k := 1) (rows := q.map fun p => [p.1]) (x := x) (by simp [D3])
  exact ⟨o, by simpa using h1, h2⟩
theorem D3.nil {B : Base} {h : kA4} {l : List Ent} {x : AV} (O : Hold B h (l ++ D3 x none)) : x = kBd := O.nilE (i := l.length) (x := x) (by simp [D3])
theorem D3.one {B : Base} {h : kA4} {l : List Ent} {x : AV} {qs : P3} (O : Hold B h (l ++ D3 x qs)) : x.cells = [x] ∧ x.flat = true := by
  cases qs with
  | none =>
    have := D3.nil O
    subst this
    exact ⟨rfl, rfl⟩
  | some q =>
    obtain ⟨o, rfl, _⟩ := D3.head O
    exact ⟨rfl, rfl⟩
theorem D3.len {B : Base} {h : kA4} {l : List Ent} {x : AV} {qs : P3} (O : Hold B h (l ++ D3 x qs)) : kBf .slice x = some (iv (((pj3 qs).getD []).length : Nat)) := by
  cases qs with
  | none =>
    have := D3.nil O
    subst this
    rfl
  | some q =>
    obtain ⟨o, rfl, _⟩ := D3.head O
    simp [pj3]
theorem D3.mem {B : Base} {h : kA4} {l : List Ent} {x : AV} {q : List (AV × PS (Sl Int))} (O : Hold B h (l ++ D3 x (some q))) {p : AV × PS (Sl Int)} (hp : p ∈ q) : ∃ l', Hold B h (l' ++ D2 p.1 p.2) := by
  obtain ⟨q1, q2, rfl⟩ := List.append_of_mem hp
  refine ⟨l ++ (x, .sl 1 ((q1 ++ p :: q2).map fun p => [p.1])) :: (q1.flatMap (fun p => D2 p.1 p.2) ++ q2.flatMap fun p => D2 p.1 p.2), O.perm ?_⟩
  simp only [D3, List.flatMap_append, List.flatMap_cons]
  rw [List.append_assoc, List.cons_append]
  refine (List.Perm.cons _ ?_).append_left l
  rw [List.append_assoc]
  exact (List.perm_append_comm).append_left _
theorem D2.snapK {A C : Type} [Row A] [Row C] [Inn A C] [Eng.NR C] {B : Base} {h : kA4} {l : List Ent} {x : AV} {ps : PS A} (O : Hold B h (l ++ D2 x ps)) (d : Nat) : Eng.snap h (d + 2) x = some (Sl.enc (pj ps)) := by
  cases ps with
  | none =>
    have := D2.nil O
    subst this
    rfl
  | some q =>
    obtain ⟨o, rfl, ho⟩ := D2.head O
    show (match h[o]? with | some ob => if ob.rows.length = q.length ∧ 0 + q.length ≤ q.length then (match kBb (kBb (Eng.snap h (d + 1))) ((ob.rows.drop 0).take q.length) with | some rows => some (AV.fs ob.k rows) | none => none) else none | none => none) = _
    rw [ho]
    simp only [List.length_map]
    rw [if_pos ⟨trivial, by omega⟩, List.drop_zero, List.take_of_length_le (by simp), snap_rowsN q (d + 1) fun p hp => by
      obtain ⟨i, hi⟩ := D2.mem (l := l) (x := .sl o q.length 0 q.length) hp
      exact O.snap7 i hi d]
    rfl
theorem D3.snapK {B : Base} {h : kA4} {l : List Ent} {x : AV} {qs : P3} (O : Hold B h (l ++ D3 x qs)) (d : Nat) : Eng.snap h (d + 3) x = some (Sl.enc (pj3 qs)) := by
  cases qs with
  | none =>
    have := D3.nil O
    subst this
    rfl
  | some q =>
    obtain ⟨o, rfl, ho⟩ := D3.head O
    have hr : ∀ q' : List (AV × PS (Sl Int)), (∀ p ∈ q', p ∈ q) → kBb (kBb (Eng.snap h (d + 2))) (q'.map fun p => [p.1]) = some ((q'.map j3).map Row.cells) := by
      intro q' hq'
      induction q' with
      | nil => rfl
      | cons p q' ih =>
        obtain ⟨l', O'⟩ := D3.mem O (hq' p (by simp))
        simp only [List.map_cons, kBb, D2.snapK O' d, ih fun p' hp' => hq' p' (by simp [hp'])]
        rfl
    show (match h[o]? with | some ob => if ob.rows.length = q.length ∧ 0 + q.length ≤ q.length then (match kBb (kBb (Eng.snap h (d + 2))) ((ob.rows.drop 0).take q.length) with | some rows => some (AV.fs ob.k rows) | none => none) else none | none => none) = _
    rw [ho]
    simp only [List.length_map]
    rw [if_pos ⟨trivial, by omega⟩, List.drop_zero, List.take_of_length_le (by simp), hr q fun _ h => h]
    rfl
theorem D3.snapD {B : Base} {h : kA4} {l : List Ent} {x : AV} {qs : P3} (O : Hold B h (l ++ D3 x qs)) {s : Sl FRows} (hs : pj3 qs = s) : Eng.snap h 7 x = some (Sl.enc s) ∧ Eng.snapD h x = some s := by
  subst hs
  refine ⟨D3.snapK O 4, ?_⟩
  unfold Eng.snapD
  rw [show depth = 5 + 3 from rfl, D3.snapK O 5]
  exact Cod.de (pj3 qs : Sl FRows)
theorem D3.relN {B : Base} {h : kA4} {l : List Ent} {x : AV} {qs : P3} (O : Hold B h (l ++ D3 x qs)) {s : Sl FRows} (hs : pj3 qs = s) (d : Nat) : Eng.rel h (d + 3) x = some (rT s) := by
  subst hs
  cases qs with
  | none =>
    have := D3.nil O
    subst this
    rfl
  | some q =>
    obtain ⟨o, rfl, ho⟩ := D3.head O
    have hr : ∀ q' : List (AV × PS (Sl Int)), (∀ p ∈ q', p ∈ q) → kBb (kBb (Eng.rel h (d + 2))) (q'.map fun p => [p.1]) = some ((q'.map j3).map fun a => [rD a.values]) := by
      intro q' hq'
      induction q' with
      | nil => rfl
      | cons p q' ih =>
        obtain ⟨l', O'⟩ := D3.mem O (hq' p (by simp))
        simp only [List.map_cons, kBb, D2.relN O' rfl d, ih fun p' hp' => hq' p' (by simp [hp'])]
        rfl
    show (match h[o]? with | some ob => if ob.rows.length = q.length ∧ 0 = 0 ∧ q.length ≤ q.length then (match kBb (kBb (Eng.rel h (d + 2))) (ob.rows.take q.length) with | some rows => some (AV.nw ob.k rows) | none => none) else none | none => none) = _
    rw [ho]
    simp only [List.length_map]
    rw [if_pos ⟨trivial, trivial, Nat.le_refl _⟩, List.take_of_length_le (by simp), hr q fun _ h => h]
    simp [rT, pj3]
theorem D3.idsN {B : Base} {h : kA4} {l : List Ent} {x : AV} {qs : P3} (O : Hold B h (l ++ D3 x qs)) (d : Nat) : (Eng.ids h (d + 3) x).map (·.1) = (D3 x qs).flatMap fun e => (kE8 e.1).toList := by
  cases qs with
  | none =>
    have := D3.nil O
    subst this
    rfl
  | some q =>
    obtain ⟨o, rfl, ho⟩ := D3.head O
    have hr : ∀ q' : List (AV × PS (Sl Int)), (∀ p ∈ q', p ∈ q) → ((q'.map fun p => [p.1]).flatMap fun r => r.flatMap (Eng.ids h (d + 2))).map (·.1) = (q'.flatMap fun p => D2 p.1 p.2).flatMap fun e => (kE8 e.1).toList := by
      intro q' hq'
      induction q' with
      | nil => rfl
      | cons p q' ih =>
        obtain ⟨l', O'⟩ := D3.mem O (hq' p (by simp))
        simp only [List.map_cons, List.flatMap_cons, List.flatMap_nil, List.append_nil, List.map_append, List.flatMap_append, D2.idsN O' d, ih fun p' hp' => hq' p' (by simp [hp'])]
    have e1 : Eng.ids h (d + 3) (.sl o q.length 0 q.length) = (o, q.length) :: (q.map fun p => [p.1]).flatMap fun r => r.flatMap (Eng.ids h (d + 2)) := by
      show (match h[o]? with | some ob => (o, q.length) :: (ob.rows.take q.length).flatMap (fun (r : List AV) => r.flatMap (Eng.ids h (d + 2))) | none => []) = _
      rw [ho]
      simp only
      rw [List.take_of_length_le (by simp)]
    rw [e1, List.map_cons, hr q fun _ h => h]
    simp [D3, kE8]
def RdT (B : Base) (x : AV) (s : Sl FRows) : Prop := ∀ h L, Hold B h L → Eng.snap h 7 x = some (Sl.enc s) ∧ kBf .slice x = some (iv ((s.getD []).length : Nat)) ∧ x.cells = [x] ∧ x.flat = true
theorem RdT.snap7 {B : Base} {x : AV} {s : Sl FRows} (R : RdT B x s) {h : kA4} {L : List Ent} (O : Hold B h L) : Eng.snap h 7 x = some (Sl.enc s) := (R h L O).1
theorem RdT.len {B : Base} {x : AV} {s : Sl FRows} (R : RdT B x s) {h : kA4} {L : List Ent} (O : Hold B h L) : kBf .slice x = some (iv ((s.getD []).length : Nat)) := (R h L O).2.1
theorem RdT.one {B : Base} {x : AV} {s : Sl FRows} (R : RdT B x s) {h : kA4} {L : List Ent} (O : Hold B h L) : x.cells = [x] ∧ x.flat = true := (R h L O).2.2
theorem sim_setCell {A C γ δ : Type} [Row A] [Row C] [Inn A C] {B : Base} {h : kA4} {l : List Ent} {x y c : AV} {ps : PS A} {a a' : A} (O : Hold B h (l ++ D2 x ps)) {s : Sl A} (hs : pj ps = s) {m j : Nat} {k : Int} (hk : k = (m : Int)) (hm : (ps.getD [])[m]? = some (a, y))
    (hc : c.cells = [c]) (hf : c.flat = true) (h2 : j + 1 ≤ Row.w A) (h3 : Inn.sub a' = Inn.sub a) (h4 : kBe (Inn.row a y) j [c] = Inn.row a' y)
    {F : kA4 → Option γ} {Y : Option δ} {Q : δ → γ → Prop} (K : ∀ ps' h', pj ps' = kC9 s k a' → (ps'.getD [])[m]? = some (a', y) → Hold B h' (l ++ D2 x ps') → Sim (F h') Y Q) : Sim (kA0 (kAw 1 (elp x m j) c h) F) Y Q := by
  subst hs hk
  cases ps with
  | none => simp at hm
  | some q =>
    have hm' : q[m]? = some (a, y) := hm
    have hlt := kGr hm'
    obtain ⟨o, rfl, ho⟩ := D2.head O
    have e : kAw 1 (elp (.sl o q.length 0 q.length) m j) c h = some (h.set o ⟨Row.w A, (q.set m (a', y)).map fun p => Inn.row p.1 p.2⟩) := by
      simp only [elp, kAw, ho, List.length_map, if_true, Nat.zero_add, List.getElem?_map, hm', Option.map_some, hc]
      rw [if_pos ⟨rfl, by rw [Inn.len]; exact h2, by simp [hf]⟩, h4, List.map_set]
    rw [e, kA2]
    have O' := O.update (i := l.length) (o := o) (v' := .sl (Row.w A) ((q.set m (a', y)).map fun p => Inn.row p.1 p.2)) (x := .sl o q.length 0 q.length) (by simp [D2]; rfl) rfl rfl
    refine K (some (q.set m (a', y))) _ (by simp [pj, kC9, List.map_set]) (by simp [hlt]) ?_
    have e1 : (l ++ D2 (A := A) (.sl o q.length 0 q.length) (some q)).set l.length ((EV.sl (Row.w A) ((q.set m (a', y)).map fun p => Inn.row p.1 p.2)).at o, .sl (Row.w A) ((q.set m (a', y)).map fun p => Inn.row p.1 p.2)) = l ++ D2 (A := A) (.sl o q.length 0 q.length) (some (q.set m (a', y))) := by
      rw [List.set_append_right _ _ (Nat.le_refl _), Nat.sub_self]
      have e2 : (q.set m (a', y)).map (fun p => ((p.2, obS (Inn.sub p.1)) : Ent)) = q.map fun p => (p.2, obS (Inn.sub p.1)) := by
        rw [List.map_set]
        have e3 : (((a', y).2, obS (Inn.sub (a', y).1)) : Ent) = (q.map fun p => ((p.2, obS (Inn.sub p.1)) : Ent))[m]'(by simpa using hlt) := by
          have := (List.getElem?_eq_some_iff.1 hm').2
          simp only [List.getElem_map, this, h3]
        rw [e3]
        exact List.set_getElem_self _
      simp only [D2, List.set_cons_zero, e2, EV.at, List.length_map, List.length_set]
    rw [← e1]
    exact O'
theorem sim_appF {A C γ δ : Type} [Row A] [Row C] [Inn A C] {B : Base} {h : kA4} {l : List Ent} {Q : δ → γ → Prop} {x y src : AV} {ps : PS A} {a : A} (O : Hold B h (l ++ D2 x ps)) {s : Sl A} (hs : pj ps = s) {m j : Nat} {k : Int} (hk : k = (m : Int)) (hm : (ps.getD [])[m]? = some (a, y)) (new : List C) {bytes : Nat} (hsrc : aSrc false (Row.w C) src h = some (new.map Row.cells)) (hb : bytes ≤ 1024) (a' : A)
    (h2 : j + 1 ≤ Row.w A) (h3 : Inn.sub a' = kBn (Inn.sub a) new) (h4 : ∀ y', kBe (Inn.row a y) j [y'] = Inn.row a' y')
    {F : AV → AV → AV → kA4 → Option γ} {G : Sl C → Option δ} (K : ∀ v q p ps' h', pj ps' = kC9 s k a' → Hold B h' (l ++ D2 x ps') → Sim (F v q p h') (G (kBn (Inn.sub a) new)) Q) :
    Sim (kA3 (kB1 false (Row.w C) bytes y src h) fun v h' => kA0 (kBy (elp x m 0)) fun q => kA0 (kA7 j q) fun p => kA0 (kAw 1 p v h') (F v q p)) (kA0 (kF5 (Inn.sub a) new) G) Q := by
  subst hs hk
  unfold kF5
  split
  · rename_i hl
    cases ps with
    | none => simp at hm
    | some q =>
      have hm' : q[m]? = some (a, y) := hm
      have hlt := kGr hm'
      have hi : (l ++ D2 x (some q))[l.length + 1 + m]? = some (y, obS (Inn.sub a)) := D2.at (A := A) (x := x) hm
      obtain ⟨y', h', e, O'⟩ := O.append (A := C) _ hi hsrc hb hl
      rw [e, kBs, kA2]
      have h0 : ((l ++ D2 x (some q)).set (l.length + 1 + m) (y', obS (kBn (Inn.sub a) new)))[l.length]? = some (x, .sl (Row.w A) (q.map fun p => Inn.row p.1 p.2)) := by
        rw [List.getElem?_set_ne (by omega), List.getElem?_append_right (Nat.le_refl _)]
        simp only [Nat.sub_self, D2, List.getElem?_cons_zero]
      obtain ⟨o, hx, ho⟩ := O'.sl h0
      rw [List.length_map] at hx
      subst hx
      have c1 : y'.cells = [y'] ∧ y'.flat = true := O'.one (A := C) (s := kBn (Inn.sub a) new) (l.length + 1 + m) (by
        rw [List.getElem?_set_self]
        exact kGr hi)
      have e2 : kAw 1 (.ptr o q.length (0 + m) (0 + j)) y' h' = some (h'.set o ⟨Row.w A, (q.set m (a', y')).map fun p => Inn.row p.1 p.2⟩) := by
        simp only [kAw, ho, List.length_map, if_true, List.getElem?_map, Nat.zero_add, hm', Option.map_some, c1.1]
        rw [if_pos ⟨rfl, by rw [Inn.len]; exact h2, by simp [c1.2]⟩, h4, List.map_set]
      show Sim (kA0 (some (AV.ptr o q.length (0 + m) 0)) fun q' => kA0 (kA7 j q') fun p => kA0 (kAw 1 p y' h') (F y' q' p)) _ Q
      rw [kA2]
      show Sim (kA0 (some (AV.ptr o q.length (0 + m) (0 + j))) fun p => kA0 (kAw 1 p y' h') (F y' _ p)) _ Q
      rw [kA2, e2, kA2]
      have O2 := O'.update (o := o) (v' := .sl (Row.w A) ((q.set m (a', y')).map fun p => Inn.row p.1 p.2)) h0 rfl rfl
      refine K _ _ _ (some (q.set m (a', y'))) _ (by simp [pj, kC9, List.map_set]) ?_
      have e3 : (((l ++ D2 (A := A) (.sl o q.length 0 q.length) (some q)).set (l.length + 1 + m) (y', obS (kBn (Inn.sub a) new))).set l.length ((EV.sl (Row.w A) ((q.set m (a', y')).map fun p => Inn.row p.1 p.2)).at o, .sl (Row.w A) ((q.set m (a', y')).map fun p => Inn.row p.1 p.2))) = l ++ D2 (A := A) (.sl o q.length 0 q.length) (some (q.set m (a', y'))) := by
        rw [List.set_append_right _ _ (by omega), List.set_append_right _ _ (by omega)]
        have : l.length + 1 + m - l.length = m + 1 := by omega
        rw [this, Nat.sub_self]
        simp only [D2, List.set_cons_succ, List.set_cons_zero, EV.at, List.length_map, List.length_set, List.map_set, h3]
      rw [← e3]
      exact O2
  · exact kD5
structure RawW (k : Nat) where
  cells : List AV
  len : cells.length = k
instance instRowRawW (k : Nat) : Row (RawW k) where
  w := k
  cells r := r.cells
  uncells cs := if h : cs.length = k then some ⟨cs, h⟩ else none
  un a := by rw [dif_pos a.len]
  nu cs a h := by
    split at h
    · cases h; rfl
    · cases h
  len a := a.len
  fine _ := True
def kDw {A C : Type} [Row A] [Row C] [Inn A C] (q : List (A × AV)) : List (RawW (Row.w A)) := q.map fun p => ⟨Inn.row p.1 p.2, Inn.len _ _⟩
theorem rawOf_cells {A C : Type} [Row A] [Row C] [Inn A C] (q : List (A × AV)) : (kDw q).map Row.cells = q.map fun p => Inn.row p.1 p.2 := by
  unfold kDw
  rw [List.map_map]
  rfl
theorem D2.raw {A C : Type} [Row A] [Row C] [Inn A C] (x : AV) (ps : PS A) : D2 x ps = (x, obS (ps.map kDw)) :: (ps.getD []).map fun p => ((p.2, obS (Inn.sub p.1)) : Ent) := by
  cases ps with
  | none => rfl
  | some q =>
    show (x, EV.sl (Row.w A) (q.map fun p => Inn.row p.1 p.2)) :: _ = (x, EV.sl (Row.w A) ((kDw q).map Row.cells)) :: _
    rw [rawOf_cells]
    rfl
theorem sim_appD {A C γ δ : Type} [Row A] [Row C] [Inn A C] {B : Base} {h : kA4} {l : List Ent} {x y : AV} {ps qs : PS A} {bytes : Nat} (O : Hold B h (l ++ D2 x ps ++ D2 y qs)) {s t : Sl A} (hs : pj ps = s) (ht : pj qs = t) (hb : bytes ≤ 1024)
    {F : AV → kA4 → Option γ} {G : Sl A → Option δ} {Q : δ → γ → Prop} (K : ∀ x' ps' h', pj ps' = kBn s (t.getD []) → Hold B h' (l ++ D2 x' ps') → Sim (F x' h') (G (kBn s (t.getD []))) Q) : Sim (kA3 (kB1 false (Row.w A) bytes x y h) F) (kA0 (kF5 s (t.getD [])) G) Q := by
  subst hs ht
  unfold kF5
  split
  · rename_i hl
    rw [D2.raw x ps, D2.raw y qs] at O
    have hi : (l ++ (x, obS (ps.map kDw)) :: ((ps.getD []).map fun p => ((p.2, obS (Inn.sub p.1)) : Ent)) ++ (y, obS (qs.map kDw)) :: (qs.getD []).map fun p => ((p.2, obS (Inn.sub p.1)) : Ent))[l.length]? = some (x, obS (ps.map kDw)) := by
      rw [List.append_assoc, List.getElem?_append_right (Nat.le_refl _), Nat.sub_self]
      rfl
    have hj : (l ++ (x, obS (ps.map kDw)) :: ((ps.getD []).map fun p => ((p.2, obS (Inn.sub p.1)) : Ent)) ++ (y, obS (qs.map kDw)) :: (qs.getD []).map fun p => ((p.2, obS (Inn.sub p.1)) : Ent))[(l ++ (x, obS (ps.map kDw)) :: ((ps.getD []).map fun p => ((p.2, obS (Inn.sub p.1)) : Ent))).length]? = some (y, obS (qs.map kDw)) := by
      rw [List.getElem?_append_right (Nat.le_refl _), Nat.sub_self]
      rfl
    have hsrc := O.src (A := RawW (Row.w A)) _ hj
    have l1 : ((ps.map kDw).getD []).length = ((pj ps).getD []).length := by
      cases ps with
      | none => rfl
      | some q => simp [kDw, pj]
    have l2 : ((qs.map kDw).getD []).length = ((pj qs).getD []).length := by
      cases qs with
      | none => rfl
      | some q => simp [kDw, pj]
    obtain ⟨x', h', e, O'⟩ := O.append (A := RawW (Row.w A)) _ (bytes := bytes) hi hsrc hb (by rw [l1, l2]; exact hl)
    have e' : kB1 false (Row.w A) bytes x y h = some (x', h') := e
    rw [e', kBs]
    have r1 : kBn (ps.map kDw) ((qs.map kDw).getD []) = (kBn ps (qs.getD [])).map kDw := by
      cases ps with
      | none =>
        cases qs with
        | none => rfl
        | some q => cases q <;> simp [kBn, kDw]
      | some p =>
        cases qs with
        | none => simp [kBn]
        | some q => simp [kBn, kDw]
    have r2 : ((kBn ps (qs.getD [])).getD []).map (fun p => ((p.2, obS (Inn.sub p.1)) : Ent)) = ((ps.getD []).map fun p => ((p.2, obS (Inn.sub p.1)) : Ent)) ++ (qs.getD []).map fun p => ((p.2, obS (Inn.sub p.1)) : Ent) := by
      rw [kEw, List.map_append]
    refine K x' (kBn ps (qs.getD [])) h' ?_ ?_
    · cases ps with
      | none =>
        cases qs with
        | none => rfl
        | some q => cases q <;> simp [kBn, pj]
      | some p =>
        cases qs with
        | none => simp [kBn, pj]
        | some q => simp [kBn, pj]
    · rw [D2.raw x', r2]
      rw [r1] at O'
      generalize ((ps.getD []).map fun p => ((p.2, obS (Inn.sub p.1)) : Ent)) = X at *
      generalize ((qs.getD []).map fun p => ((p.2, obS (Inn.sub p.1)) : Ent)) = Y at *
      have e2 : (l ++ (x, obS (ps.map kDw)) :: X ++ (y, obS (qs.map kDw)) :: Y).set l.length (x', obS ((kBn ps (qs.getD [])).map kDw)) = l ++ (x', obS ((kBn ps (qs.getD [])).map kDw)) :: X ++ (y, obS (qs.map kDw)) :: Y := by
        rw [List.append_assoc, List.set_append_right _ _ (Nat.le_refl _), Nat.sub_self, List.append_assoc]
        rfl
      rw [e2] at O'
      refine (O'.perm (L' := (l ++ (x', obS ((kBn ps (qs.getD [])).map kDw)) :: (X ++ Y)) ++ [(y, obS (qs.map kDw))]) ?_).left
      rw [List.append_assoc, List.append_assoc]
      refine List.Perm.append_left l ?_
      rw [List.cons_append, List.cons_append]
      refine List.Perm.cons _ ?_
      rw [List.append_assoc]
      refine List.Perm.append_left X ?_
      exact (List.perm_append_singleton _ _).symm
  · exact kD5
def RdD {A C : Type} [Row A] [Row C] [Inn A C] (B : Base) (x : AV) (ps : PS A) : Prop := ∀ h, (∀ o, o < B.h0.length → o ∉ B.F → h[o]? = B.h0[o]?) → Hold ⟨h, (D2 x ps).filterMap fun e => kE8 e.1⟩ h ([] ++ D2 x ps)
theorem Hold.aside {A C : Type} [Row A] [Row C] [Inn A C] {B : Base} {h : kA4} {l : List Ent} {x : AV} {ps : PS A} (O : Hold B h (l ++ D2 x ps)) : ∃ B' : Base, Hold B' h l ∧ RdD B' x ps := by
  refine ⟨⟨h, l.filterMap fun e => kE8 e.1⟩, O.startL, fun h' hk => ?_⟩
  have nd := O.nd
  rw [List.filterMap_append, List.nodup_append] at nd
  obtain ⟨n1, n2, n3⟩ := nd
  have old : ∀ e ∈ D2 x ps, ∀ o, kE8 e.1 = some o → h'[o]? = h[o]? := fun e he o ho => by
    obtain ⟨ob, _, g⟩ := entOK_lt (O.ok e (List.mem_append_right _ he)) ho
    refine hk o (List.getElem?_eq_some_iff.1 g).1 fun hm => n3 o hm o (List.mem_filterMap.2 ⟨e, he, ho⟩) rfl
  rw [List.nil_append]
  refine ⟨fun e he => ?_, n2, Nat.le_refl _, fun _ _ _ => rfl, fun e he o ho => .inl (List.mem_filterMap.2 ⟨e, he, ho⟩)⟩
  obtain ⟨o2, g1, g2⟩ := O.ok e (List.mem_append_right _ he)
  refine ⟨o2, g1, fun ob e' => ?_⟩
  have g3 : kE8 e.1 = some o2 := by rw [g1]; exact id_at e' o2
  rw [old e he o2 g3]
  exact g2 ob e'
def s0_q1 (vals_ : Sl Int) : Int → Option (Sum Int (Sum Unit Int)) := fun w3 =>
  bif decide (w3 < (((vals_.getD []).length : Nat) : Int)) then
    kA0 (kBp (vals_.getD []) w3) fun a13 =>
    bif !decide (a13 = 0) then
      some (.inr (.inr a13))
    else
      some (.inl (wr (w3 + 1)))
  else
    some (.inr (.inl ()))
def t_q1 (vals_ : Sl Int) : Option Int :=
  kA0 (kBa (s0_q1 vals_) 0) fun qq22 => match qq22 with
  | (.inl _) =>
      some 0
  | (.inr q10) =>
      some q10
theorem tl0_q1 (env : Nat → Contract) {B : Base}  (vals_ : Sl Int)  : kG7 (fun (st : Int) tm h1 => match st with | w3 => tm = ((Sl.enc vals_) :: und :: .top :: (iv 0) :: und :: .top :: (Sl.enc vals_) :: (iv (((vals_.getD []).length : Nat) : Int)) :: (iv w3) :: tZ9 8 [und]) ∧ Hold B h1 []) hm0_q1 xm0_q1 (lb0_q1 env) (s0_q1 vals_) (fun (q : Sum Unit Int) (r : Res) => match q with | .inl _ => ∃ (z6 : AV) (z7 : AV) (h4 : kA4), r = (.exit 0, ((Sl.enc vals_) :: und :: z6 :: (iv 0) :: und :: z7 :: (Sl.enc vals_) :: (iv (((vals_.getD []).length : Nat) : Int)) :: tZ9 9 [und]), h4) ∧ Hold B h4 [] | .inr q10 => ∃ (q11 : Int) (h8 : kA4), r = (.ret, ((Sl.enc vals_) :: und :: (iv q10) :: (iv 0) :: und :: (iv q11) :: (Sl.enc vals_) :: (iv (((vals_.getD []).length : Nat) : Int)) :: tZ9 9 [und]), h8) ∧ Hold B h8 []) := by
  refine @kGi _ _ _ _ _ _ _ _ (fun w3 tm h1 R => ?_)
  obtain ⟨rfl, O2⟩ := R
  rw [e_lb0_q1]
  unfold s0_q1
  dsimp only
  refine kA1 (kAa _ _) ?_
  refine kA9 (fun c12 => ?_) (fun c12 => ?_)
  · refine kAg (Tab.enc h1 vals_) (fun m14 a13 hi15 hm16 => ?_)
    refine kA1 (v := iv a13) ((Tab.enc h1 vals_).ld hm16 false 1 0) ?_
    refine kA1 (kDe _ _) ?_
    refine kA9 (fun c17 => ?_) (fun c17 => ?_)
    · exact kA6 ⟨nofun, _, _, rfl, O2⟩
    · refine kA1 (kAi _ _) ?_
      exact kA6 ⟨rfl, rfl, O2⟩
  · exact kA6 ⟨nofun, _, _, _, rfl, O2⟩
theorem ts_q1 (env : Nat → Contract)  (vals_ : Sl Int) : Sim (kAo Try.prog env n_q1 [Sl.enc vals_] []) (t_q1 vals_) fun c p => release p.2 depth p.1 = some ((fun c : Int => enc c) c) := by
  have O := Hold.nil []
  generalize hB : (⟨[], []⟩ : Base) = B at O
  clear hB
  rw [e_q1]
  unfold t_q1
  refine kA1 (v := iv (((vals_.getD []).length : Nat) : Int)) (Tab.enc [] vals_).len ?_
  refine kB2 ((tl0_q1 env vals_) ⟨rfl, O⟩) (fun qq22 r hq => ?_)
  rcases qq22 with _ | q10
  · obtain ⟨z6, z7, h4, rfl, O5⟩ := hq
    rw [e_lk0x0_q1]
    exact kA6 (kA8 (by rfl) _)
  · obtain ⟨q11, h8, rfl, O9⟩ := hq
    rw [e_lk0r_q1]
    exact kA6 (kA8 (by rfl) _)
theorem tt_q1 : kAs Try.prog n_q1 (C1 (fun c : Int => enc c) t_q1) := pureC1 E0 mixed hb_q1 fun vals_ => ts_q1 _  vals_
def t_q43 (gap_ : Int) : Option Bool :=
  kA0 (some (kDv gap_ 0 4095)) fun c1 =>
  some c1
theorem ts_q43 (env : Nat → Contract) (he_q38 : env n_q38 = .pure (T3 kDv)) (gap_ : Int) : Sim (kAo Try.prog env n_q43 [iv gap_] []) (t_q43 gap_) fun c p => release p.2 depth p.1 = some ((fun c : Bool => enc c) c) := by
  have O := Hold.nil []
  generalize hB : (⟨[], []⟩ : Base) = B at O
  clear hB
  rw [e_q43]
  unfold t_q43
  refine sim_callV3 (t := kDv) he_q38 (kAj _ _) (kAj _ _) (kAj _ _) (fun c1 => ?_)
  exact kA6 (kA8 (by rfl) _)
theorem tt_q43 : kAs Try.prog n_q43 (C1 (fun c : Bool => enc c) t_q43) := pureC1 (kC3 ok_q38 E0) mixed hb_q43 fun gap_ => ts_q43 _ (by simp [kCa]) gap_
def t_q40 (list_ : Sl Int) : Option (Sl Int) :=
  kA0 (kF5 (some ([] : List Int)) (list_.getD [])) fun _ =>
  some (kBn (some ([] : List Int)) (list_.getD []))
theorem ts_q40 (env : Nat → Contract)  (list_ : Sl Int) : Sim (kAo Try.prog env n_q40 [Sl.enc list_] []) (t_q40 list_) fun c p => release p.2 depth p.1 = some ((fun c : (Sl Int) => rS c) c) := by
  have O := Hold.nil []
  generalize hB : (⟨[], []⟩ : Base) = B at O
  clear hB
  rw [e_q40]
  unfold t_q40
  refine kBu (A := Int) O ([] : List Int) rfl (by first | rfl | simp [kB9, kCy]) rfl (fun x1 h2 O3 => ?_)
  replace O3 : Hold B h2 [(x1, obS ((some ([] : List Int)) : Sl Int))] := O3
  refine kEm (A := Int) (s := (some ([] : List Int))) O3 0 (list_.getD []) rfl (src_enc _ _) (by decide) (fun x6 h7 O8 => ?_)
  replace O8 : Hold B h7 [(x6, obS ((kBn (some ([] : List Int)) (list_.getD [])) : Sl Int))] := O8
  exact kA6 (O8.rel (A := Int) (s := (kBn (some ([] : List Int)) (list_.getD []))) 0 rfl)
theorem tt_q40 : kAs Try.prog n_q40 (C1 (fun c : (Sl Int) => rS c) t_q40) := pureC1 E0 mixed hb_q40 fun list_ => ts_q40 _  list_
def t_q6 (n_ : Int) : Option Bool :=
  kA0 (some (kDv n_ 0 4095)) fun c1 =>
  some c1
theorem ts_q6 (env : Nat → Contract) (he_q13 : env n_q13 = .pure (T3 kDv)) (n_ : Int) : Sim (kAo Try.prog env n_q6 [iv n_] []) (t_q6 n_) fun c p => release p.2 depth p.1 = some ((fun c : Bool => enc c) c) := by
  have O := Hold.nil []
  generalize hB : (⟨[], []⟩ : Base) = B at O
  clear hB
  rw [e_q6]
  unfold t_q6
  refine sim_callV3 (t := kDv) he_q13 (kAj _ _) (kAj _ _) (kAj _ _) (fun c1 => ?_)
  exact kA6 (kA8 (by rfl) _)
theorem tt_q6 : kAs Try.prog n_q6 (C1 (fun c : Bool => enc c) t_q6) := pureC1 (kC3 ok_q13 E0) mixed hb_q6 fun n_ => ts_q6 _ (by simp [kCa]) n_
def s0_q18 (a_ : Sl Int) (b_ : Sl Int) : Int → Option (Sum Int (Sum Unit Bool)) := fun w4 =>
  bif decide (w4 < (((a_.getD []).length : Nat) : Int)) then
    kA0 (kBp (a_.getD []) w4) fun a14 =>
    kA0 (kBp (b_.getD []) w4) fun a18 =>
    bif !decide (a14 = a18) then
      some (.inr (.inr false))
    else
      some (.inl (wr (w4 + 1)))
  else
    some (.inr (.inl ()))
def t_q18 (a_ : Sl Int) (b_ : Sl Int) : Option Bool :=
  bif !decide ((((a_.getD []).length : Nat) : Int) = (((b_.getD []).length : Nat) : Int)) then
    some false
  else
    kA0 (kBa (s0_q18 a_ b_) 0) fun qq27 => match qq27 with
    | (.inl _) =>
        some true
    | (.inr q11) =>
        some q11
theorem tl0_q18 (env : Nat → Contract) {B : Base}  (a_ : Sl Int) (b_ : Sl Int)  : kG7 (fun (st : Int) tm h2 => match st with | w4 => tm = ((Sl.enc a_) :: (Sl.enc b_) :: und :: und :: .top :: (iv w4) :: (Sl.enc a_) :: (iv (((a_.getD []).length : Nat) : Int)) :: (Sl.enc b_) :: (iv (((b_.getD []).length : Nat) : Int)) :: (bv (!decide ((((a_.getD []).length : Nat) : Int) = (((b_.getD []).length : Nat) : Int)))) :: tZ9 15 []) ∧ Hold B h2 []) hm0_q18 xm0_q18 (lb0_q18 env) (s0_q18 a_ b_) (fun (q : Sum Unit Bool) (r : Res) => match q with | .inl _ => ∃ (q8 : Int) (z7 : AV) (h5 : kA4), r = (.exit 0, ((Sl.enc a_) :: (Sl.enc b_) :: und :: und :: z7 :: (iv q8) :: (Sl.enc a_) :: (iv (((a_.getD []).length : Nat) : Int)) :: (Sl.enc b_) :: (iv (((b_.getD []).length : Nat) : Int)) :: (bv (!decide ((((a_.getD []).length : Nat) : Int) = (((b_.getD []).length : Nat) : Int)))) :: tZ9 15 []), h5) ∧ Hold B h5 [] | .inr q11 => ∃ (q12 : Int) (h9 : kA4), r = (.ret, ((Sl.enc a_) :: (Sl.enc b_) :: und :: und :: (bv q11) :: (iv q12) :: (Sl.enc a_) :: (iv (((a_.getD []).length : Nat) : Int)) :: (Sl.enc b_) :: (iv (((b_.getD []).length : Nat) : Int)) :: (bv (!decide ((((a_.getD []).length : Nat) : Int) = (((b_.getD []).length : Nat) : Int)))) :: tZ9 15 []), h9) ∧ Hold B h9 []) := by
  refine @kGi _ _ _ _ _ _ _ _ (fun w4 tm h2 R => ?_)
  obtain ⟨rfl, O3⟩ := R
  rw [e_lb0_q18]
  unfold s0_q18
  dsimp only
  refine kA1 (Tab.enc h2 a_).len ?_
  refine kA1 (kAa _ _) ?_
  refine kA9 (fun c13 => ?_) (fun c13 => ?_)
  · refine kAg (Tab.enc h2 a_) (fun m15 a14 hi16 hm17 => ?_)
    refine kA1 (v := iv a14) ((Tab.enc h2 a_).ld hm17 false 1 0) ?_
    refine kAg (Tab.enc h2 b_) (fun m19 a18 hi20 hm21 => ?_)
    refine kA1 (v := iv a18) ((Tab.enc h2 b_).ld hm21 false 1 0) ?_
    refine kA1 (kDe _ _) ?_
    refine kA9 (fun c22 => ?_) (fun c22 => ?_)
    · exact kA6 ⟨nofun, _, _, rfl, O3⟩
    · refine kA1 (kAi _ _) ?_
      exact kA6 ⟨rfl, rfl, O3⟩
  · exact kA6 ⟨nofun, _, _, _, rfl, O3⟩
theorem ts_q18 (env : Nat → Contract)  (a_ : Sl Int) (b_ : Sl Int) : Sim (kAo Try.prog env n_q18 [Sl.enc a_, Sl.enc b_] []) (t_q18 a_ b_) fun c p => release p.2 depth p.1 = some ((fun c : Bool => enc c) c) := by
  have O := Hold.nil []
  generalize hB : (⟨[], []⟩ : Base) = B at O
  clear hB
  rw [e_q18]
  unfold t_q18
  refine kA1 (v := iv (((a_.getD []).length : Nat) : Int)) (Tab.enc [] a_).len ?_
  refine kA1 (v := iv (((b_.getD []).length : Nat) : Int)) (Tab.enc [] b_).len ?_
  refine kA1 (kDe _ _) ?_
  refine kA9 (fun c1 => ?_) (fun c1 => ?_)
  · exact kA6 (kA8 (by rfl) _)
  · refine kB2 ((tl0_q18 env a_ b_) ⟨rfl, O⟩) (fun qq27 r hq => ?_)
    rcases qq27 with _ | q11
    · obtain ⟨q8, z7, h5, rfl, O6⟩ := hq
      rw [e_lk0x0_q18]
      exact kA6 (kA8 (by rfl) _)
    · obtain ⟨q12, h9, rfl, O10⟩ := hq
      rw [e_lk0r_q18]
      exact kA6 (kA8 (by rfl) _)
theorem tt_q18 : kAs Try.prog n_q18 (C2 (fun c : Bool => enc c) t_q18) := kGh E0 mixed hb_q18 fun a_ b_ => ts_q18 _  a_ b_
def t_q25 (a_ : Sl Box) (left_ : Int) : Option Int :=
  bif decide ((wr (left_ - (((a_.getD []).length : Nat) : Int))) < 0) then
    some (-1)
  else
    some (wr (left_ - (((a_.getD []).length : Nat) : Int)))
theorem ts_q25 (env : Nat → Contract)  (a_ : Sl Box) (left_ : Int) : Sim (kAo Try.prog env n_q25 [Sl.enc a_, iv left_] []) (t_q25 a_ left_) fun c p => release p.2 depth p.1 = some ((fun c : Int => enc c) c) := by
  have O := Hold.nil []
  generalize hB : (⟨[], []⟩ : Base) = B at O
  clear hB
  rw [e_q25]
  unfold t_q25
  refine kA1 (v := iv (((a_.getD []).length : Nat) : Int)) (Tab.enc [] a_).len ?_
  refine kA1 (kAp _ _) ?_
  refine kA1 (kAa _ _) ?_
  refine kA9 (fun c1 => ?_) (fun c1 => ?_)
  · exact kA6 (kA8 (by rfl) _)
  · exact kA6 (kA8 (by rfl) _)
theorem tt_q25 : kAs Try.prog n_q25 (C2 (fun c : Int => enc c) t_q25) := kGh E0 mixed hb_q25 fun a_ left_ => ts_q25 _  a_ left_
def s0_q27 (a_ : Sl Box) : ((Sl Box) × Int) → Option (Sum ((Sl Box) × Int) (Sl Box)) := fun (w6, w9) =>
  bif decide (w9 < (((a_.getD []).length : Nat) : Int)) then
    kA0 (kBp (a_.getD []) w9) fun a15 =>
    kA0 (some ((fun b : Box => b) a15)) fun c19 =>
    kA0 (kBp (w6.getD []) w9) fun a20 =>
    some (.inl ((kC9 w6 w9 c19), wr (w9 + 1)))
  else
    some (.inr w6)
def t_q27 (a_ : Sl Box) : Option (Sl Box) :=
  kA0 (makeO (⟨0, 0, 0, 0⟩ : Box) (((a_.getD []).length : Nat) : Int)) fun l5 =>
  kA0 (kBa (s0_q27 a_) ((some l5), 0)) fun q12 =>
  some q12
theorem tl0_q27 (env : Nat → Contract) {B : Base} (he_q26 : env n_q26 = .pure (T1 (fun b : Box => b))) (a_ : Sl Box) (x1 : AV)  : kG7 (fun (st : (Sl Box) × Int) tm h7 => match st with | (w6, w9) => tm = ((Sl.enc a_) :: und :: kBd :: x1 :: (iv w9) :: (Sl.enc a_) :: (iv (((a_.getD []).length : Nat) : Int)) :: x1 :: tZ9 14 [und]) ∧ Hold B h7 [(x1, obS (w6 : Sl Box))]) hm0_q27 xm0_q27 (lb0_q27 env) (s0_q27 a_) (fun (q : Sl Box) (r : Res) => match q with | q12 => ∃ (q13 : Int) (h10 : kA4), r = (.exit 0, ((Sl.enc a_) :: und :: kBd :: x1 :: (iv q13) :: (Sl.enc a_) :: (iv (((a_.getD []).length : Nat) : Int)) :: x1 :: tZ9 14 [und]), h10) ∧ Hold B h10 [(x1, obS (q12 : Sl Box))]) := by
  refine @kGi _ _ _ _ _ _ _ _ (fun st tm h7 R => ?_)
  obtain ⟨w6, w9⟩ := st
  obtain ⟨rfl, O8⟩ := R
  rw [e_lb0_q27]
  unfold s0_q27
  dsimp only
  refine kA1 (Tab.enc h7 a_).len ?_
  refine kA1 (kAa _ _) ?_
  refine kA9 (fun c14 => ?_) (fun c14 => ?_)
  · refine kAg (Tab.enc h7 a_) (fun m16 a15 hi17 hm18 => ?_)
    refine kA1 (v := AV.agg [iv a15.x1, iv a15.y1, iv a15.x2, iv a15.y2]) ((Tab.enc h7 a_).ld hm18 true 4 0) ?_
    refine sim_callV1 (t := (fun b : Box => b)) he_q26 (kIb _ a15 rfl) (fun c19 => ?_)
    refine kAg (O8.tab (A := Box) (s := w6) 0 rfl) (fun m21 a20 hi22 hm23 => ?_)
    refine kFr (A := Box) O8 0 c19 rfl hi22 hm23 rfl (by simp) (by first | rfl | simp) (by first | rfl | simp [kBe]) (fun h24 O25 => ?_)
    replace O25 : Hold B h24 [(x1, obS ((kC9 w6 w9 c19) : Sl Box))] := O25
    refine kA1 (kAi _ _) ?_
    exact kA6 ⟨rfl, rfl, O25⟩
  · exact kA6 ⟨nofun, _, _, rfl, O8⟩
theorem ts_q27 (env : Nat → Contract) (he_q26 : env n_q26 = .pure (T1 (fun b : Box => b))) (a_ : Sl Box) : Sim (kAo Try.prog env n_q27 [Sl.enc a_] []) (t_q27 a_) fun c p => release p.2 depth p.1 = some ((fun c : (Sl Box) => rS c) c) := by
  have O := Hold.nil []
  generalize hB : (⟨[], []⟩ : Base) = B at O
  clear hB
  rw [e_q27]
  unfold t_q27
  refine kA1 (v := iv (((a_.getD []).length : Nat) : Int)) (Tab.enc [] a_).len ?_
  refine sim_make (A := Box) O (⟨0, 0, 0, 0⟩ : Box) rfl (by decide) (fun l5 x1 h2 O3 => ?_)
  replace O3 : Hold B h2 [(x1, obS ((some l5) : Sl Box))] := O3
  refine kB2 ((tl0_q27 env he_q26 a_ x1) ⟨rfl, O3⟩) (fun qq29 r hq => ?_)
  revert hq
  revert qq29
  intro q12 hq
  obtain ⟨q13, h10, rfl, O11⟩ := hq
  rw [e_lk0x0_q27]
  exact kA6 (O11.rel (A := Box) (s := q12) 0 rfl)
theorem tt_q27 : kAs Try.prog n_q27 (C1 (fun c : (Sl Box) => rS c) t_q27) := pureC1 (kC3 ok_q26 E0) mixed hb_q27 fun a_ => ts_q27 _ (by simp [kCa]) a_
def s0_q42 (boxes_ : Sl Box) : Int → Option (Sum Int (Sum Unit Bool)) := fun w3 =>
  bif decide (w3 < (((boxes_.getD []).length : Nat) : Int)) then
    kA0 (kBp (boxes_.getD []) w3) fun a13 =>
    kA0 (some (kB6 a13)) fun c17 =>
    bif !c17 then
      some (.inr (.inr false))
    else
      some (.inl (wr (w3 + 1)))
  else
    some (.inr (.inl ()))
def t_q42 (boxes_ : Sl Box) : Option Bool :=
  kA0 (kBa (s0_q42 boxes_) 0) fun qq23 => match qq23 with
  | (.inl _) =>
      some (decide ((((boxes_.getD []).length : Nat) : Int) ≤ 60))
  | (.inr q10) =>
      some q10
theorem tl0_q42 (env : Nat → Contract) {B : Base} (he_q41 : env n_q41 = .pure (T1 kB6)) (boxes_ : Sl Box)  : kG7 (fun (st : Int) tm h1 => match st with | w3 => tm = ((Sl.enc boxes_) :: und :: .top :: (iv w3) :: tZ9 12 [und, und, und]) ∧ Hold B h1 []) hm0_q42 xm0_q42 (lb0_q42 env) (s0_q42 boxes_) (fun (q : Sum Unit Bool) (r : Res) => match q with | .inl _ => ∃ (q7 : Int) (z6 : AV) (h4 : kA4), r = (.exit 0, ((Sl.enc boxes_) :: und :: z6 :: (iv q7) :: tZ9 12 [und, und, und]), h4) ∧ Hold B h4 [] | .inr q10 => ∃ (q11 : Int) (h8 : kA4), r = (.ret, ((Sl.enc boxes_) :: und :: (bv q10) :: (iv q11) :: tZ9 12 [und, und, und]), h8) ∧ Hold B h8 []) := by
  refine @kGi _ _ _ _ _ _ _ _ (fun w3 tm h1 R => ?_)
  obtain ⟨rfl, O2⟩ := R
  rw [e_lb0_q42]
  unfold s0_q42
  dsimp only
  refine kA1 (Tab.enc h1 boxes_).len ?_
  refine kA1 (kAa _ _) ?_
  refine kA9 (fun c12 => ?_) (fun c12 => ?_)
  · refine kAg (Tab.enc h1 boxes_) (fun m14 a13 hi15 hm16 => ?_)
    refine kA1 (v := AV.agg [iv a13.x1, iv a13.y1, iv a13.x2, iv a13.y2]) ((Tab.enc h1 boxes_).ld hm16 true 4 0) ?_
    refine sim_callV1 (t := kB6) he_q41 (kIb _ a13 rfl) (fun c17 => ?_)
    refine kA1 (v := bv (!c17)) (kCg _) ?_
    refine kA9 (fun c18 => ?_) (fun c18 => ?_)
    · exact kA6 ⟨nofun, _, _, rfl, O2⟩
    · refine kA1 (kAi _ _) ?_
      exact kA6 ⟨rfl, rfl, O2⟩
  · exact kA6 ⟨nofun, _, _, _, rfl, O2⟩
theorem ts_q42 (env : Nat → Contract) (he_q41 : env n_q41 = .pure (T1 kB6)) (boxes_ : Sl Box) : Sim (kAo Try.prog env n_q42 [Sl.enc boxes_] []) (t_q42 boxes_) fun c p => release p.2 depth p.1 = some ((fun c : Bool => enc c) c) := by
  have O := Hold.nil []
  generalize hB : (⟨[], []⟩ : Base) = B at O
  clear hB
  rw [e_q42]
  unfold t_q42
  refine kB2 ((tl0_q42 env he_q41 boxes_) ⟨rfl, O⟩) (fun qq23 r hq => ?_)
  rcases qq23 with _ | q10
  · obtain ⟨q7, z6, h4, rfl, O5⟩ := hq
    rw [e_lk0x0_q42]
    refine kA1 (Tab.enc h4 boxes_).len ?_
    refine kA1 (aBin_leq _ _) ?_
    exact kA6 (kA8 (by rfl) _)
  · obtain ⟨q11, h8, rfl, O9⟩ := hq
    rw [e_lk0r_q42]
    exact kA6 (kA8 (by rfl) _)
theorem tt_q42 : kAs Try.prog n_q42 (C1 (fun c : Bool => enc c) t_q42) := pureC1 (kC3 ok_q41 E0) mixed hb_q42 fun boxes_ => ts_q42 _ (by simp [kCa]) boxes_
def t_q46 (boxes_ : Sl Box) (a_ : Int) (b_ : Int) : Option Bool :=
  kA0 (kBp (boxes_.getD []) a_) fun a1 =>
  kA0 (kBp (boxes_.getD []) b_) fun a11 =>
  bif !decide (a1.x1 = a11.x1) then
    some (decide (a1.x1 < a11.x1))
  else
    bif !decide (a1.x2 = a11.x2) then
      some (decide (a1.x2 < a11.x2))
    else
      some (decide (a_ < b_))
theorem ts_q46 (env : Nat → Contract)  (boxes_ : Sl Box) (a_ : Int) (b_ : Int) : Sim (kAo Try.prog env n_q46 [Sl.enc boxes_, iv a_, iv b_] []) (t_q46 boxes_ a_ b_) fun c p => release p.2 depth p.1 = some ((fun c : Bool => enc c) c) := by
  have O := Hold.nil []
  generalize hB : (⟨[], []⟩ : Base) = B at O
  clear hB
  rw [e_q46]
  unfold t_q46
  refine kAg (Tab.enc [] boxes_) (fun m2 a1 hi3 hm4 => ?_)
  refine kA1 (v := AV.agg [iv a1.x1, iv a1.y1, iv a1.x2, iv a1.y2]) ((Tab.enc [] boxes_).ld hm4 true 4 0) ?_
  refine kGc O (cs := [iv 0, iv 0, iv 0, iv 0]) (by first | rfl | simp) (fun o5 h6 O7 => ?_)
  replace O7 : Hold B h6 [pZ9 o5 4 [iv 0, iv 0, iv 0, iv 0]] := O7
  refine kEz O7 0 (cs' := [iv a1.x1, iv a1.y1, iv a1.x2, iv a1.y2]) rfl (by first | rfl | simp) (by simp) (by first | rfl | simp) (by first | rfl | simp [kBe]) (fun h9 O10 => ?_)
  replace O10 : Hold B h9 [pZ9 o5 4 [iv a1.x1, iv a1.y1, iv a1.x2, iv a1.y2]] := O10
  refine kAg (Tab.enc h9 boxes_) (fun m12 a11 hi13 hm14 => ?_)
  refine kA1 (v := AV.agg [iv a11.x1, iv a11.y1, iv a11.x2, iv a11.y2]) ((Tab.enc h9 boxes_).ld hm14 true 4 0) ?_
  refine kGc O10 (cs := [iv 0, iv 0, iv 0, iv 0]) (by first | rfl | simp) (fun o15 h16 O17 => ?_)
  replace O17 : Hold B h16 [pZ9 o5 4 [iv a1.x1, iv a1.y1, iv a1.x2, iv a1.y2], pZ9 o15 4 [iv 0, iv 0, iv 0, iv 0]] := O17
  refine kEz O17 1 (cs' := [iv a11.x1, iv a11.y1, iv a11.x2, iv a11.y2]) rfl (by first | rfl | simp) (by simp) (by first | rfl | simp) (by first | rfl | simp [kBe]) (fun h19 O20 => ?_)
  replace O20 : Hold B h19 [pZ9 o5 4 [iv a1.x1, iv a1.y1, iv a1.x2, iv a1.y2], pZ9 o15 4 [iv a11.x1, iv a11.y1, iv a11.x2, iv a11.y2]] := O20
  refine kA1 (v := AV.ptr o5 1 0 0) rfl ?_
  refine kA1 (v := iv a1.x1) (O20.ld 0 rfl false 1 0) ?_
  refine kA1 (v := AV.ptr o15 1 0 0) rfl ?_
  refine kA1 (v := iv a11.x1) (O20.ld 1 rfl false 1 0) ?_
  refine kA1 (kDe _ _) ?_
  refine kA9 (fun c21 => ?_) (fun c21 => ?_)
  · refine kA1 (v := AV.ptr o5 1 0 0) rfl ?_
    refine kA1 (v := iv a1.x1) (O20.ld 0 rfl false 1 0) ?_
    refine kA1 (v := AV.ptr o15 1 0 0) rfl ?_
    refine kA1 (v := iv a11.x1) (O20.ld 1 rfl false 1 0) ?_
    refine kA1 (kAa _ _) ?_
    exact kA6 (kA8 (by rfl) _)
  · refine kA1 (v := AV.ptr o5 1 0 2) rfl ?_
    refine kA1 (v := iv a1.x2) (O20.ld 0 rfl false 1 2) ?_
    refine kA1 (v := AV.ptr o15 1 0 2) rfl ?_
    refine kA1 (v := iv a11.x2) (O20.ld 1 rfl false 1 2) ?_
    refine kA1 (kDe _ _) ?_
    refine kA9 (fun c22 => ?_) (fun c22 => ?_)
    · refine kA1 (v := AV.ptr o5 1 0 2) rfl ?_
      refine kA1 (v := iv a1.x2) (O20.ld 0 rfl false 1 2) ?_
      refine kA1 (v := AV.ptr o15 1 0 2) rfl ?_
      refine kA1 (v := iv a11.x2) (O20.ld 1 rfl false 1 2) ?_
      refine kA1 (kAa _ _) ?_
      exact kA6 (kA8 (by rfl) _)
    · refine kA1 (kAa _ _) ?_
      exact kA6 (kA8 (by rfl) _)
theorem tt_q46 : kAs Try.prog n_q46 (C3 (fun c : Bool => enc c) t_q46) := kIo E0 mixed hb_q46 fun boxes_ a_ b_ => ts_q46 _  boxes_ a_ b_
def t_q45 (boxes_ : Sl Box) (a_ : Int) (b_ : Int) : Option Bool :=
  kA0 (kBp (boxes_.getD []) a_) fun a1 =>
  kA0 (kBp (boxes_.getD []) b_) fun a5 =>
  bif !decide (a1.y1 = a5.y1) then
    kA0 (kBp (boxes_.getD []) a_) fun a10 =>
    kA0 (kBp (boxes_.getD []) b_) fun a14 =>
    some (decide (a10.y1 < a14.y1))
  else
    some (decide (a_ < b_))
theorem ts_q45 (env : Nat → Contract)  (boxes_ : Sl Box) (a_ : Int) (b_ : Int) : Sim (kAo Try.prog env n_q45 [Sl.enc boxes_, iv a_, iv b_] []) (t_q45 boxes_ a_ b_) fun c p => release p.2 depth p.1 = some ((fun c : Bool => enc c) c) := by
  have O := Hold.nil []
  generalize hB : (⟨[], []⟩ : Base) = B at O
  clear hB
  rw [e_q45]
  unfold t_q45
  refine kAg (Tab.enc [] boxes_) (fun m2 a1 hi3 hm4 => ?_)
  refine kA1 (v := elp (Sl.enc boxes_) m2 1) ((Tab.enc [] boxes_).fld _ _ _) ?_
  refine kA1 (v := iv a1.y1) ((Tab.enc [] boxes_).ld hm4 false 1 1) ?_
  refine kAg (Tab.enc [] boxes_) (fun m6 a5 hi7 hm8 => ?_)
  refine kA1 (v := elp (Sl.enc boxes_) m6 1) ((Tab.enc [] boxes_).fld _ _ _) ?_
  refine kA1 (v := iv a5.y1) ((Tab.enc [] boxes_).ld hm8 false 1 1) ?_
  refine kA1 (kDe _ _) ?_
  refine kA9 (fun c9 => ?_) (fun c9 => ?_)
  · refine kAg (Tab.enc [] boxes_) (fun m11 a10 hi12 hm13 => ?_)
    refine kA1 (v := elp (Sl.enc boxes_) m11 1) ((Tab.enc [] boxes_).fld _ _ _) ?_
    refine kA1 (v := iv a10.y1) ((Tab.enc [] boxes_).ld hm13 false 1 1) ?_
    refine kAg (Tab.enc [] boxes_) (fun m15 a14 hi16 hm17 => ?_)
    refine kA1 (v := elp (Sl.enc boxes_) m15 1) ((Tab.enc [] boxes_).fld _ _ _) ?_
    refine kA1 (v := iv a14.y1) ((Tab.enc [] boxes_).ld hm17 false 1 1) ?_
    refine kA1 (kAa _ _) ?_
    exact kA6 (kA8 (by rfl) _)
  · refine kA1 (kAa _ _) ?_
    exact kA6 (kA8 (by rfl) _)
theorem tt_q45 : kAs Try.prog n_q45 (C3 (fun c : Bool => enc c) t_q45) := kIo E0 mixed hb_q45 fun boxes_ a_ b_ => ts_q45 _  boxes_ a_ b_
def s0_q48 (boxes_ : Sl Box) (list_ : Sl Int) (k_ : Int) (high_ : Bool) : Int → Option (Sum Int Int) := fun w3 =>
  bif decide (0 < w3) then
    kA0 (kBp (list_.getD []) (wr (w3 - 1))) fun a31 =>
    kA0 (t_q46 boxes_ k_ a31) fun c35 =>
    bif high_ then
      kA0 (kBp (list_.getD []) (wr (w3 - 1))) fun a37 =>
      kA0 (t_q45 boxes_ k_ a37) fun c41 =>
      bif !c41 then
        some (.inr w3)
      else
        some (.inl (wr (w3 - 1)))
    else
      bif !c35 then
        some (.inr w3)
      else
        some (.inl (wr (w3 - 1)))
  else
    some (.inr w3)
def t_q48 (boxes_ : Sl Box) (list_ : Sl Int) (k_ : Int) (high_ : Bool) : Option (Sl Int) :=
  kA0 (kBa (s0_q48 boxes_ list_ k_ high_) (((list_.getD []).length : Nat) : Int)) fun q6 =>
  kA0 (subS list_ none (some q6)) fun s8 =>
  kA0 (t_q40 s8) fun c9 =>
  kA0 (kF5 c9 ([k_] : List Int)) fun _ =>
  kA0 (subS list_ (some q6) none) fun s24 =>
  kA0 (kF5 (kBn c9 ([k_] : List Int)) (s24.getD [])) fun _ =>
  some (kBn (kBn c9 ([k_] : List Int)) (s24.getD []))
theorem tl0_q48 (env : Nat → Contract) {B : Base} (he_q40 : env n_q40 = .pure (C1 (fun c : (Sl Int) => rS c) t_q40)) (he_q45 : env n_q45 = .pure (C3 (fun c : Bool => enc c) t_q45)) (he_q46 : env n_q46 = .pure (C3 (fun c : Bool => enc c) t_q46)) (boxes_ : Sl Box) (list_ : Sl Int) (k_ : Int) (high_ : Bool)  : kG7 (fun (st : Int) tm h1 => match st with | w3 => tm = ((Sl.enc boxes_) :: (Sl.enc list_) :: (iv k_) :: (bv high_) :: und :: und :: und :: und :: kBd :: (iv w3) :: .top :: und :: (Sl.enc list_) :: (iv (((list_.getD []).length : Nat) : Int)) :: tZ9 23 [und, und, und, und, und, und, und, und, und, und, und, und]) ∧ Hold B h1 []) hm0_q48 xm0_q48 (lb0_q48 env) (s0_q48 boxes_ list_ k_ high_) (fun (q : Int) (r : Res) => match q with | q6 => ∃ (z7 : AV) (h4 : kA4), r = (.exit 0, ((Sl.enc boxes_) :: (Sl.enc list_) :: (iv k_) :: (bv high_) :: und :: und :: und :: und :: kBd :: (iv q6) :: z7 :: und :: (Sl.enc list_) :: (iv (((list_.getD []).length : Nat) : Int)) :: tZ9 23 [und, und, und, und, und, und, und, und, und, und, und, und]), h4) ∧ Hold B h4 []) := by
  refine @kGi _ _ _ _ _ _ _ _ (fun w3 tm h1 R => ?_)
  obtain ⟨rfl, O2⟩ := R
  rw [e_lb0_q48]
  unfold s0_q48
  dsimp only
  refine kA1 (kE4 _ _) ?_
  refine kA9 (fun c30 => ?_) (fun c30 => ?_)
  · refine kA1 (kAp _ _) ?_
    refine kAg (Tab.enc h1 list_) (fun m32 a31 hi33 hm34 => ?_)
    refine kA1 (v := iv a31) ((Tab.enc h1 list_).ld hm34 false 1 0) ?_
    refine kF1 he_q46 (kBc _ _) (kAj _ _) (kAj _ _) (fun c35 => ?_)
    refine kBt (kAk (by rfl) _ _) ?_
    refine kA9 (fun c36 => ?_) (fun c36 => ?_)
    · refine kA1 (kAp _ _) ?_
      refine kAg (Tab.enc h1 list_) (fun m38 a37 hi39 hm40 => ?_)
      refine kA1 (v := iv a37) ((Tab.enc h1 list_).ld hm40 false 1 0) ?_
      refine kF1 he_q45 (kBc _ _) (kAj _ _) (kAj _ _) (fun c41 => ?_)
      refine kBt (kAk (by rfl) _ _) ?_
      refine kA1 (v := bv (!c41)) (kCg _) ?_
      refine kA9 (fun c42 => ?_) (fun c42 => ?_)
      · exact kA6 ⟨nofun, _, _, rfl, O2⟩
      · refine kA1 (kAp _ _) ?_
        exact kA6 ⟨rfl, rfl, O2⟩
    · refine kA1 (v := bv (!c35)) (kCg _) ?_
      refine kA9 (fun c45 => ?_) (fun c45 => ?_)
      · exact kA6 ⟨nofun, _, _, rfl, O2⟩
      · refine kA1 (kAp _ _) ?_
        exact kA6 ⟨rfl, rfl, O2⟩
  · exact kA6 ⟨nofun, _, _, rfl, O2⟩
theorem ts_q48 (env : Nat → Contract) (he_q40 : env n_q40 = .pure (C1 (fun c : (Sl Int) => rS c) t_q40)) (he_q45 : env n_q45 = .pure (C3 (fun c : Bool => enc c) t_q45)) (he_q46 : env n_q46 = .pure (C3 (fun c : Bool => enc c) t_q46)) (boxes_ : Sl Box) (list_ : Sl Int) (k_ : Int) (high_ : Bool) : Sim (kAo Try.prog env n_q48 [Sl.enc boxes_, Sl.enc list_, iv k_, bv high_] []) (t_q48 boxes_ list_ k_ high_) fun c p => release p.2 depth p.1 = some ((fun c : (Sl Int) => rS c) c) := by
  have O := Hold.nil []
  generalize hB : (⟨[], []⟩ : Base) = B at O
  clear hB
  rw [e_q48]
  unfold t_q48
  refine kA1 (v := iv (((list_.getD []).length : Nat) : Int)) (Tab.enc [] list_).len ?_
  refine kB2 ((tl0_q48 env he_q40 he_q45 he_q46 boxes_ list_ k_ high_) ⟨rfl, O⟩) (fun qq50 r hq => ?_)
  revert hq
  revert qq50
  intro q6 hq
  obtain ⟨z7, h4, rfl, O5⟩ := hq
  rw [e_lk0x0_q48]
  refine sim_sub01 (fun s8 => ?_)
  refine kCr he_q40 (kBc _ _) (fun c9 => ?_)
  refine kEi (A := Int) O5 (fun x11 h12 O13 => ?_)
  replace O13 : Hold B h12 [(x11, obS (c9 : Sl Int))] := O13
  refine kBu (A := Int) O13 ([k_] : List Int) rfl (by first | rfl | simp [kB9, kCy]) rfl (fun x14 h15 O16 => ?_)
  replace O16 : Hold B h15 [(x11, obS (c9 : Sl Int)), (x14, obS ((some ([k_] : List Int)) : Sl Int))] := O16
  refine kEm (A := Int) (s := c9) O16 0 ([k_] : List Int) rfl (O16.src (A := Int) (s := (some ([k_] : List Int))) 1 rfl) (by decide) (fun x19 h20 O21 => ?_)
  replace O21 : Hold B h20 [(x19, obS ((kBn c9 ([k_] : List Int)) : Sl Int)), (x14, obS ((some ([k_] : List Int)) : Sl Int))] := O21
  have O23 : Hold B h20 [(x19, obS ((kBn c9 ([k_] : List Int)) : Sl Int))] := O21.sel [0] (by decide) rfl
  refine sim_sub10 (fun s24 => ?_)
  refine kEm (A := Int) (s := (kBn c9 ([k_] : List Int))) O23 0 (s24.getD []) rfl (src_enc _ _) (by decide) (fun x26 h27 O28 => ?_)
  replace O28 : Hold B h27 [(x26, obS ((kBn (kBn c9 ([k_] : List Int)) (s24.getD [])) : Sl Int))] := O28
  exact kA6 (O28.rel (A := Int) (s := (kBn (kBn c9 ([k_] : List Int)) (s24.getD []))) 0 rfl)
theorem tt_q48 : kAs Try.prog n_q48 (C4 (fun c : (Sl Int) => rS c) t_q48) := pureC4 (kC3 tt_q40 (kC3 tt_q45 (kC3 tt_q46 E0))) mixed hb_q48 fun boxes_ list_ k_ high_ => ts_q48 _ (by simp [kCa]) (by simp [kCa]) (by simp [kCa]) boxes_ list_ k_ high_
def kHk (boxes_ : Sl Box) (gap_ : Int) (q13 : Sl Int) : ((Sl Line) × Int) → Option (Sum ((Sl Line) × Int) (Sl Line)) := fun (w20, w25) =>
  bif decide (w25 < (((q13.getD []).length : Nat) : Int)) then
    kA0 (kBp (q13.getD []) w25) fun a38 =>
    kA0 (kBp (boxes_.getD []) a38) fun a42 =>
    kA0 (bif decide ((((w20.getD []).length : Nat) : Int) = 0) then some false else (kA0 (kBp (w20.getD []) (wr ((((w20.getD []).length : Nat) : Int) - 1))) fun a53 => some (decide ((wr (a53.bottom + gap_)) < a42.y1)))) fun c59 =>
    bif (bif decide ((((w20.getD []).length : Nat) : Int) = 0) then true else c59) then
      kA0 (kBp (q13.getD []) w25) fun a71 =>
      kA0 (kF5 w20 ([(⟨a42.y1, a42.y2, (some ([a71] : List Int))⟩ : Line)] : List Line)) fun _ =>
      some (.inl ((kBn w20 ([(⟨a42.y1, a42.y2, (some ([a71] : List Int))⟩ : Line)] : List Line)), wr (w25 + 1)))
    else
      kA0 (kBp (w20.getD []) (wr ((((w20.getD []).length : Nat) : Int) - 1))) fun a92 =>
      kA0 (some ((fun a b : Int => max a b) a92.bottom a42.y2)) fun c104 =>
      kA0 (kBp (q13.getD []) w25) fun a105 =>
      kA0 (t_q48 boxes_ a92.items a105 false) fun c109 =>
      kA0 (kBp (w20.getD []) (wr ((((w20.getD []).length : Nat) : Int) - 1))) fun a114 =>
      some (.inl ((kC9 w20 (wr ((((w20.getD []).length : Nat) : Int) - 1)) (⟨a92.top, c104, c109⟩ : Line)), wr (w25 + 1)))
  else
    some (.inr w20)
def s0_q47 (boxes_ : Sl Box) : ((Sl Int) × Int) → Option (Sum ((Sl Int) × Int) (Sl Int)) := fun (w6, w9) =>
  bif decide (w9 < (((boxes_.getD []).length : Nat) : Int)) then
    kA0 (t_q48 boxes_ w6 w9 true) fun c130 =>
    some (.inl (c130, wr (w9 + 1)))
  else
    some (.inr w6)
def t_q47 (boxes_ : Sl Box) (gap_ : Int) : Option (Sl Line) :=
  kA0 (kBa (s0_q47 boxes_) ((some ([] : List Int)), 0)) fun q13 =>
  kA0 (kBa (kHk boxes_ gap_ q13) ((some ([] : List Line)), 0)) fun q29 =>
  some q29
theorem tl1_q47 (env : Nat → Contract) {B : Base} (he_q39 : env n_q39 = .pure (T2 (fun a b : Int => max a b))) (he_q48 : env n_q48 = .pure (C4 (fun c : (Sl Int) => rS c) t_q48)) (boxes_ : Sl Box) (gap_ : Int) (x1 : AV) (z12 : AV) (q13 : Sl Int) (q14 : Int) (x15 : AV)  : kG7 (fun (st : (Sl Line) × Int) tm h23 => match st with | (w20, w25) => ∃ z19, ∃ ps21 : PS Line, tm = ((Sl.enc boxes_) :: (iv gap_) :: und :: und :: kBd :: z12 :: (iv q14) :: z19 :: (iv w25) :: .top :: .top :: .top :: x1 :: .top :: .top :: .top :: .top :: .top :: .top :: .top :: .top :: .top :: .top :: x15 :: tZ9 68 [und]) ∧ pj ps21 = w20 ∧ Hold B h23 ([(z12, obS (q13 : Sl Int))] ++ D2 (A := Line) z19 ps21)) hm1_q47 xm1_q47 (lb1_q47 env) (kHk boxes_ gap_ q13) (fun (q : Sl Line) (r : Res) => match q with | q29 => ∃ (q32 : Int) (z28 : AV) (z33 : AV) (z34 : AV) (z35 : AV) (ps30 : PS Line) (h26 : kA4), r = (.exit 2, ((Sl.enc boxes_) :: (iv gap_) :: und :: und :: kBd :: z12 :: (iv q14) :: z28 :: (iv q32) :: z33 :: z34 :: z35 :: x1 :: .top :: .top :: .top :: .top :: .top :: .top :: .top :: .top :: .top :: .top :: x15 :: tZ9 68 [und]), h26) ∧ pj ps30 = q29 ∧ Hold B h26 ([(z12, obS (q13 : Sl Int))] ++ D2 (A := Line) z28 ps30)) := by
  refine @kGi _ _ _ _ _ _ _ _ (fun st tm h23 R => ?_)
  obtain ⟨w20, w25⟩ := st
  obtain ⟨z19, ps21, rfl, hp22, O24⟩ := R
  rw [e_lb1_q47]
  unfold kHk
  dsimp only
  refine kA1 (v := iv (((q13.getD []).length : Nat) : Int)) (O24.tab (A := Int) (s := q13) 0 rfl).len ?_
  refine kA1 (kAa _ _) ?_
  refine kA9 (fun c37 => ?_) (fun c37 => ?_)
  · refine kAg (O24.tab (A := Int) (s := q13) 0 rfl) (fun m39 a38 hi40 hm41 => ?_)
    refine kA1 (v := iv a38) ((O24.tab (A := Int) (s := q13) 0 rfl).ld hm41 false 1 0) ?_
    refine kAg (Tab.enc h23 boxes_) (fun m43 a42 hi44 hm45 => ?_)
    refine kA1 (v := AV.agg [iv a42.x1, iv a42.y1, iv a42.x2, iv a42.y2]) ((Tab.enc h23 boxes_).ld hm45 true 4 0) ?_
    refine kGc O24 (cs := [iv 0, iv 0, iv 0, iv 0]) (by first | rfl | simp) (fun o46 h47 O48 => ?_)
    replace O48 : Hold B h47 ([(z12, obS (q13 : Sl Int)), pZ9 o46 4 [iv 0, iv 0, iv 0, iv 0]] ++ D2 (A := Line) z19 ps21) := Hold.rot O48
    refine kEz O48 1 (cs' := [iv a42.x1, iv a42.y1, iv a42.x2, iv a42.y2]) rfl (by first | rfl | simp) (by simp) (by first | rfl | simp) (by first | rfl | simp [kBe]) (fun h50 O51 => ?_)
    replace O51 : Hold B h50 ([(z12, obS (q13 : Sl Int)), pZ9 o46 4 [iv a42.x1, iv a42.y1, iv a42.x2, iv a42.y2]] ++ D2 (A := Line) z19 ps21) := O51
    refine kA1 (D2.lenS (l := [(z12, obS (q13 : Sl Int)), pZ9 o46 4 [iv a42.x1, iv a42.y1, iv a42.x2, iv a42.y2]]) (x := z19) (ps := ps21) (A := Line) O51 hp22) ?_
    refine kA1 (aCmp_eq _ _) ?_
    refine sim_g11F (e := bv) (fun hb52 => ?_) (fun y60 y61 y62 y63 y64 y65 y66 y67 y68 y69 c59 => ?_)
    · refine kDt ?_
      refine kA1 (v := AV.ptr o46 1 0 1) rfl ?_
      refine kC1 ?_
      refine kDt ?_
      refine kA1 (v := iv a42.y1) (O51.ld 1 rfl false 1 1) ?_
      refine kC1 ?_
      refine kC1 ?_
      refine kC1 ?_
      refine kDt ?_
      refine kA1 (kAp _ _) ?_
      refine kC1 ?_
      refine kDt ?_
      refine kD4 (l := [(z12, obS (q13 : Sl Int)), pZ9 o46 4 [iv a42.x1, iv a42.y1, iv a42.x2, iv a42.y2]]) (x := z19) (ps := ps21) (A := Line) O51 hp22 (fun m54 a53 x57 hi55 hm56 hg58 => ?_)
      refine kC1 ?_
      refine kDt ?_
      refine kA1 (v := elp z19 m54 1) (D2.fld (l := [(z12, obS (q13 : Sl Int)), pZ9 o46 4 [iv a42.x1, iv a42.y1, iv a42.x2, iv a42.y2]]) (x := z19) (ps := ps21) (A := Line) O51 hm56 _ _) ?_
      refine kC1 ?_
      refine kDt ?_
      refine kA1 (v := iv a53.bottom) (D2.ld (l := [(z12, obS (q13 : Sl Int)), pZ9 o46 4 [iv a42.x1, iv a42.y1, iv a42.x2, iv a42.y2]]) (x := z19) (ps := ps21) (A := Line) O51 hm56 false 1 1) ?_
      refine kC1 ?_
      refine kC1 ?_
      refine kDt ?_
      refine kA1 (kAi _ _) ?_
      refine kC1 ?_
      refine kA1 (kE4 _ _) ?_
      exact kA6 rfl
    · refine kA1 (v := bv (bif decide ((((w20.getD []).length : Nat) : Int) = 0) then true else c59)) (kF7 _ _ _) ?_
      refine kA9 (fun c70 => ?_) (fun c70 => ?_)
      · refine kA1 (v := AV.ptr o46 1 0 1) rfl ?_
        refine kA1 (v := iv a42.y1) (O51.ld 1 rfl false 1 1) ?_
        refine kA1 (v := AV.ptr o46 1 0 3) rfl ?_
        refine kA1 (v := iv a42.y2) (O51.ld 1 rfl false 1 3) ?_
        refine kAg (O51.tab (A := Int) (s := q13) 0 rfl) (fun m72 a71 hi73 hm74 => ?_)
        refine kA1 (v := iv a71) ((O51.tab (A := Int) (s := q13) 0 rfl).ld hm74 false 1 0) ?_
        refine kBu (A := Int) O51 ([a71] : List Int) rfl (by first | rfl | simp [kB9, kCy]) rfl (fun x75 h76 O77 => ?_)
        replace O77 : Hold B h76 ([(z12, obS (q13 : Sl Int)), pZ9 o46 4 [iv a42.x1, iv a42.y1, iv a42.x2, iv a42.y2], (x75, obS ((some ([a71] : List Int)) : Sl Int))] ++ D2 (A := Line) z19 ps21) := Hold.rot O77
        have jZ0 := O77.one (A := Int) (s := (some ([a71] : List Int))) 2 rfl
        refine kA1 (v := AV.agg [iv a42.y1, iv a42.y2, x75]) (by first | rfl | simp [kIf, aFill, kBe, jZ0.1, jZ0.2]) ?_
        have jZ0 := O77.one (A := Int) (s := (some ([a71] : List Int))) 2 rfl
        refine kCn O77 [[iv a42.y1, iv a42.y2, x75]] 3 rfl (by first | rfl | simp [kB9, kCy, jZ0.1, jZ0.2]) rfl (fun x79 h80 O81 => ?_)
        replace O81 : Hold B h80 ([(z12, obS (q13 : Sl Int)), pZ9 o46 4 [iv a42.x1, iv a42.y1, iv a42.x2, iv a42.y2], (x75, obS ((some ([a71] : List Int)) : Sl Int)), (x79, .sl 3 [[iv a42.y1, iv a42.y2, x75]])] ++ D2 (A := Line) z19 ps21) := Hold.rot O81
        have O83 : Hold B h80 ([(z12, obS (q13 : Sl Int)), pZ9 o46 4 [iv a42.x1, iv a42.y1, iv a42.x2, iv a42.y2], (x75, obS ((some ([a71] : List Int)) : Sl Int)), (x79, .sl 3 [[iv a42.y1, iv a42.y2, x75]])] ++ D2 (A := Line) z19 ps21) := O81.selD [0, 1, 2, 3] (by decide) rfl
        refine sim_push (l := [(z12, obS (q13 : Sl Int)), pZ9 o46 4 [iv a42.x1, iv a42.y1, iv a42.x2, iv a42.y2]]) (a := (⟨a42.y1, a42.y2, (some ([a71] : List Int))⟩ : Line)) (y := x75) (x := z19) (ps := ps21) O83 hp22 (by decide) (fun x84 ps87 h85 hp88 hm89 O86 => ?_)
        refine kA1 (kAi _ _) ?_
        have O91 : Hold B h85 ([(z12, obS (q13 : Sl Int))] ++ D2 (A := Line) x84 ps87) := O86.selD [0] (by decide) rfl
        exact kA6 ⟨rfl, _, _, rfl, hp88, O91⟩
      · refine kA1 (kAp _ _) ?_
        refine kD4 (l := [(z12, obS (q13 : Sl Int)), pZ9 o46 4 [iv a42.x1, iv a42.y1, iv a42.x2, iv a42.y2]]) (x := z19) (ps := ps21) (A := Line) O51 hp22 (fun m93 a92 x96 hi94 hm95 hg97 => ?_)
        refine kA1 (v := AV.agg [iv a92.top, iv a92.bottom, x96]) (D2.ld (l := [(z12, obS (q13 : Sl Int)), pZ9 o46 4 [iv a42.x1, iv a42.y1, iv a42.x2, iv a42.y2]]) (x := z19) (ps := ps21) (A := Line) O51 hm95 true 3 0) ?_
        refine kGc O51 (cs := [iv 0, iv 0, kBd]) (by first | rfl | simp) (fun o98 h99 O100 => ?_)
        replace O100 : Hold B h99 ([(z12, obS (q13 : Sl Int)), pZ9 o46 4 [iv a42.x1, iv a42.y1, iv a42.x2, iv a42.y2], pZ9 o98 3 [iv 0, iv 0, kBd]] ++ D2 (A := Line) z19 ps21) := Hold.rot O100
        have jZ0 := D2.one (l := [(z12, obS (q13 : Sl Int)), pZ9 o46 4 [iv a42.x1, iv a42.y1, iv a42.x2, iv a42.y2], pZ9 o98 3 [iv 0, iv 0, kBd]]) (x := z19) (ps := ps21) (A := Line) O100 hm95
        refine kEz O100 2 (cs' := [iv a92.top, iv a92.bottom, x96]) rfl (by first | rfl | simp [jZ0.1, jZ0.2]) (by simp) (by first | rfl | simp [jZ0.1, jZ0.2]) (by first | rfl | simp [kBe, jZ0.1, jZ0.2]) (fun h102 O103 => ?_)
        replace O103 : Hold B h102 ([(z12, obS (q13 : Sl Int)), pZ9 o46 4 [iv a42.x1, iv a42.y1, iv a42.x2, iv a42.y2], pZ9 o98 3 [iv a92.top, iv a92.bottom, x96]] ++ D2 (A := Line) z19 ps21) := O103
        refine kA1 (kAp _ _) ?_
        refine kA1 (v := AV.ptr o98 1 0 0) rfl ?_
        refine kA1 (v := iv a92.top) (O103.ld 2 rfl false 1 0) ?_
        refine kA1 (v := AV.ptr o98 1 0 1) rfl ?_
        refine kA1 (v := iv a92.bottom) (O103.ld 2 rfl false 1 1) ?_
        refine kA1 (v := AV.ptr o46 1 0 3) rfl ?_
        refine kA1 (v := iv a42.y2) (O103.ld 1 rfl false 1 3) ?_
        refine kE2 (t := (fun a b : Int => max a b)) he_q39 (kAj _ _) (kAj _ _) (fun c104 => ?_)
        refine kA1 (v := AV.ptr o98 1 0 2) rfl ?_
        refine kA1 (v := x96) (O103.ld 2 rfl false 1 2) ?_
        refine kAg (O103.tab (A := Int) (s := q13) 0 rfl) (fun m106 a105 hi107 hm108 => ?_)
        refine kA1 (v := iv a105) ((O103.tab (A := Int) (s := q13) 0 rfl).ld hm108 false 1 0) ?_
        refine sim_callQ4 he_q48 (kBc _ _) ((D2.tab (l := [(z12, obS (q13 : Sl Int)), pZ9 o46 4 [iv a42.x1, iv a42.y1, iv a42.x2, iv a42.y2], pZ9 o98 3 [iv a92.top, iv a92.bottom, x96]]) (x := z19) (ps := ps21) (A := Line) O103 hm95).snap) (kAj _ _) (snapD_bool _ _) (fun c109 => ?_)
        refine kEi (A := Int) O103 (fun x111 h112 O113 => ?_)
        replace O113 : Hold B h112 ([(z12, obS (q13 : Sl Int)), pZ9 o46 4 [iv a42.x1, iv a42.y1, iv a42.x2, iv a42.y2], pZ9 o98 3 [iv a92.top, iv a92.bottom, x96], (x111, obS (c109 : Sl Int))] ++ D2 (A := Line) z19 ps21) := Hold.rot O113
        have jZ0 := O113.one (A := Int) (s := c109) 3 rfl
        refine kA1 (v := AV.agg [iv a92.top, iv c104, x111]) (by first | rfl | simp [kIf, aFill, kBe, jZ0.1, jZ0.2]) ?_
        refine kD4 (l := [(z12, obS (q13 : Sl Int)), pZ9 o46 4 [iv a42.x1, iv a42.y1, iv a42.x2, iv a42.y2], pZ9 o98 3 [iv a92.top, iv a92.bottom, x96], (x111, obS (c109 : Sl Int))]) (x := z19) (ps := ps21) (A := Line) O113 hp22 (fun m115 a114 x118 hi116 hm117 hg119 => ?_)
        have O122 := O113
        refine sim_setRowA (l := [(z12, obS (q13 : Sl Int)), pZ9 o46 4 [iv a42.x1, iv a42.y1, iv a42.x2, iv a42.y2], pZ9 o98 3 [iv a92.top, iv a92.bottom, x96]]) (x := z19) (ps := ps21) (a' := (⟨a92.top, c104, c109⟩ : Line)) (y' := x111) O122 hp22 hi116 hm117 (by first | rfl | simp [Inn.row]) rfl (fun ps123 h120 hp124 O121 => ?_)
        refine kA1 (kAi _ _) ?_
        have O125 : Hold B h120 ([(z12, obS (q13 : Sl Int))] ++ D2 (A := Line) z19 ps123) := O121.selD [0] (by decide) rfl
        exact kA6 ⟨rfl, _, _, rfl, hp124, O125⟩
  · exact kA6 ⟨nofun, _, _, _, _, _, _, _, rfl, hp22, O24⟩
theorem tl0_q47 (env : Nat → Contract) {B : Base} (he_q39 : env n_q39 = .pure (T2 (fun a b : Int => max a b))) (he_q48 : env n_q48 = .pure (C4 (fun c : (Sl Int) => rS c) t_q48)) (boxes_ : Sl Box) (gap_ : Int) (x1 : AV)  : kG7 (fun (st : (Sl Int) × Int) tm h7 => match st with | (w6, w9) => ∃ z5, tm = ((Sl.enc boxes_) :: (iv gap_) :: und :: und :: kBd :: z5 :: (iv w9) :: und :: und :: und :: und :: und :: x1 :: tZ9 10 [und, und, und, und, und, und, und, und, und, und, und, und, und, und, und, und, und, und, und, und, und, und, und, und, und, und, und, und, und, und, und, und, und, und, und, und, und, und, und, und, und, und, und, und, und, und, und, und, und, und, und, und, und, und, und, und, und, und, und, und, und, und, und, und, und, und, und, und, und, und]) ∧ Hold B h7 [(z5, obS (w6 : Sl Int))]) hm0_q47 xm0_q47 (lb0_q47 env) (s0_q47 boxes_) (fun (q : Sl Int) (r : Res) => match q with | q13 => ∃ (q14 : Int) (z12 : AV) (h10 : kA4), r = (.exit 0, ((Sl.enc boxes_) :: (iv gap_) :: und :: und :: kBd :: z12 :: (iv q14) :: und :: und :: und :: und :: und :: x1 :: tZ9 10 [und, und, und, und, und, und, und, und, und, und, und, und, und, und, und, und, und, und, und, und, und, und, und, und, und, und, und, und, und, und, und, und, und, und, und, und, und, und, und, und, und, und, und, und, und, und, und, und, und, und, und, und, und, und, und, und, und, und, und, und, und, und, und, und, und, und, und, und, und, und]), h10) ∧ Hold B h10 [(z12, obS (q13 : Sl Int))]) := by
  refine @kGi _ _ _ _ _ _ _ _ (fun st tm h7 R => ?_)
  obtain ⟨w6, w9⟩ := st
  obtain ⟨z5, rfl, O8⟩ := R
  rw [e_lb0_q47]
  unfold s0_q47
  dsimp only
  refine kA1 (Tab.enc h7 boxes_).len ?_
  refine kA1 (kAa _ _) ?_
  refine kA9 (fun c129 => ?_) (fun c129 => ?_)
  · refine sim_call4 he_q48 (kBc _ _) ((O8.tab (A := Int) (s := w6) 0 rfl).snap) (kAj _ _) (snapD_bool _ _) (fun c130 => ?_)
    refine kEi (A := Int) O8 (fun x132 h133 O134 => ?_)
    replace O134 : Hold B h133 [(z5, obS (w6 : Sl Int)), (x132, obS (c130 : Sl Int))] := O134
    refine kA1 (kAi _ _) ?_
    have O135 : Hold B h133 [(x132, obS (c130 : Sl Int))] := O134.sel [1] (by decide) rfl
    exact kA6 ⟨rfl, _, rfl, O135⟩
  · exact kA6 ⟨nofun, _, _, _, rfl, O8⟩
theorem ts_q47 (env : Nat → Contract) (he_q39 : env n_q39 = .pure (T2 (fun a b : Int => max a b))) (he_q48 : env n_q48 = .pure (C4 (fun c : (Sl Int) => rS c) t_q48)) (boxes_ : Sl Box) (gap_ : Int) : Sim (kAo Try.prog env n_q47 [Sl.enc boxes_, iv gap_] []) (t_q47 boxes_ gap_) fun c p => release p.2 depth p.1 = some ((fun c : (Sl Line) => rD c) c) := by
  have O := Hold.nil []
  generalize hB : (⟨[], []⟩ : Base) = B at O
  clear hB
  rw [e_q47]
  unfold t_q47
  refine kBu (A := Int) O ([] : List Int) rfl (by first | rfl | simp [kB9, kCy]) rfl (fun x1 h2 O3 => ?_)
  replace O3 : Hold B h2 [(x1, obS ((some ([] : List Int)) : Sl Int))] := O3
  refine kB2 ((tl0_q47 env he_q39 he_q48 boxes_ gap_ x1) ⟨_, rfl, O3⟩) (fun qq138 r hq => ?_)
  revert hq
  revert qq138
  intro q13 hq
  obtain ⟨q14, z12, h10, rfl, O11⟩ := hq
  rw [e_lk0x0_q47]
  refine kCn O11 [] 3 rfl rfl rfl (fun x15 h16 O17 => ?_)
  replace O17 : Hold B h16 ([(z12, obS (q13 : Sl Int))] ++ D2 (A := Line) x15 (some [] : PS Line)) := O17
  refine kB2 ((tl1_q47 env he_q39 he_q48 boxes_ gap_ x1 z12 q13 q14 x15) ⟨_, _, rfl, (rfl : pj (some [] : PS Line) = (some ([] : List Line))), O17⟩) (fun qq128 r hq => ?_)
  revert hq
  revert qq128
  intro q29 hq
  obtain ⟨q32, z28, z33, z34, z35, ps30, h26, rfl, hp31, O27⟩ := hq
  rw [e_lk1x2_q47]
  have O36 : Hold B h26 ([] ++ D2 (A := Line) z28 ps30) := O27.selD [] (by decide) rfl
  exact kA6 (kEp (by simp only [ids_tup, kH4, ids_agg, ids_iv, ids_bv, ids_sv, ids_bt, kGv, ids_enc, D2.ids8 (l := []) (x := z28) (ps := ps30) (A := Line) O36, List.map_append, List.map_nil, List.flatMap_cons, List.flatMap_nil, List.append_nil, List.nil_append]; simpa only [List.flatMap_cons, List.flatMap_nil, List.append_nil, List.nil_append] using O36.nd2) (by simp only [rel_tup, kGu, kHp, rel_iv, rel_bv, rel_sv, rel_bt, kGz, rel_enc, D2.rel8 (l := []) (x := z28) (ps := ps30) (A := Line) O36 hp31, omapc, omapn, kA2] <;> rfl))
theorem tt_q47 : kAs Try.prog n_q47 (C2 (fun c : (Sl Line) => rD c) t_q47) := kGh (kC3 ok_q39 (kC3 tt_q48 E0)) mixed hb_q47 fun boxes_ gap_ => ts_q47 _ (by simp [kCa]) (by simp [kCa]) boxes_ gap_
def s0_q29 (p_ : Box → Option Bool) (s_ : Sl Box) : Int → Option (Sum Int (Sum Unit Int)) := fun w3 =>
  bif decide (w3 < (((s_.getD []).length : Nat) : Int)) then
    kA0 (kBp (s_.getD []) w3) fun a13 =>
    kA0 (p_ a13) fun c17 =>
    bif c17 then
      some (.inr (.inr w3))
    else
      some (.inl (wr (w3 + 1)))
  else
    some (.inr (.inl ()))
def t_q29 (p_ : Box → Option Bool) (s_ : Sl Box) : Option Int :=
  kA0 (kBa (s0_q29 p_ s_) 0) fun qq26 => match qq26 with
  | (.inl _) =>
      some (-1)
  | (.inr q10) =>
      some q10
theorem tl0_q29 (env : Nat → Contract) {B : Base} {K : Type} [Cod K] {g : Nat} {caps : K → List AV} {P : K → Box → Option Bool} (hp : ∀ k (a : Box) h, Sim (kAx (env g) (AV.agg (Row.cells a) :: caps k) h) (P k a) fun b r => r = (bv b, h))  (s_ : Sl Box) (f_ : K)  : kG7 (fun (st : Int) tm h1 => match st with | w3 => tm = ((Sl.enc s_) :: (AV.fn g (caps f_)) :: und :: und :: .top :: .top :: (Sl.enc s_) :: (iv (((s_.getD []).length : Nat) : Int)) :: (iv w3) :: tZ9 10 []) ∧ Hold B h1 []) hm0_q29 xm0_q29 (lb0_q29 env) (s0_q29 (P f_) s_) (fun (q : Sum Unit Int) (r : Res) => match q with | .inl _ => ∃ (z6 : AV) (z7 : AV) (h4 : kA4), r = (.exit 0, ((Sl.enc s_) :: (AV.fn g (caps f_)) :: und :: und :: z6 :: z7 :: (Sl.enc s_) :: (iv (((s_.getD []).length : Nat) : Int)) :: tZ9 11 []), h4) ∧ Hold B h4 [] | .inr q10 => ∃ (q11 : Int) (h8 : kA4), r = (.ret, ((Sl.enc s_) :: (AV.fn g (caps f_)) :: und :: und :: (iv q10) :: (iv q11) :: (Sl.enc s_) :: (iv (((s_.getD []).length : Nat) : Int)) :: tZ9 11 []), h8) ∧ Hold B h8 []) := by
  refine @kGi _ _ _ _ _ _ _ _ (fun w3 tm h1 R => ?_)
  obtain ⟨rfl, O2⟩ := R
  rw [e_lb0_q29]
  unfold s0_q29
  dsimp only
  refine kA1 (kAa _ _) ?_
  refine kA9 (fun c12 => ?_) (fun c12 => ?_)
  · refine kAg (Tab.enc h1 s_) (fun m14 a13 hi15 hm16 => ?_)
    refine kA1 (v := AV.agg [iv a13.x1, iv a13.y1, iv a13.x2, iv a13.y2]) ((Tab.enc h1 s_).ld hm16 true 4 0) ?_
    refine kGl (hp f_ a13 _) (fun c17 v18 hh19 hq20 => ?_)
    cases hq20
    refine kA9 (fun c21 => ?_) (fun c21 => ?_)
    · exact kA6 ⟨nofun, _, _, rfl, O2⟩
    · refine kA1 (kAi _ _) ?_
      exact kA6 ⟨rfl, rfl, O2⟩
  · exact kA6 ⟨nofun, _, _, _, rfl, O2⟩
theorem ts_q29 (env : Nat → Contract) {K : Type} [Cod K] {g : Nat} {caps : K → List AV} {P : K → Box → Option Bool} (hp : ∀ k (a : Box) h, Sim (kAx (env g) (AV.agg (Row.cells a) :: caps k) h) (P k a) fun b r => r = (bv b, h))  (s_ : Sl Box) (f_ : K) : Sim (kAo Try.prog env n_q29 [Sl.enc s_, AV.fn g (caps f_)] []) (t_q29 (P f_) s_) fun c p => release p.2 depth p.1 = some ((fun c : Int => enc c) c) := by
  have O := Hold.nil []
  generalize hB : (⟨[], []⟩ : Base) = B at O
  clear hB
  rw [e_q29]
  unfold t_q29
  refine kA1 (v := iv (((s_.getD []).length : Nat) : Int)) (Tab.enc [] s_).len ?_
  refine kB2 ((tl0_q29 env hp s_ f_) ⟨rfl, O⟩) (fun qq26 r hq => ?_)
  rcases qq26 with _ | q10
  · obtain ⟨z6, z7, h4, rfl, O5⟩ := hq
    rw [e_lk0x0_q29]
    exact kA6 (kA8 (by rfl) _)
  · obtain ⟨q11, h8, rfl, O9⟩ := hq
    rw [e_lk0r_q29]
    exact kA6 (kA8 (by rfl) _)
theorem kCv {g : Nat} {t : Box → Option Bool} (hg : kAs Try.prog g (C1 (fun c : Bool => enc c) t)) : kAs Try.prog n_q29 (C2 (fun c : Int => enc c) (fun (q : Sl Box) (k : Clo0 g) => t_q29 ((fun _ : Clo0 g => t) k) q)) := kGh (kC3 hg E0) mixed hb_q29 fun q k => ts_q29 _ (caps := fun _ => []) (P := (fun _ : Clo0 g => t)) (fun k a h => callP0 (by simp [kCa]) (kIb _ a rfl)) q k
def t_q28 (p_ : Box → Option Bool) (s_ : Sl Box) : Option Bool :=
  kA0 (t_q29 p_ s_) fun c1 =>
  some (decide (0 ≤ c1))
theorem ts_q28 (env : Nat → Contract) {K : Type} [Cod K] {g : Nat} {caps : K → List AV} {P : K → Box → Option Bool} (hs : ∀ k h, snapD h (AV.fn g (caps k)) = some k) (he_q29 : env n_q29 = .pure (C2 (fun c : Int => enc c) (fun (q : Sl Box) (k : K) => t_q29 (P k) q))) (s_ : Sl Box) (f_ : K) : Sim (kAo Try.prog env n_q28 [Sl.enc s_, AV.fn g (caps f_)] []) (t_q28 (P f_) s_) fun c p => release p.2 depth p.1 = some ((fun c : Bool => enc c) c) := by
  have O := Hold.nil []
  generalize hB : (⟨[], []⟩ : Base) = B at O
  clear hB
  rw [e_q28]
  unfold t_q28
  refine kC6 (t := fun (q : Sl Box) (k : K) => t_q29 (P k) q) he_q29 (kBc _ _) (hs f_ _) (fun c1 => ?_)
  refine kBt (kAk (by rfl) _ _) ?_
  refine kA1 (aBin_geq _ _) ?_
  exact kA6 (kA8 (by rfl) _)
theorem kCk {g : Nat} {t : Box → Option Bool} (hg : kAs Try.prog g (C1 (fun c : Bool => enc c) t)) : kAs Try.prog n_q28 (C2 (fun c : Bool => enc c) (fun (q : Sl Box) (k : Clo0 g) => t_q28 ((fun _ : Clo0 g => t) k) q)) := kGh (kC3 (kCv hg) E0) mixed hb_q28 fun q k => ts_q28 _ (caps := fun _ => []) (P := (fun _ : Clo0 g => t)) (fun k h => snapD_clo0 h g) (by simp [kCa]) q k
def t_q7 (boxes_ : Sl Box) : Option Bool :=
  kA0 (bif decide ((((boxes_.getD []).length : Nat) : Int) ≤ 60) then (kA0 (t_q28 (fun a => some ((fun b : Box => !kB6 b) a)) boxes_) fun c2 => some (!c2)) else some false) fun c3 =>
  some (bif decide ((((boxes_.getD []).length : Nat) : Int) ≤ 60) then c3 else false)
theorem ts_q7 (env : Nat → Contract) (he_q28 : env n_q28 = .pure (C2 (fun c : Bool => enc c) (fun (q : Sl Box) (k : Clo0 n_q8) => t_q28 ((fun _ : Clo0 n_q8 => (fun a => some ((fun b : Box => !kB6 b) a))) k) q))) (boxes_ : Sl Box) : Sim (kAo Try.prog env n_q7 [Sl.enc boxes_] []) (t_q7 boxes_) fun c p => release p.2 depth p.1 = some ((fun c : Bool => enc c) c) := by
  have O := Hold.nil []
  generalize hB : (⟨[], []⟩ : Base) = B at O
  clear hB
  rw [e_q7]
  unfold t_q7
  refine kA1 (v := iv (((boxes_.getD []).length : Nat) : Int)) (Tab.enc [] boxes_).len ?_
  refine kA1 (aBin_leq _ _) ?_
  refine kBo (e := bv) (fun hb1 => ?_) (fun c3 => ?_)
  · refine kC6 (t := fun (q : Sl Box) (k : Clo0 n_q8) => t_q28 ((fun _ : Clo0 n_q8 => (fun a => some ((fun b : Box => !kB6 b) a))) k) q) he_q28 (kBc _ _) (snapD_clo0 _ _) (fun c2 => ?_)
    refine kBt (kAk (by rfl) _ _) ?_
    refine kA1 (v := bv (!c2)) (kCg _) ?_
    exact kA6 rfl
  · refine kA1 (v := bv (bif decide ((((boxes_.getD []).length : Nat) : Int) ≤ 60) then c3 else false)) (kEg _ _ _) ?_
    exact kA6 (kA8 (by rfl) _)
theorem tt_q7 : kAs Try.prog n_q7 (C1 (fun c : Bool => enc c) t_q7) := pureC1 (kC3 (kCk (C1_T1 ok_q8)) E0) mixed hb_q7 fun boxes_ => ts_q7 _ (by simp [kCa]) boxes_
def kEb (i_ : Int) (j_ : Int) (cap0_ : (Sl Box)) : Option Int :=
  kA0 (kBp (cap0_.getD []) i_) fun a1 =>
  kA0 (kBp (cap0_.getD []) j_) fun a5 =>
  kA0 (some (cmpI a1.y1 a5.y1)) fun c9 =>
  some c9
def tp_q12 (i_ : Int) (j_ : Int) (cap0_p : Pt (Sl Box)) : Option Int := kA0 cap0_p.get fun cap0_ => kEb i_ j_ cap0_
theorem ts_q12 (env : Nat → Contract) (he_q0 : env n_q0 = .pure (T2 cmpI)) (i_ : Int) (j_ : Int) (cap0_ : (Sl Box)) {cap0_p : Pt (Sl Box)} (hp_cap0_ : cap0_p.get = some cap0_) : Sim (kAo Try.prog env kDp [iv i_, iv j_, AV.fptr (Row.w (Sl Box)) (cap0_p.tab.map Row.cells) cap0_p.i 0] []) (kEb i_ j_ cap0_) fun c p => release p.2 depth p.1 = some ((fun c : Int => enc c) c) := by
  have O := Hold.nil []
  generalize hB : (⟨[], []⟩ : Base) = B at O
  clear hB
  rw [e_q12]
  unfold kEb
  refine kA1 (v := Sl.enc cap0_) (ld_pt hp_cap0_ false 1 0) ?_
  refine kAg (Tab.enc [] cap0_) (fun m2 a1 hi3 hm4 => ?_)
  refine kA1 (v := elp (Sl.enc cap0_) m2 1) ((Tab.enc [] cap0_).fld _ _ _) ?_
  refine kA1 (v := iv a1.y1) ((Tab.enc [] cap0_).ld hm4 false 1 1) ?_
  refine kA1 (v := Sl.enc cap0_) (ld_pt hp_cap0_ false 1 0) ?_
  refine kAg (Tab.enc [] cap0_) (fun m6 a5 hi7 hm8 => ?_)
  refine kA1 (v := elp (Sl.enc cap0_) m6 1) ((Tab.enc [] cap0_).fld _ _ _) ?_
  refine kA1 (v := iv a5.y1) ((Tab.enc [] cap0_).ld hm8 false 1 1) ?_
  refine kE2 (t := cmpI) he_q0 (kAj _ _) (kAj _ _) (fun c9 => ?_)
  exact kA6 (kA8 (by rfl) _)
theorem tt_q12 : kAs Try.prog kDp (C3 (fun c : Int => enc c) tp_q12) := kIo (kC3 ok_q0 E0) mixed hb_q12 fun i_ j_ cap0_p => sim_getP fun cap0_ hp_cap0_ => ts_q12 _ (by simp [kCa]) i_ j_ cap0_ hp_cap0_
def t_q10 (i_ : Int) (j_ : Int) (cap0_ : (Sl Box)) : Option Int :=
  kA0 (kBp (cap0_.getD []) i_) fun a1 =>
  kA0 (kBp (cap0_.getD []) j_) fun a5 =>
  kA0 (some (cmpI a1.x1 a5.x1)) fun c9 =>
  kA0 (kBp (cap0_.getD []) i_) fun a10 =>
  kA0 (kBp (cap0_.getD []) j_) fun a14 =>
  kA0 (some (cmpI a10.x2 a14.x2)) fun c18 =>
  kA0 (some (cmpI i_ j_)) fun c19 =>
  kA0 (t_q1 (some ([c9, c18, c19] : List Int))) fun c24 =>
  some c24
def tp_q10 (i_ : Int) (j_ : Int) (cap0_p : Pt (Sl Box)) : Option Int := kA0 cap0_p.get fun cap0_ => t_q10 i_ j_ cap0_
theorem ts_q10 (env : Nat → Contract) (he_q0 : env n_q0 = .pure (T2 cmpI)) (he_q1 : env n_q1 = .pure (C1 (fun c : Int => enc c) t_q1)) (i_ : Int) (j_ : Int) (cap0_ : (Sl Box)) {cap0_p : Pt (Sl Box)} (hp_cap0_ : cap0_p.get = some cap0_) : Sim (kAo Try.prog env kFi [iv i_, iv j_, AV.fptr (Row.w (Sl Box)) (cap0_p.tab.map Row.cells) cap0_p.i 0] []) (t_q10 i_ j_ cap0_) fun c p => release p.2 depth p.1 = some ((fun c : Int => enc c) c) := by
  have O := Hold.nil []
  generalize hB : (⟨[], []⟩ : Base) = B at O
  clear hB
  rw [e_q10]
  unfold t_q10
  refine kA1 (v := Sl.enc cap0_) (ld_pt hp_cap0_ false 1 0) ?_
  refine kAg (Tab.enc [] cap0_) (fun m2 a1 hi3 hm4 => ?_)
  refine kA1 (v := elp (Sl.enc cap0_) m2 0) ((Tab.enc [] cap0_).fld _ _ _) ?_
  refine kA1 (v := iv a1.x1) ((Tab.enc [] cap0_).ld hm4 false 1 0) ?_
  refine kA1 (v := Sl.enc cap0_) (ld_pt hp_cap0_ false 1 0) ?_
  refine kAg (Tab.enc [] cap0_) (fun m6 a5 hi7 hm8 => ?_)
  refine kA1 (v := elp (Sl.enc cap0_) m6 0) ((Tab.enc [] cap0_).fld _ _ _) ?_
  refine kA1 (v := iv a5.x1) ((Tab.enc [] cap0_).ld hm8 false 1 0) ?_
  refine kE2 (t := cmpI) he_q0 (kAj _ _) (kAj _ _) (fun c9 => ?_)
  refine kA1 (v := Sl.enc cap0_) (ld_pt hp_cap0_ false 1 0) ?_
  refine kAg (Tab.enc [] cap0_) (fun m11 a10 hi12 hm13 => ?_)
  refine kA1 (v := elp (Sl.enc cap0_) m11 2) ((Tab.enc [] cap0_).fld _ _ _) ?_
  refine kA1 (v := iv a10.x2) ((Tab.enc [] cap0_).ld hm13 false 1 2) ?_
  refine kA1 (v := Sl.enc cap0_) (ld_pt hp_cap0_ false 1 0) ?_
  refine kAg (Tab.enc [] cap0_) (fun m15 a14 hi16 hm17 => ?_)
  refine kA1 (v := elp (Sl.enc cap0_) m15 2) ((Tab.enc [] cap0_).fld _ _ _) ?_
  refine kA1 (v := iv a14.x2) ((Tab.enc [] cap0_).ld hm17 false 1 2) ?_
  refine kE2 (t := cmpI) he_q0 (kAj _ _) (kAj _ _) (fun c18 => ?_)
  refine kE2 (t := cmpI) he_q0 (kAj _ _) (kAj _ _) (fun c19 => ?_)
  refine kBu (A := Int) O ([c9, c18, c19] : List Int) rfl (by first | rfl | simp [kB9, kCy]) rfl (fun x20 h21 O22 => ?_)
  replace O22 : Hold B h21 [(x20, obS ((some ([c9, c18, c19] : List Int)) : Sl Int))] := O22
  refine sim_callQ1 he_q1 ((O22.tab (A := Int) (s := (some ([c9, c18, c19] : List Int))) 0 rfl).snap) (fun c24 => ?_)
  refine kBt (kAk (by rfl) _ _) ?_
  exact kA6 (kA8 (by rfl) _)
theorem tt_q10 : kAs Try.prog kFi (C3 (fun c : Int => enc c) tp_q10) := kIo (kC3 ok_q0 (kC3 tt_q1 E0)) mixed hb_q10 fun i_ j_ cap0_p => sim_getP fun cap0_ hp_cap0_ => ts_q10 _ (by simp [kCa]) (by simp [kCa]) i_ j_ cap0_ hp_cap0_
def s0_q17 (a_ : Sl Box) (b_ : Sl Box) : Int → Option (Sum Int (Sum Unit Bool)) := fun w4 =>
  bif decide (w4 < (((a_.getD []).length : Nat) : Int)) then
    kA0 (kBp (a_.getD []) w4) fun a14 =>
    kA0 (kBp (b_.getD []) w4) fun a18 =>
    kA0 (some ((fun a b : Box => decide (a = b)) a14 a18)) fun c22 =>
    bif !c22 then
      some (.inr (.inr false))
    else
      some (.inl (wr (w4 + 1)))
  else
    some (.inr (.inl ()))
def t_q17 (a_ : Sl Box) (b_ : Sl Box) : Option Bool :=
  bif !decide ((((a_.getD []).length : Nat) : Int) = (((b_.getD []).length : Nat) : Int)) then
    some false
  else
    kA0 (kBa (s0_q17 a_ b_) 0) fun qq28 => match qq28 with
    | (.inl _) =>
        some true
    | (.inr q11) =>
        some q11
theorem tl0_q17 (env : Nat → Contract) {B : Base} (he_q16 : env n_q16 = .pure (T2 (fun a b : Box => decide (a = b)))) (a_ : Sl Box) (b_ : Sl Box)  : kG7 (fun (st : Int) tm h2 => match st with | w4 => tm = ((Sl.enc a_) :: (Sl.enc b_) :: und :: und :: .top :: (iv w4) :: (Sl.enc a_) :: (iv (((a_.getD []).length : Nat) : Int)) :: (Sl.enc b_) :: (iv (((b_.getD []).length : Nat) : Int)) :: (bv (!decide ((((a_.getD []).length : Nat) : Int) = (((b_.getD []).length : Nat) : Int)))) :: tZ9 16 []) ∧ Hold B h2 []) hm0_q17 xm0_q17 (lb0_q17 env) (s0_q17 a_ b_) (fun (q : Sum Unit Bool) (r : Res) => match q with | .inl _ => ∃ (q8 : Int) (z7 : AV) (h5 : kA4), r = (.exit 0, ((Sl.enc a_) :: (Sl.enc b_) :: und :: und :: z7 :: (iv q8) :: (Sl.enc a_) :: (iv (((a_.getD []).length : Nat) : Int)) :: (Sl.enc b_) :: (iv (((b_.getD []).length : Nat) : Int)) :: (bv (!decide ((((a_.getD []).length : Nat) : Int) = (((b_.getD []).length : Nat) : Int)))) :: tZ9 16 []), h5) ∧ Hold B h5 [] | .inr q11 => ∃ (q12 : Int) (h9 : kA4), r = (.ret, ((Sl.enc a_) :: (Sl.enc b_) :: und :: und :: (bv q11) :: (iv q12) :: (Sl.enc a_) :: (iv (((a_.getD []).length : Nat) : Int)) :: (Sl.enc b_) :: (iv (((b_.getD []).length : Nat) : Int)) :: (bv (!decide ((((a_.getD []).length : Nat) : Int) = (((b_.getD []).length : Nat) : Int)))) :: tZ9 16 []), h9) ∧ Hold B h9 []) := by
  refine @kGi _ _ _ _ _ _ _ _ (fun w4 tm h2 R => ?_)
  obtain ⟨rfl, O3⟩ := R
  rw [e_lb0_q17]
  unfold s0_q17
  dsimp only
  refine kA1 (Tab.enc h2 a_).len ?_
  refine kA1 (kAa _ _) ?_
  refine kA9 (fun c13 => ?_) (fun c13 => ?_)
  · refine kAg (Tab.enc h2 a_) (fun m15 a14 hi16 hm17 => ?_)
    refine kA1 (v := AV.agg [iv a14.x1, iv a14.y1, iv a14.x2, iv a14.y2]) ((Tab.enc h2 a_).ld hm17 true 4 0) ?_
    refine kAg (Tab.enc h2 b_) (fun m19 a18 hi20 hm21 => ?_)
    refine kA1 (v := AV.agg [iv a18.x1, iv a18.y1, iv a18.x2, iv a18.y2]) ((Tab.enc h2 b_).ld hm21 true 4 0) ?_
    refine kE2 (t := (fun a b : Box => decide (a = b))) he_q16 (kIb _ a14 rfl) (kIb _ a18 rfl) (fun c22 => ?_)
    refine kA1 (v := bv (!c22)) (kCg _) ?_
    refine kA9 (fun c23 => ?_) (fun c23 => ?_)
    · exact kA6 ⟨nofun, _, _, rfl, O3⟩
    · refine kA1 (kAi _ _) ?_
      exact kA6 ⟨rfl, rfl, O3⟩
  · exact kA6 ⟨nofun, _, _, _, rfl, O3⟩
theorem ts_q17 (env : Nat → Contract) (he_q16 : env n_q16 = .pure (T2 (fun a b : Box => decide (a = b)))) (a_ : Sl Box) (b_ : Sl Box) : Sim (kAo Try.prog env n_q17 [Sl.enc a_, Sl.enc b_] []) (t_q17 a_ b_) fun c p => release p.2 depth p.1 = some ((fun c : Bool => enc c) c) := by
  have O := Hold.nil []
  generalize hB : (⟨[], []⟩ : Base) = B at O
  clear hB
  rw [e_q17]
  unfold t_q17
  refine kA1 (v := iv (((a_.getD []).length : Nat) : Int)) (Tab.enc [] a_).len ?_
  refine kA1 (v := iv (((b_.getD []).length : Nat) : Int)) (Tab.enc [] b_).len ?_
  refine kA1 (kDe _ _) ?_
  refine kA9 (fun c1 => ?_) (fun c1 => ?_)
  · exact kA6 (kA8 (by rfl) _)
  · refine kB2 ((tl0_q17 env he_q16 a_ b_) ⟨rfl, O⟩) (fun qq28 r hq => ?_)
    rcases qq28 with _ | q11
    · obtain ⟨q8, z7, h5, rfl, O6⟩ := hq
      rw [e_lk0x0_q17]
      exact kA6 (kA8 (by rfl) _)
    · obtain ⟨q12, h9, rfl, O10⟩ := hq
      rw [e_lk0r_q17]
      exact kA6 (kA8 (by rfl) _)
theorem tt_q17 : kAs Try.prog n_q17 (C2 (fun c : Bool => enc c) t_q17) := kGh (kC3 ok_q16 E0) mixed hb_q17 fun a_ b_ => ts_q17 _ (by simp [kCa]) a_ b_
def s0_q20 (a_ : Sl Int) : (Int × Int) → Option (Sum (Int × Int) (Sum Int Int)) := fun (w3, w4) =>
  bif decide (w4 < (((a_.getD []).length : Nat) : Int)) then
    kA0 (kBp (a_.getD []) w4) fun a16 =>
    bif !decide (a16 = w3) then
      some (.inr (.inr (-1)))
    else
      some (.inl (wr (w3 + 1), wr (w4 + 1)))
  else
    some (.inr (.inl w3))
def t_q20 (a_ : Sl Int) (k_ : Int) : Option Int :=
  kA0 (kBa (s0_q20 a_) (k_, 0)) fun qq25 => match qq25 with
  | (.inl q7) =>
      some q7
  | (.inr q13) =>
      some q13
theorem tl0_q20 (env : Nat → Contract) {B : Base}  (a_ : Sl Int)  : kG7 (fun (st : Int × Int) tm h1 => match st with | (w3, w4) => tm = ((Sl.enc a_) :: (iv w3) :: und :: und :: .top :: (iv w4) :: tZ9 14 [und]) ∧ Hold B h1 []) hm0_q20 xm0_q20 (lb0_q20 env) (s0_q20 a_) (fun (q : Sum Int Int) (r : Res) => match q with | .inl q7 => ∃ (q9 : Int) (z8 : AV) (h5 : kA4), r = (.exit 0, ((Sl.enc a_) :: (iv q7) :: und :: und :: z8 :: (iv q9) :: tZ9 14 [und]), h5) ∧ Hold B h5 [] | .inr q13 => ∃ (q12 : Int) (q14 : Int) (h10 : kA4), r = (.ret, ((Sl.enc a_) :: (iv q12) :: und :: und :: (iv q13) :: (iv q14) :: tZ9 14 [und]), h10) ∧ Hold B h10 []) := by
  refine @kGi _ _ _ _ _ _ _ _ (fun st tm h1 R => ?_)
  obtain ⟨w3, w4⟩ := st
  obtain ⟨rfl, O2⟩ := R
  rw [e_lb0_q20]
  unfold s0_q20
  dsimp only
  refine kA1 (Tab.enc h1 a_).len ?_
  refine kA1 (kAa _ _) ?_
  refine kA9 (fun c15 => ?_) (fun c15 => ?_)
  · refine kAg (Tab.enc h1 a_) (fun m17 a16 hi18 hm19 => ?_)
    refine kA1 (v := iv a16) ((Tab.enc h1 a_).ld hm19 false 1 0) ?_
    refine kA1 (kDe _ _) ?_
    refine kA9 (fun c20 => ?_) (fun c20 => ?_)
    · exact kA6 ⟨nofun, _, _, _, rfl, O2⟩
    · refine kA1 (kAi _ _) ?_
      refine kA1 (kAi _ _) ?_
      exact kA6 ⟨rfl, rfl, O2⟩
  · exact kA6 ⟨nofun, _, _, _, rfl, O2⟩
theorem ts_q20 (env : Nat → Contract)  (a_ : Sl Int) (k_ : Int) : Sim (kAo Try.prog env n_q20 [Sl.enc a_, iv k_] []) (t_q20 a_ k_) fun c p => release p.2 depth p.1 = some ((fun c : Int => enc c) c) := by
  have O := Hold.nil []
  generalize hB : (⟨[], []⟩ : Base) = B at O
  clear hB
  rw [e_q20]
  unfold t_q20
  refine kB2 ((tl0_q20 env a_) ⟨rfl, O⟩) (fun qq25 r hq => ?_)
  rcases qq25 with q7 | q13
  · obtain ⟨q9, z8, h5, rfl, O6⟩ := hq
    rw [e_lk0x0_q20]
    exact kA6 (kA8 (by rfl) _)
  · obtain ⟨q12, q14, h10, rfl, O11⟩ := hq
    rw [e_lk0r_q20]
    exact kA6 (kA8 (by rfl) _)
theorem tt_q20 : kAs Try.prog n_q20 (C2 (fun c : Int => enc c) t_q20) := kGh E0 mixed hb_q20 fun a_ k_ => ts_q20 _  a_ k_
def s1_q44 (boxes_ : Sl Box) (items_ : Sl Int) (w9 : Int) : (Int × Int) → Option (Sum (Int × Int) Int) := fun (w20, w21) =>
  bif decide (w21 < w9) then
    kA0 (kBp (items_.getD []) w21) fun a47 =>
    kA0 (kBp (boxes_.getD []) a47) fun a51 =>
    kA0 (some ((fun a b : Int => max a b) w20 a51.x2)) fun c55 =>
    some (.inl (c55, wr (w21 + 1)))
  else
    some (.inr w20)
def s0_q44 (boxes_ : Sl Box) (items_ : Sl Int) : ((Sl Int) × Int) → Option (Sum ((Sl Int) × Int) (Sl Int)) := fun (w6, w9) =>
  bif decide (w9 < (((items_.getD []).length : Nat) : Int)) then
    kA0 (kBa (s1_q44 boxes_ items_ w9) (0, 0)) fun q24 =>
    kA0 (kBp (items_.getD []) w9) fun a26 =>
    kA0 (kBp (boxes_.getD []) a26) fun a30 =>
    kA0 (some ((fun a b : Int => max a b) 0 (wr (a30.x1 - q24)))) fun c34 =>
    kA0 (kF5 w6 ([c34] : List Int)) fun _ =>
    some (.inl ((kBn w6 ([c34] : List Int)), wr (w9 + 1)))
  else
    some (.inr w6)
def t_q44 (boxes_ : Sl Box) (items_ : Sl Int) : Option (Sl Int) :=
  kA0 (kBa (s0_q44 boxes_ items_) ((some ([] : List Int)), 1)) fun q13 =>
  some q13
theorem tl1_q44 (env : Nat → Contract) {B : Base} (he_q39 : env n_q39 = .pure (T2 (fun a b : Int => max a b))) (boxes_ : Sl Box) (items_ : Sl Int) (x1 : AV) (z5 : AV) (w6 : Sl Int) (w9 : Int)  : kG7 (fun (st : Int × Int) tm h18 => match st with | (w20, w21) => tm = ((Sl.enc boxes_) :: (Sl.enc items_) :: und :: und :: kBd :: z5 :: (iv w9) :: (iv w20) :: (iv w21) :: x1 :: (iv w9) :: (Sl.enc items_) :: (iv (((items_.getD []).length : Nat) : Int)) :: (bv (decide (w9 < (((items_.getD []).length : Nat) : Int)))) :: .top :: .top :: tZ9 15 [.top, .top, .top, .top, .top, .top, .top, .top, .top, .top, .top, .top, .top, .top, und]) ∧ Hold B h18 [(z5, obS (w6 : Sl Int))]) hm1_q44 xm1_q44 (lb1_q44 env) (s1_q44 boxes_ items_ w9) (fun (q : Int) (r : Res) => match q with | q24 => ∃ (q25 : Int) (h22 : kA4), r = (.exit 2, ((Sl.enc boxes_) :: (Sl.enc items_) :: und :: und :: kBd :: z5 :: (iv w9) :: (iv q24) :: (iv q25) :: x1 :: (iv w9) :: (Sl.enc items_) :: (iv (((items_.getD []).length : Nat) : Int)) :: (bv (decide (w9 < (((items_.getD []).length : Nat) : Int)))) :: .top :: .top :: tZ9 15 [.top, .top, .top, .top, .top, .top, .top, .top, .top, .top, .top, .top, .top, .top, und]), h22) ∧ Hold B h22 [(z5, obS (w6 : Sl Int))]) := by
  refine @kGi _ _ _ _ _ _ _ _ (fun st tm h18 R => ?_)
  obtain ⟨w20, w21⟩ := st
  obtain ⟨rfl, O19⟩ := R
  rw [e_lb1_q44]
  unfold s1_q44
  dsimp only
  refine kA1 (kAa _ _) ?_
  refine kA9 (fun c46 => ?_) (fun c46 => ?_)
  · refine kAg (Tab.enc h18 items_) (fun m48 a47 hi49 hm50 => ?_)
    refine kA1 (v := iv a47) ((Tab.enc h18 items_).ld hm50 false 1 0) ?_
    refine kAg (Tab.enc h18 boxes_) (fun m52 a51 hi53 hm54 => ?_)
    refine kA1 (v := elp (Sl.enc boxes_) m52 2) ((Tab.enc h18 boxes_).fld _ _ _) ?_
    refine kA1 (v := iv a51.x2) ((Tab.enc h18 boxes_).ld hm54 false 1 2) ?_
    refine sim_callV2 (t := (fun a b : Int => max a b)) he_q39 (kAj _ _) (kAj _ _) (fun c55 => ?_)
    refine kA1 (kAi _ _) ?_
    exact kA6 ⟨rfl, rfl, O19⟩
  · exact kA6 ⟨nofun, _, _, rfl, O19⟩
theorem tl0_q44 (env : Nat → Contract) {B : Base} (he_q39 : env n_q39 = .pure (T2 (fun a b : Int => max a b))) (boxes_ : Sl Box) (items_ : Sl Int) (x1 : AV)  : kG7 (fun (st : (Sl Int) × Int) tm h7 => match st with | (w6, w9) => ∃ z5, tm = ((Sl.enc boxes_) :: (Sl.enc items_) :: und :: und :: kBd :: z5 :: (iv w9) :: .top :: .top :: x1 :: tZ9 35 [und]) ∧ Hold B h7 [(z5, obS (w6 : Sl Int))]) hm0_q44 xm0_q44 (lb0_q44 env) (s0_q44 boxes_ items_) (fun (q : Sl Int) (r : Res) => match q with | q13 => ∃ (q14 : Int) (z12 : AV) (z15 : AV) (z16 : AV) (h10 : kA4), r = (.exit 0, ((Sl.enc boxes_) :: (Sl.enc items_) :: und :: und :: kBd :: z12 :: (iv q14) :: z15 :: z16 :: x1 :: tZ9 35 [und]), h10) ∧ Hold B h10 [(z12, obS (q13 : Sl Int))]) := by
  refine @kGi _ _ _ _ _ _ _ _ (fun st tm h7 R => ?_)
  obtain ⟨w6, w9⟩ := st
  obtain ⟨z5, rfl, O8⟩ := R
  rw [e_lb0_q44]
  unfold s0_q44
  dsimp only
  refine kA1 (Tab.enc h7 items_).len ?_
  refine kA1 (kAa _ _) ?_
  refine kA9 (fun c17 => ?_) (fun c17 => ?_)
  · refine kB2 ((tl1_q44 env he_q39 boxes_ items_ x1 z5 w6 w9) ⟨rfl, O8⟩) (fun qq59 r hq => ?_)
    revert hq
    revert qq59
    intro q24 hq
    obtain ⟨q25, h22, rfl, O23⟩ := hq
    rw [e_lk1x2_q44]
    refine kAg (Tab.enc h22 items_) (fun m27 a26 hi28 hm29 => ?_)
    refine kA1 (v := iv a26) ((Tab.enc h22 items_).ld hm29 false 1 0) ?_
    refine kAg (Tab.enc h22 boxes_) (fun m31 a30 hi32 hm33 => ?_)
    refine kA1 (v := elp (Sl.enc boxes_) m31 0) ((Tab.enc h22 boxes_).fld _ _ _) ?_
    refine kA1 (v := iv a30.x1) ((Tab.enc h22 boxes_).ld hm33 false 1 0) ?_
    refine kA1 (kAp _ _) ?_
    refine sim_callV2 (t := (fun a b : Int => max a b)) he_q39 (kAj _ _) (kAj _ _) (fun c34 => ?_)
    refine kBu (A := Int) O23 ([c34] : List Int) rfl (by first | rfl | simp [kB9, kCy]) rfl (fun x35 h36 O37 => ?_)
    replace O37 : Hold B h36 [(z5, obS (w6 : Sl Int)), (x35, obS ((some ([c34] : List Int)) : Sl Int))] := O37
    refine kEm (A := Int) (s := w6) O37 0 ([c34] : List Int) rfl (O37.src (A := Int) (s := (some ([c34] : List Int))) 1 rfl) (by decide) (fun x40 h41 O42 => ?_)
    replace O42 : Hold B h41 [(x40, obS ((kBn w6 ([c34] : List Int)) : Sl Int)), (x35, obS ((some ([c34] : List Int)) : Sl Int))] := O42
    have O44 : Hold B h41 [(x40, obS ((kBn w6 ([c34] : List Int)) : Sl Int))] := O42.sel [0] (by decide) rfl
    refine kA1 (kAi _ _) ?_
    exact kA6 ⟨rfl, _, rfl, O44⟩
  · exact kA6 ⟨nofun, _, _, _, _, _, rfl, O8⟩
theorem ts_q44 (env : Nat → Contract) (he_q39 : env n_q39 = .pure (T2 (fun a b : Int => max a b))) (boxes_ : Sl Box) (items_ : Sl Int) : Sim (kAo Try.prog env n_q44 [Sl.enc boxes_, Sl.enc items_] []) (t_q44 boxes_ items_) fun c p => release p.2 depth p.1 = some ((fun c : (Sl Int) => rS c) c) := by
  have O := Hold.nil []
  generalize hB : (⟨[], []⟩ : Base) = B at O
  clear hB
  rw [e_q44]
  unfold t_q44
  refine kBu (A := Int) O ([] : List Int) rfl (by first | rfl | simp [kB9, kCy]) rfl (fun x1 h2 O3 => ?_)
  replace O3 : Hold B h2 [(x1, obS ((some ([] : List Int)) : Sl Int))] := O3
  refine kB2 ((tl0_q44 env he_q39 boxes_ items_ x1) ⟨_, rfl, O3⟩) (fun qq62 r hq => ?_)
  revert hq
  revert qq62
  intro q13 hq
  obtain ⟨q14, z12, z15, z16, h10, rfl, O11⟩ := hq
  rw [e_lk0x0_q44]
  exact kA6 (O11.rel (A := Int) (s := q13) 0 rfl)
theorem tt_q44 : kAs Try.prog n_q44 (C2 (fun c : (Sl Int) => rS c) t_q44) := kGh (kC3 ok_q39 E0) mixed hb_q44 fun boxes_ items_ => ts_q44 _ (by simp [kCa]) boxes_ items_
def s0_q49 (items_ : Sl Int) (gap_ : Int) (c5 : (Sl Int)) : ((Sl (Sl Int)) × Int) → Option (Sum ((Sl (Sl Int)) × Int) (Sl (Sl Int))) := fun (w11, w16) =>
  bif decide (w16 < (((items_.getD []).length : Nat) : Int)) then
    kA0 (bif decide (w16 = 0) then some false else (kA0 (kBp (c5.getD []) (wr (w16 - 1))) fun a27 => some (decide (gap_ < a27)))) fun c31 =>
    bif (bif decide (w16 = 0) then true else c31) then
      kA0 (kF5 w11 ([(some ([] : List Int))] : List (Sl Int))) fun _ =>
      kA0 (kBp ((kBn w11 ([(some ([] : List Int))] : List (Sl Int))).getD []) (wr (((((kBn w11 ([(some ([] : List Int))] : List (Sl Int))).getD []).length : Nat) : Int) - 1))) fun a49 =>
      kA0 (kBp (items_.getD []) w16) fun a55 =>
      kA0 (kF5 a49 ([a55] : List Int)) fun _ =>
      some (.inl ((kC9 (kBn w11 ([(some ([] : List Int))] : List (Sl Int))) (wr (((((kBn w11 ([(some ([] : List Int))] : List (Sl Int))).getD []).length : Nat) : Int) - 1)) (kBn a49 ([a55] : List Int))), wr (w16 + 1)))
    else
      kA0 (kBp (w11.getD []) (wr ((((w11.getD []).length : Nat) : Int) - 1))) fun a71 =>
      kA0 (kBp (items_.getD []) w16) fun a77 =>
      kA0 (kF5 a71 ([a77] : List Int)) fun _ =>
      some (.inl ((kC9 w11 (wr ((((w11.getD []).length : Nat) : Int) - 1)) (kBn a71 ([a77] : List Int))), wr (w16 + 1)))
  else
    some (.inr w11)
def t_q49 (boxes_ : Sl Box) (items_ : Sl Int) (gap_ : Int) : Option (Sl (Sl Int)) :=
  kA0 (t_q44 boxes_ items_) fun c5 =>
  kA0 (kBa (s0_q49 items_ gap_ c5) ((some ([] : List (Sl Int))), 0)) fun q20 =>
  some q20
theorem tl0_q49 (env : Nat → Contract) {B : Base} (he_q44 : env n_q44 = .pure (C2 (fun c : (Sl Int) => rS c) t_q44)) (boxes_ : Sl Box) (items_ : Sl Int) (gap_ : Int) (x1 : AV) (c5 : (Sl Int)) (x7 : AV)  : kG7 (fun (st : (Sl (Sl Int)) × Int) tm h14 => match st with | (w11, w16) => ∃ z10, ∃ ps12 : PS (Sl Int), tm = ((Sl.enc boxes_) :: (Sl.enc items_) :: (iv gap_) :: und :: und :: und :: kBd :: z10 :: x7 :: (iv w16) :: x1 :: (Sl.enc boxes_) :: (Sl.enc items_) :: x7 :: tZ9 38 [und]) ∧ pj ps12 = w11 ∧ Hold B h14 ([(x7, obS (c5 : Sl Int))] ++ D2 (A := (Sl Int)) z10 ps12)) hm0_q49 xm0_q49 (lb0_q49 env) (s0_q49 items_ gap_ c5) (fun (q : Sl (Sl Int)) (r : Res) => match q with | q20 => ∃ (q23 : Int) (z19 : AV) (ps21 : PS (Sl Int)) (h17 : kA4), r = (.exit 0, ((Sl.enc boxes_) :: (Sl.enc items_) :: (iv gap_) :: und :: und :: und :: kBd :: z19 :: x7 :: (iv q23) :: x1 :: (Sl.enc boxes_) :: (Sl.enc items_) :: x7 :: tZ9 38 [und]), h17) ∧ pj ps21 = q20 ∧ Hold B h17 ([(x7, obS (c5 : Sl Int))] ++ D2 (A := (Sl Int)) z19 ps21)) := by
  refine @kGi _ _ _ _ _ _ _ _ (fun st tm h14 R => ?_)
  obtain ⟨w11, w16⟩ := st
  obtain ⟨z10, ps12, rfl, hp13, O15⟩ := R
  rw [e_lb0_q49]
  unfold s0_q49
  dsimp only
  refine kA1 (Tab.enc h14 items_).len ?_
  refine kA1 (kAa _ _) ?_
  refine kA9 (fun c25 => ?_) (fun c25 => ?_)
  · refine kA1 (aCmp_eq _ _) ?_
    refine kDi (e := bv) (fun hb26 => ?_) (fun c31 => ?_)
    · refine kA1 (kAp _ _) ?_
      refine kAg (O15.tab (A := Int) (s := c5) 0 rfl) (fun m28 a27 hi29 hm30 => ?_)
      refine kA1 (v := iv a27) ((O15.tab (A := Int) (s := c5) 0 rfl).ld hm30 false 1 0) ?_
      refine kA1 (kE4 _ _) ?_
      exact kA6 rfl
    · refine kA1 (v := bv (bif decide (w16 = 0) then true else c31)) (kF7 _ _ _) ?_
      refine kA9 (fun c32 => ?_) (fun c32 => ?_)
      · refine kBu (A := Int) O15 ([] : List Int) rfl (by first | rfl | simp [kB9, kCy]) rfl (fun x33 h34 O35 => ?_)
        replace O35 : Hold B h34 ([(x7, obS (c5 : Sl Int)), (x33, obS ((some ([] : List Int)) : Sl Int))] ++ D2 (A := (Sl Int)) z10 ps12) := Hold.rot O35
        have jZ0 := O35.one (A := Int) (s := (some ([] : List Int))) 1 rfl
        refine kCn O35 [[x33]] 1 rfl (by first | rfl | simp [kB9, kCy, jZ0.1, jZ0.2]) rfl (fun x37 h38 O39 => ?_)
        replace O39 : Hold B h38 ([(x7, obS (c5 : Sl Int)), (x33, obS ((some ([] : List Int)) : Sl Int)), (x37, .sl 1 [[x33]])] ++ D2 (A := (Sl Int)) z10 ps12) := Hold.rot O39
        have O41 : Hold B h38 ([(x7, obS (c5 : Sl Int)), (x33, obS ((some ([] : List Int)) : Sl Int)), (x37, .sl 1 [[x33]])] ++ D2 (A := (Sl Int)) z10 ps12) := O39.selD [0, 1, 2] (by decide) rfl
        refine sim_push (l := [(x7, obS (c5 : Sl Int))]) (a := (some ([] : List Int))) (y := x33) (x := z10) (ps := ps12) O41 hp13 (by decide) (fun x42 ps45 h43 hp46 hm47 O44 => ?_)
        refine kA1 (D2.lenS (l := [(x7, obS (c5 : Sl Int))]) (x := x42) (ps := ps45) (A := (Sl Int)) O44 hp46) ?_
        refine kA1 (kAp _ _) ?_
        refine kA1 (D2.lenS (l := [(x7, obS (c5 : Sl Int))]) (x := x42) (ps := ps45) (A := (Sl Int)) O44 hp46) ?_
        refine kA1 (kAp _ _) ?_
        refine kD4 (l := [(x7, obS (c5 : Sl Int))]) (x := x42) (ps := ps45) (A := (Sl Int)) O44 hp46 (fun m50 a49 x53 hi51 hm52 hg54 => ?_)
        refine kA1 (v := x53) (D2.ld (l := [(x7, obS (c5 : Sl Int))]) (x := x42) (ps := ps45) (A := (Sl Int)) O44 hm52 false 1 0) ?_
        refine kAg (Tab.enc h43 items_) (fun m56 a55 hi57 hm58 => ?_)
        refine kA1 (v := iv a55) ((Tab.enc h43 items_).ld hm58 false 1 0) ?_
        refine kBu (A := Int) O44 ([a55] : List Int) rfl (by first | rfl | simp [kB9, kCy]) rfl (fun x59 h60 O61 => ?_)
        replace O61 : Hold B h60 ([(x7, obS (c5 : Sl Int)), (x59, obS ((some ([a55] : List Int)) : Sl Int))] ++ D2 (A := (Sl Int)) x42 ps45) := Hold.rot O61
        refine kH5 (bytes := 8) (C := Int) (l := [(x7, obS (c5 : Sl Int)), (x59, obS ((some ([a55] : List Int)) : Sl Int))]) (x := x42) (ps := ps45) O61 hp46 hi51 hm52 ([a55] : List Int) (O61.src (A := Int) (s := (some ([a55] : List Int))) 1 rfl) (by decide) (fun v69 v70 ps65 h63 hp66 O64 => ?_)
        replace O64 : Hold B h63 ([(x7, obS (c5 : Sl Int)), (x59, obS ((some ([a55] : List Int)) : Sl Int))] ++ D2 (A := (Sl Int)) x42 ps65) := O64
        have O67 : Hold B h63 ([(x7, obS (c5 : Sl Int))] ++ D2 (A := (Sl Int)) x42 ps65) := O64.selD [0] (by decide) rfl
        refine kA1 (kAi _ _) ?_
        exact kA6 ⟨rfl, _, _, rfl, hp66, O67⟩
      · refine kA1 (D2.lenS (l := [(x7, obS (c5 : Sl Int))]) (x := z10) (ps := ps12) (A := (Sl Int)) O15 hp13) ?_
        refine kA1 (kAp _ _) ?_
        refine kA1 (D2.lenS (l := [(x7, obS (c5 : Sl Int))]) (x := z10) (ps := ps12) (A := (Sl Int)) O15 hp13) ?_
        refine kA1 (kAp _ _) ?_
        refine kD4 (l := [(x7, obS (c5 : Sl Int))]) (x := z10) (ps := ps12) (A := (Sl Int)) O15 hp13 (fun m72 a71 x75 hi73 hm74 hg76 => ?_)
        refine kA1 (v := x75) (D2.ld (l := [(x7, obS (c5 : Sl Int))]) (x := z10) (ps := ps12) (A := (Sl Int)) O15 hm74 false 1 0) ?_
        refine kAg (Tab.enc h14 items_) (fun m78 a77 hi79 hm80 => ?_)
        refine kA1 (v := iv a77) ((Tab.enc h14 items_).ld hm80 false 1 0) ?_
        refine kBu (A := Int) O15 ([a77] : List Int) rfl (by first | rfl | simp [kB9, kCy]) rfl (fun x81 h82 O83 => ?_)
        replace O83 : Hold B h82 ([(x7, obS (c5 : Sl Int)), (x81, obS ((some ([a77] : List Int)) : Sl Int))] ++ D2 (A := (Sl Int)) z10 ps12) := Hold.rot O83
        refine kH5 (bytes := 8) (C := Int) (l := [(x7, obS (c5 : Sl Int)), (x81, obS ((some ([a77] : List Int)) : Sl Int))]) (x := z10) (ps := ps12) O83 hp13 hi73 hm74 ([a77] : List Int) (O83.src (A := Int) (s := (some ([a77] : List Int))) 1 rfl) (by decide) (fun v91 v92 ps87 h85 hp88 O86 => ?_)
        replace O86 : Hold B h85 ([(x7, obS (c5 : Sl Int)), (x81, obS ((some ([a77] : List Int)) : Sl Int))] ++ D2 (A := (Sl Int)) z10 ps87) := O86
        have O89 : Hold B h85 ([(x7, obS (c5 : Sl Int))] ++ D2 (A := (Sl Int)) z10 ps87) := O86.selD [0] (by decide) rfl
        refine kA1 (kAi _ _) ?_
        exact kA6 ⟨rfl, _, _, rfl, hp88, O89⟩
  · exact kA6 ⟨nofun, _, _, _, _, rfl, hp13, O15⟩
theorem ts_q49 (env : Nat → Contract) (he_q44 : env n_q44 = .pure (C2 (fun c : (Sl Int) => rS c) t_q44)) (boxes_ : Sl Box) (items_ : Sl Int) (gap_ : Int) : Sim (kAo Try.prog env n_q49 [Sl.enc boxes_, Sl.enc items_, iv gap_] []) (t_q49 boxes_ items_ gap_) fun c p => release p.2 depth p.1 = some ((fun c : (Sl (Sl Int)) => rD c) c) := by
  have O := Hold.nil []
  generalize hB : (⟨[], []⟩ : Base) = B at O
  clear hB
  rw [e_q49]
  unfold t_q49
  refine kCn O [] 1 rfl rfl rfl (fun x1 h2 O3 => ?_)
  replace O3 : Hold B h2 ([] ++ D2 (A := (Sl Int)) x1 (some [] : PS (Sl Int))) := O3
  refine kC6 he_q44 (kBc _ _) (kBc _ _) (fun c5 => ?_)
  refine kEi (A := Int) O3 (fun x7 h8 O9 => ?_)
  replace O9 : Hold B h8 ([(x7, obS (c5 : Sl Int))] ++ D2 (A := (Sl Int)) x1 (some [] : PS (Sl Int))) := Hold.rot O9
  refine kB2 ((tl0_q49 env he_q44 boxes_ items_ gap_ x1 c5 x7) ⟨_, _, rfl, (rfl : pj (some [] : PS (Sl Int)) = (some ([] : List (Sl Int)))), O9⟩) (fun qq95 r hq => ?_)
  revert hq
  revert qq95
  intro q20 hq
  obtain ⟨q23, z19, ps21, h17, rfl, hp22, O18⟩ := hq
  rw [e_lk0x0_q49]
  have O24 : Hold B h17 ([] ++ D2 (A := (Sl Int)) z19 ps21) := O18.selD [] (by decide) rfl
  exact kA6 (kEp (by simp only [ids_tup, kH4, ids_agg, ids_iv, ids_bv, ids_sv, ids_bt, kGv, ids_enc, D2.ids8 (l := []) (x := z19) (ps := ps21) (A := (Sl Int)) O24, List.map_append, List.map_nil, List.flatMap_cons, List.flatMap_nil, List.append_nil, List.nil_append]; simpa only [List.flatMap_cons, List.flatMap_nil, List.append_nil, List.nil_append] using O24.nd2) (by simp only [rel_tup, kGu, kHp, rel_iv, rel_bv, rel_sv, rel_bt, kGz, rel_enc, D2.rel8 (l := []) (x := z19) (ps := ps21) (A := (Sl Int)) O24 hp22, omapc, omapn, kA2] <;> rfl))
theorem tt_q49 : kAs Try.prog n_q49 (C3 (fun c : (Sl (Sl Int)) => rD c) t_q49) := kIo (kC3 tt_q44 E0) mixed hb_q49 fun boxes_ items_ gap_ => ts_q49 _ (by simp [kCa]) boxes_ items_ gap_
def s0_q5 (boxes_ : Sl Box) (items_ : Sl Int) : ((Sl Int) × Int × Int) → Option (Sum ((Sl Int) × Int × Int) (Sl Int)) := fun (w4, w7, w8) =>
  bif decide (w8 < (((items_.getD []).length : Nat) : Int)) then
    kA0 (kBp (items_.getD []) w8) fun a17 =>
    bif decide (0 < w8) then
      kA0 (kBp (boxes_.getD []) a17) fun a22 =>
      kA0 (kF5 w4 ([max 0 (wr (a22.x1 - w7))] : List Int)) fun _ =>
      kA0 (kBp (boxes_.getD []) a17) fun a36 =>
      some (.inl ((kBn w4 ([max 0 (wr (a22.x1 - w7))] : List Int)), max w7 a36.x2, wr (w8 + 1)))
    else
      kA0 (kBp (boxes_.getD []) a17) fun a41 =>
      some (.inl (w4, max w7 a41.x2, wr (w8 + 1)))
  else
    some (.inr w4)
def t_q5 (boxes_ : Sl Box) (items_ : Sl Int) : Option (Sl Int) :=
  kA0 (kBa (s0_q5 boxes_ items_) ((none : Sl Int), 0, 0)) fun q12 =>
  some q12
theorem tl0_q5 (env : Nat → Contract) {B : Base}  (boxes_ : Sl Box) (items_ : Sl Int)  : kG7 (fun (st : (Sl Int) × Int × Int) tm h5 => match st with | (w4, w7, w8) => ∃ z3, tm = ((Sl.enc boxes_) :: (Sl.enc items_) :: und :: und :: kBd :: z3 :: (iv w7) :: .top :: .top :: (Sl.enc items_) :: (iv (((items_.getD []).length : Nat) : Int)) :: (iv w8) :: tZ9 25 [und]) ∧ Hold B h5 [(z3, obS (w4 : Sl Int))]) hm0_q5 xm0_q5 (lb0_q5 env) (s0_q5 boxes_ items_) (fun (q : Sl Int) (r : Res) => match q with | q12 => ∃ (q13 : Int) (z11 : AV) (z14 : AV) (z15 : AV) (h9 : kA4), r = (.exit 0, ((Sl.enc boxes_) :: (Sl.enc items_) :: und :: und :: kBd :: z11 :: (iv q13) :: z14 :: z15 :: (Sl.enc items_) :: (iv (((items_.getD []).length : Nat) : Int)) :: tZ9 26 [und]), h9) ∧ Hold B h9 [(z11, obS (q12 : Sl Int))]) := by
  refine @kGi _ _ _ _ _ _ _ _ (fun st tm h5 R => ?_)
  obtain ⟨w4, w7, w8⟩ := st
  obtain ⟨z3, rfl, O6⟩ := R
  rw [e_lb0_q5]
  unfold s0_q5
  dsimp only
  refine kA1 (kAa _ _) ?_
  refine kA9 (fun c16 => ?_) (fun c16 => ?_)
  · refine kAg (Tab.enc h5 items_) (fun m18 a17 hi19 hm20 => ?_)
    refine kA1 (v := iv a17) ((Tab.enc h5 items_).ld hm20 false 1 0) ?_
    refine kA1 (kE4 _ _) ?_
    refine kA9 (fun c21 => ?_) (fun c21 => ?_)
    · refine kAg (Tab.enc h5 boxes_) (fun m23 a22 hi24 hm25 => ?_)
      refine kA1 (v := elp (Sl.enc boxes_) m23 0) ((Tab.enc h5 boxes_).fld _ _ _) ?_
      refine kA1 (v := iv a22.x1) ((Tab.enc h5 boxes_).ld hm25 false 1 0) ?_
      refine kA1 (kAp _ _) ?_
      refine kA1 (v := iv (max 0 (wr (a22.x1 - w7)))) (kGa _ _) ?_
      refine kBu (A := Int) O6 ([max 0 (wr (a22.x1 - w7))] : List Int) rfl (by first | rfl | simp [kB9, kCy]) rfl (fun x26 h27 O28 => ?_)
      replace O28 : Hold B h27 [(z3, obS (w4 : Sl Int)), (x26, obS ((some ([max 0 (wr (a22.x1 - w7))] : List Int)) : Sl Int))] := O28
      refine kEm (A := Int) (s := w4) O28 0 ([max 0 (wr (a22.x1 - w7))] : List Int) rfl (O28.src (A := Int) (s := (some ([max 0 (wr (a22.x1 - w7))] : List Int))) 1 rfl) (by decide) (fun x31 h32 O33 => ?_)
      replace O33 : Hold B h32 [(x31, obS ((kBn w4 ([max 0 (wr (a22.x1 - w7))] : List Int)) : Sl Int)), (x26, obS ((some ([max 0 (wr (a22.x1 - w7))] : List Int)) : Sl Int))] := O33
      have O35 : Hold B h32 [(x31, obS ((kBn w4 ([max 0 (wr (a22.x1 - w7))] : List Int)) : Sl Int))] := O33.sel [0] (by decide) rfl
      refine kAg (Tab.enc h32 boxes_) (fun m37 a36 hi38 hm39 => ?_)
      refine kA1 (v := elp (Sl.enc boxes_) m37 2) ((Tab.enc h32 boxes_).fld _ _ _) ?_
      refine kA1 (v := iv a36.x2) ((Tab.enc h32 boxes_).ld hm39 false 1 2) ?_
      refine kA1 (v := iv (max w7 a36.x2)) (kGa _ _) ?_
      refine kA1 (kAi _ _) ?_
      exact kA6 ⟨rfl, _, rfl, O35⟩
    · refine kAg (Tab.enc h5 boxes_) (fun m42 a41 hi43 hm44 => ?_)
      refine kA1 (v := elp (Sl.enc boxes_) m42 2) ((Tab.enc h5 boxes_).fld _ _ _) ?_
      refine kA1 (v := iv a41.x2) ((Tab.enc h5 boxes_).ld hm44 false 1 2) ?_
      refine kA1 (v := iv (max w7 a41.x2)) (kGa _ _) ?_
      refine kA1 (kAi _ _) ?_
      exact kA6 ⟨rfl, _, rfl, O6⟩
  · exact kA6 ⟨nofun, _, _, _, _, _, rfl, O6⟩
theorem ts_q5 (env : Nat → Contract)  (boxes_ : Sl Box) (items_ : Sl Int) : Sim (kAo Try.prog env n_q5 [Sl.enc boxes_, Sl.enc items_] []) (t_q5 boxes_ items_) fun c p => release p.2 depth p.1 = some ((fun c : (Sl Int) => rS c) c) := by
  have O := Hold.nil []
  generalize hB : (⟨[], []⟩ : Base) = B at O
  clear hB
  rw [e_q5]
  unfold t_q5
  refine kA1 (v := iv (((items_.getD []).length : Nat) : Int)) (Tab.enc [] items_).len ?_
  have O1 : Hold B [] [(kBd, obS ((none : Sl Int) : Sl Int))] := O.addnil
  refine kB2 ((tl0_q5 env boxes_ items_) ⟨_, rfl, O1⟩) (fun qq48 r hq => ?_)
  revert hq
  revert qq48
  intro q12 hq
  obtain ⟨q13, z11, z14, z15, h9, rfl, O10⟩ := hq
  rw [e_lk0x0_q5]
  exact kA6 (O10.rel (A := Int) (s := q12) 0 rfl)
theorem tt_q5 : kAs Try.prog n_q5 (C2 (fun c : (Sl Int) => rS c) t_q5) := kGh E0 mixed hb_q5 fun boxes_ items_ => ts_q5 _  boxes_ items_
def s0_q14 (items_ : Sl Int) (gap_ : Int) (c1 : (Sl Int)) : ((Sl (Sl Int)) × Int) → Option (Sum ((Sl (Sl Int)) × Int) (Sl (Sl Int))) := fun (w9, w14) =>
  bif decide (w14 < (((items_.getD []).length : Nat) : Int)) then
    kA0 (kBp (items_.getD []) w14) fun a25 =>
    kA0 (bif decide (w14 = 0) then some false else (kA0 (kBp (c1.getD []) (wr (w14 - 1))) fun a30 => some (decide (gap_ < a30)))) fun c34 =>
    bif (bif decide (w14 = 0) then true else c34) then
      kA0 (kF5 w9 ([(none : Sl Int)] : List (Sl Int))) fun _ =>
      kA0 (kBp ((kBn w9 ([(none : Sl Int)] : List (Sl Int))).getD []) (wr (((((kBn w9 ([(none : Sl Int)] : List (Sl Int))).getD []).length : Nat) : Int) - 1))) fun a50 =>
      kA0 (kF5 a50 ([a25] : List Int)) fun _ =>
      some (.inl ((kC9 (kBn w9 ([(none : Sl Int)] : List (Sl Int))) (wr (((((kBn w9 ([(none : Sl Int)] : List (Sl Int))).getD []).length : Nat) : Int) - 1)) (kBn a50 ([a25] : List Int))), wr (w14 + 1)))
    else
      kA0 (kBp (w9.getD []) (wr ((((w9.getD []).length : Nat) : Int) - 1))) fun a68 =>
      kA0 (kF5 a68 ([a25] : List Int)) fun _ =>
      some (.inl ((kC9 w9 (wr ((((w9.getD []).length : Nat) : Int) - 1)) (kBn a68 ([a25] : List Int))), wr (w14 + 1)))
  else
    some (.inr w9)
def t_q14 (boxes_ : Sl Box) (items_ : Sl Int) (gap_ : Int) : Option (Sl (Sl Int)) :=
  kA0 (t_q5 boxes_ items_) fun c1 =>
  kA0 (kBa (s0_q14 items_ gap_ c1) ((none : Sl (Sl Int)), 0)) fun q18 =>
  some q18
theorem tl0_q14 (env : Nat → Contract) {B : Base} (he_q5 : env n_q5 = .pure (C2 (fun c : (Sl Int) => rS c) t_q5)) (boxes_ : Sl Box) (items_ : Sl Int) (gap_ : Int) (c1 : (Sl Int)) (x3 : AV)  : kG7 (fun (st : (Sl (Sl Int)) × Int) tm h12 => match st with | (w9, w14) => ∃ z8, ∃ ps10 : PS (Sl Int), tm = ((Sl.enc boxes_) :: (Sl.enc items_) :: (iv gap_) :: und :: und :: und :: kBd :: x3 :: z8 :: .top :: .top :: (Sl.enc boxes_) :: (Sl.enc items_) :: x3 :: (Sl.enc items_) :: (iv (((items_.getD []).length : Nat) : Int)) :: (iv w14) :: tZ9 33 [und]) ∧ pj ps10 = w9 ∧ Hold B h12 ([(x3, obS (c1 : Sl Int))] ++ D2 (A := (Sl Int)) z8 ps10)) hm0_q14 xm0_q14 (lb0_q14 env) (s0_q14 items_ gap_ c1) (fun (q : Sl (Sl Int)) (r : Res) => match q with | q18 => ∃ (z17 : AV) (z21 : AV) (z22 : AV) (ps19 : PS (Sl Int)) (h15 : kA4), r = (.exit 0, ((Sl.enc boxes_) :: (Sl.enc items_) :: (iv gap_) :: und :: und :: und :: kBd :: x3 :: z17 :: z21 :: z22 :: (Sl.enc boxes_) :: (Sl.enc items_) :: x3 :: (Sl.enc items_) :: (iv (((items_.getD []).length : Nat) : Int)) :: tZ9 34 [und]), h15) ∧ pj ps19 = q18 ∧ Hold B h15 ([(x3, obS (c1 : Sl Int))] ++ D2 (A := (Sl Int)) z17 ps19)) := by
  refine @kGi _ _ _ _ _ _ _ _ (fun st tm h12 R => ?_)
  obtain ⟨w9, w14⟩ := st
  obtain ⟨z8, ps10, rfl, hp11, O13⟩ := R
  rw [e_lb0_q14]
  unfold s0_q14
  dsimp only
  refine kA1 (kAa _ _) ?_
  refine kA9 (fun c24 => ?_) (fun c24 => ?_)
  · refine kAg (Tab.enc h12 items_) (fun m26 a25 hi27 hm28 => ?_)
    refine kA1 (v := iv a25) ((Tab.enc h12 items_).ld hm28 false 1 0) ?_
    refine kA1 (aCmp_eq _ _) ?_
    refine kDi (e := bv) (fun hb29 => ?_) (fun c34 => ?_)
    · refine kA1 (kAp _ _) ?_
      refine kAg (O13.tab (A := Int) (s := c1) 0 rfl) (fun m31 a30 hi32 hm33 => ?_)
      refine kA1 (v := iv a30) ((O13.tab (A := Int) (s := c1) 0 rfl).ld hm33 false 1 0) ?_
      refine kA1 (kE4 _ _) ?_
      exact kA6 rfl
    · refine kA1 (v := bv (bif decide (w14 = 0) then true else c34)) (kF7 _ _ _) ?_
      refine kA9 (fun c35 => ?_) (fun c35 => ?_)
      · have O36 : Hold B h12 ([(x3, obS (c1 : Sl Int)), (kBd, obS ((none : Sl Int) : Sl Int))] ++ D2 (A := (Sl Int)) z8 ps10) := Hold.rot O13.addnil
        have jZ0 := O36.one (A := Int) (s := (none : Sl Int)) 1 rfl
        refine kCn O36 [[kBd]] 1 rfl (by first | rfl | simp [kB9, kCy, jZ0.1, jZ0.2]) rfl (fun x38 h39 O40 => ?_)
        replace O40 : Hold B h39 ([(x3, obS (c1 : Sl Int)), (kBd, obS ((none : Sl Int) : Sl Int)), (x38, .sl 1 [[kBd]])] ++ D2 (A := (Sl Int)) z8 ps10) := Hold.rot O40
        have O42 : Hold B h39 ([(x3, obS (c1 : Sl Int)), (kBd, obS ((none : Sl Int) : Sl Int)), (x38, .sl 1 [[kBd]])] ++ D2 (A := (Sl Int)) z8 ps10) := O40.selD [0, 1, 2] (by decide) rfl
        refine sim_push (l := [(x3, obS (c1 : Sl Int))]) (a := (none : Sl Int)) (y := kBd) (x := z8) (ps := ps10) O42 hp11 (by decide) (fun x43 ps46 h44 hp47 hm48 O45 => ?_)
        refine kA1 (D2.lenS (l := [(x3, obS (c1 : Sl Int))]) (x := x43) (ps := ps46) (A := (Sl Int)) O45 hp47) ?_
        refine kA1 (kAp _ _) ?_
        refine kA1 (D2.lenS (l := [(x3, obS (c1 : Sl Int))]) (x := x43) (ps := ps46) (A := (Sl Int)) O45 hp47) ?_
        refine kA1 (kAp _ _) ?_
        refine kD4 (l := [(x3, obS (c1 : Sl Int))]) (x := x43) (ps := ps46) (A := (Sl Int)) O45 hp47 (fun m51 a50 x54 hi52 hm53 hg55 => ?_)
        refine kA1 (v := x54) (D2.ld (l := [(x3, obS (c1 : Sl Int))]) (x := x43) (ps := ps46) (A := (Sl Int)) O45 hm53 false 1 0) ?_
        refine kBu (A := Int) O45 ([a25] : List Int) rfl (by first | rfl | simp [kB9, kCy]) rfl (fun x56 h57 O58 => ?_)
        replace O58 : Hold B h57 ([(x3, obS (c1 : Sl Int)), (x56, obS ((some ([a25] : List Int)) : Sl Int))] ++ D2 (A := (Sl Int)) x43 ps46) := Hold.rot O58
        refine kH5 (bytes := 8) (C := Int) (l := [(x3, obS (c1 : Sl Int)), (x56, obS ((some ([a25] : List Int)) : Sl Int))]) (x := x43) (ps := ps46) O58 hp47 hi52 hm53 ([a25] : List Int) (O58.src (A := Int) (s := (some ([a25] : List Int))) 1 rfl) (by decide) (fun v66 v67 ps62 h60 hp63 O61 => ?_)
        replace O61 : Hold B h60 ([(x3, obS (c1 : Sl Int)), (x56, obS ((some ([a25] : List Int)) : Sl Int))] ++ D2 (A := (Sl Int)) x43 ps62) := O61
        have O64 : Hold B h60 ([(x3, obS (c1 : Sl Int))] ++ D2 (A := (Sl Int)) x43 ps62) := O61.selD [0] (by decide) rfl
        refine kA1 (kAi _ _) ?_
        exact kA6 ⟨rfl, _, _, rfl, hp63, O64⟩
      · refine kA1 (D2.lenS (l := [(x3, obS (c1 : Sl Int))]) (x := z8) (ps := ps10) (A := (Sl Int)) O13 hp11) ?_
        refine kA1 (kAp _ _) ?_
        refine kA1 (D2.lenS (l := [(x3, obS (c1 : Sl Int))]) (x := z8) (ps := ps10) (A := (Sl Int)) O13 hp11) ?_
        refine kA1 (kAp _ _) ?_
        refine kD4 (l := [(x3, obS (c1 : Sl Int))]) (x := z8) (ps := ps10) (A := (Sl Int)) O13 hp11 (fun m69 a68 x72 hi70 hm71 hg73 => ?_)
        refine kA1 (v := x72) (D2.ld (l := [(x3, obS (c1 : Sl Int))]) (x := z8) (ps := ps10) (A := (Sl Int)) O13 hm71 false 1 0) ?_
        refine kBu (A := Int) O13 ([a25] : List Int) rfl (by first | rfl | simp [kB9, kCy]) rfl (fun x74 h75 O76 => ?_)
        replace O76 : Hold B h75 ([(x3, obS (c1 : Sl Int)), (x74, obS ((some ([a25] : List Int)) : Sl Int))] ++ D2 (A := (Sl Int)) z8 ps10) := Hold.rot O76
        refine kH5 (bytes := 8) (C := Int) (l := [(x3, obS (c1 : Sl Int)), (x74, obS ((some ([a25] : List Int)) : Sl Int))]) (x := z8) (ps := ps10) O76 hp11 hi70 hm71 ([a25] : List Int) (O76.src (A := Int) (s := (some ([a25] : List Int))) 1 rfl) (by decide) (fun v84 v85 ps80 h78 hp81 O79 => ?_)
        replace O79 : Hold B h78 ([(x3, obS (c1 : Sl Int)), (x74, obS ((some ([a25] : List Int)) : Sl Int))] ++ D2 (A := (Sl Int)) z8 ps80) := O79
        have O82 : Hold B h78 ([(x3, obS (c1 : Sl Int))] ++ D2 (A := (Sl Int)) z8 ps80) := O79.selD [0] (by decide) rfl
        refine kA1 (kAi _ _) ?_
        exact kA6 ⟨rfl, _, _, rfl, hp81, O82⟩
  · exact kA6 ⟨nofun, _, _, _, _, _, rfl, hp11, O13⟩
theorem ts_q14 (env : Nat → Contract) (he_q5 : env n_q5 = .pure (C2 (fun c : (Sl Int) => rS c) t_q5)) (boxes_ : Sl Box) (items_ : Sl Int) (gap_ : Int) : Sim (kAo Try.prog env n_q14 [Sl.enc boxes_, Sl.enc items_, iv gap_] []) (t_q14 boxes_ items_ gap_) fun c p => release p.2 depth p.1 = some ((fun c : (Sl (Sl Int)) => rD c) c) := by
  have O := Hold.nil []
  generalize hB : (⟨[], []⟩ : Base) = B at O
  clear hB
  rw [e_q14]
  unfold t_q14
  refine kC6 he_q5 (kBc _ _) (kBc _ _) (fun c1 => ?_)
  refine kEi (A := Int) O (fun x3 h4 O5 => ?_)
  replace O5 : Hold B h4 [(x3, obS (c1 : Sl Int))] := O5
  refine kA1 (Tab.enc h4 items_).len ?_
  have O6 : Hold B h4 ([(x3, obS (c1 : Sl Int))] ++ D2 (A := (Sl Int)) kBd (none : PS (Sl Int))) := O5.addnil
  refine kB2 ((tl0_q14 env he_q5 boxes_ items_ gap_ c1 x3) ⟨_, _, rfl, (rfl : pj (none : PS (Sl Int)) = (none : Sl (Sl Int))), O6⟩) (fun qq88 r hq => ?_)
  revert hq
  revert qq88
  intro q18 hq
  obtain ⟨z17, z21, z22, ps19, h15, rfl, hp20, O16⟩ := hq
  rw [e_lk0x0_q14]
  have O23 : Hold B h15 ([] ++ D2 (A := (Sl Int)) z17 ps19) := O16.selD [] (by decide) rfl
  exact kA6 (kEp (by simp only [ids_tup, kH4, ids_agg, ids_iv, ids_bv, ids_sv, ids_bt, kGv, ids_enc, D2.ids8 (l := []) (x := z17) (ps := ps19) (A := (Sl Int)) O23, List.map_append, List.map_nil, List.flatMap_cons, List.flatMap_nil, List.append_nil, List.nil_append]; simpa only [List.flatMap_cons, List.flatMap_nil, List.append_nil, List.nil_append] using O23.nd2) (by simp only [rel_tup, kGu, kHp, rel_iv, rel_bv, rel_sv, rel_bt, kGz, rel_enc, D2.rel8 (l := []) (x := z17) (ps := ps19) (A := (Sl Int)) O23 hp20, omapc, omapn, kA2] <;> rfl))
theorem tt_q14 : kAs Try.prog n_q14 (C3 (fun c : (Sl (Sl Int)) => rD c) t_q14) := kIo (kC3 tt_q5 E0) mixed hb_q14 fun boxes_ items_ gap_ => ts_q14 _ (by simp [kCa]) boxes_ items_ gap_
def s0_q19 (a_ : Sl (Sl Int)) (b_ : Sl (Sl Int)) : Int → Option (Sum Int (Sum Unit Bool)) := fun w4 =>
  bif decide (w4 < (((a_.getD []).length : Nat) : Int)) then
    kA0 (kBp (a_.getD []) w4) fun a14 =>
    kA0 (kBp (b_.getD []) w4) fun a18 =>
    kA0 (t_q18 a14 a18) fun c22 =>
    bif !c22 then
      some (.inr (.inr false))
    else
      some (.inl (wr (w4 + 1)))
  else
    some (.inr (.inl ()))
def t_q19 (a_ : Sl (Sl Int)) (b_ : Sl (Sl Int)) : Option Bool :=
  bif !decide ((((a_.getD []).length : Nat) : Int) = (((b_.getD []).length : Nat) : Int)) then
    some false
  else
    kA0 (kBa (s0_q19 a_ b_) 0) fun qq28 => match qq28 with
    | (.inl _) =>
        some true
    | (.inr q11) =>
        some q11
theorem tl0_q19 (env : Nat → Contract) {B : Base} (he_q18 : env n_q18 = .pure (C2 (fun c : Bool => enc c) t_q18)) (a_ : Sl (Sl Int)) (b_ : Sl (Sl Int))  : kG7 (fun (st : Int) tm h2 => match st with | w4 => tm = ((Sl.enc a_) :: (Sl.enc b_) :: und :: und :: .top :: (iv w4) :: (Sl.enc a_) :: (iv (((a_.getD []).length : Nat) : Int)) :: (Sl.enc b_) :: (iv (((b_.getD []).length : Nat) : Int)) :: (bv (!decide ((((a_.getD []).length : Nat) : Int) = (((b_.getD []).length : Nat) : Int)))) :: tZ9 16 []) ∧ Hold B h2 []) hm0_q19 xm0_q19 (lb0_q19 env) (s0_q19 a_ b_) (fun (q : Sum Unit Bool) (r : Res) => match q with | .inl _ => ∃ (q8 : Int) (z7 : AV) (h5 : kA4), r = (.exit 0, ((Sl.enc a_) :: (Sl.enc b_) :: und :: und :: z7 :: (iv q8) :: (Sl.enc a_) :: (iv (((a_.getD []).length : Nat) : Int)) :: (Sl.enc b_) :: (iv (((b_.getD []).length : Nat) : Int)) :: (bv (!decide ((((a_.getD []).length : Nat) : Int) = (((b_.getD []).length : Nat) : Int)))) :: tZ9 16 []), h5) ∧ Hold B h5 [] | .inr q11 => ∃ (q12 : Int) (h9 : kA4), r = (.ret, ((Sl.enc a_) :: (Sl.enc b_) :: und :: und :: (bv q11) :: (iv q12) :: (Sl.enc a_) :: (iv (((a_.getD []).length : Nat) : Int)) :: (Sl.enc b_) :: (iv (((b_.getD []).length : Nat) : Int)) :: (bv (!decide ((((a_.getD []).length : Nat) : Int) = (((b_.getD []).length : Nat) : Int)))) :: tZ9 16 []), h9) ∧ Hold B h9 []) := by
  refine @kGi _ _ _ _ _ _ _ _ (fun w4 tm h2 R => ?_)
  obtain ⟨rfl, O3⟩ := R
  rw [e_lb0_q19]
  unfold s0_q19
  dsimp only
  refine kA1 (Tab.enc h2 a_).len ?_
  refine kA1 (kAa _ _) ?_
  refine kA9 (fun c13 => ?_) (fun c13 => ?_)
  · refine kAg (Tab.enc h2 a_) (fun m15 a14 hi16 hm17 => ?_)
    refine kA1 (v := Sl.enc a14) ((Tab.enc h2 a_).ld hm17 false 1 0) ?_
    refine kAg (Tab.enc h2 b_) (fun m19 a18 hi20 hm21 => ?_)
    refine kA1 (v := Sl.enc a18) ((Tab.enc h2 b_).ld hm21 false 1 0) ?_
    refine sim_callQ2 he_q18 (kBc _ _) (kBc _ _) (fun c22 => ?_)
    refine kBt (kAk (by rfl) _ _) ?_
    refine kA1 (v := bv (!c22)) (kCg _) ?_
    refine kA9 (fun c23 => ?_) (fun c23 => ?_)
    · exact kA6 ⟨nofun, _, _, rfl, O3⟩
    · refine kA1 (kAi _ _) ?_
      exact kA6 ⟨rfl, rfl, O3⟩
  · exact kA6 ⟨nofun, _, _, _, rfl, O3⟩
theorem ts_q19 (env : Nat → Contract) (he_q18 : env n_q18 = .pure (C2 (fun c : Bool => enc c) t_q18)) (a_ : Sl (Sl Int)) (b_ : Sl (Sl Int)) : Sim (kAo Try.prog env n_q19 [Sl.enc a_, Sl.enc b_] []) (t_q19 a_ b_) fun c p => release p.2 depth p.1 = some ((fun c : Bool => enc c) c) := by
  have O := Hold.nil []
  generalize hB : (⟨[], []⟩ : Base) = B at O
  clear hB
  rw [e_q19]
  unfold t_q19
  refine kA1 (v := iv (((a_.getD []).length : Nat) : Int)) (Tab.enc [] a_).len ?_
  refine kA1 (v := iv (((b_.getD []).length : Nat) : Int)) (Tab.enc [] b_).len ?_
  refine kA1 (kDe _ _) ?_
  refine kA9 (fun c1 => ?_) (fun c1 => ?_)
  · exact kA6 (kA8 (by rfl) _)
  · refine kB2 ((tl0_q19 env he_q18 a_ b_) ⟨rfl, O⟩) (fun qq28 r hq => ?_)
    rcases qq28 with _ | q11
    · obtain ⟨q8, z7, h5, rfl, O6⟩ := hq
      rw [e_lk0x0_q19]
      exact kA6 (kA8 (by rfl) _)
    · obtain ⟨q12, h9, rfl, O10⟩ := hq
      rw [e_lk0r_q19]
      exact kA6 (kA8 (by rfl) _)
theorem tt_q19 : kAs Try.prog n_q19 (C2 (fun c : Bool => enc c) t_q19) := kGh (kC3 tt_q18 E0) mixed hb_q19 fun a_ b_ => ts_q19 _ (by simp [kCa]) a_ b_
def s0_q21 (a_ : Sl (Sl Int)) : (Int × Int) → Option (Sum (Int × Int) (Sum Int Int)) := fun (w3, w4) =>
  bif decide (w4 < (((a_.getD []).length : Nat) : Int)) then
    kA0 (kBp (a_.getD []) w4) fun a16 =>
    kA0 (t_q20 a16 w3) fun c20 =>
    bif decide (c20 < 0) then
      some (.inr (.inr (-1)))
    else
      some (.inl (c20, wr (w4 + 1)))
  else
    some (.inr (.inl w3))
def t_q21 (a_ : Sl (Sl Int)) (k_ : Int) : Option Int :=
  kA0 (kBa (s0_q21 a_) (k_, 0)) fun qq26 => match qq26 with
  | (.inl q7) =>
      some q7
  | (.inr q13) =>
      some q13
theorem tl0_q21 (env : Nat → Contract) {B : Base} (he_q20 : env n_q20 = .pure (C2 (fun c : Int => enc c) t_q20)) (a_ : Sl (Sl Int))  : kG7 (fun (st : Int × Int) tm h1 => match st with | (w3, w4) => tm = ((Sl.enc a_) :: (iv w3) :: und :: und :: .top :: (iv w4) :: tZ9 14 [und]) ∧ Hold B h1 []) hm0_q21 xm0_q21 (lb0_q21 env) (s0_q21 a_) (fun (q : Sum Int Int) (r : Res) => match q with | .inl q7 => ∃ (q9 : Int) (z8 : AV) (h5 : kA4), r = (.exit 0, ((Sl.enc a_) :: (iv q7) :: und :: und :: z8 :: (iv q9) :: tZ9 14 [und]), h5) ∧ Hold B h5 [] | .inr q13 => ∃ (q12 : Int) (q14 : Int) (h10 : kA4), r = (.ret, ((Sl.enc a_) :: (iv q12) :: und :: und :: (iv q13) :: (iv q14) :: tZ9 14 [und]), h10) ∧ Hold B h10 []) := by
  refine @kGi _ _ _ _ _ _ _ _ (fun st tm h1 R => ?_)
  obtain ⟨w3, w4⟩ := st
  obtain ⟨rfl, O2⟩ := R
  rw [e_lb0_q21]
  unfold s0_q21
  dsimp only
  refine kA1 (Tab.enc h1 a_).len ?_
  refine kA1 (kAa _ _) ?_
  refine kA9 (fun c15 => ?_) (fun c15 => ?_)
  · refine kAg (Tab.enc h1 a_) (fun m17 a16 hi18 hm19 => ?_)
    refine kA1 (v := Sl.enc a16) ((Tab.enc h1 a_).ld hm19 false 1 0) ?_
    refine kC6 he_q20 (kBc _ _) (kAj _ _) (fun c20 => ?_)
    refine kBt (kAk (by rfl) _ _) ?_
    refine kA1 (kAa _ _) ?_
    refine kA9 (fun c21 => ?_) (fun c21 => ?_)
    · exact kA6 ⟨nofun, _, _, _, rfl, O2⟩
    · refine kA1 (kAi _ _) ?_
      exact kA6 ⟨rfl, rfl, O2⟩
  · exact kA6 ⟨nofun, _, _, _, rfl, O2⟩
theorem ts_q21 (env : Nat → Contract) (he_q20 : env n_q20 = .pure (C2 (fun c : Int => enc c) t_q20)) (a_ : Sl (Sl Int)) (k_ : Int) : Sim (kAo Try.prog env n_q21 [Sl.enc a_, iv k_] []) (t_q21 a_ k_) fun c p => release p.2 depth p.1 = some ((fun c : Int => enc c) c) := by
  have O := Hold.nil []
  generalize hB : (⟨[], []⟩ : Base) = B at O
  clear hB
  rw [e_q21]
  unfold t_q21
  refine kB2 ((tl0_q21 env he_q20 a_) ⟨rfl, O⟩) (fun qq26 r hq => ?_)
  rcases qq26 with q7 | q13
  · obtain ⟨q9, z8, h5, rfl, O6⟩ := hq
    rw [e_lk0x0_q21]
    exact kA6 (kA8 (by rfl) _)
  · obtain ⟨q12, q14, h10, rfl, O11⟩ := hq
    rw [e_lk0r_q21]
    exact kA6 (kA8 (by rfl) _)
theorem tt_q21 : kAs Try.prog n_q21 (C2 (fun c : Int => enc c) t_q21) := kGh (kC3 tt_q20 E0) mixed hb_q21 fun a_ k_ => ts_q21 _ (by simp [kCa]) a_ k_
theorem kFj {γ δ : Type} {env : Nat → Contract} {g : Nat} {f : List AV → Option AV} {args : List AV} {h : kA4} {Y : Option Int} {F : AV → kA4 → Option γ} {G : Int → Option δ} {Q : δ → γ → Prop} (he : env g = .pure f) (S : Sim (kAb f args h) Y fun c r => r = (iv c, h)) (K : ∀ c, Sim (F (iv c) h) (G c) Q) : Sim (kA3 (kCq (env g) args h) F) (kA0 Y G) Q := by
  rw [he, kEx]
  exact kGl (x := kAb f args h) S fun c a h' e => by cases e; exact K c
def kHm (p_ : Int → Int → Option Int) (a_ : Int) : ((Sl Int) × Int) → Option (Sum ((Sl Int) × Int) (Sl Int)) := fun (w11, w14) =>
  kA0 (bif decide (a_ < w14) then (kA0 (kBp (w11.getD []) w14) fun a21 => kA0 (kBp (w11.getD []) (wr (w14 - 1))) fun a25 => kA0 (p_ a21 a25) fun c29 => some (decide (c29 < 0))) else some false) fun c30 =>
  bif (bif decide (a_ < w14) then c30 else false) then
    kA0 (kBp (w11.getD []) (wr (w14 - 1))) fun a43 =>
    kA0 (kBp (w11.getD []) w14) fun a47 =>
    kA0 (kBp (w11.getD []) w14) fun a51 =>
    kA0 (kBp ((kC9 w11 w14 a43).getD []) (wr (w14 - 1))) fun a57 =>
    some (.inl ((kC9 (kC9 w11 w14 a43) (wr (w14 - 1)) a47), wr (w14 - 1)))
  else
    some (.inr w11)
def kFa (p_ : Int → Int → Option Int) (a_ : Int) (b_ : Int) : ((Sl Int) × Int) → Option (Sum ((Sl Int) × Int) (Sl Int)) := fun (w1, w4) =>
  bif decide (w4 < b_) then
    kA0 (kBa (kHm p_ a_) (w1, w4)) fun q17 =>
    some (.inl (q17, wr (w4 + 1)))
  else
    some (.inr w1)
def t_q32 (p_ : Int → Int → Option Int) (data_ : Sl Int) (a_ : Int) (b_ : Int) : Option (Sl Int) :=
  kA0 (kBa (kFa p_ a_ b_) (data_, wr (a_ + 1))) fun q7 =>
  some q7
theorem tl1_q32 (env : Nat → Contract) {B : Base} {g : Nat} {f_ : List AV → Option AV} {P : Int → Int → Option Int} {o_ : Nat} {cv_ : AV} (he_g : env g = .pure f_) (hp : ∀ a b h, h[o_]? = some ⟨1, [[cv_]]⟩ → Sim (kAb f_ [iv a, iv b, AV.ptr o_ 1 0 0] h) (P a b) fun c r => r = (iv c, h))  (xd_ : AV) (a_ : Int) (b_ : Int) (w4 : Int)  : kG7 (fun (st : (Sl Int) × Int) tm h12 => match st with | (w11, w14) => tm = (xd_ :: (iv a_) :: (iv b_) :: (AV.fn g [AV.ptr o_ 1 0 0]) :: und :: und :: und :: und :: (iv w4) :: (iv w14) :: (iv a_) :: (iv (wr (a_ + 1))) :: (iv w4) :: (iv b_) :: (bv (decide (w4 < b_))) :: .top :: .top :: (iv w4) :: tZ9 35 []) ∧ Hold B h12 [(xd_, obS (w11 : Sl Int)), pZ9 o_ 1 [cv_]]) hm1_q32 xm1_q32 (lb1_q32 env) (kHm P a_) (fun (q : Sl Int) (r : Res) => match q with | q17 => ∃ (q18 : Int) (h15 : kA4), r = (.exit 2, (xd_ :: (iv a_) :: (iv b_) :: (AV.fn g [AV.ptr o_ 1 0 0]) :: und :: und :: und :: und :: (iv w4) :: (iv q18) :: (iv a_) :: (iv (wr (a_ + 1))) :: (iv w4) :: (iv b_) :: (bv (decide (w4 < b_))) :: .top :: .top :: (iv w4) :: tZ9 35 []), h15) ∧ Hold B h15 [(xd_, obS (q17 : Sl Int)), pZ9 o_ 1 [cv_]]) := by
  refine @kGi _ _ _ _ _ _ _ _ (fun st tm h12 R => ?_)
  obtain ⟨w11, w14⟩ := st
  obtain ⟨rfl, O13⟩ := R
  rw [e_lb1_q32]
  unfold kHm
  dsimp only
  refine kA1 (kE4 _ _) ?_
  refine sim_g12T (e := bv) (fun hb20 => ?_) (fun y31 y32 y33 y34 y35 y36 y37 y38 y39 y40 y41 c30 => ?_)
  · refine kC1 ?_
    refine kC1 ?_
    refine kC1 ?_
    refine kDt ?_
    refine kAg (O13.tab (A := Int) (s := w11) 0 rfl) (fun m22 a21 hi23 hm24 => ?_)
    refine kC1 ?_
    refine kDt ?_
    refine kA1 (v := iv a21) ((O13.tab (A := Int) (s := w11) 0 rfl).ld hm24 false 1 0) ?_
    refine kC1 ?_
    refine kC1 ?_
    refine kC1 ?_
    refine kDt ?_
    refine kA1 (kAp _ _) ?_
    refine kC1 ?_
    refine kDt ?_
    refine kAg (O13.tab (A := Int) (s := w11) 0 rfl) (fun m26 a25 hi27 hm28 => ?_)
    refine kC1 ?_
    refine kDt ?_
    refine kA1 (v := iv a25) ((O13.tab (A := Int) (s := w11) 0 rfl).ld hm28 false 1 0) ?_
    refine kC1 ?_
    refine sim_o2 ?_
    refine kFj he_g (hp a21 a25 _ (O13.ptr (i := 1) rfl)) (fun c29 => ?_)
    refine kC1 ?_
    refine kA1 (kAa _ _) ?_
    exact kA6 rfl
  · refine kA1 (v := bv (bif decide (a_ < w14) then c30 else false)) (kEg _ _ _) ?_
    refine kA9 (fun c42 => ?_) (fun c42 => ?_)
    · refine kA1 (kAp _ _) ?_
      refine kA1 (kAp _ _) ?_
      refine kAg (O13.tab (A := Int) (s := w11) 0 rfl) (fun m44 a43 hi45 hm46 => ?_)
      refine kA1 (v := iv a43) ((O13.tab (A := Int) (s := w11) 0 rfl).ld hm46 false 1 0) ?_
      refine kAg (O13.tab (A := Int) (s := w11) 0 rfl) (fun m48 a47 hi49 hm50 => ?_)
      refine kA1 (v := iv a47) ((O13.tab (A := Int) (s := w11) 0 rfl).ld hm50 false 1 0) ?_
      refine kAg (O13.tab (A := Int) (s := w11) 0 rfl) (fun m52 a51 hi53 hm54 => ?_)
      refine kFr (A := Int) O13 0 a43 rfl hi53 hm54 rfl (by first | (simp; done) | exact Nat.le_of_ble_eq_true rfl) (by first | rfl | simp) (by first | rfl | simp [kBe]) (fun h55 O56 => ?_)
      replace O56 : Hold B h55 [(xd_, obS ((kC9 w11 w14 a43) : Sl Int)), pZ9 o_ 1 [cv_]] := O56
      refine kAg (O56.tab (A := Int) (s := (kC9 w11 w14 a43)) 0 rfl) (fun m58 a57 hi59 hm60 => ?_)
      refine kFr (A := Int) O56 0 a47 rfl hi59 hm60 rfl (by first | (simp; done) | exact Nat.le_of_ble_eq_true rfl) (by first | rfl | simp) (by first | rfl | simp [kBe]) (fun h61 O62 => ?_)
      replace O62 : Hold B h61 [(xd_, obS ((kC9 (kC9 w11 w14 a43) (wr (w14 - 1)) a47) : Sl Int)), pZ9 o_ 1 [cv_]] := O62
      refine kA1 (kAp _ _) ?_
      exact kA6 ⟨rfl, rfl, O62⟩
    · exact kA6 ⟨nofun, _, _, rfl, O13⟩
theorem tl0_q32 (env : Nat → Contract) {B : Base} {g : Nat} {f_ : List AV → Option AV} {P : Int → Int → Option Int} {o_ : Nat} {cv_ : AV} (he_g : env g = .pure f_) (hp : ∀ a b h, h[o_]? = some ⟨1, [[cv_]]⟩ → Sim (kAb f_ [iv a, iv b, AV.ptr o_ 1 0 0] h) (P a b) fun c r => r = (iv c, h))  (xd_ : AV) (a_ : Int) (b_ : Int)  : kG7 (fun (st : (Sl Int) × Int) tm h2 => match st with | (w1, w4) => tm = (xd_ :: (iv a_) :: (iv b_) :: (AV.fn g [AV.ptr o_ 1 0 0]) :: und :: und :: und :: und :: (iv w4) :: .top :: (iv a_) :: (iv (wr (a_ + 1))) :: tZ9 41 []) ∧ Hold B h2 [(xd_, obS (w1 : Sl Int)), pZ9 o_ 1 [cv_]]) hm0_q32 xm0_q32 (lb0_q32 env) (kFa P a_ b_) (fun (q : Sl Int) (r : Res) => match q with | q7 => ∃ (q8 : Int) (z9 : AV) (h5 : kA4), r = (.exit 0, (xd_ :: (iv a_) :: (iv b_) :: (AV.fn g [AV.ptr o_ 1 0 0]) :: und :: und :: und :: und :: (iv q8) :: z9 :: (iv a_) :: (iv (wr (a_ + 1))) :: tZ9 41 []), h5) ∧ Hold B h5 [(xd_, obS (q7 : Sl Int)), pZ9 o_ 1 [cv_]]) := by
  refine @kGi _ _ _ _ _ _ _ _ (fun st tm h2 R => ?_)
  obtain ⟨w1, w4⟩ := st
  obtain ⟨rfl, O3⟩ := R
  rw [e_lb0_q32]
  unfold kFa
  dsimp only
  refine kA1 (kAa _ _) ?_
  refine kA9 (fun c10 => ?_) (fun c10 => ?_)
  · refine kB2 ((tl1_q32 env he_g hp xd_ a_ b_ w4) ⟨rfl, O3⟩) (fun qq66 r hq => ?_)
    revert hq
    revert qq66
    intro q17 hq
    obtain ⟨q18, h15, rfl, O16⟩ := hq
    rw [e_lk1x2_q32]
    refine kA1 (kAi _ _) ?_
    exact kA6 ⟨rfl, rfl, O16⟩
  · exact kA6 ⟨nofun, _, _, _, rfl, O3⟩
theorem ts_q32 (env : Nat → Contract) {g : Nat} {f_ : List AV → Option AV} {P : Int → Int → Option Int} {o_ : Nat} {cv_ : AV} (he_g : env g = .pure f_) (hp : ∀ a b h, h[o_]? = some ⟨1, [[cv_]]⟩ → Sim (kAb f_ [iv a, iv b, AV.ptr o_ 1 0 0] h) (P a b) fun c r => r = (iv c, h))  {B : Base} {h : kA4} {xd_ : AV} (data_ : Sl Int) (a_ : Int) (b_ : Int) (O : Hold B h [(xd_, obS (data_ : Sl Int)), pZ9 o_ 1 [cv_]]) : Sim (kAo Try.prog env n_q32 [xd_, iv a_, iv b_, AV.fn g [AV.ptr o_ 1 0 0]] h) (t_q32 P data_ a_ b_) fun c p => p.1 = AV.tup [] ∧ Hold B p.2 [(xd_, obS (c : Sl Int)), pZ9 o_ 1 [cv_]] := by
  rw [e_q32]
  unfold t_q32
  refine kA1 (kAi _ _) ?_
  refine kB2 ((tl0_q32 env he_g hp xd_ a_ b_) ⟨rfl, O⟩) (fun qq69 r hq => ?_)
  revert hq
  revert qq69
  intro q7 hq
  obtain ⟨q8, z9, h5, rfl, O6⟩ := hq
  rw [e_lk0x0_q32]
  exact kA6 ⟨rfl, O6⟩
def s0_q35 (p_ : Int → Int → Option Int) (a_ : Int) (b_ : Int) (n_ : Int) : ((Sl Int) × Int) → Option (Sum ((Sl Int) × Int) (Sl Int)) := fun (w1, w4) =>
  bif decide (w4 < n_) then
    kA0 (kBp (w1.getD []) (wr (b_ + w4))) fun a10 =>
    kA0 (kBp (w1.getD []) (wr (a_ + w4))) fun a14 =>
    kA0 (kBp (w1.getD []) (wr (a_ + w4))) fun a18 =>
    kA0 (kBp ((kC9 w1 (wr (a_ + w4)) a10).getD []) (wr (b_ + w4))) fun a24 =>
    some (.inl ((kC9 (kC9 w1 (wr (a_ + w4)) a10) (wr (b_ + w4)) a14), wr (w4 + 1)))
  else
    some (.inr w1)
def t_q35 (p_ : Int → Int → Option Int) (data_ : Sl Int) (a_ : Int) (b_ : Int) (n_ : Int) : Option (Sl Int) :=
  kA0 (kBa (s0_q35 p_ a_ b_ n_) (data_, 0)) fun q7 =>
  some q7
theorem tl0_q35 (env : Nat → Contract) {B : Base} {g : Nat} {f_ : List AV → Option AV} {P : Int → Int → Option Int} {o_ : Nat} {cv_ : AV} (he_g : env g = .pure f_) (hp : ∀ a b h, h[o_]? = some ⟨1, [[cv_]]⟩ → Sim (kAb f_ [iv a, iv b, AV.ptr o_ 1 0 0] h) (P a b) fun c r => r = (iv c, h))  (xd_ : AV) (a_ : Int) (b_ : Int) (n_ : Int)  : kG7 (fun (st : (Sl Int) × Int) tm h2 => match st with | (w1, w4) => tm = (xd_ :: (iv a_) :: (iv b_) :: (iv n_) :: (AV.fn g [AV.ptr o_ 1 0 0]) :: und :: und :: und :: und :: und :: (iv w4) :: tZ9 27 []) ∧ Hold B h2 [(xd_, obS (w1 : Sl Int)), pZ9 o_ 1 [cv_]]) hm0_q35 xm0_q35 (lb0_q35 env) (s0_q35 P a_ b_ n_) (fun (q : Sl Int) (r : Res) => match q with | q7 => ∃ (q8 : Int) (h5 : kA4), r = (.exit 0, (xd_ :: (iv a_) :: (iv b_) :: (iv n_) :: (AV.fn g [AV.ptr o_ 1 0 0]) :: und :: und :: und :: und :: und :: (iv q8) :: tZ9 27 []), h5) ∧ Hold B h5 [(xd_, obS (q7 : Sl Int)), pZ9 o_ 1 [cv_]]) := by
  refine @kGi _ _ _ _ _ _ _ _ (fun st tm h2 R => ?_)
  obtain ⟨w1, w4⟩ := st
  obtain ⟨rfl, O3⟩ := R
  rw [e_lb0_q35]
  unfold s0_q35
  dsimp only
  refine kA1 (kAa _ _) ?_
  refine kA9 (fun c9 => ?_) (fun c9 => ?_)
  · refine kA1 (kAi _ _) ?_
    refine kA1 (kAi _ _) ?_
    refine kA1 (kAi _ _) ?_
    refine kAg (O3.tab (A := Int) (s := w1) 0 rfl) (fun m11 a10 hi12 hm13 => ?_)
    refine kA1 (v := iv a10) ((O3.tab (A := Int) (s := w1) 0 rfl).ld hm13 false 1 0) ?_
    refine kA1 (kAi _ _) ?_
    refine kAg (O3.tab (A := Int) (s := w1) 0 rfl) (fun m15 a14 hi16 hm17 => ?_)
    refine kA1 (v := iv a14) ((O3.tab (A := Int) (s := w1) 0 rfl).ld hm17 false 1 0) ?_
    refine kAg (O3.tab (A := Int) (s := w1) 0 rfl) (fun m19 a18 hi20 hm21 => ?_)
    refine kFr (A := Int) O3 0 a10 rfl hi20 hm21 rfl (by first | (simp; done) | exact Nat.le_of_ble_eq_true rfl) (by first | rfl | simp) (by first | rfl | simp [kBe]) (fun h22 O23 => ?_)
    replace O23 : Hold B h22 [(xd_, obS ((kC9 w1 (wr (a_ + w4)) a10) : Sl Int)), pZ9 o_ 1 [cv_]] := O23
    refine kAg (O23.tab (A := Int) (s := (kC9 w1 (wr (a_ + w4)) a10)) 0 rfl) (fun m25 a24 hi26 hm27 => ?_)
    refine kFr (A := Int) O23 0 a14 rfl hi26 hm27 rfl (by first | (simp; done) | exact Nat.le_of_ble_eq_true rfl) (by first | rfl | simp) (by first | rfl | simp [kBe]) (fun h28 O29 => ?_)
    replace O29 : Hold B h28 [(xd_, obS ((kC9 (kC9 w1 (wr (a_ + w4)) a10) (wr (b_ + w4)) a14) : Sl Int)), pZ9 o_ 1 [cv_]] := O29
    refine kA1 (kAi _ _) ?_
    exact kA6 ⟨rfl, rfl, O29⟩
  · exact kA6 ⟨nofun, _, _, rfl, O3⟩
theorem ts_q35 (env : Nat → Contract) {g : Nat} {f_ : List AV → Option AV} {P : Int → Int → Option Int} {o_ : Nat} {cv_ : AV} (he_g : env g = .pure f_) (hp : ∀ a b h, h[o_]? = some ⟨1, [[cv_]]⟩ → Sim (kAb f_ [iv a, iv b, AV.ptr o_ 1 0 0] h) (P a b) fun c r => r = (iv c, h))  {B : Base} {h : kA4} {xd_ : AV} (data_ : Sl Int) (a_ : Int) (b_ : Int) (n_ : Int) (O : Hold B h [(xd_, obS (data_ : Sl Int)), pZ9 o_ 1 [cv_]]) : Sim (kAo Try.prog env n_q35 [xd_, iv a_, iv b_, iv n_, AV.fn g [AV.ptr o_ 1 0 0]] h) (t_q35 P data_ a_ b_ n_) fun c p => p.1 = AV.tup [] ∧ Hold B p.2 [(xd_, obS (c : Sl Int)), pZ9 o_ 1 [cv_]] := by
  rw [e_q35]
  unfold t_q35
  refine kB2 ((tl0_q35 env he_g hp xd_ a_ b_ n_) ⟨rfl, O⟩) (fun qq33 r hq => ?_)
  revert hq
  revert qq33
  intro q7 hq
  obtain ⟨q8, h5, rfl, O6⟩ := hq
  rw [e_lk0x0_q35]
  exact kA6 ⟨rfl, O6⟩
end Go.Proofs.Ytfhffgfbnlikjaa
