import Derived.Test.YtfhffgfbnlikjaaFnExactLinesOfGen
namespace Go.Proofs.Ytfhffgfbnlikjaa
open Go Go.Eng Go.Eng.Cod
set_option maxRecDepth 100000
set_option linter.unusedVariables false
set_option linter.unusedSimpArgs false
theorem nil_ok : kBl Try.prog (kC8 []) := E0
def kEv (a b c : Int) : Bool := decide (b ≤ a) && decide (a ≤ c)
theorem ok_q12 : kAo Try.prog n_q12 (T3 kEv) := pureT3 nil_ok mixed hb_q12 fun a b c => by
  simp [e_q12, kEv]
theorem ok_q37 : kAo Try.prog n_q37 (T3 kEv) := pureT3 nil_ok mixed hb_q37 fun a b c => by
  simp [e_q37, kEv]
theorem ok_q38 : kAo Try.prog n_q38 (T2 fun a b : Int => max a b) := pureT2 nil_ok mixed hb_q38 fun a b => by
  simp [e_q38, maxI]
def kBd (b : Box) : Bool := kEv b.x1 0 b.x2 && kEv b.y1 0 b.y2 && decide (b.x2 ≤ 4095) && decide (b.y2 ≤ 4095)
theorem ok_q4 : kAo Try.prog n_q4 (T1 kBd) :=
  pureT1 (E1 ok_q12) mixed hb_q4 fun b => by
  simp [e_q4, kC8, kFm, kAc, cut, kBd]
theorem ok_q40 : kAo Try.prog n_q40 (T1 kBd) :=
  pureT1 (E1 ok_q37) mixed hb_q40 fun b => by
  simp [e_q40, kC8, kFm, kAc, cut, kBd]
theorem ok_q25 : kAo Try.prog n_q25 (T1 fun b : Box => b) := pureT1 nil_ok mixed hb_q25 fun b => by
  simp [e_q25, kFm, kAc, cut, kAu, kB9, retL, resL, pack]
theorem ok_q14 : kAo Try.prog n_q14 (T2 fun a b : Box => decide (a = b)) := pureT2 nil_ok mixed hb_q14 fun a b => by
  simp [e_q14, kFm, kAc, cut]
  obtain ⟨a1, a2, a3, a4⟩ := a
  obtain ⟨b1, b2, b3, b4⟩ := b
  simp
theorem ok_q7 : kAo Try.prog n_q7 (T1 fun b : Box => !kBd b) := pureT1 (E1 ok_q4) mixed hb_q7 fun b => by
  simp [e_q7, kC8, kFm, kAc, cut]
theorem grow_of_below {W w' : World} (h : BelowD W.heap.size W w') : ∃ q os, w' = Go.Sort.grow (W.drewN q) os := by
  refine ⟨w'.drawn - W.drawn, w'.heap.extract W.heap.size w'.heap.size, ?_⟩
  have hd := h.drawn trivial
  have hs := h.size
  have e1 : w'.heap = W.heap ++ w'.heap.extract W.heap.size w'.heap.size := by
    apply Array.ext
    · simp
      omega
    · intro i h1 h2
      by_cases hi : i < W.heap.size
      · have b := h.block i hi
        rw [Array.getElem?_eq_getElem h1, Array.getElem?_eq_getElem hi] at b
        rw [Array.getElem_append_left hi]
        exact Option.some.inj b
      · rw [Array.getElem_append_right (by omega), Array.getElem_extract]
        congr 1
        omega
  obtain ⟨h1, h2, h3⟩ := (⟨h.os, h.tape, h.output⟩ : _ ∧ _ ∧ _)
  cases w' with
  | mk hp tp dr os out =>
    unfold Go.Sort.grow World.drewN
    simp only at *
    subst h1 h2 h3
    rw [← e1]
    congr 1
    omega
abbrev IxT (m : Nat) := {i : Int // 0 ≤ i ∧ i < ((m + 1 : Nat) : Int)}
instance instIxT (m : Nat) : Inhabited (IxT m) := ⟨⟨0, by omega, by omega⟩⟩
def encIx {m : Nat} (x : IxT m) : Value := .int .i64 x.1
theorem callPure_below {P : Program} {X : Nat → Prop} {w : World} {ρ : RM} {g : Nat} {f : List AV → Option AV} (hf : kAo P g f) {h : kA4} {args ds : List AV} {r : AV} (hds : kB4 (snap h depth) args = some ds) (hr' : f ds = some r) (hr : HRep P X ρ h w)
    {vs : Array Value} (hn : vs.size = args.length) (hvs : ∀ (i : Nat) (d : AV) (u : Value), args[i]? = some d → vs[i]? = some u → Rep (Own X ρ) w ρ d u) :
    kH3 P g vs w fun e w' => ∃ u, e = .returned u ∧ BelowD w.heap.size w w' ∧ RepN noX w.heap.size w' r u := by
  have hl := (kCe hds).1
  refine hf ds r hr' noX w vs hr.glob.glob (by omega) (fun i d u e1 e2 => ?_)
  obtain ⟨a, e3, e4⟩ := kCq hds e1
  exact snap_ok hr (List.prefix_refl _) depth a d u e4 (hvs i a u e3 e2)
theorem repN_sc1 {X : Nat → Prop} {B : Nat} {w : World} {u v : Value} (h : RepN X B w (.sc u) v) : v = u := by
  obtain ⟨ρ0, _, h2⟩ := h
  obtain ⟨h3, h4⟩ := h2 0
  obtain ⟨_, g⟩ := h4 (mat depth (.sc u) 0).2 (fun i ob e => by simpa using e)
  have : (mat depth (.sc u) 0).1 = .sc u := rfl
  rw [this] at g
  cases g
  rfl
theorem toIx {m : Nat} : ∀ {zs : List Int}, (∀ z ∈ zs, 0 ≤ z ∧ z < ((m + 1 : Nat) : Int)) → ∃ xs : List (IxT m), zs = xs.map (·.1)
  | [], _ => ⟨[], rfl⟩
  | z :: zs, h => by
    obtain ⟨xs, e⟩ := toIx (zs := zs) fun y hy => h y (List.mem_cons_of_mem _ hy)
    exact ⟨⟨z, h z List.mem_cons_self⟩ :: xs, by rw [List.map_cons, ← e]⟩
def ltC (cf : Int → Int → Int) (x y : Int) : Bool := decide (cf x y < 0)
def kGo (cf : Int → Int → Int) (zs : List Int) : List Int := zs.mergeSort fun x y => !ltC cf y x
theorem sortC_len (cf : Int → Int → Int) (zs : List Int) : (kGo cf zs).length = zs.length := List.length_mergeSort _
theorem hrep_put {P : Program} {X : Nat → Prop} {ρ : RM} {w : World} {h : kA4} (hr : HRep P X ρ h w) {o : Nat} {io : OI} (hρ : ρ o = some io) {ob : AObj} (hob : h[o]? = some ob) (hk : io.k = 1) (ys : List Int) (hy : ys.length = io.ep) (hC : io.ep ≤ io.C) (q : Nat) (os : Array Obj) :
    HRep P X (ρ.put o ⟨io.b, io.C, io.k, ys.length⟩) (h.set o ⟨1, ys.map fun z => [iv z]⟩) (Go.Sort.grow ((w.drewN q).setCells io.b 0 (ys.map (Value.int .i64))) os) ∧ Step ρ w (ρ.put o ⟨io.b, io.C, io.k, ys.length⟩) (Go.Sort.grow ((w.drewN q).setCells io.b 0 (ys.map (Value.int .i64))) os) := by
  have hd : ∀ b : Nat, (w.drewN q).heap[b]? = w.heap[b]? := fun b => rfl
  have hr1 : HRep P X ρ h (w.drewN q) := hr.keepAll (Nat.le_refl _) fun b _ => hd b
  have st1 : Step ρ w ρ (w.drewN q) := Step.keepAll (Nat.le_refl _) (fun b _ => hd b) rfl rfl rfl (Nat.le_add_right _ _)
  obtain ⟨hr2, st2⟩ := hr1.write (ob' := ⟨1, ys.map fun z => [iv z]⟩) hρ hob hk.symm (by simp only [List.length_map]; omega) (by simp only [List.length_map]; omega)
    (fun row hrow => by
      obtain ⟨z, _, rfl⟩ := List.mem_map.1 hrow
      exact ⟨by rw [hk]; rfl, rfl⟩) 0 (ys.map (Value.int .i64)) (by rw [hk, List.length_map]; omega) (fun i j c hcell => by
      obtain ⟨row, q1, q2⟩ := kB1 hcell
      simp only [List.getElem?_map] at q1
      cases q3 : ys[i]? with
      | none => rw [q3] at q1; cases q1
      | some z =>
        rw [q3] at q1
        cases q1
        have hil := (List.getElem?_eq_some_iff.1 q3).1
        cases j with
        | zero =>
          cases q2
          refine ⟨.int .i64 z, ?_, .sc rfl⟩
          rw [if_pos ⟨by omega, by rw [hk, List.length_map]; omega⟩, hk, List.getElem?_map]
          simp only [Nat.mul_one, Nat.add_zero, Nat.sub_zero, q3]
          rfl
        | succ j => simp at q2)
  simp only [List.length_map] at hr2 st2
  have hg : ∀ b : Nat, b < ((w.drewN q).setCells io.b 0 (ys.map (Value.int .i64))).heap.size → (Go.Sort.grow ((w.drewN q).setCells io.b 0 (ys.map (Value.int .i64))) os).heap[b]? = ((w.drewN q).setCells io.b 0 (ys.map (Value.int .i64))).heap[b]? := fun b hb => Go.Sort.heap_grow_old _ _ hb
  have hsg : ((w.drewN q).setCells io.b 0 (ys.map (Value.int .i64))).heap.size ≤ (Go.Sort.grow ((w.drewN q).setCells io.b 0 (ys.map (Value.int .i64))) os).heap.size := by rw [Go.Sort.size_grow]; omega
  exact ⟨hr2.keepAll hsg hg, (st1.trans st2).trans (Step.keepAll hsg hg rfl rfl rfl (Nat.le_refl _))⟩
def kFu {Z : Type} [Cod Z] (len : Z → Nat) (gc : Nat) (cf : Z → Int → Int → Int) : List AV → kA4 → Option (AV × kA4)
  | [.sl o ep 0 n, .fn f [.ptr oc 1 0 0]], h => if f = gc ∧ oc ≠ o then (match h[o]?, h[oc]? with
    | some ob, some ⟨1, [[cv]]⟩ => (match intsOf ob.rows, (Cod.dec cv : Option Z) with
      | some zs, some q => if ob.rows.length = ep ∧ n = ep ∧ ob.k = 1 ∧ n ≤ 4294967296 ∧ (∀ z ∈ zs, 0 ≤ z ∧ z < (len q : Int)) then some (.tup [], h.set o ⟨1, (kGo (cf q) zs).map fun z => [iv z]⟩) else none
      | _, _ => none)
    | _, _ => none) else none
  | [.sc (.slice none 0 0), .fn f [.ptr _ 1 0 0]], h => if f = gc then some (.tup [], h) else none
  | _, _ => none
theorem map_sortC {m : Nat} (cf : Int → Int → Int) (xs : List (IxT m)) : kGo cf (xs.map (·.1)) = (xs.mergeSort fun x y => !Go.Proofs.ltOf (fun a b : IxT m => cf a.1 b.1) y x).map (·.1) := by
  unfold kGo
  exact (List.map_mergeSort (r := fun x y : IxT m => !Go.Proofs.ltOf (fun a b : IxT m => cf a.1 b.1) y x) (s := fun x y => !ltC cf y x) (f := fun x : IxT m => x.1) (l := xs) (fun a _ b _ => rfl)).symm
structure TotC (n : Nat) (cf : Int → Int → Int) : Prop where
  irr : ∀ x : Int, 0 ≤ x → x < n → ltC cf x x = false
  tr : ∀ x y z : Int, 0 ≤ x → x < n → 0 ≤ y → y < n → 0 ≤ z → z < n → ltC cf x y = true → ltC cf y z = true → ltC cf x z = true
  tri : ∀ x y : Int, 0 ≤ x → x < n → 0 ≤ y → y < n → ltC cf x y = true ∨ x = y ∨ ltC cf y x = true
theorem TotC.swo {m : Nat} {cf : Int → Int → Int} (h : TotC (m + 1) cf) : Go.Sort.SWO (Go.Proofs.ltOf fun a b : IxT m => cf a.1 b.1) where
  irrefl x := h.irr x.1 x.2.1 x.2.2
  trans x y z h1 h2 := h.tr x.1 y.1 z.1 x.2.1 x.2.2 y.2.1 y.2.2 z.2.1 z.2.2 h1 h2
  ntrans x y z h1 h2 := by
    show ltC cf x.1 z.1 = false
    have h1' : ltC cf x.1 y.1 = false := h1
    have h2' : ltC cf y.1 z.1 = false := h2
    cases e : ltC cf x.1 z.1 with
    | false => rfl
    | true =>
      rcases h.tri x.1 y.1 x.2.1 x.2.2 y.2.1 y.2.2 with g | g | g
      · rw [g] at h1'; cases h1'
      · rw [← g] at h2'; rw [e] at h2'; cases h2'
      · have := h.tr _ _ _ y.2.1 y.2.2 x.2.1 x.2.2 z.2.1 z.2.2 g e
        rw [this] at h2'; cases h2'
theorem TotC.one {m : Nat} {cf : Int → Int → Int} (h : TotC (m + 1) cf) (x y : IxT m) (h1 : (Go.Proofs.ltOf fun a b : IxT m => cf a.1 b.1) x y = false) (h2 : (Go.Proofs.ltOf fun a b : IxT m => cf a.1 b.1) y x = false) : x = y := by
  have h1' : ltC cf x.1 y.1 = false := h1
  have h2' : ltC cf y.1 x.1 = false := h2
  rcases h.tri x.1 y.1 x.2.1 x.2.2 y.2.1 y.2.2 with g | g | g
  · rw [g] at h1'; cases h1'
  · exact Subtype.ext g
  · rw [g] at h2'; cases h2'
theorem gen_sortC {P : Program} {g gc : Nat} {Z : Type} [Cod Z] {len : Z → Nat} {f : List AV → Option AV} {cf : Z → Int → Int → Int} (hbody : kAe P g) (hbc : kAe P gc) (hf : kAo P gc f) (htot : ∀ q, TotC (len q) (cf q))
    (hcf : ∀ (q : Z) (x y : Int) (h : kA4) (oc : Nat), 0 ≤ x → x < len q → 0 ≤ y → y < len q → h[oc]? = some ⟨1, [[Cod.enc q]]⟩ → ∃ ds, kB4 (snap h depth) [iv x, iv y, .ptr oc 1 0 0] = some ds ∧ f ds = some (iv (cf q x y)))
    (hc : ∀ (m : Nat) (c : IxT m → IxT m → Int), Go.Sort.SWO (Go.Proofs.ltOf c) → (∀ x y, (Go.Proofs.ltOf c) x y = false → (Go.Proofs.ltOf c) y x = false → x = y) → ∀ (cb : Array Value) (blk off cap : Nat) (d : Array (IxT m)) (w : World), Go.Proofs.CmpLays1 P gc cb encIx c blk off d.size w → Go.Sort.Holds encIx w blk off d → blk < w.heap.size → d.size < 4611686018427387904 →
      Calls P g #[.slice (some ⟨blk, off, none⟩) d.size cap, .func (.func gc) #[] cb] w fun e w' => e = .returned (.tuple #[]) ∧ ∃ n os, w' = Go.Proofs.sortWorld encIx w blk off n (d.toList.mergeSort fun x y => !(Go.Proofs.ltOf c) y x).toArray os)
    (hn : ∀ (p : Option Addr) (cap : Nat) (fv : Value) (w : World), Calls P g #[.slice p 0 cap, fv] w fun e w' => e = .returned (.tuple #[]) ∧ w' = w) : GenOK P g (kFu len gc cf) := by
  intro az h r h' hF X ρ w vs hr hsz hvs
  unfold kFu at hF
  split at hF
  · rename_i o ep n f0 oc
    split at hF
    · rename_i hf0
      obtain ⟨rfl, hne⟩ := hf0
      split at hF
      · rename_i ob cv hob hoc
        split at hF
        · rename_i zs q hzs hq
          split at hF
          · rename_i hcnd
            obtain ⟨c1, c2, c3, c4, c5⟩ := hcnd
            cases hF
            have hrows := intsOf_spec hzs
            have hcv := Cod.ed _ _ hq
            subst hcv
            obtain ⟨v, u, rfl⟩ : ∃ v u, vs = #[v, u] := by
              match vs, hsz with
              | ⟨[v, u]⟩, _ => exact ⟨v, u, rfl⟩
            have hv := hvs 0 _ v rfl rfl
            have hu := hvs 1 _ u rfl rfl
            have hzl : zs.length = n := by
              have := congrArg List.length hrows
              rw [List.length_map] at this
              omega
            unfold kH3
            rw [kCw hbody]
            show Calls P g _ w _
            cases hu with
            | @fn _ _ _ fvs hfn hfc =>
              obtain ⟨cbv, rfl⟩ : ∃ cbv, fvs = #[cbv] := by
                match fvs, hfn with
                | ⟨[cbv]⟩, _ => exact ⟨cbv, rfl⟩
              have hcb := hfc 0 _ cbv rfl rfl
              cases hv with
              | @sl _ _ _ _ _ cap a io hρ he hh =>
                obtain ⟨ob0, e0, R⟩ := hr.obj o io hρ
                rw [hob] at e0
                cases e0
                have hep : io.ep = ep := by rw [← R.ep]; exact c1
                obtain ⟨k1, k2, k3⟩ := hh hep
                have hk : io.k = 1 := by rw [← R.k]; exact c3
                have hCle := R.le
                cases n with
                | zero =>
                  have hz0 : zs = [] := List.length_eq_zero_iff.1 hzl
                  subst hz0
                  refine (hn (some a) cap _ w).mono fun e w' ⟨h1, h2⟩ => ?_
                  subst h1 h2
                  refine ⟨_, rfl, ρ, ?_, Step.refl _ _, .tup rfl fun i c v h => by simp at h⟩
                  have e1 : h.set o ⟨1, (kGo (cf q) []).map fun z => [iv z]⟩ = h := by
                    obtain ⟨hlt, e2⟩ := List.getElem?_eq_some_iff.1 hob
                    have e3 : ob = ⟨1, (kGo (cf q) []).map fun z => [iv z]⟩ := by
                      cases ob
                      simp only at c3 hrows
                      subst c3 hrows
                      simp [kGo]
                    rw [← e3, ← e2]
                    exact List.set_getElem_self hlt
                  rw [e1]
                  exact hr
                | succ n =>
                  have ha := k3 (by omega)
                  subst ha
                  simp only [Nat.zero_mul]
                  obtain ⟨m, hm⟩ : ∃ m, len q = m + 1 := by
                    have h0 := c5 zs[0] (List.getElem_mem _)
                    exact ⟨len q - 1, by omega⟩
                  obtain ⟨xs, rfl⟩ := toIx (m := m) (zs := zs) (by rw [← hm]; exact c5)
                  rw [List.length_map] at hzl
                  have hcellz : ∀ j (x : IxT m), xs[j]? = some x → w.cell? ⟨io.b, j, none⟩ = some (.int .i64 x.1) := fun j x hj => by
                    have hc0 : kB0 ob.rows j 0 = some (iv x.1) := by
                      rw [hrows]
                      unfold kB0
                      rw [List.getElem?_map, List.getElem?_map, hj]
                      rfl
                    obtain ⟨v, e1, e2⟩ := R.cells j 0 _ hc0
                    rw [rep_int e2, hk, Nat.mul_one, Nat.add_zero] at e1
                    exact e1
                  have hH : Go.Sort.Holds encIx w io.b 0 xs.toArray := fun j hj => by
                    have hj' : j < xs.length := by simpa using hj
                    rw [Nat.zero_add]
                    refine ⟨?_, (R.there j (by rw [hk]; omega)).2⟩
                    rw [hcellz j _ (List.getElem?_eq_getElem hj')]
                    simp [encIx, hj']
                  have htq := htot q
                  rw [hm] at htq
                  have back : ∀ (N : Nat) (ys : List (IxT m)) (os : Array Obj), ys.length = xs.length → Go.Proofs.sortWorld encIx w io.b 0 N ys.toArray os = Go.Sort.grow ((w.drewN N).setCells io.b 0 ((ys.map (·.1)).map (Value.int .i64))) os := fun N ys os hy => by
                    have hput := Go.Lib.putRow_eq_setCells encIx w io.b 0 xs.toArray ys N hH (by simpa using hy)
                    rw [List.map_map]
                    show Go.Sort.grow (Go.Sort.putRow encIx (Go.Sort.ahead w N) io.b 0 ys.toArray) os = _
                    rw [hput]
                    rfl
                  have hcmp : Go.Proofs.CmpLays1 P f0 #[cbv] encIx (fun a b : IxT m => cf q a.1 b.1) io.b 0 xs.toArray.size w := fun N os dk hdk x y => by
                    have hdl : dk.toList.length = xs.length := by simpa using hdk
                    have eW := back N dk.toList os hdl
                    rw [Array.toArray_toList] at eW
                    obtain ⟨hrd, _⟩ := hrep_put hr hρ hob hk (dk.toList.map (·.1)) (by rw [List.length_map, hdl]; omega) hCle N os
                    rw [← eW] at hrd
                    obtain ⟨ds, d1, d2⟩ := hcf q x.1 y.1 (h.set o ⟨1, (dk.toList.map (·.1)).map fun z => [iv z]⟩) oc x.2.1 (by have := x.2.2; omega) y.2.1 (by have := y.2.2; omega) (by rw [List.getElem?_set_ne (Ne.symm hne)]; exact hoc)
                    have hp := callPure_below hf d1 d2 hrd (vs := #[encIx x, encIx y] ++ #[cbv]) (by simp) (fun i d u e1 e2 => by
                      match i, e1, e2 with
                      | 0, e1, e2 => cases e1; cases e2; exact .sc rfl
                      | 1, e1, e2 => cases e1; cases e2; exact .sc rfl
                      | 2, e1, e2 =>
                        cases e1; cases e2
                        cases hcb with
                        | @ptr _ _ _ _ _ a' io' hρ' he' hh' => exact .ptr (by rw [kCi hne]; exact hρ') he' hh'
                      | i + 3, e1, e2 => simp at e1)
                    unfold kH3 at hp
                    rw [kCw hbc] at hp
                    refine (show Calls P f0 _ _ _ from hp).mono fun e w' ⟨v, h1, h2, h3⟩ => ?_
                    have hv := repN_sc1 h3
                    subst hv
                    exact ⟨h1, grow_of_below h2⟩
                  have hcall := hc m (fun a b : IxT m => cf q a.1 b.1) htq.swo htq.one #[cbv] io.b 0 cap xs.toArray w hcmp hH R.lt (by simp; omega)
                  have hsz2 : xs.toArray.size = n + 1 := by simp [hzl]
                  rw [hsz2] at hcall
                  refine hcall.mono fun e w' ⟨h1, N, os, h2⟩ => ?_
                  subst h1
                  have hlen : (xs.mergeSort fun x y => !(Go.Proofs.ltOf fun a b : IxT m => cf q a.1 b.1) y x).length = xs.length := List.length_mergeSort _
                  rw [List.toList_toArray, back N _ os hlen, ← map_sortC] at h2
                  obtain ⟨hrd, st⟩ := hrep_put hr hρ hob hk (kGo (cf q) (xs.map (·.1))) (by rw [sortC_len, List.length_map]; omega) hCle N os
                  rw [← h2] at hrd st
                  exact ⟨_, rfl, _, hrd, st, .tup rfl fun i c v h => by simp at h⟩
          · cases hF
        · cases hF
      · cases hF
    · cases hF
  · rename_i f0 oc
    split at hF
    · rename_i hf0
      subst hf0
      cases hF
      obtain ⟨v, u, rfl⟩ : ∃ v u, vs = #[v, u] := by
        match vs, hsz with
        | ⟨[v, u]⟩, _ => exact ⟨v, u, rfl⟩
      have hv := hvs 0 _ v rfl rfl
      cases hv
      unfold kH3
      rw [kCw hbody]
      show Calls P g _ w _
      refine (hn none 0 u w).mono fun e w' ⟨h1, h2⟩ => ?_
      subst h1 h2
      exact ⟨_, rfl, ρ, hr, Step.refl _ _, .tup rfl fun i c v h => by simp at h⟩
    · cases hF
  · cases hF
theorem ids_ne {L : List Ent} (nd : (L.filterMap fun e => kE6 e.1).Nodup) {i j : Nat} {e e' : Ent} (hi : L[i]? = some e) (hj : L[j]? = some e') (hij : i < j) {o o' : Nat} (h1 : kE6 e.1 = some o) (h2 : kE6 e'.1 = some o') : o ≠ o' := by
  have hL : L = L.take j ++ L.drop j := (List.take_append_drop j L).symm
  rw [hL, List.filterMap_append, List.nodup_append] at nd
  refine nd.2.2 o (List.mem_filterMap.2 ⟨e, ?_, h1⟩) o' (List.mem_filterMap.2 ⟨e', ?_, h2⟩)
  · refine List.mem_of_getElem? (i := i) ?_
    rw [List.getElem?_take, if_pos hij]
    exact hi
  · refine List.mem_of_getElem? (i := 0) ?_
    rw [List.getElem?_drop, Nat.add_zero]
    exact hj
def sortCO {Z : Type} (len : Z → Nat) (cf : Z → Int → Int → Int) (q : Z) (s : Sl Int) : Option (Sl Int) := match s with
  | none => some none
  | some l => bif decide (l.length ≤ 4294967296) && l.all fun z => decide (0 ≤ z) && decide (z < (len q : Int)) then some (some (kGo (cf q) l)) else none
theorem sim_sortRow {A Z γ δ : Type} [Row A] [Inn A Int] [Cod Z] {B : Base} {h : kA4} {l : List Ent} {Q : δ → γ → Prop} {len : Z → Nat} {cf : Z → Int → Int → Int} {x y : AV} {ps : PS A} {a : A} (O : Hold B h (l ++ D2 x ps)) {s : Sl A} (hs : pj ps = s) {m : Nat} {k : Int} (hk : k = (m : Int)) (hm : (ps.getD [])[m]? = some (a, y))
    {q : Z} {oc : Nat} (i : Nat) (hi : l[i]? = some (.ptr oc 1 0 0, .pt 1 [Cod.enc q])) {env : Nat → Contract} {g gc : Nat} (he : env g = .gen (kFu len gc cf)) (mk : Sl Int → A) (h3 : ∀ w, Inn.sub (mk w) = w) (h4 : ∀ w, Inn.row (mk w) y = Inn.row a y)
    {F : AV → kA4 → Option γ} {G : Sl Int → Option δ} (K : ∀ w ps' h', pj ps' = kC4 s k (mk w) → h.length ≤ h'.length → Hold B h' (l ++ D2 x ps') → Sim (F (.tup []) h') (G w) Q) :
    Sim (kA3 (kAz (env g) [y, .fn gc [.ptr oc 1 0 0]] h) F) (kA0 (sortCO len cf q (Inn.sub a)) G) Q := by
  subst hs hk
  rw [he]
  show Sim (kA3 (kFu len gc cf [y, .fn gc [.ptr oc 1 0 0]] h) F) _ Q
  cases ps with
  | none => simp at hm
  | some p =>
    have hm' : p[m]? = some (a, y) := hm
    have hlt := kH4 hm'
    have hj : (l ++ D2 x (some p))[l.length + 1 + m]? = some (y, obS (Inn.sub a)) := D2.at (A := A) (x := x) hm
    have hil := kH4 hi
    have hi' : (l ++ D2 x (some p))[i]? = some (.ptr oc 1 0 0, .pt 1 [Cod.enc q]) := by rw [List.getElem?_append_left hil]; exact hi
    have hoc := O.ptr hi'
    have fin : ∀ (w : Sl Int) (v' : EV), obS w = v' → p.set m (mk w, y) = p.set m (mk w, y) → ((l ++ D2 (A := A) x (some p)).set (l.length + 1 + m) (y, obS w)) = l ++ D2 (A := A) x (some (p.set m (mk w, y))) := fun w _ _ _ => by
      rw [List.set_append_right _ _ (by omega)]
      have e0 : l.length + 1 + m - l.length = m + 1 := by omega
      rw [e0]
      have e1 : (p.set m (mk w, y)).map (fun p => Inn.row p.1 p.2) = p.map fun p => Inn.row p.1 p.2 := by
        rw [List.map_set]
        have e3 : Inn.row (mk w, y).1 (mk w, y).2 = (p.map fun p => Inn.row p.1 p.2)[m]'(by simpa using hlt) := by
          have := (List.getElem?_eq_some_iff.1 hm').2
          simp only [List.getElem_map, this, h4]
        rw [e3]
        exact List.set_getElem_self _
      simp only [D2, List.set_cons_succ, e1, List.map_set, h3]
    cases ha : Inn.sub a with
    | none =>
      rw [ha] at hj
      have hy := O.nilE hj
      subst hy
      have e : kFu len gc cf [kBi, .fn gc [.ptr oc 1 0 0]] h = some (.tup [], h) := by
        show (if gc = gc then some (AV.tup [], h) else none) = _
        rw [if_pos rfl]
      rw [e, kBt]
      show Sim _ (kA0 (some none) G) Q
      rw [kA2]
      refine K none (some (p.set m (mk none, kBi))) h (by simp [pj, kC4, List.map_set]) (Nat.le_refl _) ?_
      rw [← fin none _ rfl rfl]
      have e2 : (l ++ D2 (A := A) x (some p)).set (l.length + 1 + m) (kBi, obS (none : Sl Int)) = l ++ D2 (A := A) x (some p) := by
        obtain ⟨hl2, e⟩ := List.getElem?_eq_some_iff.1 hj
        rw [← e]
        exact List.set_getElem_self hl2
      rw [e2]
      exact O
    | some zs =>
      rw [ha] at hj
      show Sim _ (kA0 (bif decide (zs.length ≤ 4294967296) && zs.all fun z => decide (0 ≤ z) && decide (z < (len q : Int)) then some (some (kGo (cf q) zs)) else none) G) Q
      cases hc : decide (zs.length ≤ 4294967296) && zs.all fun z => decide (0 ≤ z) && decide (z < (len q : Int)) with
      | false => exact kDa
      | true =>
        rw [cond_true, kA2]
        rw [Bool.and_eq_true, decide_eq_true_eq, List.all_eq_true] at hc
        obtain ⟨c1, c2⟩ := hc
        obtain ⟨o, rfl, h5⟩ := O.sl (k := Row.w Int) (rows := zs.map Row.cells) hj
        have hne : oc ≠ o := ids_ne O.nd hi' hj (by omega) rfl rfl
        have e2 : intsOf (zs.map Row.cells) = some zs := intsOf_map zs
        have c2' : ∀ z ∈ zs, 0 ≤ z ∧ z < (len q : Int) := fun z hz => by
          have := c2 z hz
          rw [Bool.and_eq_true, decide_eq_true_eq, decide_eq_true_eq] at this
          exact this
        have h2 : kFu len gc cf [.sl o (zs.map Row.cells).length 0 (zs.map Row.cells).length, .fn gc [.ptr oc 1 0 0]] h = some (.tup [], h.set o ⟨Row.w Int, (kGo (cf q) zs).map Row.cells⟩) := by
          have hw1 : Row.w Int = 1 := rfl
          have hde : (Cod.dec (Cod.enc q) : Option Z) = some q := Cod.de q
          show (if gc = gc ∧ oc ≠ o then _ else none) = _
          rw [if_pos ⟨rfl, hne⟩]
          simp only [h5, hoc, e2, hde]
          rw [if_pos ⟨trivial, trivial, rfl, by rw [List.length_map]; exact c1, c2'⟩]
          rfl
        rw [h2, kBt]
        have O' := O.update (o := o) (v' := .sl (Row.w Int) ((kGo (cf q) zs).map Row.cells)) hj rfl rfl
        refine K (some (kGo (cf q) zs)) (some (p.set m (mk (some (kGo (cf q) zs)), .sl o (zs.map Row.cells).length 0 (zs.map Row.cells).length))) _ (by simp [pj, kC4, List.map_set]) (by simp) ?_
        rw [← fin _ _ rfl rfl]
        simpa [obS, EV.at, sortC_len] using O'
def digT (k : Nat) (out : ByteArray) : ByteArray := if _h : k = 0 then out else digT (k / 10) (⟨#[(48 + k % 10).toUInt8]⟩ ++ out)
termination_by k
decreasing_by omega
def markT (k : Nat) : ByteArray := bif decide (k = 0) then ⟨#[109, 48]⟩ else ⟨#[109]⟩ ++ digT k ⟨#[]⟩
def mrow : List Bool → Nat → List AV
  | [], _ => []
  | b :: ks, k => (bif b then sv (markT k) else iv (k : Nat)) :: mrow ks (k + 1)
def mrows (ks : List Bool) : Nat → Nat → List (List AV)
  | _, 0 => []
  | k, m + 1 => mrow ks k :: mrows ks (k + ks.length) m
theorem set_same {h : kA4} {o : Nat} {x : AObj} (ho : h[o]? = some x) : h.set o x = h := by
  obtain ⟨hlt, e⟩ := List.getElem?_eq_some_iff.1 ho
  rw [← e]
  exact List.set_getElem_self hlt
theorem kG0 {h : kA4} {o n w i : Nat} {P S : List (List AV)} {r : List AV} (ho : h[o]? = some ⟨w, P ++ r :: S⟩) (hi : i = P.length) (hn : P.length + (S.length + 1) = n) : kA7 w (.sl o n 0 n) (iv (i : Nat)) h = some (.ptr o n i 0) := by
  have i1 : idx (iv (i : Int)) n = some i := idx_lt (by omega)
  have hl : (P ++ r :: S).length = n := by simp; omega
  simp only [kA7, ho, hl, i1, and_self, if_true, Nat.zero_add]
theorem kEq {h : kA4} {o n w i j : Nat} {P S : List (List AV)} {r : List AV} {v : AV} (ho : h[o]? = some ⟨w, P ++ r :: S⟩) (hi : i = P.length) (hn : P.length + (S.length + 1) = n) (hv : v.cells = [v]) (hf : v.flat = true) (hj : j < r.length) : kAu 1 (.ptr o n i j) v h = some (h.set o ⟨w, P ++ r.set j v :: S⟩) := by
  have hl : (P ++ r :: S).length = n := by simp; omega
  have hg : (P ++ r :: S)[i]? = some r := by simp [hi]
  simp only [kAu, ho, hl, if_true, hg]
  rw [if_pos ⟨by rw [hv]; rfl, by omega, by rw [hv]; simp [hf]⟩]
  congr 3
  rw [hi, hv]
  have hs : kB9 r j [v] = r.set j v := by
    unfold kB9
    simp only [List.length_cons, List.length_nil, Nat.zero_add]
    exact (List.set_eq_take_append_cons_drop (l := r) (i := j) (a := v)).symm ▸ (by simp [hj])
  rw [hs]
  simp
theorem lp_q22 (env : Nat → Contract) {y2 y3 y4 y18 : AV} (o n : Nat) : ∀ (S P : List (List AV)) (k i : Nat) (h : kA4), i = P.length → P.length + S.length = n → n ≤ 4294967296 → (∀ r ∈ S, r.length = 1) → k + 1 * S.length ≤ 1000000000 → h[o]? = some ⟨1, P ++ S⟩ →
    (kA0 (kBn hm0_q22 xm0_q22 (lb0_q22 env) [.sl o n 0 n, iv (k : Nat), y2, y3, y4, iv (i : Nat), .top, .top, .top, .top, .top, .top, .top, .top, .top, .top, .top, .top, y18] h) fun r => lk0_q22 env r.1 r.2.1 r.2.2) = some (iv ((k + 1 * S.length : Nat) : Int), h.set o ⟨1, P ++ mrows [false] k S.length⟩) := by
  intro S
  induction S with
  | nil =>
    intro P k i h hi hl hn hr hk ho
    have : ¬ i < n := by simp at hl; omega
    have hs := set_same ho
    simp at hs
    rw [kBn.eq_1]
    simp [e_lb0_q22, restr, e_lk0x0_q22, this, mrows, hs]
  | cons r S ih =>
    intro P k i h hi hl hn hr hk ho
    have hl' : P.length + (S.length + 1) = n := by simpa using hl
    simp only [List.length_cons] at hk
    have hlt : i < n := by omega
    have hrl := hr r (by simp)
    obtain ⟨c0, rfl⟩ : ∃ c0, r = [c0] := by
      match r, hrl with
      | [c0], _ => exact ⟨c0, rfl⟩
    have olt := (List.getElem?_eq_some_iff.1 ho).1
    have a0 := kG0 (w := 1) (r := [c0]) ho hi hl'
    have s0 := kEq (j := 0) (v := iv (k : Int)) ho hi hl' rfl rfl (by simp)
    simp only [List.set_cons_zero, List.set_cons_succ, List.set_set] at s0
    have g0 : (h.set o ⟨1, P ++ [(iv (k : Int))] :: S⟩)[o]? = some ⟨1, P ++ [(iv (k : Int))] :: S⟩ := by simp [olt]
    have w0 : wr ((k : Int) + 1) = ((k + 1 : Nat) : Int) := by rw [kBg (by omega) (by omega)]; omega
    have wi : wr ((i : Int) + 1) = ((i + 1 : Nat) : Int) := by rw [kBg (by omega) (by omega)]; omega
    have r := ih (P ++ [[(iv (k : Int))]]) (k + 1) (i + 1) (h.set o ⟨1, P ++ [(iv (k : Int))] :: S⟩) (by simp [hi]) (by simp; omega) hn (fun r hr' => hr r (by simp [hr'])) (by omega) (by simp [olt])
    have hlz : ((i : Int) < (n : Nat)) := by omega
    rw [kBn.eq_1]
    simp only [e_lb0_q22, aLenK_sl, kA2, kAb, condB_bv, hlz, decide_true, cond_true, kGr, Nat.zero_add, a0, s0, w0, wi, kAl, restr, cond_false]
    rw [r]
    simp only [mrows, mrow, List.length_cons, List.set_set, List.append_assoc, List.singleton_append, cond_true, cond_false, Nat.add_assoc]
    congr 3
    · omega
theorem kH2 (env : Nat → Contract) (R : List (List AV)) (o n : Nat) (hn : R.length = n) (hl : n ≤ 4294967296) (hr : ∀ r ∈ R, r.length = 1) (k : Nat) (hk : k + 1 * n ≤ 1000000000) (h : kA4) (ho : h[o]? = some ⟨1, R⟩) :
    kAm Try.prog env n_q22 [.sl o n 0 n, iv (k : Nat)] h = some (iv ((k + 1 * n : Nat) : Int), h.set o ⟨1, mrows [false] k n⟩) := by
  have L := fun {y2 y3 y4 y18} => @lp_q22 env y2 y3 y4 y18 o n R [] k 0 h rfl (by simpa using hn) hl hr (by rw [hn]; exact hk) (by simpa using ho)
  rw [hn] at L
  simp [-Int.natCast_add] at L
  simp [-Int.natCast_add, e_q22, L]
theorem lp_q21 (env : Nat → Contract) {y2 y3 y4 y40 : AV} (o n : Nat) : ∀ (S P : List (List AV)) (k i : Nat) (h : kA4), i = P.length → P.length + S.length = n → n ≤ 4294967296 → (∀ r ∈ S, r.length = 4) → k + 4 * S.length ≤ 1000000000 → h[o]? = some ⟨4, P ++ S⟩ →
    (kA0 (kBn hm0_q21 xm0_q21 (lb0_q21 env) [.sl o n 0 n, iv (k : Nat), y2, y3, y4, iv (i : Nat), .top, .top, .top, .top, .top, .top, .top, .top, .top, .top, .top, .top, .top, .top, .top, .top, .top, .top, .top, .top, .top, .top, .top, .top, .top, .top, .top, .top, .top, .top, .top, .top, .top, .top, y40] h) fun r => lk0_q21 env r.1 r.2.1 r.2.2) = some (iv ((k + 4 * S.length : Nat) : Int), h.set o ⟨4, P ++ mrows [false, false, false, false] k S.length⟩) := by
  intro S
  induction S with
  | nil =>
    intro P k i h hi hl hn hr hk ho
    have : ¬ i < n := by simp at hl; omega
    have hs := set_same ho
    simp at hs
    rw [kBn.eq_1]
    simp [e_lb0_q21, restr, e_lk0x0_q21, this, mrows, hs]
  | cons r S ih =>
    intro P k i h hi hl hn hr hk ho
    have hl' : P.length + (S.length + 1) = n := by simpa using hl
    simp only [List.length_cons] at hk
    have hlt : i < n := by omega
    have hrl := hr r (by simp)
    obtain ⟨c0, c1, c2, c3, rfl⟩ : ∃ c0 c1 c2 c3, r = [c0, c1, c2, c3] := by
      match r, hrl with
      | [c0, c1, c2, c3], _ => exact ⟨c0, c1, c2, c3, rfl⟩
    have olt := (List.getElem?_eq_some_iff.1 ho).1
    have a0 := kG0 (w := 4) (r := [c0, c1, c2, c3]) ho hi hl'
    have s0 := kEq (j := 0) (v := iv (k : Int)) ho hi hl' rfl rfl (by simp)
    simp only [List.set_cons_zero, List.set_cons_succ, List.set_set] at s0
    have g0 : (h.set o ⟨4, P ++ [(iv (k : Int)), c1, c2, c3] :: S⟩)[o]? = some ⟨4, P ++ [(iv (k : Int)), c1, c2, c3] :: S⟩ := by simp [olt]
    have w0 : wr ((k : Int) + 1) = ((k + 1 : Nat) : Int) := by rw [kBg (by omega) (by omega)]; omega
    have a1 := kG0 (w := 4) (r := [(iv (k : Int)), c1, c2, c3]) g0 hi hl'
    have s1 := kEq (j := 1) (v := iv ((k + 1 : Nat) : Int)) g0 hi hl' rfl rfl (by simp)
    simp only [List.set_cons_zero, List.set_cons_succ, List.set_set] at s1
    have g1 : (h.set o ⟨4, P ++ [(iv (k : Int)), (iv ((k + 1 : Nat) : Int)), c2, c3] :: S⟩)[o]? = some ⟨4, P ++ [(iv (k : Int)), (iv ((k + 1 : Nat) : Int)), c2, c3] :: S⟩ := by simp [olt]
    have w1 : wr (((k + 1 : Nat) : Int) + 1) = ((k + 2 : Nat) : Int) := by rw [kBg (by omega) (by omega)]; omega
    have a2 := kG0 (w := 4) (r := [(iv (k : Int)), (iv ((k + 1 : Nat) : Int)), c2, c3]) g1 hi hl'
    have s2 := kEq (j := 2) (v := iv ((k + 2 : Nat) : Int)) g1 hi hl' rfl rfl (by simp)
    simp only [List.set_cons_zero, List.set_cons_succ, List.set_set] at s2
    have g2 : (h.set o ⟨4, P ++ [(iv (k : Int)), (iv ((k + 1 : Nat) : Int)), (iv ((k + 2 : Nat) : Int)), c3] :: S⟩)[o]? = some ⟨4, P ++ [(iv (k : Int)), (iv ((k + 1 : Nat) : Int)), (iv ((k + 2 : Nat) : Int)), c3] :: S⟩ := by simp [olt]
    have w2 : wr (((k + 2 : Nat) : Int) + 1) = ((k + 3 : Nat) : Int) := by rw [kBg (by omega) (by omega)]; omega
    have a3 := kG0 (w := 4) (r := [(iv (k : Int)), (iv ((k + 1 : Nat) : Int)), (iv ((k + 2 : Nat) : Int)), c3]) g2 hi hl'
    have s3 := kEq (j := 3) (v := iv ((k + 3 : Nat) : Int)) g2 hi hl' rfl rfl (by simp)
    simp only [List.set_cons_zero, List.set_cons_succ, List.set_set] at s3
    have g3 : (h.set o ⟨4, P ++ [(iv (k : Int)), (iv ((k + 1 : Nat) : Int)), (iv ((k + 2 : Nat) : Int)), (iv ((k + 3 : Nat) : Int))] :: S⟩)[o]? = some ⟨4, P ++ [(iv (k : Int)), (iv ((k + 1 : Nat) : Int)), (iv ((k + 2 : Nat) : Int)), (iv ((k + 3 : Nat) : Int))] :: S⟩ := by simp [olt]
    have w3 : wr (((k + 3 : Nat) : Int) + 1) = ((k + 4 : Nat) : Int) := by rw [kBg (by omega) (by omega)]; omega
    have wi : wr ((i : Int) + 1) = ((i + 1 : Nat) : Int) := by rw [kBg (by omega) (by omega)]; omega
    have r := ih (P ++ [[(iv (k : Int)), (iv ((k + 1 : Nat) : Int)), (iv ((k + 2 : Nat) : Int)), (iv ((k + 3 : Nat) : Int))]]) (k + 4) (i + 1) (h.set o ⟨4, P ++ [(iv (k : Int)), (iv ((k + 1 : Nat) : Int)), (iv ((k + 2 : Nat) : Int)), (iv ((k + 3 : Nat) : Int))] :: S⟩) (by simp [hi]) (by simp; omega) hn (fun r hr' => hr r (by simp [hr'])) (by omega) (by simp [olt])
    have hlz : ((i : Int) < (n : Nat)) := by omega
    rw [kBn.eq_1]
    simp only [e_lb0_q21, aLenK_sl, kA2, kAb, condB_bv, hlz, decide_true, cond_true, kGr, Nat.zero_add, a0, s0, w0, a1, s1, w1, a2, s2, w2, a3, s3, w3, wi, kAl, restr, cond_false]
    rw [r]
    simp only [mrows, mrow, List.length_cons, List.set_set, List.append_assoc, List.singleton_append, cond_true, cond_false, Nat.add_assoc]
    congr 3
    · omega
theorem gen_laws_markBoxS (env : Nat → Contract) (R : List (List AV)) (o n : Nat) (hn : R.length = n) (hl : n ≤ 4294967296) (hr : ∀ r ∈ R, r.length = 4) (k : Nat) (hk : k + 4 * n ≤ 1000000000) (h : kA4) (ho : h[o]? = some ⟨4, R⟩) :
    kAm Try.prog env n_q21 [.sl o n 0 n, iv (k : Nat)] h = some (iv ((k + 4 * n : Nat) : Int), h.set o ⟨4, mrows [false, false, false, false] k n⟩) := by
  have L := fun {y2 y3 y4 y40} => @lp_q21 env y2 y3 y4 y40 o n R [] k 0 h rfl (by simpa using hn) hl hr (by rw [hn]; exact hk) (by simpa using ho)
  rw [hn] at L
  simp [-Int.natCast_add] at L
  simp [-Int.natCast_add, e_q21, L]
def cmpI (a b : Int) : Int := bif decide (a < b) then -1 else bif decide (b < a) then 1 else 0
theorem ok_q2 : kAo Try.prog n_q2 (T1 fun _ : Int => false) := pureT1 E0 mixed hb_q2 fun a => by
  simp [e_q2]
theorem ok_q0 : kAo Try.prog n_q0 (T2 cmpI) := pureT2 (E1 ok_q2) mixed hb_q0 fun a b => by
  by_cases w1 : a < b <;> by_cases w2 : b < a <;> simp [e_q0, kC8, cmpI, w1, w2]
theorem ok_q8 : kAo Try.prog n_q8 (R1 fun q : Sl Box => some (.fn n_q9 [.np 1 [[Sl.enc q]] 0 0])) := pureR1 E0 mixed hb_q8 fun q r h => by
  cases h
  apply pureG
  rw [e_q8]
  cases q <;> rfl
theorem hand_ltr (q : Sl Box) (ok : Bool) (h : kA4) (hok : ok = true) : kE3 (.fn n_q9 [.np 1 [[Sl.enc q]] 0 0]) ok h = some (.fn n_q9 [.ptr h.length 1 0 0], h ++ [⟨1, [[Sl.enc q]]⟩]) := by
  subst hok
  unfold kE3
  rw [Bool.or_true, if_pos rfl]
  cases q <;> rfl
def mkI : Int → Nat → List Int
  | _, 0 => []
  | k, n + 1 => k :: mkI (k + 1) n
def mkB : Int → Nat → List Box
  | _, 0 => []
  | k, n + 1 => ⟨k, k + 1, k + 2, k + 3⟩ :: mkB (k + 4) n
theorem mkI_len : ∀ (n : Nat) (k : Int), (mkI k n).length = n
  | 0, _ => rfl
  | n + 1, k => by simp [mkI, mkI_len n]
theorem mkB_len : ∀ (n : Nat) (k : Int), (mkB k n).length = n
  | 0, _ => rfl
  | n + 1, k => by simp [mkB, mkB_len n]
def t_q22 (s : Sl Int) (k : Int) : Option (Int × Sl Int) := bif decide (0 ≤ k) && decide (k + 1 * ((s.getD []).length : Nat) ≤ 1000000000) then some (k + 1 * ((s.getD []).length : Nat), s.map fun l => mkI k l.length) else none
def t_q21 (s : Sl Box) (k : Int) : Option (Int × Sl Box) := bif decide (0 ≤ k) && decide (k + 4 * ((s.getD []).length : Nat) ≤ 1000000000) then some (k + 4 * ((s.getD []).length : Nat), s.map fun l => mkB k l.length) else none
theorem mrows_I : ∀ (n k : Nat), mrows [false] k n = (mkI (k : Int) n).map Row.cells
  | 0, _ => rfl
  | n + 1, k => by
    have ih := mrows_I n (k + 1)
    show [iv (k : Int)] :: mrows [false] (k + 1) n = [iv (k : Int)] :: (mkI ((k : Int) + 1) n).map Row.cells
    rw [ih]
    rfl
theorem kHy : MarkOK (kAm Try.prog (kC8 []) n_q22) t_q22 := by
  intro s k r s' h
  unfold t_q22 at h
  cases c : decide (0 ≤ k) && decide (k + 1 * ((s.getD []).length : Nat) ≤ 1000000000) with
  | false => rw [c] at h; cases h
  | true =>
    rw [c] at h
    simp only [cond_true, Option.some.injEq, Prod.mk.injEq] at h
    obtain ⟨rfl, rfl⟩ := h
    simp only [Bool.and_eq_true, decide_eq_true_eq] at c
    obtain ⟨m, rfl⟩ := Int.eq_ofNat_of_zero_le c.1
    cases s with
    | none =>
      refine .inl ⟨rfl, rfl, fun h => ?_⟩
      rw [e_q22, kBn.eq_1]
      simp [e_lb0_q22, e_lk0x0_q22, restr]
    | some l =>
      refine .inr ⟨l, mkI m l.length, rfl, rfl, mkI_len _ _, fun o h ho => ?_⟩
      have g := kH2 (kC8 []) (l.map Row.cells) o l.length (by simp) (by simp only [Option.getD_some] at c; omega) (fun r hr => by
        obtain ⟨a, _, rfl⟩ := List.mem_map.1 hr
        rfl) m (by simp only [Option.getD_some] at c; omega) h ho
      rw [mrows_I] at g
      rw [g]
      simp only [Option.getD_some]
      congr 3
theorem mrows_B : ∀ (n k : Nat), mrows [false, false, false, false] k n = (mkB (k : Int) n).map Row.cells
  | 0, _ => rfl
  | n + 1, k => by
    have ih := mrows_B n (k + 4)
    show [iv (k : Int), iv ((k + 1 : Nat) : Int), iv ((k + 1 + 1 : Nat) : Int), iv ((k + 1 + 1 + 1 : Nat) : Int)] :: mrows [false, false, false, false] (k + 4) n = [iv (k : Int), iv ((k : Int) + 1), iv ((k : Int) + 2), iv ((k : Int) + 3)] :: (mkB ((k : Int) + 4) n).map Row.cells
    rw [ih]
    rfl
theorem mk_laws_markBoxS : MarkOK (kAm Try.prog (kC8 []) n_q21) t_q21 := by
  intro s k r s' h
  unfold t_q21 at h
  cases c : decide (0 ≤ k) && decide (k + 4 * ((s.getD []).length : Nat) ≤ 1000000000) with
  | false => rw [c] at h; cases h
  | true =>
    rw [c] at h
    simp only [cond_true, Option.some.injEq, Prod.mk.injEq] at h
    obtain ⟨rfl, rfl⟩ := h
    simp only [Bool.and_eq_true, decide_eq_true_eq] at c
    obtain ⟨m, rfl⟩ := Int.eq_ofNat_of_zero_le c.1
    cases s with
    | none =>
      refine .inl ⟨rfl, rfl, fun h => ?_⟩
      rw [e_q21, kBn.eq_1]
      simp [e_lb0_q21, e_lk0x0_q21, restr]
    | some l =>
      refine .inr ⟨l, mkB m l.length, rfl, rfl, mkB_len _ _, fun o h ho => ?_⟩
      have g := gen_laws_markBoxS (kC8 []) (l.map Row.cells) o l.length (by simp) (by simp only [Option.getD_some] at c; omega) (fun r hr => by
        obtain ⟨a, _, rfl⟩ := List.mem_map.1 hr
        rfl) m (by simp only [Option.getD_some] at c; omega) h ho
      rw [mrows_B] at g
      rw [g]
      simp only [Option.getD_some]
      congr 3
abbrev P3 := Option (List (AV × PS (Sl Int)))
def j3 (p : AV × PS (Sl Int)) : FRows := ⟨pj p.2⟩
def pj3 (qs : P3) : Sl FRows := qs.map (List.map j3)
def D3 (x : AV) (qs : P3) : List Ent := match qs with
  | none => [(x, .nil)]
  | some q => (x, .sl 1 (q.map fun p => [p.1])) :: q.flatMap fun p => D2 p.1 p.2
def rT (s : Sl FRows) : AV := match s with
  | none => kBi
  | some l => .nw 1 (l.map fun a => [rD a.values])
theorem D3.head {B : Base} {h : kA4} {l : List Ent} {x : AV} {q : List (AV × PS (Sl Int))} (O : Hold B h (l ++ D3 x (some q))) : ∃ o, x = .sl o q.length 0 q.length ∧ h[o]? = some ⟨1, q.map fun p => [p.1]⟩ := by
  obtain ⟨o, h1, h2⟩ := O.sl (i := l.length) (k := 1) (rows := q.map fun p => [p.1]) (x := x) (by simp [D3])
  exact ⟨o, by simpa using h1, h2⟩
theorem D3.nil {B : Base} {h : kA4} {l : List Ent} {x : AV} (O : Hold B h (l ++ D3 x none)) : x = kBi := O.nilE (i := l.length) (x := x) (by simp [D3])
theorem D3.one {B : Base} {h : kA4} {l : List Ent} {x : AV} {qs : P3} (O : Hold B h (l ++ D3 x qs)) : x.cells = [x] ∧ x.flat = true := by
  cases qs with
  | none =>
    have := D3.nil O
    subst this
    exact ⟨rfl, rfl⟩
  | some q =>
    obtain ⟨o, rfl, _⟩ := D3.head O
    exact ⟨rfl, rfl⟩
theorem D3.len {B : Base} {h : kA4} {l : List Ent} {x : AV} {qs : P3} (O : Hold B h (l ++ D3 x qs)) : kBm .slice x = some (iv (((pj3 qs).getD []).length : Nat)) := by
  cases qs with
  | none =>
    have := D3.nil O
    subst this
    rfl
  | some q =>
    obtain ⟨o, rfl, _⟩ := D3.head O
    simp [pj3]
theorem D3.mem {B : Base} {h : kA4} {l : List Ent} {x : AV} {q : List (AV × PS (Sl Int))} (O : Hold B h (l ++ D3 x (some q))) {p : AV × PS (Sl Int)} (hp : p ∈ q) : ∃ l', Hold B h (l' ++ D2 p.1 p.2) := by
  obtain ⟨q1, q2, rfl⟩ := List.append_of_mem hp
  refine ⟨l ++ (x, .sl 1 ((q1 ++ p :: q2).map fun p => [p.1])) :: (q1.flatMap (fun p => D2 p.1 p.2) ++ q2.flatMap fun p => D2 p.1 p.2), O.perm ?_⟩
  simp only [D3, List.flatMap_append, List.flatMap_cons]
  rw [List.append_assoc, List.cons_append]
  refine (List.Perm.cons _ ?_).append_left l
  rw [List.append_assoc]
  exact (List.perm_append_comm).append_left _
theorem D2.snapK {A C : Type} [Row A] [Row C] [Inn A C] [Eng.NR C] {B : Base} {h : kA4} {l : List Ent} {x : AV} {ps : PS A} (O : Hold B h (l ++ D2 x ps)) (d : Nat) : Eng.snap h (d + 2) x = some (Sl.enc (pj ps)) := by
  cases ps with
  | none =>
    have := D2.nil O
    subst this
    rfl
  | some q =>
    obtain ⟨o, rfl, ho⟩ := D2.head O
    show (match h[o]? with | some ob => if ob.rows.length = q.length ∧ 0 + q.length ≤ q.length then (match kB4 (kB4 (Eng.snap h (d + 1))) ((ob.rows.drop 0).take q.length) with | some rows => some (AV.fs ob.k rows) | none => none) else none | none => none) = _
    rw [ho]
    simp only [List.length_map]
    rw [if_pos ⟨trivial, by omega⟩, List.drop_zero, List.take_of_length_le (by simp), snap_rowsN q (d + 1) fun p hp => by
      obtain ⟨i, hi⟩ := D2.mem (l := l) (x := .sl o q.length 0 q.length) hp
      exact O.snap7 i hi d]
    rfl
theorem D3.snapK {B : Base} {h : kA4} {l : List Ent} {x : AV} {qs : P3} (O : Hold B h (l ++ D3 x qs)) (d : Nat) : Eng.snap h (d + 3) x = some (Sl.enc (pj3 qs)) := by
  cases qs with
  | none =>
    have := D3.nil O
    subst this
    rfl
  | some q =>
    obtain ⟨o, rfl, ho⟩ := D3.head O
    have hr : ∀ q' : List (AV × PS (Sl Int)), (∀ p ∈ q', p ∈ q) → kB4 (kB4 (Eng.snap h (d + 2))) (q'.map fun p => [p.1]) = some ((q'.map j3).map Row.cells) := by
      intro q' hq'
      induction q' with
      | nil => rfl
      | cons p q' ih =>
        obtain ⟨l', O'⟩ := D3.mem O (hq' p (by simp))
        simp only [List.map_cons, kB4, D2.snapK O' d, ih fun p' hp' => hq' p' (by simp [hp'])]
        rfl
    show (match h[o]? with | some ob => if ob.rows.length = q.length ∧ 0 + q.length ≤ q.length then (match kB4 (kB4 (Eng.snap h (d + 2))) ((ob.rows.drop 0).take q.length) with | some rows => some (AV.fs ob.k rows) | none => none) else none | none => none) = _
    rw [ho]
    simp only [List.length_map]
    rw [if_pos ⟨trivial, by omega⟩, List.drop_zero, List.take_of_length_le (by simp), hr q fun _ h => h]
    rfl
theorem D3.snapD {B : Base} {h : kA4} {l : List Ent} {x : AV} {qs : P3} (O : Hold B h (l ++ D3 x qs)) {s : Sl FRows} (hs : pj3 qs = s) : Eng.snap h 7 x = some (Sl.enc s) ∧ Eng.snapD h x = some s := by
  subst hs
  refine ⟨D3.snapK O 4, ?_⟩
  unfold Eng.snapD
  rw [show depth = 5 + 3 from rfl, D3.snapK O 5]
  exact Cod.de (pj3 qs : Sl FRows)
theorem D3.relN {B : Base} {h : kA4} {l : List Ent} {x : AV} {qs : P3} (O : Hold B h (l ++ D3 x qs)) {s : Sl FRows} (hs : pj3 qs = s) (d : Nat) : Eng.rel h (d + 3) x = some (rT s) := by
  subst hs
  cases qs with
  | none =>
    have := D3.nil O
    subst this
    rfl
  | some q =>
    obtain ⟨o, rfl, ho⟩ := D3.head O
    have hr : ∀ q' : List (AV × PS (Sl Int)), (∀ p ∈ q', p ∈ q) → kB4 (kB4 (Eng.rel h (d + 2))) (q'.map fun p => [p.1]) = some ((q'.map j3).map fun a => [rD a.values]) := by
      intro q' hq'
      induction q' with
      | nil => rfl
      | cons p q' ih =>
        obtain ⟨l', O'⟩ := D3.mem O (hq' p (by simp))
        simp only [List.map_cons, kB4, D2.relN O' rfl d, ih fun p' hp' => hq' p' (by simp [hp'])]
        rfl
    show (match h[o]? with | some ob => if ob.rows.length = q.length ∧ 0 = 0 ∧ q.length ≤ q.length then (match kB4 (kB4 (Eng.rel h (d + 2))) (ob.rows.take q.length) with | some rows => some (AV.nw ob.k rows) | none => none) else none | none => none) = _
    rw [ho]
    simp only [List.length_map]
    rw [if_pos ⟨trivial, trivial, Nat.le_refl _⟩, List.take_of_length_le (by simp), hr q fun _ h => h]
    simp [rT, pj3]
theorem D3.idsN {B : Base} {h : kA4} {l : List Ent} {x : AV} {qs : P3} (O : Hold B h (l ++ D3 x qs)) (d : Nat) : (Eng.ids h (d + 3) x).map (·.1) = (D3 x qs).flatMap fun e => (kE6 e.1).toList := by
  cases qs with
  | none =>
    have := D3.nil O
    subst this
    rfl
  | some q =>
    obtain ⟨o, rfl, ho⟩ := D3.head O
    have hr : ∀ q' : List (AV × PS (Sl Int)), (∀ p ∈ q', p ∈ q) → ((q'.map fun p => [p.1]).flatMap fun r => r.flatMap (Eng.ids h (d + 2))).map (·.1) = (q'.flatMap fun p => D2 p.1 p.2).flatMap fun e => (kE6 e.1).toList := by
      intro q' hq'
      induction q' with
      | nil => rfl
      | cons p q' ih =>
        obtain ⟨l', O'⟩ := D3.mem O (hq' p (by simp))
        simp only [List.map_cons, List.flatMap_cons, List.flatMap_nil, List.append_nil, List.map_append, List.flatMap_append, D2.idsN O' d, ih fun p' hp' => hq' p' (by simp [hp'])]
    have e1 : Eng.ids h (d + 3) (.sl o q.length 0 q.length) = (o, q.length) :: (q.map fun p => [p.1]).flatMap fun r => r.flatMap (Eng.ids h (d + 2)) := by
      show (match h[o]? with | some ob => (o, q.length) :: (ob.rows.take q.length).flatMap (fun (r : List AV) => r.flatMap (Eng.ids h (d + 2))) | none => []) = _
      rw [ho]
      simp only
      rw [List.take_of_length_le (by simp)]
    rw [e1, List.map_cons, hr q fun _ h => h]
    simp [D3, kE6]
def RdT (B : Base) (x : AV) (s : Sl FRows) : Prop := ∀ h L, Hold B h L → Eng.snap h 7 x = some (Sl.enc s) ∧ kBm .slice x = some (iv ((s.getD []).length : Nat)) ∧ x.cells = [x] ∧ x.flat = true
theorem RdT.snap7 {B : Base} {x : AV} {s : Sl FRows} (R : RdT B x s) {h : kA4} {L : List Ent} (O : Hold B h L) : Eng.snap h 7 x = some (Sl.enc s) := (R h L O).1
theorem RdT.len {B : Base} {x : AV} {s : Sl FRows} (R : RdT B x s) {h : kA4} {L : List Ent} (O : Hold B h L) : kBm .slice x = some (iv ((s.getD []).length : Nat)) := (R h L O).2.1
theorem RdT.one {B : Base} {x : AV} {s : Sl FRows} (R : RdT B x s) {h : kA4} {L : List Ent} (O : Hold B h L) : x.cells = [x] ∧ x.flat = true := (R h L O).2.2
theorem sim_setCell {A C γ δ : Type} [Row A] [Row C] [Inn A C] {B : Base} {h : kA4} {l : List Ent} {x y c : AV} {ps : PS A} {a a' : A} (O : Hold B h (l ++ D2 x ps)) {s : Sl A} (hs : pj ps = s) {m j : Nat} {k : Int} (hk : k = (m : Int)) (hm : (ps.getD [])[m]? = some (a, y))
    (hc : c.cells = [c]) (hf : c.flat = true) (h2 : j + 1 ≤ Row.w A) (h3 : Inn.sub a' = Inn.sub a) (h4 : kB9 (Inn.row a y) j [c] = Inn.row a' y)
    {F : kA4 → Option γ} {Y : Option δ} {Q : δ → γ → Prop} (K : ∀ ps' h', pj ps' = kC4 s k a' → (ps'.getD [])[m]? = some (a', y) → Hold B h' (l ++ D2 x ps') → Sim (F h') Y Q) : Sim (kA0 (kAu 1 (elp x m j) c h) F) Y Q := by
  subst hs hk
  cases ps with
  | none => simp at hm
  | some q =>
    have hm' : q[m]? = some (a, y) := hm
    have hlt := kH4 hm'
    obtain ⟨o, rfl, ho⟩ := D2.head O
    have e : kAu 1 (elp (.sl o q.length 0 q.length) m j) c h = some (h.set o ⟨Row.w A, (q.set m (a', y)).map fun p => Inn.row p.1 p.2⟩) := by
      simp only [elp, kAu, ho, List.length_map, if_true, Nat.zero_add, List.getElem?_map, hm', Option.map_some, hc]
      rw [if_pos ⟨rfl, by rw [Inn.len]; exact h2, by simp [hf]⟩, h4, List.map_set]
    rw [e, kA2]
    have O' := O.update (i := l.length) (o := o) (v' := .sl (Row.w A) ((q.set m (a', y)).map fun p => Inn.row p.1 p.2)) (x := .sl o q.length 0 q.length) (by simp [D2]; rfl) rfl rfl
    refine K (some (q.set m (a', y))) _ (by simp [pj, kC4, List.map_set]) (by simp [hlt]) ?_
    have e1 : (l ++ D2 (A := A) (.sl o q.length 0 q.length) (some q)).set l.length ((EV.sl (Row.w A) ((q.set m (a', y)).map fun p => Inn.row p.1 p.2)).at o, .sl (Row.w A) ((q.set m (a', y)).map fun p => Inn.row p.1 p.2)) = l ++ D2 (A := A) (.sl o q.length 0 q.length) (some (q.set m (a', y))) := by
      rw [List.set_append_right _ _ (Nat.le_refl _), Nat.sub_self]
      have e2 : (q.set m (a', y)).map (fun p => ((p.2, obS (Inn.sub p.1)) : Ent)) = q.map fun p => (p.2, obS (Inn.sub p.1)) := by
        rw [List.map_set]
        have e3 : (((a', y).2, obS (Inn.sub (a', y).1)) : Ent) = (q.map fun p => ((p.2, obS (Inn.sub p.1)) : Ent))[m]'(by simpa using hlt) := by
          have := (List.getElem?_eq_some_iff.1 hm').2
          simp only [List.getElem_map, this, h3]
        rw [e3]
        exact List.set_getElem_self _
      simp only [D2, List.set_cons_zero, e2, EV.at, List.length_map, List.length_set]
    rw [← e1]
    exact O'
theorem sim_appF {A C γ δ : Type} [Row A] [Row C] [Inn A C] {B : Base} {h : kA4} {l : List Ent} {Q : δ → γ → Prop} {x y src : AV} {ps : PS A} {a : A} (O : Hold B h (l ++ D2 x ps)) {s : Sl A} (hs : pj ps = s) {m j : Nat} {k : Int} (hk : k = (m : Int)) (hm : (ps.getD [])[m]? = some (a, y)) (new : List C) {bytes : Nat} (hsrc : aSrc false (Row.w C) src h = some (new.map Row.cells)) (hb : bytes ≤ 1024) (a' : A)
    (h2 : j + 1 ≤ Row.w A) (h3 : Inn.sub a' = kDm (Inn.sub a) new) (h4 : ∀ y', kB9 (Inn.row a y) j [y'] = Inn.row a' y')
    {F : AV → AV → AV → kA4 → Option γ} {G : Sl C → Option δ} (K : ∀ v q p ps' h', pj ps' = kC4 s k a' → Hold B h' (l ++ D2 x ps') → Sim (F v q p h') (G (kDm (Inn.sub a) new)) Q) :
    Sim (kA3 (kBc false (Row.w C) bytes y src h) fun v h' => kA0 (kBs (elp x m 0)) fun q => kA0 (kA5 j q) fun p => kA0 (kAu 1 p v h') (F v q p)) (kA0 (appO (Inn.sub a) new) G) Q := by
  subst hs hk
  unfold appO
  split
  · rename_i hl
    cases ps with
    | none => simp at hm
    | some q =>
      have hm' : q[m]? = some (a, y) := hm
      have hlt := kH4 hm'
      have hi : (l ++ D2 x (some q))[l.length + 1 + m]? = some (y, obS (Inn.sub a)) := D2.at (A := A) (x := x) hm
      obtain ⟨y', h', e, O'⟩ := O.append (A := C) _ hi hsrc hb hl
      rw [e, kBt, kA2]
      have h0 : ((l ++ D2 x (some q)).set (l.length + 1 + m) (y', obS (kDm (Inn.sub a) new)))[l.length]? = some (x, .sl (Row.w A) (q.map fun p => Inn.row p.1 p.2)) := by
        rw [List.getElem?_set_ne (by omega), List.getElem?_append_right (Nat.le_refl _)]
        simp only [Nat.sub_self, D2, List.getElem?_cons_zero]
      obtain ⟨o, hx, ho⟩ := O'.sl h0
      rw [List.length_map] at hx
      subst hx
      have c1 : y'.cells = [y'] ∧ y'.flat = true := O'.one (A := C) (s := kDm (Inn.sub a) new) (l.length + 1 + m) (by
        rw [List.getElem?_set_self]
        exact kH4 hi)
      have e2 : kAu 1 (.ptr o q.length (0 + m) (0 + j)) y' h' = some (h'.set o ⟨Row.w A, (q.set m (a', y')).map fun p => Inn.row p.1 p.2⟩) := by
        simp only [kAu, ho, List.length_map, if_true, List.getElem?_map, Nat.zero_add, hm', Option.map_some, c1.1]
        rw [if_pos ⟨rfl, by rw [Inn.len]; exact h2, by simp [c1.2]⟩, h4, List.map_set]
      show Sim (kA0 (some (AV.ptr o q.length (0 + m) 0)) fun q' => kA0 (kA5 j q') fun p => kA0 (kAu 1 p y' h') (F y' q' p)) _ Q
      rw [kA2]
      show Sim (kA0 (some (AV.ptr o q.length (0 + m) (0 + j))) fun p => kA0 (kAu 1 p y' h') (F y' _ p)) _ Q
      rw [kA2, e2, kA2]
      have O2 := O'.update (o := o) (v' := .sl (Row.w A) ((q.set m (a', y')).map fun p => Inn.row p.1 p.2)) h0 rfl rfl
      refine K _ _ _ (some (q.set m (a', y'))) _ (by simp [pj, kC4, List.map_set]) ?_
      have e3 : (((l ++ D2 (A := A) (.sl o q.length 0 q.length) (some q)).set (l.length + 1 + m) (y', obS (kDm (Inn.sub a) new))).set l.length ((EV.sl (Row.w A) ((q.set m (a', y')).map fun p => Inn.row p.1 p.2)).at o, .sl (Row.w A) ((q.set m (a', y')).map fun p => Inn.row p.1 p.2))) = l ++ D2 (A := A) (.sl o q.length 0 q.length) (some (q.set m (a', y'))) := by
        rw [List.set_append_right _ _ (by omega), List.set_append_right _ _ (by omega)]
        have : l.length + 1 + m - l.length = m + 1 := by omega
        rw [this, Nat.sub_self]
        simp only [D2, List.set_cons_succ, List.set_cons_zero, EV.at, List.length_map, List.length_set, List.map_set, h3]
      rw [← e3]
      exact O2
  · exact kDa
def s0_q1 (vals_ : Sl Int) : Int → Option (Sum Int (Sum Unit Int)) := fun w3 =>
  bif decide (w3 < (((vals_.getD []).length : Nat) : Int)) then
    kA0 (kC3 (vals_.getD []) w3) fun a13 =>
    bif !decide (a13 = 0) then
      some (.inr (.inr a13))
    else
      some (.inl (wr (w3 + 1)))
  else
    some (.inr (.inl ()))
def t_q1 (vals_ : Sl Int) : Option Int :=
  kA0 (kB6 (s0_q1 vals_) 0) fun qq22 => match qq22 with
  | (.inl _) =>
      some 0
  | (.inr q10) =>
      some q10
theorem tl0_q1 (env : Nat → Contract) {B : Base}  (vals_ : Sl Int)  : kHw (fun (st : Int) tm h1 => match st with | w3 => tm = ((Sl.enc vals_) :: und :: .top :: (iv 0) :: und :: .top :: (Sl.enc vals_) :: (iv (((vals_.getD []).length : Nat) : Int)) :: (iv w3) :: tZ9 8 [und]) ∧ Hold B h1 []) hm0_q1 xm0_q1 (lb0_q1 env) (s0_q1 vals_) (fun (q : Sum Unit Int) (r : Res) => match q with | .inl _ => ∃ (z6 : AV) (z7 : AV) (h4 : kA4), r = (.exit 0, ((Sl.enc vals_) :: und :: z6 :: (iv 0) :: und :: z7 :: (Sl.enc vals_) :: (iv (((vals_.getD []).length : Nat) : Int)) :: tZ9 9 [und]), h4) ∧ Hold B h4 [] | .inr q10 => ∃ (q11 : Int) (h8 : kA4), r = (.ret, ((Sl.enc vals_) :: und :: (iv q10) :: (iv 0) :: und :: (iv q11) :: (Sl.enc vals_) :: (iv (((vals_.getD []).length : Nat) : Int)) :: tZ9 9 [und]), h8) ∧ Hold B h8 []) := by
  refine @lpZ9 _ _ _ _ _ _ _ _ (fun w3 tm h1 R => ?_)
  obtain ⟨rfl, O2⟩ := R
  rw [e_lb0_q1]
  unfold s0_q1
  dsimp only
  refine kA1 (kAb _ _) ?_
  refine kA9 (fun c12 => ?_) (fun c12 => ?_)
  · refine kAk (Tab.enc h1 vals_) (fun m14 a13 hi15 hm16 => ?_)
    refine kA1 (v := iv a13) ((Tab.enc h1 vals_).ld hm16 false 1 0) ?_
    refine kA1 (kC9 _ _) ?_
    refine kA9 (fun c17 => ?_) (fun c17 => ?_)
    · exact kA6 ⟨nofun, _, _, rfl, O2⟩
    · refine kA1 (kAl _ _) ?_
      exact kA6 ⟨rfl, rfl, O2⟩
  · exact kA6 ⟨nofun, _, _, _, rfl, O2⟩
theorem ts_q1 (env : Nat → Contract)  (vals_ : Sl Int) : Sim (kAm Try.prog env n_q1 [Sl.enc vals_] []) (t_q1 vals_) fun c p => release p.2 depth p.1 = some ((fun c : Int => enc c) c) := by
  have O := Hold.nil []
  generalize hB : (⟨[], []⟩ : Base) = B at O
  clear hB
  rw [e_q1]
  unfold t_q1
  refine kA1 (v := iv (((vals_.getD []).length : Nat) : Int)) (Tab.enc [] vals_).len ?_
  refine kB7 ((tl0_q1 env vals_) ⟨rfl, O⟩) (fun qq22 r hq => ?_)
  rcases qq22 with _ | q10
  · obtain ⟨z6, z7, h4, rfl, O5⟩ := hq
    rw [e_lk0x0_q1]
    exact kA6 (kA8 (by rfl) _)
  · obtain ⟨q11, h8, rfl, O9⟩ := hq
    rw [e_lk0r_q1]
    exact kA6 (kA8 (by rfl) _)
theorem tt_q1 : kAo Try.prog n_q1 (C1 (fun c : Int => enc c) t_q1) := pureC1 E0 mixed hb_q1 fun vals_ => ts_q1 _  vals_
def t_q42 (gap_ : Int) : Option Bool :=
  kA0 (some (kEv gap_ 0 4095)) fun c1 =>
  some c1
theorem ts_q42 (env : Nat → Contract) (he_q37 : env n_q37 = .pure (T3 kEv)) (gap_ : Int) : Sim (kAm Try.prog env n_q42 [iv gap_] []) (t_q42 gap_) fun c p => release p.2 depth p.1 = some ((fun c : Bool => enc c) c) := by
  have O := Hold.nil []
  generalize hB : (⟨[], []⟩ : Base) = B at O
  clear hB
  rw [e_q42]
  unfold t_q42
  refine sim_callV3 (t := kEv) he_q37 (kAp _ _) (kAp _ _) (kAp _ _) (fun c1 => ?_)
  exact kA6 (kA8 (by rfl) _)
theorem tt_q42 : kAo Try.prog n_q42 (C1 (fun c : Bool => enc c) t_q42) := pureC1 (kC7 ok_q37 E0) mixed hb_q42 fun gap_ => ts_q42 _ (by simp [kC8]) gap_
def t_q39 (list_ : Sl Int) : Option (Sl Int) :=
  kA0 (appO (some ([] : List Int)) (list_.getD [])) fun _ =>
  some (kDm (some ([] : List Int)) (list_.getD []))
theorem ts_q39 (env : Nat → Contract)  (list_ : Sl Int) : Sim (kAm Try.prog env n_q39 [Sl.enc list_] []) (t_q39 list_) fun c p => release p.2 depth p.1 = some ((fun c : (Sl Int) => rS c) c) := by
  have O := Hold.nil []
  generalize hB : (⟨[], []⟩ : Base) = B at O
  clear hB
  rw [e_q39]
  unfold t_q39
  refine kDw (A := Int) O ([] : List Int) rfl (by first | rfl | simp [kBj, kE7]) rfl (fun x1 h2 O3 => ?_)
  replace O3 : Hold B h2 [(x1, obS ((some ([] : List Int)) : Sl Int))] := O3
  refine kGj (A := Int) (s := (some ([] : List Int))) O3 0 (list_.getD []) rfl (src_enc _ _) (by decide) (fun x6 h7 O8 => ?_)
  replace O8 : Hold B h7 [(x6, obS ((kDm (some ([] : List Int)) (list_.getD [])) : Sl Int))] := O8
  exact kA6 (O8.rel (A := Int) (s := (kDm (some ([] : List Int)) (list_.getD []))) 0 rfl)
theorem tt_q39 : kAo Try.prog n_q39 (C1 (fun c : (Sl Int) => rS c) t_q39) := pureC1 E0 mixed hb_q39 fun list_ => ts_q39 _  list_
def t_q5 (n_ : Int) : Option Bool :=
  kA0 (some (kEv n_ 0 4095)) fun c1 =>
  some c1
theorem ts_q5 (env : Nat → Contract) (he_q12 : env n_q12 = .pure (T3 kEv)) (n_ : Int) : Sim (kAm Try.prog env n_q5 [iv n_] []) (t_q5 n_) fun c p => release p.2 depth p.1 = some ((fun c : Bool => enc c) c) := by
  have O := Hold.nil []
  generalize hB : (⟨[], []⟩ : Base) = B at O
  clear hB
  rw [e_q5]
  unfold t_q5
  refine sim_callV3 (t := kEv) he_q12 (kAp _ _) (kAp _ _) (kAp _ _) (fun c1 => ?_)
  exact kA6 (kA8 (by rfl) _)
theorem tt_q5 : kAo Try.prog n_q5 (C1 (fun c : Bool => enc c) t_q5) := pureC1 (kC7 ok_q12 E0) mixed hb_q5 fun n_ => ts_q5 _ (by simp [kC8]) n_
def s0_q16 (a_ : Sl Int) (b_ : Sl Int) : Int → Option (Sum Int (Sum Unit Bool)) := fun w4 =>
  bif decide (w4 < (((a_.getD []).length : Nat) : Int)) then
    kA0 (kC3 (a_.getD []) w4) fun a14 =>
    kA0 (kC3 (b_.getD []) w4) fun a18 =>
    bif !decide (a14 = a18) then
      some (.inr (.inr false))
    else
      some (.inl (wr (w4 + 1)))
  else
    some (.inr (.inl ()))
def t_q16 (a_ : Sl Int) (b_ : Sl Int) : Option Bool :=
  bif !decide ((((a_.getD []).length : Nat) : Int) = (((b_.getD []).length : Nat) : Int)) then
    some false
  else
    kA0 (kB6 (s0_q16 a_ b_) 0) fun qq27 => match qq27 with
    | (.inl _) =>
        some true
    | (.inr q11) =>
        some q11
theorem tl0_q16 (env : Nat → Contract) {B : Base}  (a_ : Sl Int) (b_ : Sl Int)  : kHw (fun (st : Int) tm h2 => match st with | w4 => tm = ((Sl.enc a_) :: (Sl.enc b_) :: und :: und :: .top :: (iv w4) :: (Sl.enc a_) :: (iv (((a_.getD []).length : Nat) : Int)) :: (Sl.enc b_) :: (iv (((b_.getD []).length : Nat) : Int)) :: (bv (!decide ((((a_.getD []).length : Nat) : Int) = (((b_.getD []).length : Nat) : Int)))) :: tZ9 15 []) ∧ Hold B h2 []) hm0_q16 xm0_q16 (lb0_q16 env) (s0_q16 a_ b_) (fun (q : Sum Unit Bool) (r : Res) => match q with | .inl _ => ∃ (q8 : Int) (z7 : AV) (h5 : kA4), r = (.exit 0, ((Sl.enc a_) :: (Sl.enc b_) :: und :: und :: z7 :: (iv q8) :: (Sl.enc a_) :: (iv (((a_.getD []).length : Nat) : Int)) :: (Sl.enc b_) :: (iv (((b_.getD []).length : Nat) : Int)) :: (bv (!decide ((((a_.getD []).length : Nat) : Int) = (((b_.getD []).length : Nat) : Int)))) :: tZ9 15 []), h5) ∧ Hold B h5 [] | .inr q11 => ∃ (q12 : Int) (h9 : kA4), r = (.ret, ((Sl.enc a_) :: (Sl.enc b_) :: und :: und :: (bv q11) :: (iv q12) :: (Sl.enc a_) :: (iv (((a_.getD []).length : Nat) : Int)) :: (Sl.enc b_) :: (iv (((b_.getD []).length : Nat) : Int)) :: (bv (!decide ((((a_.getD []).length : Nat) : Int) = (((b_.getD []).length : Nat) : Int)))) :: tZ9 15 []), h9) ∧ Hold B h9 []) := by
  refine @lpZ9 _ _ _ _ _ _ _ _ (fun w4 tm h2 R => ?_)
  obtain ⟨rfl, O3⟩ := R
  rw [e_lb0_q16]
  unfold s0_q16
  dsimp only
  refine kA1 (Tab.enc h2 a_).len ?_
  refine kA1 (kAb _ _) ?_
  refine kA9 (fun c13 => ?_) (fun c13 => ?_)
  · refine kAk (Tab.enc h2 a_) (fun m15 a14 hi16 hm17 => ?_)
    refine kA1 (v := iv a14) ((Tab.enc h2 a_).ld hm17 false 1 0) ?_
    refine kAk (Tab.enc h2 b_) (fun m19 a18 hi20 hm21 => ?_)
    refine kA1 (v := iv a18) ((Tab.enc h2 b_).ld hm21 false 1 0) ?_
    refine kA1 (kC9 _ _) ?_
    refine kA9 (fun c22 => ?_) (fun c22 => ?_)
    · exact kA6 ⟨nofun, _, _, rfl, O3⟩
    · refine kA1 (kAl _ _) ?_
      exact kA6 ⟨rfl, rfl, O3⟩
  · exact kA6 ⟨nofun, _, _, _, rfl, O3⟩
theorem ts_q16 (env : Nat → Contract)  (a_ : Sl Int) (b_ : Sl Int) : Sim (kAm Try.prog env n_q16 [Sl.enc a_, Sl.enc b_] []) (t_q16 a_ b_) fun c p => release p.2 depth p.1 = some ((fun c : Bool => enc c) c) := by
  have O := Hold.nil []
  generalize hB : (⟨[], []⟩ : Base) = B at O
  clear hB
  rw [e_q16]
  unfold t_q16
  refine kA1 (v := iv (((a_.getD []).length : Nat) : Int)) (Tab.enc [] a_).len ?_
  refine kA1 (v := iv (((b_.getD []).length : Nat) : Int)) (Tab.enc [] b_).len ?_
  refine kA1 (kC9 _ _) ?_
  refine kA9 (fun c1 => ?_) (fun c1 => ?_)
  · exact kA6 (kA8 (by rfl) _)
  · refine kB7 ((tl0_q16 env a_ b_) ⟨rfl, O⟩) (fun qq27 r hq => ?_)
    rcases qq27 with _ | q11
    · obtain ⟨q8, z7, h5, rfl, O6⟩ := hq
      rw [e_lk0x0_q16]
      exact kA6 (kA8 (by rfl) _)
    · obtain ⟨q12, h9, rfl, O10⟩ := hq
      rw [e_lk0r_q16]
      exact kA6 (kA8 (by rfl) _)
theorem tt_q16 : kAo Try.prog n_q16 (C2 (fun c : Bool => enc c) t_q16) := kF0 E0 mixed hb_q16 fun a_ b_ => ts_q16 _  a_ b_
def t_q24 (a_ : Sl Box) (left_ : Int) : Option Int :=
  bif decide ((wr (left_ - (((a_.getD []).length : Nat) : Int))) < 0) then
    some (-1)
  else
    some (wr (left_ - (((a_.getD []).length : Nat) : Int)))
theorem ts_q24 (env : Nat → Contract)  (a_ : Sl Box) (left_ : Int) : Sim (kAm Try.prog env n_q24 [Sl.enc a_, iv left_] []) (t_q24 a_ left_) fun c p => release p.2 depth p.1 = some ((fun c : Int => enc c) c) := by
  have O := Hold.nil []
  generalize hB : (⟨[], []⟩ : Base) = B at O
  clear hB
  rw [e_q24]
  unfold t_q24
  refine kA1 (v := iv (((a_.getD []).length : Nat) : Int)) (Tab.enc [] a_).len ?_
  refine kA1 (kAx _ _) ?_
  refine kA1 (kAb _ _) ?_
  refine kA9 (fun c1 => ?_) (fun c1 => ?_)
  · exact kA6 (kA8 (by rfl) _)
  · exact kA6 (kA8 (by rfl) _)
theorem tt_q24 : kAo Try.prog n_q24 (C2 (fun c : Int => enc c) t_q24) := kF0 E0 mixed hb_q24 fun a_ left_ => ts_q24 _  a_ left_
def s0_q26 (a_ : Sl Box) : ((Sl Box) × Int) → Option (Sum ((Sl Box) × Int) (Sl Box)) := fun (w6, w9) =>
  bif decide (w9 < (((a_.getD []).length : Nat) : Int)) then
    kA0 (kC3 (a_.getD []) w9) fun a15 =>
    kA0 (some ((fun b : Box => b) a15)) fun c19 =>
    kA0 (kC3 (w6.getD []) w9) fun a20 =>
    some (.inl ((kC4 w6 w9 c19), wr (w9 + 1)))
  else
    some (.inr w6)
def t_q26 (a_ : Sl Box) : Option (Sl Box) :=
  kA0 (makeO (⟨0, 0, 0, 0⟩ : Box) (((a_.getD []).length : Nat) : Int)) fun l5 =>
  kA0 (kB6 (s0_q26 a_) ((some l5), 0)) fun q12 =>
  some q12
theorem tl0_q26 (env : Nat → Contract) {B : Base} (he_q25 : env n_q25 = .pure (T1 (fun b : Box => b))) (a_ : Sl Box) (x1 : AV)  : kHw (fun (st : (Sl Box) × Int) tm h7 => match st with | (w6, w9) => tm = ((Sl.enc a_) :: und :: kBi :: x1 :: (iv w9) :: (Sl.enc a_) :: (iv (((a_.getD []).length : Nat) : Int)) :: x1 :: tZ9 14 [und]) ∧ Hold B h7 [(x1, obS (w6 : Sl Box))]) hm0_q26 xm0_q26 (lb0_q26 env) (s0_q26 a_) (fun (q : Sl Box) (r : Res) => match q with | q12 => ∃ (q13 : Int) (h10 : kA4), r = (.exit 0, ((Sl.enc a_) :: und :: kBi :: x1 :: (iv q13) :: (Sl.enc a_) :: (iv (((a_.getD []).length : Nat) : Int)) :: x1 :: tZ9 14 [und]), h10) ∧ Hold B h10 [(x1, obS (q12 : Sl Box))]) := by
  refine @lpZ9 _ _ _ _ _ _ _ _ (fun st tm h7 R => ?_)
  obtain ⟨w6, w9⟩ := st
  obtain ⟨rfl, O8⟩ := R
  rw [e_lb0_q26]
  unfold s0_q26
  dsimp only
  refine kA1 (Tab.enc h7 a_).len ?_
  refine kA1 (kAb _ _) ?_
  refine kA9 (fun c14 => ?_) (fun c14 => ?_)
  · refine kAk (Tab.enc h7 a_) (fun m16 a15 hi17 hm18 => ?_)
    refine kA1 (v := AV.agg [iv a15.x1, iv a15.y1, iv a15.x2, iv a15.y2]) ((Tab.enc h7 a_).ld hm18 true 4 0) ?_
    refine sim_callV1 (t := (fun b : Box => b)) he_q25 (kF9 _ a15 rfl) (fun c19 => ?_)
    refine kAk (O8.tab (A := Box) (s := w6) 0 rfl) (fun m21 a20 hi22 hm23 => ?_)
    refine kFj (A := Box) O8 0 c19 rfl hi22 hm23 rfl (by simp) (by first | rfl | simp) (by first | rfl | simp [kB9]) (fun h24 O25 => ?_)
    replace O25 : Hold B h24 [(x1, obS ((kC4 w6 w9 c19) : Sl Box))] := O25
    refine kA1 (kAl _ _) ?_
    exact kA6 ⟨rfl, rfl, O25⟩
  · exact kA6 ⟨nofun, _, _, rfl, O8⟩
theorem ts_q26 (env : Nat → Contract) (he_q25 : env n_q25 = .pure (T1 (fun b : Box => b))) (a_ : Sl Box) : Sim (kAm Try.prog env n_q26 [Sl.enc a_] []) (t_q26 a_) fun c p => release p.2 depth p.1 = some ((fun c : (Sl Box) => rS c) c) := by
  have O := Hold.nil []
  generalize hB : (⟨[], []⟩ : Base) = B at O
  clear hB
  rw [e_q26]
  unfold t_q26
  refine kA1 (v := iv (((a_.getD []).length : Nat) : Int)) (Tab.enc [] a_).len ?_
  refine sim_make (A := Box) O (⟨0, 0, 0, 0⟩ : Box) rfl (by decide) (fun l5 x1 h2 O3 => ?_)
  replace O3 : Hold B h2 [(x1, obS ((some l5) : Sl Box))] := O3
  refine kB7 ((tl0_q26 env he_q25 a_ x1) ⟨rfl, O3⟩) (fun qq29 r hq => ?_)
  revert hq
  revert qq29
  intro q12 hq
  obtain ⟨q13, h10, rfl, O11⟩ := hq
  rw [e_lk0x0_q26]
  exact kA6 (O11.rel (A := Box) (s := q12) 0 rfl)
theorem tt_q26 : kAo Try.prog n_q26 (C1 (fun c : (Sl Box) => rS c) t_q26) := pureC1 (kC7 ok_q25 E0) mixed hb_q26 fun a_ => ts_q26 _ (by simp [kC8]) a_
def s0_q41 (boxes_ : Sl Box) : Int → Option (Sum Int (Sum Unit Bool)) := fun w3 =>
  bif decide (w3 < (((boxes_.getD []).length : Nat) : Int)) then
    kA0 (kC3 (boxes_.getD []) w3) fun a13 =>
    kA0 (some (kBd a13)) fun c17 =>
    bif !c17 then
      some (.inr (.inr false))
    else
      some (.inl (wr (w3 + 1)))
  else
    some (.inr (.inl ()))
def t_q41 (boxes_ : Sl Box) : Option Bool :=
  kA0 (kB6 (s0_q41 boxes_) 0) fun qq23 => match qq23 with
  | (.inl _) =>
      some (decide ((((boxes_.getD []).length : Nat) : Int) ≤ 60))
  | (.inr q10) =>
      some q10
theorem tl0_q41 (env : Nat → Contract) {B : Base} (he_q40 : env n_q40 = .pure (T1 kBd)) (boxes_ : Sl Box)  : kHw (fun (st : Int) tm h1 => match st with | w3 => tm = ((Sl.enc boxes_) :: und :: .top :: (iv w3) :: tZ9 12 [und, und, und]) ∧ Hold B h1 []) hm0_q41 xm0_q41 (lb0_q41 env) (s0_q41 boxes_) (fun (q : Sum Unit Bool) (r : Res) => match q with | .inl _ => ∃ (q7 : Int) (z6 : AV) (h4 : kA4), r = (.exit 0, ((Sl.enc boxes_) :: und :: z6 :: (iv q7) :: tZ9 12 [und, und, und]), h4) ∧ Hold B h4 [] | .inr q10 => ∃ (q11 : Int) (h8 : kA4), r = (.ret, ((Sl.enc boxes_) :: und :: (bv q10) :: (iv q11) :: tZ9 12 [und, und, und]), h8) ∧ Hold B h8 []) := by
  refine @lpZ9 _ _ _ _ _ _ _ _ (fun w3 tm h1 R => ?_)
  obtain ⟨rfl, O2⟩ := R
  rw [e_lb0_q41]
  unfold s0_q41
  dsimp only
  refine kA1 (Tab.enc h1 boxes_).len ?_
  refine kA1 (kAb _ _) ?_
  refine kA9 (fun c12 => ?_) (fun c12 => ?_)
  · refine kAk (Tab.enc h1 boxes_) (fun m14 a13 hi15 hm16 => ?_)
    refine kA1 (v := AV.agg [iv a13.x1, iv a13.y1, iv a13.x2, iv a13.y2]) ((Tab.enc h1 boxes_).ld hm16 true 4 0) ?_
    refine sim_callV1 (t := kBd) he_q40 (kF9 _ a13 rfl) (fun c17 => ?_)
    refine kA1 (v := bv (!c17)) (kCg _) ?_
    refine kA9 (fun c18 => ?_) (fun c18 => ?_)
    · exact kA6 ⟨nofun, _, _, rfl, O2⟩
    · refine kA1 (kAl _ _) ?_
      exact kA6 ⟨rfl, rfl, O2⟩
  · exact kA6 ⟨nofun, _, _, _, rfl, O2⟩
theorem ts_q41 (env : Nat → Contract) (he_q40 : env n_q40 = .pure (T1 kBd)) (boxes_ : Sl Box) : Sim (kAm Try.prog env n_q41 [Sl.enc boxes_] []) (t_q41 boxes_) fun c p => release p.2 depth p.1 = some ((fun c : Bool => enc c) c) := by
  have O := Hold.nil []
  generalize hB : (⟨[], []⟩ : Base) = B at O
  clear hB
  rw [e_q41]
  unfold t_q41
  refine kB7 ((tl0_q41 env he_q40 boxes_) ⟨rfl, O⟩) (fun qq23 r hq => ?_)
  rcases qq23 with _ | q10
  · obtain ⟨q7, z6, h4, rfl, O5⟩ := hq
    rw [e_lk0x0_q41]
    refine kA1 (Tab.enc h4 boxes_).len ?_
    refine kA1 (aBin_leq _ _) ?_
    exact kA6 (kA8 (by rfl) _)
  · obtain ⟨q11, h8, rfl, O9⟩ := hq
    rw [e_lk0r_q41]
    exact kA6 (kA8 (by rfl) _)
theorem tt_q41 : kAo Try.prog n_q41 (C1 (fun c : Bool => enc c) t_q41) := pureC1 (kC7 ok_q40 E0) mixed hb_q41 fun boxes_ => ts_q41 _ (by simp [kC8]) boxes_
def t_q44 (boxes_ : Sl Box) (a_ : Int) (b_ : Int) : Option Bool :=
  kA0 (kC3 (boxes_.getD []) a_) fun a1 =>
  kA0 (kC3 (boxes_.getD []) b_) fun a11 =>
  bif !decide (a1.x1 = a11.x1) then
    some (decide (a1.x1 < a11.x1))
  else
    bif !decide (a1.x2 = a11.x2) then
      some (decide (a1.x2 < a11.x2))
    else
      some (decide (a_ < b_))
theorem ts_q44 (env : Nat → Contract)  (boxes_ : Sl Box) (a_ : Int) (b_ : Int) : Sim (kAm Try.prog env n_q44 [Sl.enc boxes_, iv a_, iv b_] []) (t_q44 boxes_ a_ b_) fun c p => release p.2 depth p.1 = some ((fun c : Bool => enc c) c) := by
  have O := Hold.nil []
  generalize hB : (⟨[], []⟩ : Base) = B at O
  clear hB
  rw [e_q44]
  unfold t_q44
  refine kAk (Tab.enc [] boxes_) (fun m2 a1 hi3 hm4 => ?_)
  refine kA1 (v := AV.agg [iv a1.x1, iv a1.y1, iv a1.x2, iv a1.y2]) ((Tab.enc [] boxes_).ld hm4 true 4 0) ?_
  refine kFc O (cs := [iv 0, iv 0, iv 0, iv 0]) (by first | rfl | simp) (fun o5 h6 O7 => ?_)
  replace O7 : Hold B h6 [pZ9 o5 4 [iv 0, iv 0, iv 0, iv 0]] := O7
  refine kEx O7 0 (cs' := [iv a1.x1, iv a1.y1, iv a1.x2, iv a1.y2]) rfl (by first | rfl | simp) (by simp) (by first | rfl | simp) (by first | rfl | simp [kB9]) (fun h9 O10 => ?_)
  replace O10 : Hold B h9 [pZ9 o5 4 [iv a1.x1, iv a1.y1, iv a1.x2, iv a1.y2]] := O10
  refine kAk (Tab.enc h9 boxes_) (fun m12 a11 hi13 hm14 => ?_)
  refine kA1 (v := AV.agg [iv a11.x1, iv a11.y1, iv a11.x2, iv a11.y2]) ((Tab.enc h9 boxes_).ld hm14 true 4 0) ?_
  refine kFc O10 (cs := [iv 0, iv 0, iv 0, iv 0]) (by first | rfl | simp) (fun o15 h16 O17 => ?_)
  replace O17 : Hold B h16 [pZ9 o5 4 [iv a1.x1, iv a1.y1, iv a1.x2, iv a1.y2], pZ9 o15 4 [iv 0, iv 0, iv 0, iv 0]] := O17
  refine kEx O17 1 (cs' := [iv a11.x1, iv a11.y1, iv a11.x2, iv a11.y2]) rfl (by first | rfl | simp) (by simp) (by first | rfl | simp) (by first | rfl | simp [kB9]) (fun h19 O20 => ?_)
  replace O20 : Hold B h19 [pZ9 o5 4 [iv a1.x1, iv a1.y1, iv a1.x2, iv a1.y2], pZ9 o15 4 [iv a11.x1, iv a11.y1, iv a11.x2, iv a11.y2]] := O20
  refine kA1 (v := AV.ptr o5 1 0 0) rfl ?_
  refine kA1 (v := iv a1.x1) (O20.ld 0 rfl false 1 0) ?_
  refine kA1 (v := AV.ptr o15 1 0 0) rfl ?_
  refine kA1 (v := iv a11.x1) (O20.ld 1 rfl false 1 0) ?_
  refine kA1 (kC9 _ _) ?_
  refine kA9 (fun c21 => ?_) (fun c21 => ?_)
  · refine kA1 (v := AV.ptr o5 1 0 0) rfl ?_
    refine kA1 (v := iv a1.x1) (O20.ld 0 rfl false 1 0) ?_
    refine kA1 (v := AV.ptr o15 1 0 0) rfl ?_
    refine kA1 (v := iv a11.x1) (O20.ld 1 rfl false 1 0) ?_
    refine kA1 (kAb _ _) ?_
    exact kA6 (kA8 (by rfl) _)
  · refine kA1 (v := AV.ptr o5 1 0 2) rfl ?_
    refine kA1 (v := iv a1.x2) (O20.ld 0 rfl false 1 2) ?_
    refine kA1 (v := AV.ptr o15 1 0 2) rfl ?_
    refine kA1 (v := iv a11.x2) (O20.ld 1 rfl false 1 2) ?_
    refine kA1 (kC9 _ _) ?_
    refine kA9 (fun c22 => ?_) (fun c22 => ?_)
    · refine kA1 (v := AV.ptr o5 1 0 2) rfl ?_
      refine kA1 (v := iv a1.x2) (O20.ld 0 rfl false 1 2) ?_
      refine kA1 (v := AV.ptr o15 1 0 2) rfl ?_
      refine kA1 (v := iv a11.x2) (O20.ld 1 rfl false 1 2) ?_
      refine kA1 (kAb _ _) ?_
      exact kA6 (kA8 (by rfl) _)
    · refine kA1 (kAb _ _) ?_
      exact kA6 (kA8 (by rfl) _)
theorem tt_q44 : kAo Try.prog n_q44 (C3 (fun c : Bool => enc c) t_q44) := pureC3 E0 mixed hb_q44 fun boxes_ a_ b_ => ts_q44 _  boxes_ a_ b_
def t_q43 (boxes_ : Sl Box) (a_ : Int) (b_ : Int) : Option Bool :=
  kA0 (kC3 (boxes_.getD []) a_) fun a1 =>
  kA0 (kC3 (boxes_.getD []) b_) fun a5 =>
  bif !decide (a1.y1 = a5.y1) then
    kA0 (kC3 (boxes_.getD []) a_) fun a10 =>
    kA0 (kC3 (boxes_.getD []) b_) fun a14 =>
    some (decide (a10.y1 < a14.y1))
  else
    some (decide (a_ < b_))
theorem ts_q43 (env : Nat → Contract)  (boxes_ : Sl Box) (a_ : Int) (b_ : Int) : Sim (kAm Try.prog env n_q43 [Sl.enc boxes_, iv a_, iv b_] []) (t_q43 boxes_ a_ b_) fun c p => release p.2 depth p.1 = some ((fun c : Bool => enc c) c) := by
  have O := Hold.nil []
  generalize hB : (⟨[], []⟩ : Base) = B at O
  clear hB
  rw [e_q43]
  unfold t_q43
  refine kAk (Tab.enc [] boxes_) (fun m2 a1 hi3 hm4 => ?_)
  refine kA1 (v := elp (Sl.enc boxes_) m2 1) ((Tab.enc [] boxes_).fld _ _ _) ?_
  refine kA1 (v := iv a1.y1) ((Tab.enc [] boxes_).ld hm4 false 1 1) ?_
  refine kAk (Tab.enc [] boxes_) (fun m6 a5 hi7 hm8 => ?_)
  refine kA1 (v := elp (Sl.enc boxes_) m6 1) ((Tab.enc [] boxes_).fld _ _ _) ?_
  refine kA1 (v := iv a5.y1) ((Tab.enc [] boxes_).ld hm8 false 1 1) ?_
  refine kA1 (kC9 _ _) ?_
  refine kA9 (fun c9 => ?_) (fun c9 => ?_)
  · refine kAk (Tab.enc [] boxes_) (fun m11 a10 hi12 hm13 => ?_)
    refine kA1 (v := elp (Sl.enc boxes_) m11 1) ((Tab.enc [] boxes_).fld _ _ _) ?_
    refine kA1 (v := iv a10.y1) ((Tab.enc [] boxes_).ld hm13 false 1 1) ?_
    refine kAk (Tab.enc [] boxes_) (fun m15 a14 hi16 hm17 => ?_)
    refine kA1 (v := elp (Sl.enc boxes_) m15 1) ((Tab.enc [] boxes_).fld _ _ _) ?_
    refine kA1 (v := iv a14.y1) ((Tab.enc [] boxes_).ld hm17 false 1 1) ?_
    refine kA1 (kAb _ _) ?_
    exact kA6 (kA8 (by rfl) _)
  · refine kA1 (kAb _ _) ?_
    exact kA6 (kA8 (by rfl) _)
theorem tt_q43 : kAo Try.prog n_q43 (C3 (fun c : Bool => enc c) t_q43) := pureC3 E0 mixed hb_q43 fun boxes_ a_ b_ => ts_q43 _  boxes_ a_ b_
def s0_q46 (boxes_ : Sl Box) (list_ : Sl Int) (k_ : Int) (high_ : Bool) : Int → Option (Sum Int Int) := fun w3 =>
  bif decide (0 < w3) then
    kA0 (kC3 (list_.getD []) (wr (w3 - 1))) fun a31 =>
    kA0 (t_q44 boxes_ k_ a31) fun c35 =>
    bif high_ then
      kA0 (kC3 (list_.getD []) (wr (w3 - 1))) fun a37 =>
      kA0 (t_q43 boxes_ k_ a37) fun c41 =>
      bif !c41 then
        some (.inr w3)
      else
        some (.inl (wr (w3 - 1)))
    else
      bif !c35 then
        some (.inr w3)
      else
        some (.inl (wr (w3 - 1)))
  else
    some (.inr w3)
def t_q46 (boxes_ : Sl Box) (list_ : Sl Int) (k_ : Int) (high_ : Bool) : Option (Sl Int) :=
  kA0 (kB6 (s0_q46 boxes_ list_ k_ high_) (((list_.getD []).length : Nat) : Int)) fun q6 =>
  kA0 (subS list_ none (some q6)) fun s8 =>
  kA0 (t_q39 s8) fun c9 =>
  kA0 (appO c9 ([k_] : List Int)) fun _ =>
  kA0 (subS list_ (some q6) none) fun s24 =>
  kA0 (appO (kDm c9 ([k_] : List Int)) (s24.getD [])) fun _ =>
  some (kDm (kDm c9 ([k_] : List Int)) (s24.getD []))
theorem tl0_q46 (env : Nat → Contract) {B : Base} (he_q39 : env n_q39 = .pure (C1 (fun c : (Sl Int) => rS c) t_q39)) (he_q43 : env n_q43 = .pure (C3 (fun c : Bool => enc c) t_q43)) (he_q44 : env n_q44 = .pure (C3 (fun c : Bool => enc c) t_q44)) (boxes_ : Sl Box) (list_ : Sl Int) (k_ : Int) (high_ : Bool)  : kHw (fun (st : Int) tm h1 => match st with | w3 => tm = ((Sl.enc boxes_) :: (Sl.enc list_) :: (iv k_) :: (bv high_) :: und :: und :: und :: und :: kBi :: (iv w3) :: .top :: und :: (Sl.enc list_) :: (iv (((list_.getD []).length : Nat) : Int)) :: tZ9 23 [und, und, und, und, und, und, und, und, und, und, und, und]) ∧ Hold B h1 []) hm0_q46 xm0_q46 (lb0_q46 env) (s0_q46 boxes_ list_ k_ high_) (fun (q : Int) (r : Res) => match q with | q6 => ∃ (z7 : AV) (h4 : kA4), r = (.exit 0, ((Sl.enc boxes_) :: (Sl.enc list_) :: (iv k_) :: (bv high_) :: und :: und :: und :: und :: kBi :: (iv q6) :: z7 :: und :: (Sl.enc list_) :: (iv (((list_.getD []).length : Nat) : Int)) :: tZ9 23 [und, und, und, und, und, und, und, und, und, und, und, und]), h4) ∧ Hold B h4 []) := by
  refine @lpZ9 _ _ _ _ _ _ _ _ (fun w3 tm h1 R => ?_)
  obtain ⟨rfl, O2⟩ := R
  rw [e_lb0_q46]
  unfold s0_q46
  dsimp only
  refine kA1 (kFi _ _) ?_
  refine kA9 (fun c30 => ?_) (fun c30 => ?_)
  · refine kA1 (kAx _ _) ?_
    refine kAk (Tab.enc h1 list_) (fun m32 a31 hi33 hm34 => ?_)
    refine kA1 (v := iv a31) ((Tab.enc h1 list_).ld hm34 false 1 0) ?_
    refine sim_call3 he_q44 (kBf _ _) (kAp _ _) (kAp _ _) (fun c35 => ?_)
    refine kBq (kAf (by rfl) _ _) ?_
    refine kA9 (fun c36 => ?_) (fun c36 => ?_)
    · refine kA1 (kAx _ _) ?_
      refine kAk (Tab.enc h1 list_) (fun m38 a37 hi39 hm40 => ?_)
      refine kA1 (v := iv a37) ((Tab.enc h1 list_).ld hm40 false 1 0) ?_
      refine sim_call3 he_q43 (kBf _ _) (kAp _ _) (kAp _ _) (fun c41 => ?_)
      refine kBq (kAf (by rfl) _ _) ?_
      refine kA1 (v := bv (!c41)) (kCg _) ?_
      refine kA9 (fun c42 => ?_) (fun c42 => ?_)
      · exact kA6 ⟨nofun, _, _, rfl, O2⟩
      · refine kA1 (kAx _ _) ?_
        exact kA6 ⟨rfl, rfl, O2⟩
    · refine kA1 (v := bv (!c35)) (kCg _) ?_
      refine kA9 (fun c45 => ?_) (fun c45 => ?_)
      · exact kA6 ⟨nofun, _, _, rfl, O2⟩
      · refine kA1 (kAx _ _) ?_
        exact kA6 ⟨rfl, rfl, O2⟩
  · exact kA6 ⟨nofun, _, _, rfl, O2⟩
theorem ts_q46 (env : Nat → Contract) (he_q39 : env n_q39 = .pure (C1 (fun c : (Sl Int) => rS c) t_q39)) (he_q43 : env n_q43 = .pure (C3 (fun c : Bool => enc c) t_q43)) (he_q44 : env n_q44 = .pure (C3 (fun c : Bool => enc c) t_q44)) (boxes_ : Sl Box) (list_ : Sl Int) (k_ : Int) (high_ : Bool) : Sim (kAm Try.prog env n_q46 [Sl.enc boxes_, Sl.enc list_, iv k_, bv high_] []) (t_q46 boxes_ list_ k_ high_) fun c p => release p.2 depth p.1 = some ((fun c : (Sl Int) => rS c) c) := by
  have O := Hold.nil []
  generalize hB : (⟨[], []⟩ : Base) = B at O
  clear hB
  rw [e_q46]
  unfold t_q46
  refine kA1 (v := iv (((list_.getD []).length : Nat) : Int)) (Tab.enc [] list_).len ?_
  refine kB7 ((tl0_q46 env he_q39 he_q43 he_q44 boxes_ list_ k_ high_) ⟨rfl, O⟩) (fun qq50 r hq => ?_)
  revert hq
  revert qq50
  intro q6 hq
  obtain ⟨z7, h4, rfl, O5⟩ := hq
  rw [e_lk0x0_q46]
  refine sim_sub01 (fun s8 => ?_)
  refine kDb he_q39 (kBf _ _) (fun c9 => ?_)
  refine kFa (A := Int) O5 (fun x11 h12 O13 => ?_)
  replace O13 : Hold B h12 [(x11, obS (c9 : Sl Int))] := O13
  refine kDw (A := Int) O13 ([k_] : List Int) rfl (by first | rfl | simp [kBj, kE7]) rfl (fun x14 h15 O16 => ?_)
  replace O16 : Hold B h15 [(x11, obS (c9 : Sl Int)), (x14, obS ((some ([k_] : List Int)) : Sl Int))] := O16
  refine kGj (A := Int) (s := c9) O16 0 ([k_] : List Int) rfl (O16.src (A := Int) (s := (some ([k_] : List Int))) 1 rfl) (by decide) (fun x19 h20 O21 => ?_)
  replace O21 : Hold B h20 [(x19, obS ((kDm c9 ([k_] : List Int)) : Sl Int)), (x14, obS ((some ([k_] : List Int)) : Sl Int))] := O21
  have O23 : Hold B h20 [(x19, obS ((kDm c9 ([k_] : List Int)) : Sl Int))] := O21.sel [0] (by decide) rfl
  refine sim_sub10 (fun s24 => ?_)
  refine kGj (A := Int) (s := (kDm c9 ([k_] : List Int))) O23 0 (s24.getD []) rfl (src_enc _ _) (by decide) (fun x26 h27 O28 => ?_)
  replace O28 : Hold B h27 [(x26, obS ((kDm (kDm c9 ([k_] : List Int)) (s24.getD [])) : Sl Int))] := O28
  exact kA6 (O28.rel (A := Int) (s := (kDm (kDm c9 ([k_] : List Int)) (s24.getD []))) 0 rfl)
theorem tt_q46 : kAo Try.prog n_q46 (C4 (fun c : (Sl Int) => rS c) t_q46) := pureC4 (kC7 tt_q39 (kC7 tt_q43 (kC7 tt_q44 E0))) mixed hb_q46 fun boxes_ list_ k_ high_ => ts_q46 _ (by simp [kC8]) (by simp [kC8]) (by simp [kC8]) boxes_ list_ k_ high_
def kGp (boxes_ : Sl Box) (gap_ : Int) (q13 : Sl Int) : ((Sl Line) × Int) → Option (Sum ((Sl Line) × Int) (Sl Line)) := fun (w20, w25) =>
  bif decide (w25 < (((q13.getD []).length : Nat) : Int)) then
    kA0 (kC3 (q13.getD []) w25) fun a38 =>
    kA0 (kC3 (boxes_.getD []) a38) fun a42 =>
    kA0 (bif decide ((((w20.getD []).length : Nat) : Int) = 0) then some false else (kA0 (kC3 (w20.getD []) (wr ((((w20.getD []).length : Nat) : Int) - 1))) fun a53 => some (decide ((wr (a53.bottom + gap_)) < a42.y1)))) fun c59 =>
    bif (bif decide ((((w20.getD []).length : Nat) : Int) = 0) then true else c59) then
      kA0 (kC3 (q13.getD []) w25) fun a71 =>
      kA0 (appO w20 ([(⟨a42.y1, a42.y2, (some ([a71] : List Int))⟩ : Line)] : List Line)) fun _ =>
      some (.inl ((kDm w20 ([(⟨a42.y1, a42.y2, (some ([a71] : List Int))⟩ : Line)] : List Line)), wr (w25 + 1)))
    else
      kA0 (kC3 (w20.getD []) (wr ((((w20.getD []).length : Nat) : Int) - 1))) fun a92 =>
      kA0 (some ((fun a b : Int => max a b) a92.bottom a42.y2)) fun c104 =>
      kA0 (kC3 (q13.getD []) w25) fun a105 =>
      kA0 (t_q46 boxes_ a92.items a105 false) fun c109 =>
      kA0 (kC3 (w20.getD []) (wr ((((w20.getD []).length : Nat) : Int) - 1))) fun a114 =>
      some (.inl ((kC4 w20 (wr ((((w20.getD []).length : Nat) : Int) - 1)) (⟨a92.top, c104, c109⟩ : Line)), wr (w25 + 1)))
  else
    some (.inr w20)
def s0_q45 (boxes_ : Sl Box) : ((Sl Int) × Int) → Option (Sum ((Sl Int) × Int) (Sl Int)) := fun (w6, w9) =>
  bif decide (w9 < (((boxes_.getD []).length : Nat) : Int)) then
    kA0 (t_q46 boxes_ w6 w9 true) fun c130 =>
    some (.inl (c130, wr (w9 + 1)))
  else
    some (.inr w6)
def t_q45 (boxes_ : Sl Box) (gap_ : Int) : Option (Sl Line) :=
  kA0 (kB6 (s0_q45 boxes_) ((some ([] : List Int)), 0)) fun q13 =>
  kA0 (kB6 (kGp boxes_ gap_ q13) ((some ([] : List Line)), 0)) fun q29 =>
  some q29
theorem tl1_q45 (env : Nat → Contract) {B : Base} (he_q38 : env n_q38 = .pure (T2 (fun a b : Int => max a b))) (he_q46 : env n_q46 = .pure (C4 (fun c : (Sl Int) => rS c) t_q46)) (boxes_ : Sl Box) (gap_ : Int) (x1 : AV) (z12 : AV) (q13 : Sl Int) (q14 : Int) (x15 : AV)  : kHw (fun (st : (Sl Line) × Int) tm h23 => match st with | (w20, w25) => ∃ z19, ∃ ps21 : PS Line, tm = ((Sl.enc boxes_) :: (iv gap_) :: und :: und :: kBi :: z12 :: (iv q14) :: z19 :: (iv w25) :: .top :: .top :: .top :: x1 :: .top :: .top :: .top :: .top :: .top :: .top :: .top :: .top :: .top :: .top :: x15 :: tZ9 68 [und]) ∧ pj ps21 = w20 ∧ Hold B h23 ([(z12, obS (q13 : Sl Int))] ++ D2 (A := Line) z19 ps21)) hm1_q45 xm1_q45 (lb1_q45 env) (kGp boxes_ gap_ q13) (fun (q : Sl Line) (r : Res) => match q with | q29 => ∃ (q32 : Int) (z28 : AV) (z33 : AV) (z34 : AV) (z35 : AV) (ps30 : PS Line) (h26 : kA4), r = (.exit 2, ((Sl.enc boxes_) :: (iv gap_) :: und :: und :: kBi :: z12 :: (iv q14) :: z28 :: (iv q32) :: z33 :: z34 :: z35 :: x1 :: .top :: .top :: .top :: .top :: .top :: .top :: .top :: .top :: .top :: .top :: x15 :: tZ9 68 [und]), h26) ∧ pj ps30 = q29 ∧ Hold B h26 ([(z12, obS (q13 : Sl Int))] ++ D2 (A := Line) z28 ps30)) := by
  refine @lpZ9 _ _ _ _ _ _ _ _ (fun st tm h23 R => ?_)
  obtain ⟨w20, w25⟩ := st
  obtain ⟨z19, ps21, rfl, hp22, O24⟩ := R
  rw [e_lb1_q45]
  unfold kGp
  dsimp only
  refine kA1 (v := iv (((q13.getD []).length : Nat) : Int)) (O24.tab (A := Int) (s := q13) 0 rfl).len ?_
  refine kA1 (kAb _ _) ?_
  refine kA9 (fun c37 => ?_) (fun c37 => ?_)
  · refine kAk (O24.tab (A := Int) (s := q13) 0 rfl) (fun m39 a38 hi40 hm41 => ?_)
    refine kA1 (v := iv a38) ((O24.tab (A := Int) (s := q13) 0 rfl).ld hm41 false 1 0) ?_
    refine kAk (Tab.enc h23 boxes_) (fun m43 a42 hi44 hm45 => ?_)
    refine kA1 (v := AV.agg [iv a42.x1, iv a42.y1, iv a42.x2, iv a42.y2]) ((Tab.enc h23 boxes_).ld hm45 true 4 0) ?_
    refine kFc O24 (cs := [iv 0, iv 0, iv 0, iv 0]) (by first | rfl | simp) (fun o46 h47 O48 => ?_)
    replace O48 : Hold B h47 ([(z12, obS (q13 : Sl Int)), pZ9 o46 4 [iv 0, iv 0, iv 0, iv 0]] ++ D2 (A := Line) z19 ps21) := Hold.rot O48
    refine kEx O48 1 (cs' := [iv a42.x1, iv a42.y1, iv a42.x2, iv a42.y2]) rfl (by first | rfl | simp) (by simp) (by first | rfl | simp) (by first | rfl | simp [kB9]) (fun h50 O51 => ?_)
    replace O51 : Hold B h50 ([(z12, obS (q13 : Sl Int)), pZ9 o46 4 [iv a42.x1, iv a42.y1, iv a42.x2, iv a42.y2]] ++ D2 (A := Line) z19 ps21) := O51
    refine kA1 (D2.lenS (l := [(z12, obS (q13 : Sl Int)), pZ9 o46 4 [iv a42.x1, iv a42.y1, iv a42.x2, iv a42.y2]]) (x := z19) (ps := ps21) (A := Line) O51 hp22) ?_
    refine kA1 (aCmp_eq _ _) ?_
    refine sim_g11F (e := bv) (fun hb52 => ?_) (fun y60 y61 y62 y63 y64 y65 y66 y67 y68 y69 c59 => ?_)
    · refine kDh ?_
      refine kA1 (v := AV.ptr o46 1 0 1) rfl ?_
      refine kBz ?_
      refine kDh ?_
      refine kA1 (v := iv a42.y1) (O51.ld 1 rfl false 1 1) ?_
      refine kBz ?_
      refine kBz ?_
      refine kBz ?_
      refine kDh ?_
      refine kA1 (kAx _ _) ?_
      refine kBz ?_
      refine kDh ?_
      refine kFk (l := [(z12, obS (q13 : Sl Int)), pZ9 o46 4 [iv a42.x1, iv a42.y1, iv a42.x2, iv a42.y2]]) (x := z19) (ps := ps21) (A := Line) O51 hp22 (fun m54 a53 x57 hi55 hm56 hg58 => ?_)
      refine kBz ?_
      refine kDh ?_
      refine kA1 (v := elp z19 m54 1) (D2.fld (l := [(z12, obS (q13 : Sl Int)), pZ9 o46 4 [iv a42.x1, iv a42.y1, iv a42.x2, iv a42.y2]]) (x := z19) (ps := ps21) (A := Line) O51 hm56 _ _) ?_
      refine kBz ?_
      refine kDh ?_
      refine kA1 (v := iv a53.bottom) (D2.ld (l := [(z12, obS (q13 : Sl Int)), pZ9 o46 4 [iv a42.x1, iv a42.y1, iv a42.x2, iv a42.y2]]) (x := z19) (ps := ps21) (A := Line) O51 hm56 false 1 1) ?_
      refine kBz ?_
      refine kBz ?_
      refine kDh ?_
      refine kA1 (kAl _ _) ?_
      refine kBz ?_
      refine kA1 (kFi _ _) ?_
      exact kA6 rfl
    · refine kA1 (v := bv (bif decide ((((w20.getD []).length : Nat) : Int) = 0) then true else c59)) (pick_b' _ _ _) ?_
      refine kA9 (fun c70 => ?_) (fun c70 => ?_)
      · refine kA1 (v := AV.ptr o46 1 0 1) rfl ?_
        refine kA1 (v := iv a42.y1) (O51.ld 1 rfl false 1 1) ?_
        refine kA1 (v := AV.ptr o46 1 0 3) rfl ?_
        refine kA1 (v := iv a42.y2) (O51.ld 1 rfl false 1 3) ?_
        refine kAk (O51.tab (A := Int) (s := q13) 0 rfl) (fun m72 a71 hi73 hm74 => ?_)
        refine kA1 (v := iv a71) ((O51.tab (A := Int) (s := q13) 0 rfl).ld hm74 false 1 0) ?_
        refine kDw (A := Int) O51 ([a71] : List Int) rfl (by first | rfl | simp [kBj, kE7]) rfl (fun x75 h76 O77 => ?_)
        replace O77 : Hold B h76 ([(z12, obS (q13 : Sl Int)), pZ9 o46 4 [iv a42.x1, iv a42.y1, iv a42.x2, iv a42.y2], (x75, obS ((some ([a71] : List Int)) : Sl Int))] ++ D2 (A := Line) z19 ps21) := Hold.rot O77
        have jZ0 := O77.one (A := Int) (s := (some ([a71] : List Int))) 2 rfl
        refine kA1 (v := AV.agg [iv a42.y1, iv a42.y2, x75]) (by first | rfl | simp [kHl, aFill, kB9, jZ0.1, jZ0.2]) ?_
        have jZ0 := O77.one (A := Int) (s := (some ([a71] : List Int))) 2 rfl
        refine kG2 O77 [[iv a42.y1, iv a42.y2, x75]] 3 rfl (by first | rfl | simp [kBj, kE7, jZ0.1, jZ0.2]) rfl (fun x79 h80 O81 => ?_)
        replace O81 : Hold B h80 ([(z12, obS (q13 : Sl Int)), pZ9 o46 4 [iv a42.x1, iv a42.y1, iv a42.x2, iv a42.y2], (x75, obS ((some ([a71] : List Int)) : Sl Int)), (x79, .sl 3 [[iv a42.y1, iv a42.y2, x75]])] ++ D2 (A := Line) z19 ps21) := Hold.rot O81
        have O83 : Hold B h80 ([(z12, obS (q13 : Sl Int)), pZ9 o46 4 [iv a42.x1, iv a42.y1, iv a42.x2, iv a42.y2], (x75, obS ((some ([a71] : List Int)) : Sl Int)), (x79, .sl 3 [[iv a42.y1, iv a42.y2, x75]])] ++ D2 (A := Line) z19 ps21) := O81.selD [0, 1, 2, 3] (by decide) rfl
        refine sim_push (l := [(z12, obS (q13 : Sl Int)), pZ9 o46 4 [iv a42.x1, iv a42.y1, iv a42.x2, iv a42.y2]]) (a := (⟨a42.y1, a42.y2, (some ([a71] : List Int))⟩ : Line)) (y := x75) (x := z19) (ps := ps21) O83 hp22 (by decide) (fun x84 ps87 h85 hp88 hm89 O86 => ?_)
        refine kA1 (kAl _ _) ?_
        have O91 : Hold B h85 ([(z12, obS (q13 : Sl Int))] ++ D2 (A := Line) x84 ps87) := O86.selD [0] (by decide) rfl
        exact kA6 ⟨rfl, _, _, rfl, hp88, O91⟩
      · refine kA1 (kAx _ _) ?_
        refine kFk (l := [(z12, obS (q13 : Sl Int)), pZ9 o46 4 [iv a42.x1, iv a42.y1, iv a42.x2, iv a42.y2]]) (x := z19) (ps := ps21) (A := Line) O51 hp22 (fun m93 a92 x96 hi94 hm95 hg97 => ?_)
        refine kA1 (v := AV.agg [iv a92.top, iv a92.bottom, x96]) (D2.ld (l := [(z12, obS (q13 : Sl Int)), pZ9 o46 4 [iv a42.x1, iv a42.y1, iv a42.x2, iv a42.y2]]) (x := z19) (ps := ps21) (A := Line) O51 hm95 true 3 0) ?_
        refine kFc O51 (cs := [iv 0, iv 0, kBi]) (by first | rfl | simp) (fun o98 h99 O100 => ?_)
        replace O100 : Hold B h99 ([(z12, obS (q13 : Sl Int)), pZ9 o46 4 [iv a42.x1, iv a42.y1, iv a42.x2, iv a42.y2], pZ9 o98 3 [iv 0, iv 0, kBi]] ++ D2 (A := Line) z19 ps21) := Hold.rot O100
        have jZ0 := D2.one (l := [(z12, obS (q13 : Sl Int)), pZ9 o46 4 [iv a42.x1, iv a42.y1, iv a42.x2, iv a42.y2], pZ9 o98 3 [iv 0, iv 0, kBi]]) (x := z19) (ps := ps21) (A := Line) O100 hm95
        refine kEx O100 2 (cs' := [iv a92.top, iv a92.bottom, x96]) rfl (by first | rfl | simp [jZ0.1, jZ0.2]) (by simp) (by first | rfl | simp [jZ0.1, jZ0.2]) (by first | rfl | simp [kB9, jZ0.1, jZ0.2]) (fun h102 O103 => ?_)
        replace O103 : Hold B h102 ([(z12, obS (q13 : Sl Int)), pZ9 o46 4 [iv a42.x1, iv a42.y1, iv a42.x2, iv a42.y2], pZ9 o98 3 [iv a92.top, iv a92.bottom, x96]] ++ D2 (A := Line) z19 ps21) := O103
        refine kA1 (kAx _ _) ?_
        refine kA1 (v := AV.ptr o98 1 0 0) rfl ?_
        refine kA1 (v := iv a92.top) (O103.ld 2 rfl false 1 0) ?_
        refine kA1 (v := AV.ptr o98 1 0 1) rfl ?_
        refine kA1 (v := iv a92.bottom) (O103.ld 2 rfl false 1 1) ?_
        refine kA1 (v := AV.ptr o46 1 0 3) rfl ?_
        refine kA1 (v := iv a42.y2) (O103.ld 1 rfl false 1 3) ?_
        refine kDl (t := (fun a b : Int => max a b)) he_q38 (kAp _ _) (kAp _ _) (fun c104 => ?_)
        refine kA1 (v := AV.ptr o98 1 0 2) rfl ?_
        refine kA1 (v := x96) (O103.ld 2 rfl false 1 2) ?_
        refine kAk (O103.tab (A := Int) (s := q13) 0 rfl) (fun m106 a105 hi107 hm108 => ?_)
        refine kA1 (v := iv a105) ((O103.tab (A := Int) (s := q13) 0 rfl).ld hm108 false 1 0) ?_
        refine sim_callQ4 he_q46 (kBf _ _) ((D2.tab (l := [(z12, obS (q13 : Sl Int)), pZ9 o46 4 [iv a42.x1, iv a42.y1, iv a42.x2, iv a42.y2], pZ9 o98 3 [iv a92.top, iv a92.bottom, x96]]) (x := z19) (ps := ps21) (A := Line) O103 hm95).snap) (kAp _ _) (snapD_bool _ _) (fun c109 => ?_)
        refine kFa (A := Int) O103 (fun x111 h112 O113 => ?_)
        replace O113 : Hold B h112 ([(z12, obS (q13 : Sl Int)), pZ9 o46 4 [iv a42.x1, iv a42.y1, iv a42.x2, iv a42.y2], pZ9 o98 3 [iv a92.top, iv a92.bottom, x96], (x111, obS (c109 : Sl Int))] ++ D2 (A := Line) z19 ps21) := Hold.rot O113
        have jZ0 := O113.one (A := Int) (s := c109) 3 rfl
        refine kA1 (v := AV.agg [iv a92.top, iv c104, x111]) (by first | rfl | simp [kHl, aFill, kB9, jZ0.1, jZ0.2]) ?_
        refine kFk (l := [(z12, obS (q13 : Sl Int)), pZ9 o46 4 [iv a42.x1, iv a42.y1, iv a42.x2, iv a42.y2], pZ9 o98 3 [iv a92.top, iv a92.bottom, x96], (x111, obS (c109 : Sl Int))]) (x := z19) (ps := ps21) (A := Line) O113 hp22 (fun m115 a114 x118 hi116 hm117 hg119 => ?_)
        have O122 := O113
        refine sim_setRowA (l := [(z12, obS (q13 : Sl Int)), pZ9 o46 4 [iv a42.x1, iv a42.y1, iv a42.x2, iv a42.y2], pZ9 o98 3 [iv a92.top, iv a92.bottom, x96]]) (x := z19) (ps := ps21) (a' := (⟨a92.top, c104, c109⟩ : Line)) (y' := x111) O122 hp22 hi116 hm117 (by first | rfl | simp [Inn.row]) rfl (fun ps123 h120 hp124 O121 => ?_)
        refine kA1 (kAl _ _) ?_
        have O125 : Hold B h120 ([(z12, obS (q13 : Sl Int))] ++ D2 (A := Line) z19 ps123) := O121.selD [0] (by decide) rfl
        exact kA6 ⟨rfl, _, _, rfl, hp124, O125⟩
  · exact kA6 ⟨nofun, _, _, _, _, _, _, _, rfl, hp22, O24⟩
theorem tl0_q45 (env : Nat → Contract) {B : Base} (he_q38 : env n_q38 = .pure (T2 (fun a b : Int => max a b))) (he_q46 : env n_q46 = .pure (C4 (fun c : (Sl Int) => rS c) t_q46)) (boxes_ : Sl Box) (gap_ : Int) (x1 : AV)  : kHw (fun (st : (Sl Int) × Int) tm h7 => match st with | (w6, w9) => ∃ z5, tm = ((Sl.enc boxes_) :: (iv gap_) :: und :: und :: kBi :: z5 :: (iv w9) :: und :: und :: und :: und :: und :: x1 :: tZ9 10 [und, und, und, und, und, und, und, und, und, und, und, und, und, und, und, und, und, und, und, und, und, und, und, und, und, und, und, und, und, und, und, und, und, und, und, und, und, und, und, und, und, und, und, und, und, und, und, und, und, und, und, und, und, und, und, und, und, und, und, und, und, und, und, und, und, und, und, und, und, und]) ∧ Hold B h7 [(z5, obS (w6 : Sl Int))]) hm0_q45 xm0_q45 (lb0_q45 env) (s0_q45 boxes_) (fun (q : Sl Int) (r : Res) => match q with | q13 => ∃ (q14 : Int) (z12 : AV) (h10 : kA4), r = (.exit 0, ((Sl.enc boxes_) :: (iv gap_) :: und :: und :: kBi :: z12 :: (iv q14) :: und :: und :: und :: und :: und :: x1 :: tZ9 10 [und, und, und, und, und, und, und, und, und, und, und, und, und, und, und, und, und, und, und, und, und, und, und, und, und, und, und, und, und, und, und, und, und, und, und, und, und, und, und, und, und, und, und, und, und, und, und, und, und, und, und, und, und, und, und, und, und, und, und, und, und, und, und, und, und, und, und, und, und, und]), h10) ∧ Hold B h10 [(z12, obS (q13 : Sl Int))]) := by
  refine @lpZ9 _ _ _ _ _ _ _ _ (fun st tm h7 R => ?_)
  obtain ⟨w6, w9⟩ := st
  obtain ⟨z5, rfl, O8⟩ := R
  rw [e_lb0_q45]
  unfold s0_q45
  dsimp only
  refine kA1 (Tab.enc h7 boxes_).len ?_
  refine kA1 (kAb _ _) ?_
  refine kA9 (fun c129 => ?_) (fun c129 => ?_)
  · refine sim_call4 he_q46 (kBf _ _) ((O8.tab (A := Int) (s := w6) 0 rfl).snap) (kAp _ _) (snapD_bool _ _) (fun c130 => ?_)
    refine kFa (A := Int) O8 (fun x132 h133 O134 => ?_)
    replace O134 : Hold B h133 [(z5, obS (w6 : Sl Int)), (x132, obS (c130 : Sl Int))] := O134
    refine kA1 (kAl _ _) ?_
    have O135 : Hold B h133 [(x132, obS (c130 : Sl Int))] := O134.sel [1] (by decide) rfl
    exact kA6 ⟨rfl, _, rfl, O135⟩
  · exact kA6 ⟨nofun, _, _, _, rfl, O8⟩
theorem ts_q45 (env : Nat → Contract) (he_q38 : env n_q38 = .pure (T2 (fun a b : Int => max a b))) (he_q46 : env n_q46 = .pure (C4 (fun c : (Sl Int) => rS c) t_q46)) (boxes_ : Sl Box) (gap_ : Int) : Sim (kAm Try.prog env n_q45 [Sl.enc boxes_, iv gap_] []) (t_q45 boxes_ gap_) fun c p => release p.2 depth p.1 = some ((fun c : (Sl Line) => rD c) c) := by
  have O := Hold.nil []
  generalize hB : (⟨[], []⟩ : Base) = B at O
  clear hB
  rw [e_q45]
  unfold t_q45
  refine kDw (A := Int) O ([] : List Int) rfl (by first | rfl | simp [kBj, kE7]) rfl (fun x1 h2 O3 => ?_)
  replace O3 : Hold B h2 [(x1, obS ((some ([] : List Int)) : Sl Int))] := O3
  refine kB7 ((tl0_q45 env he_q38 he_q46 boxes_ gap_ x1) ⟨_, rfl, O3⟩) (fun qq138 r hq => ?_)
  revert hq
  revert qq138
  intro q13 hq
  obtain ⟨q14, z12, h10, rfl, O11⟩ := hq
  rw [e_lk0x0_q45]
  refine kG2 O11 [] 3 rfl rfl rfl (fun x15 h16 O17 => ?_)
  replace O17 : Hold B h16 ([(z12, obS (q13 : Sl Int))] ++ D2 (A := Line) x15 (some [] : PS Line)) := O17
  refine kB7 ((tl1_q45 env he_q38 he_q46 boxes_ gap_ x1 z12 q13 q14 x15) ⟨_, _, rfl, (rfl : pj (some [] : PS Line) = (some ([] : List Line))), O17⟩) (fun qq128 r hq => ?_)
  revert hq
  revert qq128
  intro q29 hq
  obtain ⟨q32, z28, z33, z34, z35, ps30, h26, rfl, hp31, O27⟩ := hq
  rw [e_lk1x2_q45]
  have O36 : Hold B h26 ([] ++ D2 (A := Line) z28 ps30) := O27.selD [] (by decide) rfl
  exact kA6 (kGi (by simp only [ids_tup, ids_aggD, ids_agg, ids_iv, ids_bv, ids_sv, ids_bt, ids_nilS, ids_enc, D2.ids8 (l := []) (x := z28) (ps := ps30) (A := Line) O36, List.map_append, List.map_nil, List.flatMap_cons, List.flatMap_nil, List.append_nil, List.nil_append]; simpa only [List.flatMap_cons, List.flatMap_nil, List.append_nil, List.nil_append] using O36.nd2) (by simp only [rel_tup, rel_aggD, rel_agg, rel_iv, rel_bv, rel_sv, rel_bt, rel_nilS, rel_enc, D2.rel8 (l := []) (x := z28) (ps := ps30) (A := Line) O36 hp31, omapc, omapn, kA2] <;> rfl))
theorem tt_q45 : kAo Try.prog n_q45 (C2 (fun c : (Sl Line) => rD c) t_q45) := kF0 (kC7 ok_q38 (kC7 tt_q46 E0)) mixed hb_q45 fun boxes_ gap_ => ts_q45 _ (by simp [kC8]) (by simp [kC8]) boxes_ gap_
def t_q36 (boxes_ : Sl Box) (gap_ : Int) : Option ((Sl Line) × Int) :=
  kA0 (t_q41 boxes_) fun c1 =>
  bif !c1 then
    some ((none : Sl Line), 1)
  else
    kA0 (t_q42 gap_) fun c3 =>
    bif !c3 then
      some ((none : Sl Line), 2)
    else
      kA0 (t_q45 boxes_ gap_) fun c5 =>
      some (c5, 0)
theorem ts_q36 (env : Nat → Contract) (he_q41 : env n_q41 = .pure (C1 (fun c : Bool => enc c) t_q41)) (he_q42 : env n_q42 = .pure (C1 (fun c : Bool => enc c) t_q42)) (he_q45 : env n_q45 = .pure (C2 (fun c : (Sl Line) => rD c) t_q45)) (boxes_ : Sl Box) (gap_ : Int) : Sim (kAm Try.prog env n_q36 [Sl.enc boxes_, iv gap_] []) (t_q36 boxes_ gap_) fun c p => release p.2 depth p.1 = some ((fun c : (Sl Line) × Int => AV.tup [rD c.1, enc c.2]) c) := by
  have O := Hold.nil []
  generalize hB : (⟨[], []⟩ : Base) = B at O
  clear hB
  rw [e_q36]
  unfold t_q36
  refine kDb he_q41 (kBf _ _) (fun c1 => ?_)
  refine kBq (kAf (by rfl) _ _) ?_
  refine kA1 (v := bv (!c1)) (kCg _) ?_
  refine kA9 (fun c2 => ?_) (fun c2 => ?_)
  · exact kA6 (kA8 (by rfl) _)
  · refine kDb he_q42 (kAp _ _) (fun c3 => ?_)
    refine kBq (kAf (by rfl) _ _) ?_
    refine kA1 (v := bv (!c3)) (kCg _) ?_
    refine kA9 (fun c4 => ?_) (fun c4 => ?_)
    · exact kA6 (kA8 (by rfl) _)
    · refine kBo he_q45 (kBf _ _) (kAp _ _) (fun c5 => ?_)
      refine sim_handN (l := []) (A := Line) O (fun x7 ps10 h8 hp11 O9 => ?_)
      have O12 : Hold B h8 ([] ++ D2 (A := Line) x7 ps10) := O9.selD [] (by decide) rfl
      exact kA6 (kGi (by simp only [ids_tup, ids_aggD, ids_agg, ids_iv, ids_bv, ids_sv, ids_bt, ids_nilS, ids_enc, D2.idsN (l := []) (x := x7) (ps := ps10) (A := Line) O12, List.map_append, List.map_nil, List.flatMap_cons, List.flatMap_nil, List.append_nil, List.nil_append]; simpa only [List.flatMap_cons, List.flatMap_nil, List.append_nil, List.nil_append] using O12.nd2) (by simp only [rel_tup, rel_aggD, rel_agg, rel_iv, rel_bv, rel_sv, rel_bt, rel_nilS, rel_enc, D2.relN (l := []) (x := x7) (ps := ps10) (A := Line) O12 hp11, omapc, omapn, kA2] <;> rfl))
theorem tt_q36 : kAo Try.prog n_q36 (C2 (fun c : (Sl Line) × Int => AV.tup [rD c.1, enc c.2]) t_q36) := kF0 (kC7 tt_q41 (kC7 tt_q42 (kC7 tt_q45 E0))) mixed hb_q36 fun boxes_ gap_ => ts_q36 _ (by simp [kC8]) (by simp [kC8]) (by simp [kC8]) boxes_ gap_
def s0_q28 (p_ : Box → Option Bool) (s_ : Sl Box) : Int → Option (Sum Int (Sum Unit Int)) := fun w3 =>
  bif decide (w3 < (((s_.getD []).length : Nat) : Int)) then
    kA0 (kC3 (s_.getD []) w3) fun a13 =>
    kA0 (p_ a13) fun c17 =>
    bif c17 then
      some (.inr (.inr w3))
    else
      some (.inl (wr (w3 + 1)))
  else
    some (.inr (.inl ()))
def t_q28 (p_ : Box → Option Bool) (s_ : Sl Box) : Option Int :=
  kA0 (kB6 (s0_q28 p_ s_) 0) fun qq26 => match qq26 with
  | (.inl _) =>
      some (-1)
  | (.inr q10) =>
      some q10
theorem tl0_q28 (env : Nat → Contract) {B : Base} {K : Type} [Cod K] {g : Nat} {caps : K → List AV} {P : K → Box → Option Bool} (hp : ∀ k (a : Box) h, Sim (kAz (env g) (AV.agg (Row.cells a) :: caps k) h) (P k a) fun b r => r = (bv b, h))  (s_ : Sl Box) (f_ : K)  : kHw (fun (st : Int) tm h1 => match st with | w3 => tm = ((Sl.enc s_) :: (AV.fn g (caps f_)) :: und :: und :: .top :: .top :: (Sl.enc s_) :: (iv (((s_.getD []).length : Nat) : Int)) :: (iv w3) :: tZ9 10 []) ∧ Hold B h1 []) hm0_q28 xm0_q28 (lb0_q28 env) (s0_q28 (P f_) s_) (fun (q : Sum Unit Int) (r : Res) => match q with | .inl _ => ∃ (z6 : AV) (z7 : AV) (h4 : kA4), r = (.exit 0, ((Sl.enc s_) :: (AV.fn g (caps f_)) :: und :: und :: z6 :: z7 :: (Sl.enc s_) :: (iv (((s_.getD []).length : Nat) : Int)) :: tZ9 11 []), h4) ∧ Hold B h4 [] | .inr q10 => ∃ (q11 : Int) (h8 : kA4), r = (.ret, ((Sl.enc s_) :: (AV.fn g (caps f_)) :: und :: und :: (iv q10) :: (iv q11) :: (Sl.enc s_) :: (iv (((s_.getD []).length : Nat) : Int)) :: tZ9 11 []), h8) ∧ Hold B h8 []) := by
  refine @lpZ9 _ _ _ _ _ _ _ _ (fun w3 tm h1 R => ?_)
  obtain ⟨rfl, O2⟩ := R
  rw [e_lb0_q28]
  unfold s0_q28
  dsimp only
  refine kA1 (kAb _ _) ?_
  refine kA9 (fun c12 => ?_) (fun c12 => ?_)
  · refine kAk (Tab.enc h1 s_) (fun m14 a13 hi15 hm16 => ?_)
    refine kA1 (v := AV.agg [iv a13.x1, iv a13.y1, iv a13.x2, iv a13.y2]) ((Tab.enc h1 s_).ld hm16 true 4 0) ?_
    refine kG6 (hp f_ a13 _) (fun c17 v18 hh19 hq20 => ?_)
    cases hq20
    refine kA9 (fun c21 => ?_) (fun c21 => ?_)
    · exact kA6 ⟨nofun, _, _, rfl, O2⟩
    · refine kA1 (kAl _ _) ?_
      exact kA6 ⟨rfl, rfl, O2⟩
  · exact kA6 ⟨nofun, _, _, _, rfl, O2⟩
theorem ts_q28 (env : Nat → Contract) {K : Type} [Cod K] {g : Nat} {caps : K → List AV} {P : K → Box → Option Bool} (hp : ∀ k (a : Box) h, Sim (kAz (env g) (AV.agg (Row.cells a) :: caps k) h) (P k a) fun b r => r = (bv b, h))  (s_ : Sl Box) (f_ : K) : Sim (kAm Try.prog env n_q28 [Sl.enc s_, AV.fn g (caps f_)] []) (t_q28 (P f_) s_) fun c p => release p.2 depth p.1 = some ((fun c : Int => enc c) c) := by
  have O := Hold.nil []
  generalize hB : (⟨[], []⟩ : Base) = B at O
  clear hB
  rw [e_q28]
  unfold t_q28
  refine kA1 (v := iv (((s_.getD []).length : Nat) : Int)) (Tab.enc [] s_).len ?_
  refine kB7 ((tl0_q28 env hp s_ f_) ⟨rfl, O⟩) (fun qq26 r hq => ?_)
  rcases qq26 with _ | q10
  · obtain ⟨z6, z7, h4, rfl, O5⟩ := hq
    rw [e_lk0x0_q28]
    exact kA6 (kA8 (by rfl) _)
  · obtain ⟨q11, h8, rfl, O9⟩ := hq
    rw [e_lk0r_q28]
    exact kA6 (kA8 (by rfl) _)
theorem kCu {g : Nat} {t : Box → Option Bool} (hg : kAo Try.prog g (C1 (fun c : Bool => enc c) t)) : kAo Try.prog n_q28 (C2 (fun c : Int => enc c) (fun (q : Sl Box) (k : Clo0 g) => t_q28 ((fun _ : Clo0 g => t) k) q)) := kF0 (kC7 hg E0) mixed hb_q28 fun q k => ts_q28 _ (caps := fun _ => []) (P := (fun _ : Clo0 g => t)) (fun k a h => callP0 (by simp [kC8]) (kF9 _ a rfl)) q k
def t_q27 (p_ : Box → Option Bool) (s_ : Sl Box) : Option Bool :=
  kA0 (t_q28 p_ s_) fun c1 =>
  some (decide (0 ≤ c1))
theorem ts_q27 (env : Nat → Contract) {K : Type} [Cod K] {g : Nat} {caps : K → List AV} {P : K → Box → Option Bool} (hs : ∀ k h, snapD h (AV.fn g (caps k)) = some k) (he_q28 : env n_q28 = .pure (C2 (fun c : Int => enc c) (fun (q : Sl Box) (k : K) => t_q28 (P k) q))) (s_ : Sl Box) (f_ : K) : Sim (kAm Try.prog env n_q27 [Sl.enc s_, AV.fn g (caps f_)] []) (t_q27 (P f_) s_) fun c p => release p.2 depth p.1 = some ((fun c : Bool => enc c) c) := by
  have O := Hold.nil []
  generalize hB : (⟨[], []⟩ : Base) = B at O
  clear hB
  rw [e_q27]
  unfold t_q27
  refine kBo (t := fun (q : Sl Box) (k : K) => t_q28 (P k) q) he_q28 (kBf _ _) (hs f_ _) (fun c1 => ?_)
  refine kBq (kAf (by rfl) _ _) ?_
  refine kA1 (aBin_geq _ _) ?_
  exact kA6 (kA8 (by rfl) _)
theorem kCh {g : Nat} {t : Box → Option Bool} (hg : kAo Try.prog g (C1 (fun c : Bool => enc c) t)) : kAo Try.prog n_q27 (C2 (fun c : Bool => enc c) (fun (q : Sl Box) (k : Clo0 g) => t_q27 ((fun _ : Clo0 g => t) k) q)) := kF0 (kC7 (kCu hg) E0) mixed hb_q27 fun q k => ts_q27 _ (caps := fun _ => []) (P := (fun _ : Clo0 g => t)) (fun k h => snapD_clo0 h g) (by simp [kC8]) q k
def t_q6 (boxes_ : Sl Box) : Option Bool :=
  kA0 (bif decide ((((boxes_.getD []).length : Nat) : Int) ≤ 60) then (kA0 (t_q27 (fun a => some ((fun b : Box => !kBd b) a)) boxes_) fun c2 => some (!c2)) else some false) fun c3 =>
  some (bif decide ((((boxes_.getD []).length : Nat) : Int) ≤ 60) then c3 else false)
theorem ts_q6 (env : Nat → Contract) (he_q27 : env n_q27 = .pure (C2 (fun c : Bool => enc c) (fun (q : Sl Box) (k : Clo0 n_q7) => t_q27 ((fun _ : Clo0 n_q7 => (fun a => some ((fun b : Box => !kBd b) a))) k) q))) (boxes_ : Sl Box) : Sim (kAm Try.prog env n_q6 [Sl.enc boxes_] []) (t_q6 boxes_) fun c p => release p.2 depth p.1 = some ((fun c : Bool => enc c) c) := by
  have O := Hold.nil []
  generalize hB : (⟨[], []⟩ : Base) = B at O
  clear hB
  rw [e_q6]
  unfold t_q6
  refine kA1 (v := iv (((boxes_.getD []).length : Nat) : Int)) (Tab.enc [] boxes_).len ?_
  refine kA1 (aBin_leq _ _) ?_
  refine kBh (e := bv) (fun hb1 => ?_) (fun c3 => ?_)
  · refine kBo (t := fun (q : Sl Box) (k : Clo0 n_q7) => t_q27 ((fun _ : Clo0 n_q7 => (fun a => some ((fun b : Box => !kBd b) a))) k) q) he_q27 (kBf _ _) (snapD_clo0 _ _) (fun c2 => ?_)
    refine kBq (kAf (by rfl) _ _) ?_
    refine kA1 (v := bv (!c2)) (kCg _) ?_
    exact kA6 rfl
  · refine kA1 (v := bv (bif decide ((((boxes_.getD []).length : Nat) : Int) ≤ 60) then c3 else false)) (kE2 _ _ _) ?_
    exact kA6 (kA8 (by rfl) _)
theorem tt_q6 : kAo Try.prog n_q6 (C1 (fun c : Bool => enc c) t_q6) := pureC1 (kC7 (kCh (C1_T1 ok_q7)) E0) mixed hb_q6 fun boxes_ => ts_q6 _ (by simp [kC8]) boxes_
def kE0 (i_ : Int) (j_ : Int) (cap0_ : (Sl Box)) : Option Int :=
  kA0 (kC3 (cap0_.getD []) i_) fun a1 =>
  kA0 (kC3 (cap0_.getD []) j_) fun a5 =>
  kA0 (some (cmpI a1.y1 a5.y1)) fun c9 =>
  some c9
def tp_q11 (i_ : Int) (j_ : Int) (cap0_p : Pt (Sl Box)) : Option Int := kA0 cap0_p.get fun cap0_ => kE0 i_ j_ cap0_
theorem ts_q11 (env : Nat → Contract) (he_q0 : env n_q0 = .pure (T2 cmpI)) (i_ : Int) (j_ : Int) (cap0_ : (Sl Box)) {cap0_p : Pt (Sl Box)} (hp_cap0_ : cap0_p.get = some cap0_) : Sim (kAm Try.prog env kDc [iv i_, iv j_, AV.fptr (Row.w (Sl Box)) (cap0_p.tab.map Row.cells) cap0_p.i 0] []) (kE0 i_ j_ cap0_) fun c p => release p.2 depth p.1 = some ((fun c : Int => enc c) c) := by
  have O := Hold.nil []
  generalize hB : (⟨[], []⟩ : Base) = B at O
  clear hB
  rw [e_q11]
  unfold kE0
  refine kA1 (v := Sl.enc cap0_) (ld_pt hp_cap0_ false 1 0) ?_
  refine kAk (Tab.enc [] cap0_) (fun m2 a1 hi3 hm4 => ?_)
  refine kA1 (v := elp (Sl.enc cap0_) m2 1) ((Tab.enc [] cap0_).fld _ _ _) ?_
  refine kA1 (v := iv a1.y1) ((Tab.enc [] cap0_).ld hm4 false 1 1) ?_
  refine kA1 (v := Sl.enc cap0_) (ld_pt hp_cap0_ false 1 0) ?_
  refine kAk (Tab.enc [] cap0_) (fun m6 a5 hi7 hm8 => ?_)
  refine kA1 (v := elp (Sl.enc cap0_) m6 1) ((Tab.enc [] cap0_).fld _ _ _) ?_
  refine kA1 (v := iv a5.y1) ((Tab.enc [] cap0_).ld hm8 false 1 1) ?_
  refine kDl (t := cmpI) he_q0 (kAp _ _) (kAp _ _) (fun c9 => ?_)
  exact kA6 (kA8 (by rfl) _)
theorem tt_q11 : kAo Try.prog kDc (C3 (fun c : Int => enc c) tp_q11) := pureC3 (kC7 ok_q0 E0) mixed hb_q11 fun i_ j_ cap0_p => sim_getP fun cap0_ hp_cap0_ => ts_q11 _ (by simp [kC8]) i_ j_ cap0_ hp_cap0_
def t_q9 (i_ : Int) (j_ : Int) (cap0_ : (Sl Box)) : Option Int :=
  kA0 (kC3 (cap0_.getD []) i_) fun a1 =>
  kA0 (kC3 (cap0_.getD []) j_) fun a5 =>
  kA0 (some (cmpI a1.x1 a5.x1)) fun c9 =>
  kA0 (kC3 (cap0_.getD []) i_) fun a10 =>
  kA0 (kC3 (cap0_.getD []) j_) fun a14 =>
  kA0 (some (cmpI a10.x2 a14.x2)) fun c18 =>
  kA0 (some (cmpI i_ j_)) fun c19 =>
  kA0 (t_q1 (some ([c9, c18, c19] : List Int))) fun c24 =>
  some c24
def tp_q9 (i_ : Int) (j_ : Int) (cap0_p : Pt (Sl Box)) : Option Int := kA0 cap0_p.get fun cap0_ => t_q9 i_ j_ cap0_
theorem ts_q9 (env : Nat → Contract) (he_q0 : env n_q0 = .pure (T2 cmpI)) (he_q1 : env n_q1 = .pure (C1 (fun c : Int => enc c) t_q1)) (i_ : Int) (j_ : Int) (cap0_ : (Sl Box)) {cap0_p : Pt (Sl Box)} (hp_cap0_ : cap0_p.get = some cap0_) : Sim (kAm Try.prog env n_q9 [iv i_, iv j_, AV.fptr (Row.w (Sl Box)) (cap0_p.tab.map Row.cells) cap0_p.i 0] []) (t_q9 i_ j_ cap0_) fun c p => release p.2 depth p.1 = some ((fun c : Int => enc c) c) := by
  have O := Hold.nil []
  generalize hB : (⟨[], []⟩ : Base) = B at O
  clear hB
  rw [e_q9]
  unfold t_q9
  refine kA1 (v := Sl.enc cap0_) (ld_pt hp_cap0_ false 1 0) ?_
  refine kAk (Tab.enc [] cap0_) (fun m2 a1 hi3 hm4 => ?_)
  refine kA1 (v := elp (Sl.enc cap0_) m2 0) ((Tab.enc [] cap0_).fld _ _ _) ?_
  refine kA1 (v := iv a1.x1) ((Tab.enc [] cap0_).ld hm4 false 1 0) ?_
  refine kA1 (v := Sl.enc cap0_) (ld_pt hp_cap0_ false 1 0) ?_
  refine kAk (Tab.enc [] cap0_) (fun m6 a5 hi7 hm8 => ?_)
  refine kA1 (v := elp (Sl.enc cap0_) m6 0) ((Tab.enc [] cap0_).fld _ _ _) ?_
  refine kA1 (v := iv a5.x1) ((Tab.enc [] cap0_).ld hm8 false 1 0) ?_
  refine kDl (t := cmpI) he_q0 (kAp _ _) (kAp _ _) (fun c9 => ?_)
  refine kA1 (v := Sl.enc cap0_) (ld_pt hp_cap0_ false 1 0) ?_
  refine kAk (Tab.enc [] cap0_) (fun m11 a10 hi12 hm13 => ?_)
  refine kA1 (v := elp (Sl.enc cap0_) m11 2) ((Tab.enc [] cap0_).fld _ _ _) ?_
  refine kA1 (v := iv a10.x2) ((Tab.enc [] cap0_).ld hm13 false 1 2) ?_
  refine kA1 (v := Sl.enc cap0_) (ld_pt hp_cap0_ false 1 0) ?_
  refine kAk (Tab.enc [] cap0_) (fun m15 a14 hi16 hm17 => ?_)
  refine kA1 (v := elp (Sl.enc cap0_) m15 2) ((Tab.enc [] cap0_).fld _ _ _) ?_
  refine kA1 (v := iv a14.x2) ((Tab.enc [] cap0_).ld hm17 false 1 2) ?_
  refine kDl (t := cmpI) he_q0 (kAp _ _) (kAp _ _) (fun c18 => ?_)
  refine kDl (t := cmpI) he_q0 (kAp _ _) (kAp _ _) (fun c19 => ?_)
  refine kDw (A := Int) O ([c9, c18, c19] : List Int) rfl (by first | rfl | simp [kBj, kE7]) rfl (fun x20 h21 O22 => ?_)
  replace O22 : Hold B h21 [(x20, obS ((some ([c9, c18, c19] : List Int)) : Sl Int))] := O22
  refine sim_callQ1 he_q1 ((O22.tab (A := Int) (s := (some ([c9, c18, c19] : List Int))) 0 rfl).snap) (fun c24 => ?_)
  refine kBq (kAf (by rfl) _ _) ?_
  exact kA6 (kA8 (by rfl) _)
theorem tt_q9 : kAo Try.prog n_q9 (C3 (fun c : Int => enc c) tp_q9) := pureC3 (kC7 ok_q0 (kC7 tt_q1 E0)) mixed hb_q9 fun i_ j_ cap0_p => sim_getP fun cap0_ hp_cap0_ => ts_q9 _ (by simp [kC8]) (by simp [kC8]) i_ j_ cap0_ hp_cap0_
def t_q17 (a_ : Line) (b_ : Line) : Option Bool :=
  bif !decide (a_.top = b_.top) then
    some false
  else
    bif !decide (a_.bottom = b_.bottom) then
      some false
    else
      kA0 (t_q16 a_.items b_.items) fun c11 =>
      bif !c11 then
        some false
      else
        some true
theorem ts_q17 (env : Nat → Contract) (he_q16 : env n_q16 = .pure (C2 (fun c : Bool => enc c) t_q16)) (a_ : Line) (b_ : Line) : Sim (kAm Try.prog env n_q17 [AV.agg [iv a_.top, iv a_.bottom, Sl.enc a_.items], AV.agg [iv b_.top, iv b_.bottom, Sl.enc b_.items]] []) (t_q17 a_ b_) fun c p => release p.2 depth p.1 = some ((fun c : Bool => enc c) c) := by
  have O := Hold.nil []
  generalize hB : (⟨[], []⟩ : Base) = B at O
  clear hB
  rw [e_q17]
  unfold t_q17
  refine kFc O (cs := [iv a_.top, iv a_.bottom, Sl.enc a_.items]) (by first | rfl | simp) (fun o1 h2 O3 => ?_)
  replace O3 : Hold B h2 [pZ9 o1 3 [iv a_.top, iv a_.bottom, Sl.enc a_.items]] := O3
  refine kFc O3 (cs := [iv b_.top, iv b_.bottom, Sl.enc b_.items]) (by first | rfl | simp) (fun o5 h6 O7 => ?_)
  replace O7 : Hold B h6 [pZ9 o1 3 [iv a_.top, iv a_.bottom, Sl.enc a_.items], pZ9 o5 3 [iv b_.top, iv b_.bottom, Sl.enc b_.items]] := O7
  refine kA1 (v := AV.ptr o1 1 0 0) rfl ?_
  refine kA1 (v := iv a_.top) (O7.ld 0 rfl false 1 0) ?_
  refine kA1 (v := AV.ptr o5 1 0 0) rfl ?_
  refine kA1 (v := iv b_.top) (O7.ld 1 rfl false 1 0) ?_
  refine kA1 (kC9 _ _) ?_
  refine kA9 (fun c9 => ?_) (fun c9 => ?_)
  · exact kA6 (kA8 (by rfl) _)
  · refine kA1 (v := AV.ptr o1 1 0 1) rfl ?_
    refine kA1 (v := iv a_.bottom) (O7.ld 0 rfl false 1 1) ?_
    refine kA1 (v := AV.ptr o5 1 0 1) rfl ?_
    refine kA1 (v := iv b_.bottom) (O7.ld 1 rfl false 1 1) ?_
    refine kA1 (kC9 _ _) ?_
    refine kA9 (fun c10 => ?_) (fun c10 => ?_)
    · exact kA6 (kA8 (by rfl) _)
    · refine kA1 (v := AV.ptr o1 1 0 2) rfl ?_
      refine kA1 (v := Sl.enc a_.items) (O7.ld 0 rfl false 1 2) ?_
      refine kA1 (v := AV.ptr o5 1 0 2) rfl ?_
      refine kA1 (v := Sl.enc b_.items) (O7.ld 1 rfl false 1 2) ?_
      refine kBo he_q16 (kBf _ _) (kBf _ _) (fun c11 => ?_)
      refine kBq (kAf (by rfl) _ _) ?_
      refine kA1 (v := bv (!c11)) (kCg _) ?_
      refine kA9 (fun c12 => ?_) (fun c12 => ?_)
      · exact kA6 (kA8 (by rfl) _)
      · exact kA6 (kA8 (by rfl) _)
theorem tt_q17 : kAo Try.prog n_q17 (C2 (fun c : Bool => enc c) t_q17) := kF0 (kC7 tt_q16 E0) mixed hb_q17 fun a_ b_ => ts_q17 _ (by simp [kC8]) a_ b_
def s0_q18 (a_ : Sl Line) (b_ : Sl Line) : Int → Option (Sum Int (Sum Unit Bool)) := fun w4 =>
  bif decide (w4 < (((a_.getD []).length : Nat) : Int)) then
    kA0 (kC3 (a_.getD []) w4) fun a14 =>
    kA0 (kC3 (b_.getD []) w4) fun a18 =>
    kA0 (t_q17 a14 a18) fun c22 =>
    bif !c22 then
      some (.inr (.inr false))
    else
      some (.inl (wr (w4 + 1)))
  else
    some (.inr (.inl ()))
def t_q18 (a_ : Sl Line) (b_ : Sl Line) : Option Bool :=
  bif !decide ((((a_.getD []).length : Nat) : Int) = (((b_.getD []).length : Nat) : Int)) then
    some false
  else
    kA0 (kB6 (s0_q18 a_ b_) 0) fun qq28 => match qq28 with
    | (.inl _) =>
        some true
    | (.inr q11) =>
        some q11
theorem tl0_q18 (env : Nat → Contract) {B : Base} (he_q17 : env n_q17 = .pure (C2 (fun c : Bool => enc c) t_q17)) (a_ : Sl Line) (b_ : Sl Line)  : kHw (fun (st : Int) tm h2 => match st with | w4 => tm = ((Sl.enc a_) :: (Sl.enc b_) :: und :: und :: .top :: (iv w4) :: (Sl.enc a_) :: (iv (((a_.getD []).length : Nat) : Int)) :: (Sl.enc b_) :: (iv (((b_.getD []).length : Nat) : Int)) :: (bv (!decide ((((a_.getD []).length : Nat) : Int) = (((b_.getD []).length : Nat) : Int)))) :: tZ9 16 []) ∧ Hold B h2 []) hm0_q18 xm0_q18 (lb0_q18 env) (s0_q18 a_ b_) (fun (q : Sum Unit Bool) (r : Res) => match q with | .inl _ => ∃ (q8 : Int) (z7 : AV) (h5 : kA4), r = (.exit 0, ((Sl.enc a_) :: (Sl.enc b_) :: und :: und :: z7 :: (iv q8) :: (Sl.enc a_) :: (iv (((a_.getD []).length : Nat) : Int)) :: (Sl.enc b_) :: (iv (((b_.getD []).length : Nat) : Int)) :: (bv (!decide ((((a_.getD []).length : Nat) : Int) = (((b_.getD []).length : Nat) : Int)))) :: tZ9 16 []), h5) ∧ Hold B h5 [] | .inr q11 => ∃ (q12 : Int) (h9 : kA4), r = (.ret, ((Sl.enc a_) :: (Sl.enc b_) :: und :: und :: (bv q11) :: (iv q12) :: (Sl.enc a_) :: (iv (((a_.getD []).length : Nat) : Int)) :: (Sl.enc b_) :: (iv (((b_.getD []).length : Nat) : Int)) :: (bv (!decide ((((a_.getD []).length : Nat) : Int) = (((b_.getD []).length : Nat) : Int)))) :: tZ9 16 []), h9) ∧ Hold B h9 []) := by
  refine @lpZ9 _ _ _ _ _ _ _ _ (fun w4 tm h2 R => ?_)
  obtain ⟨rfl, O3⟩ := R
  rw [e_lb0_q18]
  unfold s0_q18
  dsimp only
  refine kA1 (Tab.enc h2 a_).len ?_
  refine kA1 (kAb _ _) ?_
  refine kA9 (fun c13 => ?_) (fun c13 => ?_)
  · refine kAk (Tab.enc h2 a_) (fun m15 a14 hi16 hm17 => ?_)
    refine kA1 (v := AV.agg [iv a14.top, iv a14.bottom, Sl.enc a14.items]) ((Tab.enc h2 a_).ld hm17 true 3 0) ?_
    refine kAk (Tab.enc h2 b_) (fun m19 a18 hi20 hm21 => ?_)
    refine kA1 (v := AV.agg [iv a18.top, iv a18.bottom, Sl.enc a18.items]) ((Tab.enc h2 b_).ld hm21 true 3 0) ?_
    refine sim_callQ2 he_q17 (kF9 _ a14 rfl) (kF9 _ a18 rfl) (fun c22 => ?_)
    refine kBq (kAf (by rfl) _ _) ?_
    refine kA1 (v := bv (!c22)) (kCg _) ?_
    refine kA9 (fun c23 => ?_) (fun c23 => ?_)
    · exact kA6 ⟨nofun, _, _, rfl, O3⟩
    · refine kA1 (kAl _ _) ?_
      exact kA6 ⟨rfl, rfl, O3⟩
  · exact kA6 ⟨nofun, _, _, _, rfl, O3⟩
theorem ts_q18 (env : Nat → Contract) (he_q17 : env n_q17 = .pure (C2 (fun c : Bool => enc c) t_q17)) (a_ : Sl Line) (b_ : Sl Line) : Sim (kAm Try.prog env n_q18 [Sl.enc a_, Sl.enc b_] []) (t_q18 a_ b_) fun c p => release p.2 depth p.1 = some ((fun c : Bool => enc c) c) := by
  have O := Hold.nil []
  generalize hB : (⟨[], []⟩ : Base) = B at O
  clear hB
  rw [e_q18]
  unfold t_q18
  refine kA1 (v := iv (((a_.getD []).length : Nat) : Int)) (Tab.enc [] a_).len ?_
  refine kA1 (v := iv (((b_.getD []).length : Nat) : Int)) (Tab.enc [] b_).len ?_
  refine kA1 (kC9 _ _) ?_
  refine kA9 (fun c1 => ?_) (fun c1 => ?_)
  · exact kA6 (kA8 (by rfl) _)
  · refine kB7 ((tl0_q18 env he_q17 a_ b_) ⟨rfl, O⟩) (fun qq28 r hq => ?_)
    rcases qq28 with _ | q11
    · obtain ⟨q8, z7, h5, rfl, O6⟩ := hq
      rw [e_lk0x0_q18]
      exact kA6 (kA8 (by rfl) _)
    · obtain ⟨q12, h9, rfl, O10⟩ := hq
      rw [e_lk0r_q18]
      exact kA6 (kA8 (by rfl) _)
theorem tt_q18 : kAo Try.prog n_q18 (C2 (fun c : Bool => enc c) t_q18) := kF0 (kC7 tt_q17 E0) mixed hb_q18 fun a_ b_ => ts_q18 _ (by simp [kC8]) a_ b_
def s0_q15 (a_ : Sl Box) (b_ : Sl Box) : Int → Option (Sum Int (Sum Unit Bool)) := fun w4 =>
  bif decide (w4 < (((a_.getD []).length : Nat) : Int)) then
    kA0 (kC3 (a_.getD []) w4) fun a14 =>
    kA0 (kC3 (b_.getD []) w4) fun a18 =>
    kA0 (some ((fun a b : Box => decide (a = b)) a14 a18)) fun c22 =>
    bif !c22 then
      some (.inr (.inr false))
    else
      some (.inl (wr (w4 + 1)))
  else
    some (.inr (.inl ()))
def t_q15 (a_ : Sl Box) (b_ : Sl Box) : Option Bool :=
  bif !decide ((((a_.getD []).length : Nat) : Int) = (((b_.getD []).length : Nat) : Int)) then
    some false
  else
    kA0 (kB6 (s0_q15 a_ b_) 0) fun qq28 => match qq28 with
    | (.inl _) =>
        some true
    | (.inr q11) =>
        some q11
theorem tl0_q15 (env : Nat → Contract) {B : Base} (he_q14 : env n_q14 = .pure (T2 (fun a b : Box => decide (a = b)))) (a_ : Sl Box) (b_ : Sl Box)  : kHw (fun (st : Int) tm h2 => match st with | w4 => tm = ((Sl.enc a_) :: (Sl.enc b_) :: und :: und :: .top :: (iv w4) :: (Sl.enc a_) :: (iv (((a_.getD []).length : Nat) : Int)) :: (Sl.enc b_) :: (iv (((b_.getD []).length : Nat) : Int)) :: (bv (!decide ((((a_.getD []).length : Nat) : Int) = (((b_.getD []).length : Nat) : Int)))) :: tZ9 16 []) ∧ Hold B h2 []) hm0_q15 xm0_q15 (lb0_q15 env) (s0_q15 a_ b_) (fun (q : Sum Unit Bool) (r : Res) => match q with | .inl _ => ∃ (q8 : Int) (z7 : AV) (h5 : kA4), r = (.exit 0, ((Sl.enc a_) :: (Sl.enc b_) :: und :: und :: z7 :: (iv q8) :: (Sl.enc a_) :: (iv (((a_.getD []).length : Nat) : Int)) :: (Sl.enc b_) :: (iv (((b_.getD []).length : Nat) : Int)) :: (bv (!decide ((((a_.getD []).length : Nat) : Int) = (((b_.getD []).length : Nat) : Int)))) :: tZ9 16 []), h5) ∧ Hold B h5 [] | .inr q11 => ∃ (q12 : Int) (h9 : kA4), r = (.ret, ((Sl.enc a_) :: (Sl.enc b_) :: und :: und :: (bv q11) :: (iv q12) :: (Sl.enc a_) :: (iv (((a_.getD []).length : Nat) : Int)) :: (Sl.enc b_) :: (iv (((b_.getD []).length : Nat) : Int)) :: (bv (!decide ((((a_.getD []).length : Nat) : Int) = (((b_.getD []).length : Nat) : Int)))) :: tZ9 16 []), h9) ∧ Hold B h9 []) := by
  refine @lpZ9 _ _ _ _ _ _ _ _ (fun w4 tm h2 R => ?_)
  obtain ⟨rfl, O3⟩ := R
  rw [e_lb0_q15]
  unfold s0_q15
  dsimp only
  refine kA1 (Tab.enc h2 a_).len ?_
  refine kA1 (kAb _ _) ?_
  refine kA9 (fun c13 => ?_) (fun c13 => ?_)
  · refine kAk (Tab.enc h2 a_) (fun m15 a14 hi16 hm17 => ?_)
    refine kA1 (v := AV.agg [iv a14.x1, iv a14.y1, iv a14.x2, iv a14.y2]) ((Tab.enc h2 a_).ld hm17 true 4 0) ?_
    refine kAk (Tab.enc h2 b_) (fun m19 a18 hi20 hm21 => ?_)
    refine kA1 (v := AV.agg [iv a18.x1, iv a18.y1, iv a18.x2, iv a18.y2]) ((Tab.enc h2 b_).ld hm21 true 4 0) ?_
    refine kDl (t := (fun a b : Box => decide (a = b))) he_q14 (kF9 _ a14 rfl) (kF9 _ a18 rfl) (fun c22 => ?_)
    refine kA1 (v := bv (!c22)) (kCg _) ?_
    refine kA9 (fun c23 => ?_) (fun c23 => ?_)
    · exact kA6 ⟨nofun, _, _, rfl, O3⟩
    · refine kA1 (kAl _ _) ?_
      exact kA6 ⟨rfl, rfl, O3⟩
  · exact kA6 ⟨nofun, _, _, _, rfl, O3⟩
theorem ts_q15 (env : Nat → Contract) (he_q14 : env n_q14 = .pure (T2 (fun a b : Box => decide (a = b)))) (a_ : Sl Box) (b_ : Sl Box) : Sim (kAm Try.prog env n_q15 [Sl.enc a_, Sl.enc b_] []) (t_q15 a_ b_) fun c p => release p.2 depth p.1 = some ((fun c : Bool => enc c) c) := by
  have O := Hold.nil []
  generalize hB : (⟨[], []⟩ : Base) = B at O
  clear hB
  rw [e_q15]
  unfold t_q15
  refine kA1 (v := iv (((a_.getD []).length : Nat) : Int)) (Tab.enc [] a_).len ?_
  refine kA1 (v := iv (((b_.getD []).length : Nat) : Int)) (Tab.enc [] b_).len ?_
  refine kA1 (kC9 _ _) ?_
  refine kA9 (fun c1 => ?_) (fun c1 => ?_)
  · exact kA6 (kA8 (by rfl) _)
  · refine kB7 ((tl0_q15 env he_q14 a_ b_) ⟨rfl, O⟩) (fun qq28 r hq => ?_)
    rcases qq28 with _ | q11
    · obtain ⟨q8, z7, h5, rfl, O6⟩ := hq
      rw [e_lk0x0_q15]
      exact kA6 (kA8 (by rfl) _)
    · obtain ⟨q12, h9, rfl, O10⟩ := hq
      rw [e_lk0r_q15]
      exact kA6 (kA8 (by rfl) _)
theorem tt_q15 : kAo Try.prog n_q15 (C2 (fun c : Bool => enc c) t_q15) := kF0 (kC7 ok_q14 E0) mixed hb_q15 fun a_ b_ => ts_q15 _ (by simp [kC8]) a_ b_
def s0_q19 (a_ : Sl Int) : (Int × Int) → Option (Sum (Int × Int) (Sum Int Int)) := fun (w3, w4) =>
  bif decide (w4 < (((a_.getD []).length : Nat) : Int)) then
    kA0 (kC3 (a_.getD []) w4) fun a16 =>
    bif !decide (a16 = w3) then
      some (.inr (.inr (-1)))
    else
      some (.inl (wr (w3 + 1), wr (w4 + 1)))
  else
    some (.inr (.inl w3))
def t_q19 (a_ : Sl Int) (k_ : Int) : Option Int :=
  kA0 (kB6 (s0_q19 a_) (k_, 0)) fun qq25 => match qq25 with
  | (.inl q7) =>
      some q7
  | (.inr q13) =>
      some q13
theorem tl0_q19 (env : Nat → Contract) {B : Base}  (a_ : Sl Int)  : kHw (fun (st : Int × Int) tm h1 => match st with | (w3, w4) => tm = ((Sl.enc a_) :: (iv w3) :: und :: und :: .top :: (iv w4) :: tZ9 14 [und]) ∧ Hold B h1 []) hm0_q19 xm0_q19 (lb0_q19 env) (s0_q19 a_) (fun (q : Sum Int Int) (r : Res) => match q with | .inl q7 => ∃ (q9 : Int) (z8 : AV) (h5 : kA4), r = (.exit 0, ((Sl.enc a_) :: (iv q7) :: und :: und :: z8 :: (iv q9) :: tZ9 14 [und]), h5) ∧ Hold B h5 [] | .inr q13 => ∃ (q12 : Int) (q14 : Int) (h10 : kA4), r = (.ret, ((Sl.enc a_) :: (iv q12) :: und :: und :: (iv q13) :: (iv q14) :: tZ9 14 [und]), h10) ∧ Hold B h10 []) := by
  refine @lpZ9 _ _ _ _ _ _ _ _ (fun st tm h1 R => ?_)
  obtain ⟨w3, w4⟩ := st
  obtain ⟨rfl, O2⟩ := R
  rw [e_lb0_q19]
  unfold s0_q19
  dsimp only
  refine kA1 (Tab.enc h1 a_).len ?_
  refine kA1 (kAb _ _) ?_
  refine kA9 (fun c15 => ?_) (fun c15 => ?_)
  · refine kAk (Tab.enc h1 a_) (fun m17 a16 hi18 hm19 => ?_)
    refine kA1 (v := iv a16) ((Tab.enc h1 a_).ld hm19 false 1 0) ?_
    refine kA1 (kC9 _ _) ?_
    refine kA9 (fun c20 => ?_) (fun c20 => ?_)
    · exact kA6 ⟨nofun, _, _, _, rfl, O2⟩
    · refine kA1 (kAl _ _) ?_
      refine kA1 (kAl _ _) ?_
      exact kA6 ⟨rfl, rfl, O2⟩
  · exact kA6 ⟨nofun, _, _, _, rfl, O2⟩
theorem ts_q19 (env : Nat → Contract)  (a_ : Sl Int) (k_ : Int) : Sim (kAm Try.prog env n_q19 [Sl.enc a_, iv k_] []) (t_q19 a_ k_) fun c p => release p.2 depth p.1 = some ((fun c : Int => enc c) c) := by
  have O := Hold.nil []
  generalize hB : (⟨[], []⟩ : Base) = B at O
  clear hB
  rw [e_q19]
  unfold t_q19
  refine kB7 ((tl0_q19 env a_) ⟨rfl, O⟩) (fun qq25 r hq => ?_)
  rcases qq25 with q7 | q13
  · obtain ⟨q9, z8, h5, rfl, O6⟩ := hq
    rw [e_lk0x0_q19]
    exact kA6 (kA8 (by rfl) _)
  · obtain ⟨q12, q14, h10, rfl, O11⟩ := hq
    rw [e_lk0r_q19]
    exact kA6 (kA8 (by rfl) _)
theorem tt_q19 : kAo Try.prog n_q19 (C2 (fun c : Int => enc c) t_q19) := kF0 E0 mixed hb_q19 fun a_ k_ => ts_q19 _  a_ k_
def s0_q20 (a_ : Sl Line) : (Int × Int) → Option (Sum (Int × Int) (Sum Int Int)) := fun (w3, w4) =>
  bif decide (w4 < (((a_.getD []).length : Nat) : Int)) then
    kA0 (kC3 (a_.getD []) w4) fun a16 =>
    bif !decide (a16.top = w3) then
      some (.inr (.inr (-1)))
    else
      kA0 (kC3 (a_.getD []) w4) fun a22 =>
      bif !decide (a22.bottom = wr (w3 + 1)) then
        some (.inr (.inr (-1)))
      else
        kA0 (kC3 (a_.getD []) w4) fun a28 =>
        kA0 (t_q19 a28.items (wr ((wr (w3 + 1)) + 1))) fun c32 =>
        bif decide (c32 < 0) then
          some (.inr (.inr (-1)))
        else
          some (.inl (c32, wr (w4 + 1)))
  else
    some (.inr (.inl w3))
def t_q20 (a_ : Sl Line) (k_ : Int) : Option Int :=
  kA0 (kB6 (s0_q20 a_) (k_, 0)) fun qq38 => match qq38 with
  | (.inl q7) =>
      some q7
  | (.inr q13) =>
      some q13
theorem tl0_q20 (env : Nat → Contract) {B : Base} (he_q19 : env n_q19 = .pure (C2 (fun c : Int => enc c) t_q19)) (a_ : Sl Line)  : kHw (fun (st : Int × Int) tm h1 => match st with | (w3, w4) => tm = ((Sl.enc a_) :: (iv w3) :: und :: und :: .top :: (iv w4) :: tZ9 33 [und]) ∧ Hold B h1 []) hm0_q20 xm0_q20 (lb0_q20 env) (s0_q20 a_) (fun (q : Sum Int Int) (r : Res) => match q with | .inl q7 => ∃ (q9 : Int) (z8 : AV) (h5 : kA4), r = (.exit 0, ((Sl.enc a_) :: (iv q7) :: und :: und :: z8 :: (iv q9) :: tZ9 33 [und]), h5) ∧ Hold B h5 [] | .inr q13 => ∃ (q12 : Int) (q14 : Int) (h10 : kA4), r = (.ret, ((Sl.enc a_) :: (iv q12) :: und :: und :: (iv q13) :: (iv q14) :: tZ9 33 [und]), h10) ∧ Hold B h10 []) := by
  refine @lpZ9 _ _ _ _ _ _ _ _ (fun st tm h1 R => ?_)
  obtain ⟨w3, w4⟩ := st
  obtain ⟨rfl, O2⟩ := R
  rw [e_lb0_q20]
  unfold s0_q20
  dsimp only
  refine kA1 (Tab.enc h1 a_).len ?_
  refine kA1 (kAb _ _) ?_
  refine kA9 (fun c15 => ?_) (fun c15 => ?_)
  · refine kAk (Tab.enc h1 a_) (fun m17 a16 hi18 hm19 => ?_)
    refine kA1 (v := elp (Sl.enc a_) m17 0) ((Tab.enc h1 a_).fld _ _ _) ?_
    refine kA1 (v := iv a16.top) ((Tab.enc h1 a_).ld hm19 false 1 0) ?_
    refine kA1 (kC9 _ _) ?_
    refine kA9 (fun c20 => ?_) (fun c20 => ?_)
    · exact kA6 ⟨nofun, _, _, _, rfl, O2⟩
    · refine kA1 (kAl _ _) ?_
      refine kAk (Tab.enc h1 a_) (fun m23 a22 hi24 hm25 => ?_)
      refine kA1 (v := elp (Sl.enc a_) m23 1) ((Tab.enc h1 a_).fld _ _ _) ?_
      refine kA1 (v := iv a22.bottom) ((Tab.enc h1 a_).ld hm25 false 1 1) ?_
      refine kA1 (kC9 _ _) ?_
      refine kA9 (fun c26 => ?_) (fun c26 => ?_)
      · exact kA6 ⟨nofun, _, _, _, rfl, O2⟩
      · refine kA1 (kAl _ _) ?_
        refine kAk (Tab.enc h1 a_) (fun m29 a28 hi30 hm31 => ?_)
        refine kA1 (v := elp (Sl.enc a_) m29 2) ((Tab.enc h1 a_).fld _ _ _) ?_
        refine kA1 (v := Sl.enc a28.items) ((Tab.enc h1 a_).ld hm31 false 1 2) ?_
        refine kBo he_q19 (kBf _ _) (kAp _ _) (fun c32 => ?_)
        refine kBq (kAf (by rfl) _ _) ?_
        refine kA1 (kAb _ _) ?_
        refine kA9 (fun c33 => ?_) (fun c33 => ?_)
        · exact kA6 ⟨nofun, _, _, _, rfl, O2⟩
        · refine kA1 (kAl _ _) ?_
          exact kA6 ⟨rfl, rfl, O2⟩
  · exact kA6 ⟨nofun, _, _, _, rfl, O2⟩
theorem ts_q20 (env : Nat → Contract) (he_q19 : env n_q19 = .pure (C2 (fun c : Int => enc c) t_q19)) (a_ : Sl Line) (k_ : Int) : Sim (kAm Try.prog env n_q20 [Sl.enc a_, iv k_] []) (t_q20 a_ k_) fun c p => release p.2 depth p.1 = some ((fun c : Int => enc c) c) := by
  have O := Hold.nil []
  generalize hB : (⟨[], []⟩ : Base) = B at O
  clear hB
  rw [e_q20]
  unfold t_q20
  refine kB7 ((tl0_q20 env he_q19 a_) ⟨rfl, O⟩) (fun qq38 r hq => ?_)
  rcases qq38 with q7 | q13
  · obtain ⟨q9, z8, h5, rfl, O6⟩ := hq
    rw [e_lk0x0_q20]
    exact kA6 (kA8 (by rfl) _)
  · obtain ⟨q12, q14, h10, rfl, O11⟩ := hq
    rw [e_lk0r_q20]
    exact kA6 (kA8 (by rfl) _)
theorem tt_q20 : kAo Try.prog n_q20 (C2 (fun c : Int => enc c) t_q20) := kF0 (kC7 tt_q19 E0) mixed hb_q20 fun a_ k_ => ts_q20 _ (by simp [kC8]) a_ k_
theorem D2.setC {A C : Type} [Row A] [Row C] [Inn A C] {B : Base} {h : kA4} {l : List Ent} {x y c : AV} {q : List (A × AV)} {a a' : A} (O : Hold B h (l ++ D2 x (some q))) {m j : Nat} (hm : q[m]? = some (a, y)) (hc : c.cells = [c]) (hf : c.flat = true) (h2 : j + 1 ≤ Row.w A) (h3 : Inn.sub a' = Inn.sub a) (h4 : kB9 (Inn.row a y) j [c] = Inn.row a' y) :
    ∃ h', kAu 1 (elp x m j) c h = some h' ∧ Hold B h' (l ++ D2 x (some (q.set m (a', y)))) := by
  have hlt := kH4 hm
  obtain ⟨o, rfl, ho⟩ := D2.head O
  have e : kAu 1 (elp (.sl o q.length 0 q.length) m j) c h = some (h.set o ⟨Row.w A, (q.set m (a', y)).map fun p => Inn.row p.1 p.2⟩) := by
    simp only [elp, kAu, ho, List.length_map, if_true, Nat.zero_add, List.getElem?_map, hm, Option.map_some, hc]
    rw [if_pos ⟨rfl, by rw [Inn.len]; exact h2, by simp [hf]⟩, h4, List.map_set]
  refine ⟨_, e, ?_⟩
  have O' := O.update (i := l.length) (o := o) (v' := .sl (Row.w A) ((q.set m (a', y)).map fun p => Inn.row p.1 p.2)) (x := .sl o q.length 0 q.length) (by simp [D2]; rfl) rfl rfl
  have e1 : (l ++ D2 (A := A) (.sl o q.length 0 q.length) (some q)).set l.length ((EV.sl (Row.w A) ((q.set m (a', y)).map fun p => Inn.row p.1 p.2)).at o, .sl (Row.w A) ((q.set m (a', y)).map fun p => Inn.row p.1 p.2)) = l ++ D2 (A := A) (.sl o q.length 0 q.length) (some (q.set m (a', y))) := by
    rw [List.set_append_right _ _ (Nat.le_refl _), Nat.sub_self]
    have e2 : (q.set m (a', y)).map (fun p => ((p.2, obS (Inn.sub p.1)) : Ent)) = q.map fun p => (p.2, obS (Inn.sub p.1)) := by
      rw [List.map_set]
      have e3 : (((a', y).2, obS (Inn.sub (a', y).1)) : Ent) = (q.map fun p => ((p.2, obS (Inn.sub p.1)) : Ent))[m]'(by simpa using hlt) := by
        have := (List.getElem?_eq_some_iff.1 hm).2
        simp only [List.getElem_map, this, h3]
      rw [e3]
      exact List.set_getElem_self _
    simp only [D2, List.set_cons_zero, e2, EV.at, List.length_map, List.length_set]
  rw [← e1]
  exact O'
theorem D2.ixA {A C : Type} [Row A] [Row C] [Inn A C] {B : Base} {h : kA4} {l : List Ent} {x : AV} {q : List (A × AV)} (O : Hold B h (l ++ D2 x (some q))) {m : Nat} (hlt : m < q.length) (hq : q.length ≤ 4294967296) : kA7 (Row.w A) x (iv ((m : Nat) : Int)) h = some (elp x m 0) := by
  obtain ⟨o, hx, ho⟩ := D2.head O
  subst hx
  simp only [kA7, ho, List.length_map]
  rw [if_pos ⟨trivial, trivial⟩, idx_lt hlt]
  rfl
def mkLN : List Line → Int → Option (Int × List Line)
  | [], k => some (k, [])
  | a :: l, k => kA0 (t_q22 a.items (wr (wr (k + 1) + 1))) fun p => kA0 (mkLN l p.1) fun q => some (q.1, (⟨k, wr (k + 1), p.2⟩ : Line) :: q.2)
def t_q23 (s : Sl Line) (k : Int) : Option (Int × Sl Line) := bif decide ((s.getD []).length ≤ 4294967296) then match s with
  | none => some (k, none)
  | some l => kA0 (mkLN l k) fun q => some (q.1, some q.2) else none
noncomputable def ev_q23 : Nat → Contract := kC8 [(n_q22, .gen (kAm Try.prog (kC8 []) n_q22))]
theorem eo_laws_markLineS : kBl Try.prog ev_q23 := kG7 (kCy E0 mixed hb_q22) E0
theorem lp_q23 {B : Base} {l : List Ent} {x y2 y3 y4 y33 : AV} : ∀ (n i : Nat) (q : List (Line × AV)) (k r : Int) (t : List Line) (h : kA4), i + n = q.length → q.length ≤ 4294967296 → Hold B h (l ++ D2 x (some q)) → mkLN ((q.drop i).map Prod.fst) k = some (r, t) →
    ∃ h' q', (kA0 (kBn hm0_q23 xm0_q23 (lb0_q23 ev_q23) [x, iv k, y2, y3, y4, iv (i : Nat), .top, .top, .top, .top, .top, .top, .top, .top, .top, .top, .top, .top, .top, .top, .top, .top, .top, .top, .top, .top, .top, .top, .top, .top, .top, .top, .top, y33] h) fun r => lk0_q23 ev_q23 r.1 r.2.1 r.2.2) = some (iv r, h') ∧ q'.map Prod.fst = (q.take i).map Prod.fst ++ t ∧ Hold B h' (l ++ D2 x (some q')) := by
  intro n
  induction n with
  | zero =>
    intro i q k r t h hi hq O hm
    have e : q.drop i = [] := List.drop_eq_nil_of_le (by omega)
    rw [e] at hm
    cases hm
    have hl : kBm .slice x = some (iv (q.length : Nat)) := by simpa [pj] using D2.len O
    have : ¬ i < q.length := by omega
    refine ⟨h, q, ?_, ?_, O⟩
    · rw [kBn.eq_1]
      simp [e_lb0_q23, restr, e_lk0x0_q23, hl, this]
    · rw [List.take_of_length_le (by omega), List.append_nil]
  | succ n ih =>
    intro i q k r t h hi hq O hm
    have hlt : i < q.length := by omega
    obtain ⟨⟨a, y⟩, hy⟩ : ∃ p, q[i]? = some p := ⟨q[i], List.getElem?_eq_getElem hlt⟩
    have hd : q.drop i = (a, y) :: q.drop (i + 1) := by
      rw [List.drop_eq_getElem_cons hlt]
      rw [List.getElem?_eq_getElem hlt] at hy
      rw [Option.some.inj hy]
    rw [hd] at hm
    change kA0 (t_q22 a.items (wr (wr (k + 1) + 1))) (fun p => kA0 (mkLN ((q.drop (i + 1)).map Prod.fst) p.1) fun q => some (q.1, (⟨k, wr (k + 1), p.2⟩ : Line) :: q.2)) = some (r, t) at hm
    cases e1 : t_q22 a.items (wr (wr (k + 1) + 1)) with
    | none => rw [e1] at hm; cases hm
    | some p =>
      obtain ⟨k1, a'⟩ := p
      rw [e1, kA2] at hm
      cases e2 : mkLN ((q.drop (i + 1)).map Prod.fst) k1 with
      | none => rw [e2] at hm; cases hm
      | some p2 =>
        obtain ⟨r2, t2⟩ := p2
        rw [e2] at hm
        cases hm
        have hl : kBm .slice x = some (iv (q.length : Nat)) := by simpa [pj] using D2.len O
        have e3 : kA7 3 x (iv ((i : Nat) : Int)) h = some (elp x i 0) := D2.ixA O hlt hq
        have f0 : kA5 0 (elp x i 0) = some (elp x i 0) := D2.fld O (m := i) (a := a) (y := y) hy 0 0
        have f1 : kA5 1 (elp x i 0) = some (elp x i 1) := D2.fld O (m := i) (a := a) (y := y) hy 0 1
        have f2 : kA5 2 (elp x i 0) = some (elp x i 2) := D2.fld O (m := i) (a := a) (y := y) hy 0 2
        obtain ⟨h5, e7, O5⟩ := D2.setC (a' := (⟨k, a.bottom, a.items⟩ : Line)) (c := iv k) O hy rfl rfl (j := 0) (by decide) rfl rfl
        have hy5 : (q.set i ((⟨k, a.bottom, a.items⟩ : Line), y))[i]? = some (⟨k, a.bottom, a.items⟩, y) := List.getElem?_set_self (by simpa using hlt)
        have e8 : kA7 3 x (iv ((i : Nat) : Int)) h5 = some (elp x i 0) := D2.ixA O5 (by simpa using hlt) (by simpa using hq)
        obtain ⟨h9, e9, O9⟩ := D2.setC (a' := (⟨k, wr (k + 1), a.items⟩ : Line)) (c := iv (wr (k + 1))) O5 hy5 rfl rfl (j := 1) (by decide) rfl rfl
        rw [List.set_set] at O9
        have hy9 : (q.set i ((⟨k, wr (k + 1), a.items⟩ : Line), y))[i]? = some (⟨k, wr (k + 1), a.items⟩, y) := List.getElem?_set_self (by simpa using hlt)
        have e11 : kA7 3 x (iv ((i : Nat) : Int)) h9 = some (elp x i 0) := D2.ixA O9 (by simpa using hlt) (by simpa using hq)
        have e4 : kAc false 1 (elp x i 2) h9 = some y := by
          rw [D2.ld O9 hy9 false 1 2]
          simp [Inn.row, cut]
        have hat : (l ++ D2 (A := Line) x (some (q.set i (⟨k, wr (k + 1), a.items⟩, y))))[l.length + 1 + i]? = some (y, obS a.items) := D2.at (A := Line) (l := l) (x := x) (ps := some (q.set i (⟨k, wr (k + 1), a.items⟩, y))) (a := ⟨k, wr (k + 1), a.items⟩) hy9
        obtain ⟨h1, e5, O1⟩ := O9.mark _ hat kHy e1
        have hset : (l ++ D2 (A := Line) x (some (q.set i (⟨k, wr (k + 1), a.items⟩, y)))).set (l.length + 1 + i) (y, obS a') = l ++ D2 (A := Line) x (some (q.set i (⟨k, wr (k + 1), a'⟩, y))) := by
          rw [List.set_append_right _ _ (by omega)]
          have : l.length + 1 + i - l.length = i + 1 := by omega
          rw [this]
          simp only [D2, List.set_cons_succ, List.map_set, List.set_set]
          rfl
        have O2 : Hold B h1 (l ++ D2 (A := Line) x (some (q.set i ((⟨k, wr (k + 1), a'⟩ : Line), y)))) := by
          rw [← hset]
          exact O1
        have ec : kAz (ev_q23 n_q22) [y, iv (wr (wr (k + 1) + 1))] h9 = some (iv k1, h1) := by
          have : ev_q23 n_q22 = .gen (kAm Try.prog (kC8 []) n_q22) := by simp [ev_q23, kC8]
          rw [this]
          exact e5
        have hdrop : (q.set i ((⟨k, wr (k + 1), a'⟩ : Line), y)).drop (i + 1) = q.drop (i + 1) := by
          rw [List.drop_set_of_lt (by omega)]
        obtain ⟨h2, q2, g1, g2, g3⟩ := ih (i + 1) (q.set i ((⟨k, wr (k + 1), a'⟩ : Line), y)) k1 r2 t2 h1 (by simp; omega) (by simpa using hq) O2 (by rw [hdrop]; exact e2)
        refine ⟨h2, q2, ?_, ?_, g3⟩
        · rw [kBn.eq_1]
          have hw : wr ((i : Int) + 1) = ((i + 1 : Nat) : Int) := by rw [kBg (by omega) (by omega)]; omega
          simp [-Int.natCast_add, e_lb0_q23, restr, hl, hlt, e3, f0, f1, f2, e7, e8, e9, e11, e4, ec, hw]
          simpa [-Int.natCast_add] using g1
        · rw [g2, List.take_add_one, List.map_append]
          have : (q.set i ((⟨k, wr (k + 1), a'⟩ : Line), y))[i]? = some (⟨k, wr (k + 1), a'⟩, y) := List.getElem?_set_self (by simpa using hlt)
          rw [this, List.take_set_of_le (Nat.le_refl _)]
          simp
theorem mk_laws_markLineS : MarkDOK (kAm Try.prog ev_q23 n_q23) t_q23 := by
  intro B h l x ps k r s' O hm
  unfold t_q23 at hm
  cases c : decide (((pj ps).getD []).length ≤ 4294967296) with
  | false => rw [c] at hm; cases hm
  | true =>
    rw [c, cond_true] at hm
    have hc := of_decide_eq_true c
    cases ps with
    | none =>
      cases hm
      have hx := D2.nil O
      subst hx
      refine ⟨h, none, ?_, rfl, O⟩
      rw [e_q23, kBn.eq_1]
      simp [e_lb0_q23, e_lk0x0_q23, restr]
    | some q =>
      change kA0 (mkLN (q.map Prod.fst) k) (fun q => some (q.1, some q.2)) = some (r, s') at hm
      cases e2 : mkLN (q.map Prod.fst) k with
      | none => rw [e2] at hm; cases hm
      | some p2 =>
        obtain ⟨r2, t2⟩ := p2
        rw [e2] at hm
        cases hm
        obtain ⟨h1, q1, f1, f2, f3⟩ := lp_q23 (y2 := und) (y3 := und) (y4 := iv 0) (y33 := und) q.length 0 q k r2 t2 h (by omega) (by simpa [pj] using hc) O e2
        refine ⟨h1, some q1, ?_, by simpa [pj] using f2, f3⟩
        rw [e_q23]
        exact f1
theorem kEy {γ δ : Type} {env : Nat → Contract} {g : Nat} {f : List AV → Option AV} {args : List AV} {h : kA4} {Y : Option Int} {F : AV → kA4 → Option γ} {G : Int → Option δ} {Q : δ → γ → Prop} (he : env g = .pure f) (S : Sim (kAa f args h) Y fun c r => r = (iv c, h)) (K : ∀ c, Sim (F (iv c) h) (G c) Q) : Sim (kA3 (kCl (env g) args h) F) (kA0 Y G) Q := by
  rw [he, kEe]
  exact kG6 (x := kAa f args h) S fun c a h' e => by cases e; exact K c
def kH0 (p_ : Int → Int → Option Int) (a_ : Int) : ((Sl Int) × Int) → Option (Sum ((Sl Int) × Int) (Sl Int)) := fun (w11, w14) =>
  kA0 (bif decide (a_ < w14) then (kA0 (kC3 (w11.getD []) w14) fun a21 => kA0 (kC3 (w11.getD []) (wr (w14 - 1))) fun a25 => kA0 (p_ a21 a25) fun c29 => some (decide (c29 < 0))) else some false) fun c30 =>
  bif (bif decide (a_ < w14) then c30 else false) then
    kA0 (kC3 (w11.getD []) (wr (w14 - 1))) fun a43 =>
    kA0 (kC3 (w11.getD []) w14) fun a47 =>
    kA0 (kC3 (w11.getD []) w14) fun a51 =>
    kA0 (kC3 ((kC4 w11 w14 a43).getD []) (wr (w14 - 1))) fun a57 =>
    some (.inl ((kC4 (kC4 w11 w14 a43) (wr (w14 - 1)) a47), wr (w14 - 1)))
  else
    some (.inr w11)
def kF5 (p_ : Int → Int → Option Int) (a_ : Int) (b_ : Int) : ((Sl Int) × Int) → Option (Sum ((Sl Int) × Int) (Sl Int)) := fun (w1, w4) =>
  bif decide (w4 < b_) then
    kA0 (kB6 (kH0 p_ a_) (w1, w4)) fun q17 =>
    some (.inl (q17, wr (w4 + 1)))
  else
    some (.inr w1)
def t_q31 (p_ : Int → Int → Option Int) (data_ : Sl Int) (a_ : Int) (b_ : Int) : Option (Sl Int) :=
  kA0 (kB6 (kF5 p_ a_ b_) (data_, wr (a_ + 1))) fun q7 =>
  some q7
theorem tl1_q31 (env : Nat → Contract) {B : Base} {g : Nat} {f_ : List AV → Option AV} {P : Int → Int → Option Int} {o_ : Nat} {cv_ : AV} (he_g : env g = .pure f_) (hp : ∀ a b h, h[o_]? = some ⟨1, [[cv_]]⟩ → Sim (kAa f_ [iv a, iv b, AV.ptr o_ 1 0 0] h) (P a b) fun c r => r = (iv c, h))  (xd_ : AV) (a_ : Int) (b_ : Int) (w4 : Int)  : kHw (fun (st : (Sl Int) × Int) tm h12 => match st with | (w11, w14) => tm = (xd_ :: (iv a_) :: (iv b_) :: (AV.fn g [AV.ptr o_ 1 0 0]) :: und :: und :: und :: und :: (iv w4) :: (iv w14) :: (iv a_) :: (iv (wr (a_ + 1))) :: (iv w4) :: (iv b_) :: (bv (decide (w4 < b_))) :: .top :: .top :: (iv w4) :: tZ9 35 []) ∧ Hold B h12 [(xd_, obS (w11 : Sl Int)), pZ9 o_ 1 [cv_]]) hm1_q31 xm1_q31 (lb1_q31 env) (kH0 P a_) (fun (q : Sl Int) (r : Res) => match q with | q17 => ∃ (q18 : Int) (h15 : kA4), r = (.exit 2, (xd_ :: (iv a_) :: (iv b_) :: (AV.fn g [AV.ptr o_ 1 0 0]) :: und :: und :: und :: und :: (iv w4) :: (iv q18) :: (iv a_) :: (iv (wr (a_ + 1))) :: (iv w4) :: (iv b_) :: (bv (decide (w4 < b_))) :: .top :: .top :: (iv w4) :: tZ9 35 []), h15) ∧ Hold B h15 [(xd_, obS (q17 : Sl Int)), pZ9 o_ 1 [cv_]]) := by
  refine @lpZ9 _ _ _ _ _ _ _ _ (fun st tm h12 R => ?_)
  obtain ⟨w11, w14⟩ := st
  obtain ⟨rfl, O13⟩ := R
  rw [e_lb1_q31]
  unfold kH0
  dsimp only
  refine kA1 (kFi _ _) ?_
  refine sim_g12T (e := bv) (fun hb20 => ?_) (fun y31 y32 y33 y34 y35 y36 y37 y38 y39 y40 y41 c30 => ?_)
  · refine kBz ?_
    refine kBz ?_
    refine kBz ?_
    refine kDh ?_
    refine kAk (O13.tab (A := Int) (s := w11) 0 rfl) (fun m22 a21 hi23 hm24 => ?_)
    refine kBz ?_
    refine kDh ?_
    refine kA1 (v := iv a21) ((O13.tab (A := Int) (s := w11) 0 rfl).ld hm24 false 1 0) ?_
    refine kBz ?_
    refine kBz ?_
    refine kBz ?_
    refine kDh ?_
    refine kA1 (kAx _ _) ?_
    refine kBz ?_
    refine kDh ?_
    refine kAk (O13.tab (A := Int) (s := w11) 0 rfl) (fun m26 a25 hi27 hm28 => ?_)
    refine kBz ?_
    refine kDh ?_
    refine kA1 (v := iv a25) ((O13.tab (A := Int) (s := w11) 0 rfl).ld hm28 false 1 0) ?_
    refine kBz ?_
    refine sim_o2 ?_
    refine kEy he_g (hp a21 a25 _ (O13.ptr (i := 1) rfl)) (fun c29 => ?_)
    refine kBz ?_
    refine kA1 (kAb _ _) ?_
    exact kA6 rfl
  · refine kA1 (v := bv (bif decide (a_ < w14) then c30 else false)) (kE2 _ _ _) ?_
    refine kA9 (fun c42 => ?_) (fun c42 => ?_)
    · refine kA1 (kAx _ _) ?_
      refine kA1 (kAx _ _) ?_
      refine kAk (O13.tab (A := Int) (s := w11) 0 rfl) (fun m44 a43 hi45 hm46 => ?_)
      refine kA1 (v := iv a43) ((O13.tab (A := Int) (s := w11) 0 rfl).ld hm46 false 1 0) ?_
      refine kAk (O13.tab (A := Int) (s := w11) 0 rfl) (fun m48 a47 hi49 hm50 => ?_)
      refine kA1 (v := iv a47) ((O13.tab (A := Int) (s := w11) 0 rfl).ld hm50 false 1 0) ?_
      refine kAk (O13.tab (A := Int) (s := w11) 0 rfl) (fun m52 a51 hi53 hm54 => ?_)
      refine kFj (A := Int) O13 0 a43 rfl hi53 hm54 rfl (by first | (simp; done) | exact Nat.le_of_ble_eq_true rfl) (by first | rfl | simp) (by first | rfl | simp [kB9]) (fun h55 O56 => ?_)
      replace O56 : Hold B h55 [(xd_, obS ((kC4 w11 w14 a43) : Sl Int)), pZ9 o_ 1 [cv_]] := O56
      refine kAk (O56.tab (A := Int) (s := (kC4 w11 w14 a43)) 0 rfl) (fun m58 a57 hi59 hm60 => ?_)
      refine kFj (A := Int) O56 0 a47 rfl hi59 hm60 rfl (by first | (simp; done) | exact Nat.le_of_ble_eq_true rfl) (by first | rfl | simp) (by first | rfl | simp [kB9]) (fun h61 O62 => ?_)
      replace O62 : Hold B h61 [(xd_, obS ((kC4 (kC4 w11 w14 a43) (wr (w14 - 1)) a47) : Sl Int)), pZ9 o_ 1 [cv_]] := O62
      refine kA1 (kAx _ _) ?_
      exact kA6 ⟨rfl, rfl, O62⟩
    · exact kA6 ⟨nofun, _, _, rfl, O13⟩
theorem tl0_q31 (env : Nat → Contract) {B : Base} {g : Nat} {f_ : List AV → Option AV} {P : Int → Int → Option Int} {o_ : Nat} {cv_ : AV} (he_g : env g = .pure f_) (hp : ∀ a b h, h[o_]? = some ⟨1, [[cv_]]⟩ → Sim (kAa f_ [iv a, iv b, AV.ptr o_ 1 0 0] h) (P a b) fun c r => r = (iv c, h))  (xd_ : AV) (a_ : Int) (b_ : Int)  : kHw (fun (st : (Sl Int) × Int) tm h2 => match st with | (w1, w4) => tm = (xd_ :: (iv a_) :: (iv b_) :: (AV.fn g [AV.ptr o_ 1 0 0]) :: und :: und :: und :: und :: (iv w4) :: .top :: (iv a_) :: (iv (wr (a_ + 1))) :: tZ9 41 []) ∧ Hold B h2 [(xd_, obS (w1 : Sl Int)), pZ9 o_ 1 [cv_]]) hm0_q31 xm0_q31 (lb0_q31 env) (kF5 P a_ b_) (fun (q : Sl Int) (r : Res) => match q with | q7 => ∃ (q8 : Int) (z9 : AV) (h5 : kA4), r = (.exit 0, (xd_ :: (iv a_) :: (iv b_) :: (AV.fn g [AV.ptr o_ 1 0 0]) :: und :: und :: und :: und :: (iv q8) :: z9 :: (iv a_) :: (iv (wr (a_ + 1))) :: tZ9 41 []), h5) ∧ Hold B h5 [(xd_, obS (q7 : Sl Int)), pZ9 o_ 1 [cv_]]) := by
  refine @lpZ9 _ _ _ _ _ _ _ _ (fun st tm h2 R => ?_)
  obtain ⟨w1, w4⟩ := st
  obtain ⟨rfl, O3⟩ := R
  rw [e_lb0_q31]
  unfold kF5
  dsimp only
  refine kA1 (kAb _ _) ?_
  refine kA9 (fun c10 => ?_) (fun c10 => ?_)
  · refine kB7 ((tl1_q31 env he_g hp xd_ a_ b_ w4) ⟨rfl, O3⟩) (fun qq66 r hq => ?_)
    revert hq
    revert qq66
    intro q17 hq
    obtain ⟨q18, h15, rfl, O16⟩ := hq
    rw [e_lk1x2_q31]
    refine kA1 (kAl _ _) ?_
    exact kA6 ⟨rfl, rfl, O16⟩
  · exact kA6 ⟨nofun, _, _, _, rfl, O3⟩
theorem ts_q31 (env : Nat → Contract) {g : Nat} {f_ : List AV → Option AV} {P : Int → Int → Option Int} {o_ : Nat} {cv_ : AV} (he_g : env g = .pure f_) (hp : ∀ a b h, h[o_]? = some ⟨1, [[cv_]]⟩ → Sim (kAa f_ [iv a, iv b, AV.ptr o_ 1 0 0] h) (P a b) fun c r => r = (iv c, h))  {B : Base} {h : kA4} {xd_ : AV} (data_ : Sl Int) (a_ : Int) (b_ : Int) (O : Hold B h [(xd_, obS (data_ : Sl Int)), pZ9 o_ 1 [cv_]]) : Sim (kAm Try.prog env n_q31 [xd_, iv a_, iv b_, AV.fn g [AV.ptr o_ 1 0 0]] h) (t_q31 P data_ a_ b_) fun c p => p.1 = AV.tup [] ∧ Hold B p.2 [(xd_, obS (c : Sl Int)), pZ9 o_ 1 [cv_]] := by
  rw [e_q31]
  unfold t_q31
  refine kA1 (kAl _ _) ?_
  refine kB7 ((tl0_q31 env he_g hp xd_ a_ b_) ⟨rfl, O⟩) (fun qq69 r hq => ?_)
  revert hq
  revert qq69
  intro q7 hq
  obtain ⟨q8, z9, h5, rfl, O6⟩ := hq
  rw [e_lk0x0_q31]
  exact kA6 ⟨rfl, O6⟩
def s0_q34 (p_ : Int → Int → Option Int) (a_ : Int) (b_ : Int) (n_ : Int) : ((Sl Int) × Int) → Option (Sum ((Sl Int) × Int) (Sl Int)) := fun (w1, w4) =>
  bif decide (w4 < n_) then
    kA0 (kC3 (w1.getD []) (wr (b_ + w4))) fun a10 =>
    kA0 (kC3 (w1.getD []) (wr (a_ + w4))) fun a14 =>
    kA0 (kC3 (w1.getD []) (wr (a_ + w4))) fun a18 =>
    kA0 (kC3 ((kC4 w1 (wr (a_ + w4)) a10).getD []) (wr (b_ + w4))) fun a24 =>
    some (.inl ((kC4 (kC4 w1 (wr (a_ + w4)) a10) (wr (b_ + w4)) a14), wr (w4 + 1)))
  else
    some (.inr w1)
def t_q34 (p_ : Int → Int → Option Int) (data_ : Sl Int) (a_ : Int) (b_ : Int) (n_ : Int) : Option (Sl Int) :=
  kA0 (kB6 (s0_q34 p_ a_ b_ n_) (data_, 0)) fun q7 =>
  some q7
theorem tl0_q34 (env : Nat → Contract) {B : Base} {g : Nat} {f_ : List AV → Option AV} {P : Int → Int → Option Int} {o_ : Nat} {cv_ : AV} (he_g : env g = .pure f_) (hp : ∀ a b h, h[o_]? = some ⟨1, [[cv_]]⟩ → Sim (kAa f_ [iv a, iv b, AV.ptr o_ 1 0 0] h) (P a b) fun c r => r = (iv c, h))  (xd_ : AV) (a_ : Int) (b_ : Int) (n_ : Int)  : kHw (fun (st : (Sl Int) × Int) tm h2 => match st with | (w1, w4) => tm = (xd_ :: (iv a_) :: (iv b_) :: (iv n_) :: (AV.fn g [AV.ptr o_ 1 0 0]) :: und :: und :: und :: und :: und :: (iv w4) :: tZ9 27 []) ∧ Hold B h2 [(xd_, obS (w1 : Sl Int)), pZ9 o_ 1 [cv_]]) hm0_q34 xm0_q34 (lb0_q34 env) (s0_q34 P a_ b_ n_) (fun (q : Sl Int) (r : Res) => match q with | q7 => ∃ (q8 : Int) (h5 : kA4), r = (.exit 0, (xd_ :: (iv a_) :: (iv b_) :: (iv n_) :: (AV.fn g [AV.ptr o_ 1 0 0]) :: und :: und :: und :: und :: und :: (iv q8) :: tZ9 27 []), h5) ∧ Hold B h5 [(xd_, obS (q7 : Sl Int)), pZ9 o_ 1 [cv_]]) := by
  refine @lpZ9 _ _ _ _ _ _ _ _ (fun st tm h2 R => ?_)
  obtain ⟨w1, w4⟩ := st
  obtain ⟨rfl, O3⟩ := R
  rw [e_lb0_q34]
  unfold s0_q34
  dsimp only
  refine kA1 (kAb _ _) ?_
  refine kA9 (fun c9 => ?_) (fun c9 => ?_)
  · refine kA1 (kAl _ _) ?_
    refine kA1 (kAl _ _) ?_
    refine kA1 (kAl _ _) ?_
    refine kAk (O3.tab (A := Int) (s := w1) 0 rfl) (fun m11 a10 hi12 hm13 => ?_)
    refine kA1 (v := iv a10) ((O3.tab (A := Int) (s := w1) 0 rfl).ld hm13 false 1 0) ?_
    refine kA1 (kAl _ _) ?_
    refine kAk (O3.tab (A := Int) (s := w1) 0 rfl) (fun m15 a14 hi16 hm17 => ?_)
    refine kA1 (v := iv a14) ((O3.tab (A := Int) (s := w1) 0 rfl).ld hm17 false 1 0) ?_
    refine kAk (O3.tab (A := Int) (s := w1) 0 rfl) (fun m19 a18 hi20 hm21 => ?_)
    refine kFj (A := Int) O3 0 a10 rfl hi20 hm21 rfl (by first | (simp; done) | exact Nat.le_of_ble_eq_true rfl) (by first | rfl | simp) (by first | rfl | simp [kB9]) (fun h22 O23 => ?_)
    replace O23 : Hold B h22 [(xd_, obS ((kC4 w1 (wr (a_ + w4)) a10) : Sl Int)), pZ9 o_ 1 [cv_]] := O23
    refine kAk (O23.tab (A := Int) (s := (kC4 w1 (wr (a_ + w4)) a10)) 0 rfl) (fun m25 a24 hi26 hm27 => ?_)
    refine kFj (A := Int) O23 0 a14 rfl hi26 hm27 rfl (by first | (simp; done) | exact Nat.le_of_ble_eq_true rfl) (by first | rfl | simp) (by first | rfl | simp [kB9]) (fun h28 O29 => ?_)
    replace O29 : Hold B h28 [(xd_, obS ((kC4 (kC4 w1 (wr (a_ + w4)) a10) (wr (b_ + w4)) a14) : Sl Int)), pZ9 o_ 1 [cv_]] := O29
    refine kA1 (kAl _ _) ?_
    exact kA6 ⟨rfl, rfl, O29⟩
  · exact kA6 ⟨nofun, _, _, rfl, O3⟩
theorem ts_q34 (env : Nat → Contract) {g : Nat} {f_ : List AV → Option AV} {P : Int → Int → Option Int} {o_ : Nat} {cv_ : AV} (he_g : env g = .pure f_) (hp : ∀ a b h, h[o_]? = some ⟨1, [[cv_]]⟩ → Sim (kAa f_ [iv a, iv b, AV.ptr o_ 1 0 0] h) (P a b) fun c r => r = (iv c, h))  {B : Base} {h : kA4} {xd_ : AV} (data_ : Sl Int) (a_ : Int) (b_ : Int) (n_ : Int) (O : Hold B h [(xd_, obS (data_ : Sl Int)), pZ9 o_ 1 [cv_]]) : Sim (kAm Try.prog env n_q34 [xd_, iv a_, iv b_, iv n_, AV.fn g [AV.ptr o_ 1 0 0]] h) (t_q34 P data_ a_ b_ n_) fun c p => p.1 = AV.tup [] ∧ Hold B p.2 [(xd_, obS (c : Sl Int)), pZ9 o_ 1 [cv_]] := by
  rw [e_q34]
  unfold t_q34
  refine kB7 ((tl0_q34 env he_g hp xd_ a_ b_ n_) ⟨rfl, O⟩) (fun qq33 r hq => ?_)
  revert hq
  revert qq33
  intro q7 hq
  obtain ⟨q8, h5, rfl, O6⟩ := hq
  rw [e_lk0x0_q34]
  exact kA6 ⟨rfl, O6⟩
def s0_q32 (p_ : Int → Int → Option Int) (m_ : Int) : ((Sl Int) × Int × Int) → Option (Sum ((Sl Int) × Int × Int) ((Sl Int) × Int)) := fun (w1, w4, w5) =>
  bif !decide (w4 = w5) then
    bif decide (w5 < w4) then
      kA0 (t_q34 p_ w1 (wr (m_ - w4)) m_ w5) fun w18 =>
      some (.inl (w18, wr (w4 - w5), w5))
    else
      kA0 (t_q34 p_ w1 (wr (m_ - w4)) (wr ((wr (m_ + w5)) - w4)) w4) fun w24 =>
      some (.inl (w24, w4, wr (w5 - w4)))
  else
    some (.inr (w1, w4))
def kH5 (p_ : Int → Int → Option Int) (data_ : Sl Int) (a_ : Int) (m_ : Int) (b_ : Int) : Option (Sl Int) :=
  kA0 (kB6 (s0_q32 p_ m_) (data_, wr (m_ - a_), wr (b_ - m_))) fun (q8, q9) =>
  kA0 (t_q34 p_ q8 (wr (m_ - q9)) m_ q9) fun w11 =>
  some w11
theorem tl0_q32 (env : Nat → Contract) {B : Base} {g : Nat} {f_ : List AV → Option AV} {P : Int → Int → Option Int} {o_ : Nat} {cv_ : AV} (he_g : env g = .pure f_) (hp : ∀ a b h, h[o_]? = some ⟨1, [[cv_]]⟩ → Sim (kAa f_ [iv a, iv b, AV.ptr o_ 1 0 0] h) (P a b) fun c r => r = (iv c, h)) {F_slices_swapRangeCmpFunc_int64 : List AV → kA4 → Option (AV × kA4)} (he_q34 : env n_q34 = .gen F_slices_swapRangeCmpFunc_int64) (S_slices_swapRangeCmpFunc_int64 : ∀ {B : Base} {h : kA4} {x : AV} (d : Sl Int) (a0 a1 a2 : Int), Hold B h [(x, obS (d : Sl Int)), pZ9 o_ 1 [cv_]] → Sim (F_slices_swapRangeCmpFunc_int64 [x, iv a0, iv a1, iv a2, AV.fn g [AV.ptr o_ 1 0 0]] h) (t_q34 P d a0 a1 a2) fun c p => p.1 = AV.tup [] ∧ Hold B p.2 [(x, obS (c : Sl Int)), pZ9 o_ 1 [cv_]]) (xd_ : AV) (a_ : Int) (m_ : Int) (b_ : Int)  : kHw (fun (st : (Sl Int) × Int × Int) tm h2 => match st with | (w1, w4, w5) => tm = (xd_ :: (iv a_) :: (iv m_) :: (iv b_) :: (AV.fn g [AV.ptr o_ 1 0 0]) :: und :: und :: und :: und :: und :: (iv w4) :: (iv w5) :: (iv m_) :: (iv a_) :: (iv (wr (m_ - a_))) :: (iv b_) :: (iv m_) :: (iv (wr (b_ - m_))) :: tZ9 32 [und, und, und, und, und, und, und, und]) ∧ Hold B h2 [(xd_, obS (w1 : Sl Int)), pZ9 o_ 1 [cv_]]) hm0_q32 xm0_q32 (lb0_q32 env) (s0_q32 P m_) (fun (q : (Sl Int) × Int) (r : Res) => match q with | (q8, q9) => ∃ (q10 : Int) (h6 : kA4), r = (.exit 0, (xd_ :: (iv a_) :: (iv m_) :: (iv b_) :: (AV.fn g [AV.ptr o_ 1 0 0]) :: und :: und :: und :: und :: und :: (iv q9) :: (iv q10) :: (iv m_) :: (iv a_) :: (iv (wr (m_ - a_))) :: (iv b_) :: (iv m_) :: (iv (wr (b_ - m_))) :: tZ9 32 [und, und, und, und, und, und, und, und]), h6) ∧ Hold B h6 [(xd_, obS (q8 : Sl Int)), pZ9 o_ 1 [cv_]]) := by
  refine @lpZ9 _ _ _ _ _ _ _ _ (fun st tm h2 R => ?_)
  obtain ⟨w1, w4, w5⟩ := st
  obtain ⟨rfl, O3⟩ := R
  rw [e_lb0_q32]
  unfold s0_q32
  dsimp only
  refine kA1 (kC9 _ _) ?_
  refine kA9 (fun c16 => ?_) (fun c16 => ?_)
  · refine kA1 (kFi _ _) ?_
    refine kA9 (fun c17 => ?_) (fun c17 => ?_)
    · refine kA1 (kAx _ _) ?_
      refine kBv he_q34 (S_slices_swapRangeCmpFunc_int64 w1 (wr (m_ - w4)) m_ w5 O3) (fun w18 v19 h20 hq21 => ?_)
      obtain ⟨e_v19, O22⟩ := hq21
      dsimp only at e_v19
      subst v19
      replace O22 : Hold B h20 [(xd_, obS (w18 : Sl Int)), pZ9 o_ 1 [cv_]] := O22
      refine kA1 (kAx _ _) ?_
      exact kA6 ⟨rfl, rfl, O22⟩
    · refine kA1 (kAx _ _) ?_
      refine kA1 (kAl _ _) ?_
      refine kA1 (kAx _ _) ?_
      refine kBv he_q34 (S_slices_swapRangeCmpFunc_int64 w1 (wr (m_ - w4)) (wr ((wr (m_ + w5)) - w4)) w4 O3) (fun w24 v25 h26 hq27 => ?_)
      obtain ⟨e_v25, O28⟩ := hq27
      dsimp only at e_v25
      subst v25
      replace O28 : Hold B h26 [(xd_, obS (w24 : Sl Int)), pZ9 o_ 1 [cv_]] := O28
      refine kA1 (kAx _ _) ?_
      exact kA6 ⟨rfl, rfl, O28⟩
  · exact kA6 ⟨nofun, _, _, rfl, O3⟩
theorem ts_q32 (env : Nat → Contract) {g : Nat} {f_ : List AV → Option AV} {P : Int → Int → Option Int} {o_ : Nat} {cv_ : AV} (he_g : env g = .pure f_) (hp : ∀ a b h, h[o_]? = some ⟨1, [[cv_]]⟩ → Sim (kAa f_ [iv a, iv b, AV.ptr o_ 1 0 0] h) (P a b) fun c r => r = (iv c, h)) {F_slices_swapRangeCmpFunc_int64 : List AV → kA4 → Option (AV × kA4)} (he_q34 : env n_q34 = .gen F_slices_swapRangeCmpFunc_int64) (S_slices_swapRangeCmpFunc_int64 : ∀ {B : Base} {h : kA4} {x : AV} (d : Sl Int) (a0 a1 a2 : Int), Hold B h [(x, obS (d : Sl Int)), pZ9 o_ 1 [cv_]] → Sim (F_slices_swapRangeCmpFunc_int64 [x, iv a0, iv a1, iv a2, AV.fn g [AV.ptr o_ 1 0 0]] h) (t_q34 P d a0 a1 a2) fun c p => p.1 = AV.tup [] ∧ Hold B p.2 [(x, obS (c : Sl Int)), pZ9 o_ 1 [cv_]]) {B : Base} {h : kA4} {xd_ : AV} (data_ : Sl Int) (a_ : Int) (m_ : Int) (b_ : Int) (O : Hold B h [(xd_, obS (data_ : Sl Int)), pZ9 o_ 1 [cv_]]) : Sim (kAm Try.prog env kGn [xd_, iv a_, iv m_, iv b_, AV.fn g [AV.ptr o_ 1 0 0]] h) (kH5 P data_ a_ m_ b_) fun c p => p.1 = AV.tup [] ∧ Hold B p.2 [(xd_, obS (c : Sl Int)), pZ9 o_ 1 [cv_]] := by
  rw [e_q32]
  unfold kH5
  refine kA1 (kAx _ _) ?_
  refine kA1 (kAx _ _) ?_
  refine kB7 ((tl0_q32 env he_g hp he_q34 S_slices_swapRangeCmpFunc_int64 xd_ a_ m_ b_) ⟨rfl, O⟩) (fun qq32 r hq => ?_)
  obtain ⟨q8, q9⟩ := qq32
  obtain ⟨q10, h6, rfl, O7⟩ := hq
  rw [e_lk0x0_q32]
  refine kA1 (kAx _ _) ?_
  refine kBv he_q34 (S_slices_swapRangeCmpFunc_int64 q8 (wr (m_ - q9)) m_ q9 O7) (fun w11 v12 h13 hq14 => ?_)
  obtain ⟨e_v12, O15⟩ := hq14
  dsimp only at e_v12
  subst v12
  replace O15 : Hold B h13 [(xd_, obS (w11 : Sl Int)), pZ9 o_ 1 [cv_]] := O15
  exact kA6 ⟨rfl, O15⟩
def s4_q35 (p_ : Int → Int → Option Int) (q8 : Int) : ((Sl Int) × Int) → Option (Sum ((Sl Int) × Int) (Sl Int)) := fun (w11, w14) =>
  bif decide (w14 < (wr (q8 - 1))) then
    kA0 (kC3 (w11.getD []) (wr (w14 + 1))) fun a20 =>
    kA0 (kC3 (w11.getD []) w14) fun a24 =>
    kA0 (kC3 (w11.getD []) w14) fun a28 =>
    kA0 (kC3 ((kC4 w11 w14 a20).getD []) (wr (w14 + 1))) fun a34 =>
    some (.inl ((kC4 (kC4 w11 w14 a20) (wr (w14 + 1)) a24), wr (w14 + 1)))
  else
    some (.inr w11)
def s0_q35 (p_ : Int → Int → Option Int) (data_ : Sl Int) (a_ : Int) : (Int × Int) → Option (Sum (Int × Int) Int) := fun (w4, w5) =>
  bif decide (w4 < w5) then
    kA0 (kC3 (data_.getD []) (wr (Int.fdiv (IntKind.u64.wrap (wr (w4 + w5))) (2 ^ 1)))) fun a45 =>
    kA0 (kC3 (data_.getD []) a_) fun a49 =>
    kA0 (p_ a45 a49) fun c53 =>
    bif decide (c53 < 0) then
      some (.inl (wr ((wr (Int.fdiv (IntKind.u64.wrap (wr (w4 + w5))) (2 ^ 1))) + 1), w5))
    else
      some (.inl (w4, wr (Int.fdiv (IntKind.u64.wrap (wr (w4 + w5))) (2 ^ 1))))
  else
    some (.inr w4)
def s5_q35 (p_ : Int → Int → Option Int) (q67 : Int) : ((Sl Int) × Int) → Option (Sum ((Sl Int) × Int) (Sl Int)) := fun (w70, w73) =>
  bif decide (q67 < w73) then
    kA0 (kC3 (w70.getD []) (wr (w73 - 1))) fun a79 =>
    kA0 (kC3 (w70.getD []) w73) fun a83 =>
    kA0 (kC3 (w70.getD []) w73) fun a87 =>
    kA0 (kC3 ((kC4 w70 w73 a79).getD []) (wr (w73 - 1))) fun a93 =>
    some (.inl ((kC4 (kC4 w70 w73 a79) (wr (w73 - 1)) a83), wr (w73 - 1)))
  else
    some (.inr w70)
def s1_q35 (p_ : Int → Int → Option Int) (data_ : Sl Int) (m_ : Int) : (Int × Int) → Option (Sum (Int × Int) Int) := fun (w63, w64) =>
  bif decide (w63 < w64) then
    kA0 (kC3 (data_.getD []) m_) fun a104 =>
    kA0 (kC3 (data_.getD []) (wr (Int.fdiv (IntKind.u64.wrap (wr (w63 + w64))) (2 ^ 1)))) fun a108 =>
    kA0 (p_ a104 a108) fun c112 =>
    bif !(decide (c112 < 0)) then
      some (.inl (wr ((wr (Int.fdiv (IntKind.u64.wrap (wr (w63 + w64))) (2 ^ 1))) + 1), w64))
    else
      some (.inl (w63, wr (Int.fdiv (IntKind.u64.wrap (wr (w63 + w64))) (2 ^ 1))))
  else
    some (.inr w63)
def s2_q35 (p_ : Int → Int → Option Int) (data_ : Sl Int) (a_ : Int) (m_ : Int) (b_ : Int) : (Int × Int) → Option (Sum (Int × Int) Int) := fun (w122, w123) =>
  bif decide (w122 < w123) then
    kA0 (kC3 (data_.getD []) (wr ((wr ((wr ((wr (Int.fdiv (IntKind.u64.wrap (wr (a_ + b_))) (2 ^ 1))) + m_)) - 1)) - (wr (Int.fdiv (IntKind.u64.wrap (wr (w122 + w123))) (2 ^ 1)))))) fun a186 =>
    kA0 (kC3 (data_.getD []) (wr (Int.fdiv (IntKind.u64.wrap (wr (w122 + w123))) (2 ^ 1)))) fun a190 =>
    kA0 (p_ a186 a190) fun c194 =>
    bif !(decide (c194 < 0)) then
      some (.inl (wr ((wr (Int.fdiv (IntKind.u64.wrap (wr (w122 + w123))) (2 ^ 1))) + 1), w123))
    else
      some (.inl (w122, wr (Int.fdiv (IntKind.u64.wrap (wr (w122 + w123))) (2 ^ 1))))
  else
    some (.inr w122)
def s3_q35 (p_ : Int → Int → Option Int) (data_ : Sl Int) (a_ : Int) (m_ : Int) (b_ : Int) : (Int × Int) → Option (Sum (Int × Int) Int) := fun (w203, w204) =>
  bif decide (w203 < w204) then
    kA0 (kC3 (data_.getD []) (wr ((wr ((wr ((wr (Int.fdiv (IntKind.u64.wrap (wr (a_ + b_))) (2 ^ 1))) + m_)) - 1)) - (wr (Int.fdiv (IntKind.u64.wrap (wr (w203 + w204))) (2 ^ 1)))))) fun a267 =>
    kA0 (kC3 (data_.getD []) (wr (Int.fdiv (IntKind.u64.wrap (wr (w203 + w204))) (2 ^ 1)))) fun a271 =>
    kA0 (p_ a267 a271) fun c275 =>
    bif !(decide (c275 < 0)) then
      some (.inl (wr ((wr (Int.fdiv (IntKind.u64.wrap (wr (w203 + w204))) (2 ^ 1))) + 1), w204))
    else
      some (.inl (w203, wr (Int.fdiv (IntKind.u64.wrap (wr (w203 + w204))) (2 ^ 1))))
  else
    some (.inr w203)
def kB3 (p_ : Int → Int → Option Int) (rec_ : Sl Int → Int → Int → Int → Option (Sl Int)) (data_ : Sl Int) (a_ : Int) (m_ : Int) (b_ : Int) : Option (Sl Int) :=
  bif decide (wr (m_ - a_) = 1) then
    kA0 (kB6 (s0_q35 p_ data_ a_) (m_, b_)) fun q8 =>
    kA0 (kB6 (s4_q35 p_ q8) (data_, a_)) fun q17 =>
    some q17
  else
    bif decide (wr (b_ - m_) = 1) then
      kA0 (kB6 (s1_q35 p_ data_ m_) (a_, m_)) fun q67 =>
      kA0 (kB6 (s5_q35 p_ q67) (data_, m_)) fun q76 =>
      some q76
    else
      bif decide ((wr (Int.fdiv (IntKind.u64.wrap (wr (a_ + b_))) (2 ^ 1))) < m_) then
        kA0 (kB6 (s2_q35 p_ data_ a_ m_ b_) (wr ((wr ((wr (Int.fdiv (IntKind.u64.wrap (wr (a_ + b_))) (2 ^ 1))) + m_)) - b_), wr (Int.fdiv (IntKind.u64.wrap (wr (a_ + b_))) (2 ^ 1)))) fun q126 =>
        kA0 (bif decide (q126 < m_) then (some (decide (m_ < (wr ((wr ((wr (Int.fdiv (IntKind.u64.wrap (wr (a_ + b_))) (2 ^ 1))) + m_)) - q126))))) else some false) fun c130 =>
        bif (bif decide (q126 < m_) then c130 else false) then
          kA0 (kH5 p_ data_ q126 m_ (wr ((wr ((wr (Int.fdiv (IntKind.u64.wrap (wr (a_ + b_))) (2 ^ 1))) + m_)) - q126))) fun w132 =>
          kA0 (bif decide (a_ < q126) then (some (decide (q126 < (wr (Int.fdiv (IntKind.u64.wrap (wr (a_ + b_))) (2 ^ 1)))))) else some false) fun c138 =>
          bif (bif decide (a_ < q126) then c138 else false) then
            kA0 (rec_ w132 a_ q126 (wr (Int.fdiv (IntKind.u64.wrap (wr (a_ + b_))) (2 ^ 1)))) fun w140 =>
            kA0 (bif decide ((wr (Int.fdiv (IntKind.u64.wrap (wr (a_ + b_))) (2 ^ 1))) < (wr ((wr ((wr (Int.fdiv (IntKind.u64.wrap (wr (a_ + b_))) (2 ^ 1))) + m_)) - q126))) then (some (decide ((wr ((wr ((wr (Int.fdiv (IntKind.u64.wrap (wr (a_ + b_))) (2 ^ 1))) + m_)) - q126)) < b_))) else some false) fun c146 =>
            bif (bif decide ((wr (Int.fdiv (IntKind.u64.wrap (wr (a_ + b_))) (2 ^ 1))) < (wr ((wr ((wr (Int.fdiv (IntKind.u64.wrap (wr (a_ + b_))) (2 ^ 1))) + m_)) - q126))) then c146 else false) then
              kA0 (rec_ w140 (wr (Int.fdiv (IntKind.u64.wrap (wr (a_ + b_))) (2 ^ 1))) (wr ((wr ((wr (Int.fdiv (IntKind.u64.wrap (wr (a_ + b_))) (2 ^ 1))) + m_)) - q126)) b_) fun w148 =>
              some w148
            else
              some w140
          else
            kA0 (bif decide ((wr (Int.fdiv (IntKind.u64.wrap (wr (a_ + b_))) (2 ^ 1))) < (wr ((wr ((wr (Int.fdiv (IntKind.u64.wrap (wr (a_ + b_))) (2 ^ 1))) + m_)) - q126))) then (some (decide ((wr ((wr ((wr (Int.fdiv (IntKind.u64.wrap (wr (a_ + b_))) (2 ^ 1))) + m_)) - q126)) < b_))) else some false) fun c154 =>
            bif (bif decide ((wr (Int.fdiv (IntKind.u64.wrap (wr (a_ + b_))) (2 ^ 1))) < (wr ((wr ((wr (Int.fdiv (IntKind.u64.wrap (wr (a_ + b_))) (2 ^ 1))) + m_)) - q126))) then c154 else false) then
              kA0 (rec_ w132 (wr (Int.fdiv (IntKind.u64.wrap (wr (a_ + b_))) (2 ^ 1))) (wr ((wr ((wr (Int.fdiv (IntKind.u64.wrap (wr (a_ + b_))) (2 ^ 1))) + m_)) - q126)) b_) fun w156 =>
              some w156
            else
              some w132
        else
          kA0 (bif decide (a_ < q126) then (some (decide (q126 < (wr (Int.fdiv (IntKind.u64.wrap (wr (a_ + b_))) (2 ^ 1)))))) else some false) fun c162 =>
          bif (bif decide (a_ < q126) then c162 else false) then
            kA0 (rec_ data_ a_ q126 (wr (Int.fdiv (IntKind.u64.wrap (wr (a_ + b_))) (2 ^ 1)))) fun w164 =>
            kA0 (bif decide ((wr (Int.fdiv (IntKind.u64.wrap (wr (a_ + b_))) (2 ^ 1))) < (wr ((wr ((wr (Int.fdiv (IntKind.u64.wrap (wr (a_ + b_))) (2 ^ 1))) + m_)) - q126))) then (some (decide ((wr ((wr ((wr (Int.fdiv (IntKind.u64.wrap (wr (a_ + b_))) (2 ^ 1))) + m_)) - q126)) < b_))) else some false) fun c170 =>
            bif (bif decide ((wr (Int.fdiv (IntKind.u64.wrap (wr (a_ + b_))) (2 ^ 1))) < (wr ((wr ((wr (Int.fdiv (IntKind.u64.wrap (wr (a_ + b_))) (2 ^ 1))) + m_)) - q126))) then c170 else false) then
              kA0 (rec_ w164 (wr (Int.fdiv (IntKind.u64.wrap (wr (a_ + b_))) (2 ^ 1))) (wr ((wr ((wr (Int.fdiv (IntKind.u64.wrap (wr (a_ + b_))) (2 ^ 1))) + m_)) - q126)) b_) fun w172 =>
              some w172
            else
              some w164
          else
            kA0 (bif decide ((wr (Int.fdiv (IntKind.u64.wrap (wr (a_ + b_))) (2 ^ 1))) < (wr ((wr ((wr (Int.fdiv (IntKind.u64.wrap (wr (a_ + b_))) (2 ^ 1))) + m_)) - q126))) then (some (decide ((wr ((wr ((wr (Int.fdiv (IntKind.u64.wrap (wr (a_ + b_))) (2 ^ 1))) + m_)) - q126)) < b_))) else some false) fun c178 =>
            bif (bif decide ((wr (Int.fdiv (IntKind.u64.wrap (wr (a_ + b_))) (2 ^ 1))) < (wr ((wr ((wr (Int.fdiv (IntKind.u64.wrap (wr (a_ + b_))) (2 ^ 1))) + m_)) - q126))) then c178 else false) then
              kA0 (rec_ data_ (wr (Int.fdiv (IntKind.u64.wrap (wr (a_ + b_))) (2 ^ 1))) (wr ((wr ((wr (Int.fdiv (IntKind.u64.wrap (wr (a_ + b_))) (2 ^ 1))) + m_)) - q126)) b_) fun w180 =>
              some w180
            else
              some data_
      else
        kA0 (kB6 (s3_q35 p_ data_ a_ m_ b_) (a_, m_)) fun q207 =>
        kA0 (bif decide (q207 < m_) then (some (decide (m_ < (wr ((wr ((wr (Int.fdiv (IntKind.u64.wrap (wr (a_ + b_))) (2 ^ 1))) + m_)) - q207))))) else some false) fun c211 =>
        bif (bif decide (q207 < m_) then c211 else false) then
          kA0 (kH5 p_ data_ q207 m_ (wr ((wr ((wr (Int.fdiv (IntKind.u64.wrap (wr (a_ + b_))) (2 ^ 1))) + m_)) - q207))) fun w213 =>
          kA0 (bif decide (a_ < q207) then (some (decide (q207 < (wr (Int.fdiv (IntKind.u64.wrap (wr (a_ + b_))) (2 ^ 1)))))) else some false) fun c219 =>
          bif (bif decide (a_ < q207) then c219 else false) then
            kA0 (rec_ w213 a_ q207 (wr (Int.fdiv (IntKind.u64.wrap (wr (a_ + b_))) (2 ^ 1)))) fun w221 =>
            kA0 (bif decide ((wr (Int.fdiv (IntKind.u64.wrap (wr (a_ + b_))) (2 ^ 1))) < (wr ((wr ((wr (Int.fdiv (IntKind.u64.wrap (wr (a_ + b_))) (2 ^ 1))) + m_)) - q207))) then (some (decide ((wr ((wr ((wr (Int.fdiv (IntKind.u64.wrap (wr (a_ + b_))) (2 ^ 1))) + m_)) - q207)) < b_))) else some false) fun c227 =>
            bif (bif decide ((wr (Int.fdiv (IntKind.u64.wrap (wr (a_ + b_))) (2 ^ 1))) < (wr ((wr ((wr (Int.fdiv (IntKind.u64.wrap (wr (a_ + b_))) (2 ^ 1))) + m_)) - q207))) then c227 else false) then
              kA0 (rec_ w221 (wr (Int.fdiv (IntKind.u64.wrap (wr (a_ + b_))) (2 ^ 1))) (wr ((wr ((wr (Int.fdiv (IntKind.u64.wrap (wr (a_ + b_))) (2 ^ 1))) + m_)) - q207)) b_) fun w229 =>
              some w229
            else
              some w221
          else
            kA0 (bif decide ((wr (Int.fdiv (IntKind.u64.wrap (wr (a_ + b_))) (2 ^ 1))) < (wr ((wr ((wr (Int.fdiv (IntKind.u64.wrap (wr (a_ + b_))) (2 ^ 1))) + m_)) - q207))) then (some (decide ((wr ((wr ((wr (Int.fdiv (IntKind.u64.wrap (wr (a_ + b_))) (2 ^ 1))) + m_)) - q207)) < b_))) else some false) fun c235 =>
            bif (bif decide ((wr (Int.fdiv (IntKind.u64.wrap (wr (a_ + b_))) (2 ^ 1))) < (wr ((wr ((wr (Int.fdiv (IntKind.u64.wrap (wr (a_ + b_))) (2 ^ 1))) + m_)) - q207))) then c235 else false) then
              kA0 (rec_ w213 (wr (Int.fdiv (IntKind.u64.wrap (wr (a_ + b_))) (2 ^ 1))) (wr ((wr ((wr (Int.fdiv (IntKind.u64.wrap (wr (a_ + b_))) (2 ^ 1))) + m_)) - q207)) b_) fun w237 =>
              some w237
            else
              some w213
        else
          kA0 (bif decide (a_ < q207) then (some (decide (q207 < (wr (Int.fdiv (IntKind.u64.wrap (wr (a_ + b_))) (2 ^ 1)))))) else some false) fun c243 =>
          bif (bif decide (a_ < q207) then c243 else false) then
            kA0 (rec_ data_ a_ q207 (wr (Int.fdiv (IntKind.u64.wrap (wr (a_ + b_))) (2 ^ 1)))) fun w245 =>
            kA0 (bif decide ((wr (Int.fdiv (IntKind.u64.wrap (wr (a_ + b_))) (2 ^ 1))) < (wr ((wr ((wr (Int.fdiv (IntKind.u64.wrap (wr (a_ + b_))) (2 ^ 1))) + m_)) - q207))) then (some (decide ((wr ((wr ((wr (Int.fdiv (IntKind.u64.wrap (wr (a_ + b_))) (2 ^ 1))) + m_)) - q207)) < b_))) else some false) fun c251 =>
            bif (bif decide ((wr (Int.fdiv (IntKind.u64.wrap (wr (a_ + b_))) (2 ^ 1))) < (wr ((wr ((wr (Int.fdiv (IntKind.u64.wrap (wr (a_ + b_))) (2 ^ 1))) + m_)) - q207))) then c251 else false) then
              kA0 (rec_ w245 (wr (Int.fdiv (IntKind.u64.wrap (wr (a_ + b_))) (2 ^ 1))) (wr ((wr ((wr (Int.fdiv (IntKind.u64.wrap (wr (a_ + b_))) (2 ^ 1))) + m_)) - q207)) b_) fun w253 =>
              some w253
            else
              some w245
          else
            kA0 (bif decide ((wr (Int.fdiv (IntKind.u64.wrap (wr (a_ + b_))) (2 ^ 1))) < (wr ((wr ((wr (Int.fdiv (IntKind.u64.wrap (wr (a_ + b_))) (2 ^ 1))) + m_)) - q207))) then (some (decide ((wr ((wr ((wr (Int.fdiv (IntKind.u64.wrap (wr (a_ + b_))) (2 ^ 1))) + m_)) - q207)) < b_))) else some false) fun c259 =>
            bif (bif decide ((wr (Int.fdiv (IntKind.u64.wrap (wr (a_ + b_))) (2 ^ 1))) < (wr ((wr ((wr (Int.fdiv (IntKind.u64.wrap (wr (a_ + b_))) (2 ^ 1))) + m_)) - q207))) then c259 else false) then
              kA0 (rec_ data_ (wr (Int.fdiv (IntKind.u64.wrap (wr (a_ + b_))) (2 ^ 1))) (wr ((wr ((wr (Int.fdiv (IntKind.u64.wrap (wr (a_ + b_))) (2 ^ 1))) + m_)) - q207)) b_) fun w261 =>
              some w261
            else
              some data_
def kEh (p_ : Int → Int → Option Int) : Nat → Sl Int → Int → Int → Int → Option (Sl Int)
  | 0 => fun _ _ _ _ => none
  | k + 1 => kB3 p_ (kEh p_ k)
end Go.Proofs.Ytfhffgfbnlikjaa
