/-
  THE ENGINE, PART 36: the library's sort of whole numbers, by its contract.
-/
import Derived.Test.YtbamachgomdjkaaDoorEngNest
import Derived.Lib.RowBridge
import Derived.Sort.Grow
namespace Go.Eng
set_option linter.unusedVariables false
set_option linter.unusedSimpArgs false
open Go.RowKit Go.Sort

variable {P : Program} {X : Nat → Prop} {w w' : World} {ρ : RM}

theorem HRep.keepAll {h : Heap} (hr : HRep P X ρ h w) (hs : w.heap.size ≤ w'.heap.size) (hb : ∀ b, b < w.heap.size → w'.heap[b]? = w.heap[b]?) : HRep P X ρ h w' := by
  refine ⟨⟨fun o io e => ?_, hr.inj⟩, fun t ht g hg => ⟨tabIs_block hg (hr.glob t ht g hg).1 (hb g), (hr.glob t ht g hg).2⟩⟩
  obtain ⟨ob, e1, r⟩ := hr.obj o io e
  have h0 := hb io.b r.lt
  refine ⟨ob, e1, r.k, r.ep, r.le, r.wid, fun x hx => ?_, fun i j c hc => ?_, Nat.lt_of_lt_of_le r.lt hs, fun hk x => by rw [show w'.frozen? ⟨io.b, x, none⟩ = w.frozen? ⟨io.b, x, none⟩ by simp only [World.frozen?, h0]]; exact r.thaw hk x⟩
  · rw [World.cell?_of_block (w := w) (a := ⟨io.b, x, none⟩) h0]
    have hf : w'.frozen? ⟨io.b, x, none⟩ = w.frozen? ⟨io.b, x, none⟩ := by simp only [World.frozen?, h0]
    rw [hf]
    exact r.there x hx
  · obtain ⟨v, h1, h2⟩ := r.cells i j c hc
    refine ⟨v, by rw [World.cell?_of_block (w := w) (a := ⟨io.b, _, none⟩) h0]; exact h1, ?_⟩
    exact h2.mono (fun b hb' hn => ⟨hn, hb b hb'⟩) ρ fun o io e => ⟨io, e, Nat.le_refl _, fun _ => rfl⟩
theorem Step.keepAll (hs : w.heap.size ≤ w'.heap.size) (hb : ∀ b, b < w.heap.size → w'.heap[b]? = w.heap[b]?) (h1 : w'.os = w.os) (h2 : w'.tape = w.tape) (h3 : w'.output = w.output) (h4 : w.drawn ≤ w'.drawn) : Step ρ w ρ w' :=
  ⟨h1, h2, h3, hs, fun b hb' hn => ⟨hn, hb b hb'⟩, fun _ io e => ⟨io, e, Nat.le_refl _, fun _ => rfl⟩, fun _ => h4⟩

/-- The numbers of rows of one number. -/
def intsOf : List (List AV) → Option (List Int)
  | [] => some []
  | [.sc (.int .i64 z)] :: r => (intsOf r).map (z :: ·)
  | _ => none
theorem intsOf_spec : ∀ {rows : List (List AV)} {zs : List Int}, intsOf rows = some zs → rows = zs.map fun z => [iv z]
  | [], zs, h => by cases h; rfl
  | row :: r, zs, h => by
    unfold intsOf at h
    split at h
    · rename_i e; cases e
    · rename_i z r' e
      cases e
      cases e2 : intsOf r with
      | none => rw [e2] at h; cases h
      | some ys =>
        rw [e2] at h
        cases h
        rw [intsOf_spec e2]
        rfl
    · cases h
theorem intsOf_map (zs : List Int) : intsOf (zs.map fun z => [iv z]) = some zs := by
  induction zs with
  | nil => rfl
  | cons z zs ih =>
    show (intsOf (zs.map fun z => [iv z])).map (z :: ·) = _
    rw [ih]
    rfl
def sortI (zs : List Int) : List Int := zs.mergeSort fun x y => decide (x ≤ y)
theorem sortI_len (zs : List Int) : (sortI zs).length = zs.length := List.length_mergeSort _
/-- What the sort does to an own slice. -/
def sortF : List AV → Heap → Option (AV × Heap)
  | [.sl o ep 0 n], h => match h[o]? with
    | some ob => if ob.rows.length = ep ∧ n = ep ∧ ob.k = 1 ∧ n ≤ 4294967296 then (match intsOf ob.rows with
      | some zs => some (.tup [], h.set o ⟨1, (sortI zs).map fun z => [iv z]⟩)
      | none => none) else none
    | none => none
  | [.sc (.slice none 0 0)], h => some (.tup [], h)
  | _, _ => none
theorem rep_int {own : Nat → Prop} {w : World} {ρ : RM} {z : Int} {v : Value} (h : Rep own w ρ (iv z) v) : v = .int .i64 z := by cases h; rfl
theorem gen_sortInts {g : Nat} (hbody : HasBody P g)
    (hc : ∀ (blk off cap : Nat) (zs : List Int) (w : World), Holds (Value.int .i64) w blk off zs.toArray → blk < w.heap.size → zs.length < 4611686018427387904 →
      Calls P g #[.slice (some ⟨blk, off, none⟩) zs.length cap] w fun e w' => e = .returned (.tuple #[]) ∧ ∃ n os, w' = grow (putRow (Value.int .i64) (Go.Sort.ahead w n) blk off (zs.mergeSort fun x y => decide (x ≤ y)).toArray) os)
    (hn : ∀ (p : Option Addr) (cap : Nat) (w : World), Calls P g #[.slice p 0 cap] w fun e w' => e = .returned (.tuple #[]) ∧ w' = w) : GenOK P g sortF := by
  intro as h r h' hF X ρ w vs hr hsz hvs
  unfold sortF at hF
  split at hF
  · rename_i o ep n
    split at hF
    · rename_i ob hob
      split at hF
      · rename_i hcnd
        obtain ⟨c1, c2, c3, c4⟩ := hcnd
        split at hF
        · rename_i zs hzs
          cases hF
          have hrows := intsOf_spec hzs
          obtain ⟨v, rfl⟩ : ∃ v, vs = #[v] := by
            match vs, hsz with
            | ⟨[v]⟩, _ => exact ⟨v, rfl⟩
          have hv := hvs 0 _ v rfl rfl
          have hzl : zs.length = n := by
            have := congrArg List.length hrows
            rw [List.length_map] at this
            omega
          unfold CallF
          rw [callFunc_body hbody]
          show Calls P g _ w _
          cases hv with
          | @sl _ _ _ _ _ cap a io hρ he hh =>
            obtain ⟨ob0, e0, R⟩ := hr.obj o io hρ
            rw [hob] at e0
            cases e0
            have hep : io.ep = ep := by rw [← R.ep]; exact c1
            obtain ⟨k1, k2, k3⟩ := hh hep
            have hk : io.k = 1 := by rw [← R.k]; exact c3
            have hCle := R.le
            cases n with
            | zero =>
              have hz0 : zs = [] := List.length_eq_zero_iff.1 hzl
              subst hz0
              refine (hn (some a) cap w).mono fun e w' ⟨h1, h2⟩ => ?_
              subst h1 h2
              refine ⟨_, rfl, ρ, ?_, Step.refl _ _, .tup rfl fun i c v h => by simp at h⟩
              have e1 : h.set o ⟨1, (sortI []).map fun z => [iv z]⟩ = h := by
                obtain ⟨hlt, e2⟩ := List.getElem?_eq_some_iff.1 hob
                have e3 : ob = ⟨1, (sortI []).map fun z => [iv z]⟩ := by
                  cases ob
                  simp only at c3 hrows
                  subst c3 hrows
                  simp [sortI]
                rw [← e3, ← e2]
                exact List.set_getElem_self hlt
              rw [e1]
              exact hr
            | succ n =>
              have ha := k3 (by omega)
              subst ha
              simp only [Nat.zero_mul]
              have hcellz : ∀ j, j < zs.length → w.cell? ⟨io.b, j, none⟩ = some (.int .i64 (zs.getD j 0)) := fun j hj => by
                have hc0 : cellAt ob.rows j 0 = some (iv (zs.getD j 0)) := by
                  rw [hrows]
                  unfold cellAt
                  rw [List.getElem?_map, List.getElem?_eq_getElem hj, List.getD_eq_getElem?_getD, List.getElem?_eq_getElem hj]
                  rfl
                obtain ⟨v, e1, e2⟩ := R.cells j 0 _ hc0
                rw [rep_int e2, hk, Nat.mul_one, Nat.add_zero] at e1
                exact e1
              have hH : Holds (Value.int .i64) w io.b 0 zs.toArray := fun j hj => by
                have hj' : j < zs.length := by simpa using hj
                rw [Nat.zero_add]
                refine ⟨?_, (R.there j (by rw [hk]; omega)).2⟩
                rw [hcellz j hj']
                simp [List.getD_eq_getElem?_getD, hj']
              have hcall := hc io.b 0 cap zs w hH R.lt (by omega)
              rw [hzl] at hcall
              refine hcall.mono fun e w' ⟨h1, q, os, h2⟩ => ?_
              subst h1
              have hlen := sortI_len zs
              have hput := Go.Lib.putRow_eq_setCells (Value.int .i64) w io.b 0 zs.toArray (sortI zs) q hH (by rw [hlen]; simp)
              have h3 : w' = grow ((w.drewN q).setCells io.b 0 ((sortI zs).map (Value.int .i64))) os := by
                rw [h2, ← hput]
                rfl
              subst h3
              have hd : ∀ b : Nat, (w.drewN q).heap[b]? = w.heap[b]? := fun b => rfl
              have hr1 : HRep P X ρ h (w.drewN q) := hr.keepAll (Nat.le_refl _) fun b _ => hd b
              have st1 : Step ρ w ρ (w.drewN q) := Step.keepAll (Nat.le_refl _) (fun b _ => hd b) rfl rfl rfl (Nat.le_add_right _ _)
              obtain ⟨hr2, st2⟩ := hr1.write (ob' := ⟨1, (sortI zs).map fun z => [iv z]⟩) hρ hob hk.symm (by simp only [List.length_map]; omega) (by simp only [List.length_map]; omega)
                (fun row hrow => by
                  obtain ⟨z, _, rfl⟩ := List.mem_map.1 hrow
                  exact ⟨by rw [hk]; rfl, rfl⟩) 0 ((sortI zs).map (Value.int .i64)) (by rw [hk, List.length_map]; omega) (fun i j c hcell => by
                  obtain ⟨row, q1, q2⟩ := cellAt_some hcell
                  simp only [List.getElem?_map] at q1
                  cases q3 : (sortI zs)[i]? with
                  | none => rw [q3] at q1; cases q1
                  | some z =>
                    rw [q3] at q1
                    cases q1
                    have hil := (List.getElem?_eq_some_iff.1 q3).1
                    cases j with
                    | zero =>
                      cases q2
                      refine ⟨.int .i64 z, ?_, .sc rfl⟩
                      rw [if_pos ⟨by omega, by rw [hk, List.length_map]; omega⟩, hk, List.getElem?_map]
                      simp only [Nat.mul_one, Nat.add_zero, Nat.sub_zero, q3]
                      rfl
                    | succ j => simp at q2)
              obtain ⟨s1, s2, s3, s4, s5⟩ := heap_setCells io.b ((sortI zs).map (Value.int .i64)) 0 (w.drewN q)
              have hg : ∀ b : Nat, b < ((w.drewN q).setCells io.b 0 ((sortI zs).map (Value.int .i64))).heap.size → (grow ((w.drewN q).setCells io.b 0 ((sortI zs).map (Value.int .i64))) os).heap[b]? = ((w.drewN q).setCells io.b 0 ((sortI zs).map (Value.int .i64))).heap[b]? := fun b hb => heap_grow_old _ _ hb
              have hsg : ((w.drewN q).setCells io.b 0 ((sortI zs).map (Value.int .i64))).heap.size ≤ (grow ((w.drewN q).setCells io.b 0 ((sortI zs).map (Value.int .i64))) os).heap.size := by rw [size_grow]; omega
              exact ⟨_, rfl, _, hr2.keepAll hsg hg, (st1.trans st2).trans (Step.keepAll hsg hg rfl rfl rfl (Nat.le_refl _)), .tup rfl fun i c v h => by simp at h⟩
        · cases hF
      · cases hF
    · cases hF
  · cases hF
    obtain ⟨v, rfl⟩ : ∃ v, vs = #[v] := by
      match vs, hsz with
      | ⟨[v]⟩, _ => exact ⟨v, rfl⟩
    have hv := hvs 0 _ v rfl rfl
    cases hv
    unfold CallF
    rw [callFunc_body hbody]
    show Calls P g _ w _
    refine (hn none 0 w).mono fun e w' ⟨h1, h2⟩ => ?_
    subst h1 h2
    exact ⟨_, rfl, ρ, hr, Step.refl _ _, .tup rfl fun i c v h => by simp at h⟩
  · cases hF
/-- The sort of an own slice of numbers. -/
def sortO (s : Sl Int) : Option (Sl Int) := if (s.getD []).length ≤ 4294967296 then some (s.map sortI) else none
theorem sim_sort {γ δ : Type} {B : Base} {h : Heap} {L : List Ent} {env : Nat → Contract} {g : Nat} (O : Hold B h L) (i : Nat) {x : AV} {s : Sl Int} (hi : L[i]? = some (x, obS s)) (he : env g = .gen sortF)
    {F : AV → Heap → Option γ} {G : Sl Int → Option δ} {Q : δ → γ → Prop} (K : ∀ h', Hold B h' (L.set i (x, obS (s.map sortI))) → Sim (F (.tup []) h') (G (s.map sortI)) Q) : Sim (obind2 (aCall (env g) [x] h) F) (obind (sortO s) G) Q := by
  rw [he]
  show Sim (obind2 (sortF [x] h) F) _ Q
  unfold sortO
  split
  · rename_i hl
    rw [obind_sm]
    cases s with
    | none =>
      have := O.nilE hi
      subst this
      show Sim (obind2 (some (.tup [], h)) F) _ Q
      rw [obind2_sm]
      refine K h ?_
      have e : L.set i (nilS, obS (none : Sl Int)) = L := by
        obtain ⟨hlt, e⟩ := List.getElem?_eq_some_iff.1 hi
        rw [← e]
        exact List.set_getElem_self hlt
      show Hold B h (L.set i (nilS, obS none))
      rw [e]
      exact O
    | some l =>
      obtain ⟨o, rfl, h5⟩ := O.sl (k := Row.w Int) (rows := l.map Row.cells) hi
      have hl' : l.length ≤ 4294967296 := hl
      have e2 : intsOf (l.map Row.cells) = some l := intsOf_map l
      have h2 : sortF [.sl o (l.map Row.cells).length 0 (l.map Row.cells).length] h = some (.tup [], h.set o ⟨Row.w Int, (sortI l).map Row.cells⟩) := by
        have hw1 : Row.w Int = 1 := rfl
        simp only [sortF, h5, e2, List.length_map, hw1, true_and, hl', if_true]
        rfl
      rw [h2, obind2_sm]
      have O' := O.update (o := o) (v' := .sl (Row.w Int) ((sortI l).map Row.cells)) hi rfl rfl
      refine K _ ?_
      simpa [obS, EV.at, sortI_len] using O'
  · exact sim_no
end Go.Eng
