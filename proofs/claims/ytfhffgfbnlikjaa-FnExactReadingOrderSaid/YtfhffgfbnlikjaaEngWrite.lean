import Derived.Test.YtfhffgfbnlikjaaEngMem
import Derived.Deep.Upon
import Derived.Laws.BytesArg
namespace Go.Eng
set_option linter.unusedVariables false
set_option linter.unusedSimpArgs false
variable {P : Program} {X : Nat → Prop} {own : Nat → Prop} {w : World} {ρ : RM}
theorem gather {k : Nat} {rows : List (List AV)} (hk : ∀ row ∈ rows, row.length = k ∧ row.all AV.flat = true) {b off : Nat}
    (hc : ∀ i j c, kB4 rows i j = some c → ∃ v, w.cell? ⟨b, off + (i * k + j), none⟩ = some v ∧ Rep own w ρ c v) :
    ∃ news : List Value, news.length = rows.length * k ∧ (∀ j v, news[j]? = some v → w.cell? ⟨b, off + j, none⟩ = some v) ∧ (∀ u ∈ news, u.oneCell' = true) ∧
      ∀ i j c, kB4 rows i j = some c → ∃ v, news[i * k + j]? = some v ∧ Rep own w ρ c v := by
  have hall : ∀ x, x < rows.length * k → ∃ v, w.cell? ⟨b, off + x, none⟩ = some v ∧ v.oneCell' = true := fun x hx => by
    have hkp : 0 < k := by
        rcases Nat.eq_zero_or_pos k with h | h; · subst h; simp at hx
        · exact h
    have h1 : x / k < rows.length := Nat.div_lt_of_lt_mul (by rw [Nat.mul_comm]; exact hx)
    have h2 := (hk _ (List.getElem_mem h1)).1
    have h3 : x % k < (rows[x / k]).length := by rw [h2]; exact Nat.mod_lt _ hkp
    have h4 : kB4 rows (x / k) (x % k) = some (rows[x / k])[x % k] := by
      unfold kB4
      rw [List.getElem?_eq_getElem h1]
      simp [h3]
    obtain ⟨v, h5, h6⟩ := hc _ _ _ h4
    rw [show x / k * k + x % k = x by rw [Nat.mul_comm]; exact Nat.div_add_mod x k] at h5
    exact ⟨v, h5, h6.flat (List.all_eq_true.1 (hk _ (List.getElem_mem h1)).2 _ (List.getElem_mem h3))⟩
  refine ⟨(List.range (rows.length * k)).map fun x => (w.cell? ⟨b, off + x, none⟩).getD undef, by simp, fun j v hj => ?_, fun u hu => ?_, fun i j c h => ?_⟩
  · simp only [List.getElem?_map, Option.map_eq_some_iff] at hj
    obtain ⟨x, q1, q2⟩ := hj
    obtain ⟨q3, q4⟩ := List.getElem?_eq_some_iff.1 q1
    simp at q3 q4
    subst q4
    obtain ⟨v', h5, _⟩ := hall j q3
    rw [h5] at q2 ⊢
    simpa using q2
  · obtain ⟨x, hx, rfl⟩ := List.mem_map.1 hu
    obtain ⟨v', h5, h6⟩ := hall x (by simpa using hx)
    rw [h5]
    exact h6
  · obtain ⟨v, h5, h6⟩ := hc i j c h
    refine ⟨v, ?_, h6⟩
    have hlt := kFl hk h
    have := kDj hlt.1 hlt.2
    simp [this, h5]
theorem src_ok {k : Nat} (hk0 : 0 < k) {st : Bool} {tx : TypeId} (ht : if st = true then P.underlying tx = some .string else ∃ e', P.underlying tx = some (.slice e')) {h : kA4} (hr : HRep P X ρ h w) {x : AV} {px : Value} (hx : Rep (Own X ρ) w ρ x px)
    {new : List (List AV)} (hs : aSrc st k x h = some new) :
    ∃ news, Src P k tx px new.length news w ∧ (∀ row ∈ new, row.length = k ∧ row.all AV.flat = true) ∧ ∀ i j c, kB4 new i j = some c → ∃ v, news[i * k + j]? = some v ∧ Rep (Own X ρ) w ρ c v := by
  unfold aSrc at hs
  split at hs
  · cases hs
    rw [hx.sc_inv]
    simp only [Bool.false_eq_true, if_false] at ht
    obtain ⟨e', ht⟩ := ht
    exact ⟨[], Src.ofNil w ht 0, by simp, fun i j c h => by simp [kB4] at h⟩
  · rename_i o ep i n
    simp only [Bool.false_eq_true, if_false] at ht
    obtain ⟨e', ht⟩ := ht
    split at hs
    · rename_i ob hob
      split at hs
      · rename_i hc
        cases hs
        cases hx with
        | @sl _ _ _ _ _ cap a io hio he ha =>
          have r := hr.look (List.prefix_refl _) hio hob
          obtain ⟨g1, g2, g3⟩ := ha (by rw [← r.ep, hc.1])
          have hlen : ((ob.rows.drop i).take n).length = n := by simp; omega
          have hwid : ∀ row ∈ (ob.rows.drop i).take n, row.length = k ∧ row.all AV.flat = true := fun row hrow => by
            have := r.wid row (List.mem_of_mem_drop (List.mem_of_mem_take hrow))
            rw [← hc.2.1, r.k]
            exact this
          obtain ⟨news, n1, n2, n3, n4⟩ := gather (own := Own X ρ) (ρ := ρ) (w := w) hwid (b := io.b) (off := i * k) (fun i' j c h => by
            obtain ⟨row, q1, q2⟩ := kB5 h
            rw [List.getElem?_take] at q1
            split at q1
            · rw [List.getElem?_drop] at q1
              obtain ⟨v, p1, p2⟩ := r.cells (i + i') j c (by unfold kB4; rw [q1]; exact q2)
              refine ⟨v, ?_, p2⟩
              rw [← hc.2.1, r.k]
              rw [Nat.add_mul, Nat.add_assoc] at p1
              exact p1
            · cases q1)
          refine ⟨news, ?_, hwid, n4⟩
          rw [hlen]
          by_cases h0 : n = 0
          · subst h0
            have : news = [] := List.eq_nil_of_length_eq_zero (by rw [n1, hlen]; simp)
            subst this
            exact Src.ofSlice w ht a 0 cap [] (by simp) (fun j u hu => by simp at hu) (by simp)
          · rw [g3 (by omega)]
            refine Src.ofSlice w ht _ n cap news (by rw [n1, hlen]) (fun j u hu => ?_) n3
            rw [Addr.add_mid, ← r.k, hc.2.1]
            exact n2 j u hu
      · cases hs
    · cases hs
  · rename_i k' rows
    simp only [Bool.false_eq_true, if_false] at ht
    obtain ⟨e', ht⟩ := ht
    split at hs
    · rename_i hkk
      subst hkk
      cases hs
      cases hx with
      | @fs _ _ _ a cap cf hk hc ha hown hcell hrep =>
        obtain ⟨news, n1, n2, n3, n4⟩ := gather (own := Own X ρ) (ρ := ρ) (w := w) hk (b := a.block) (off := a.off) (fun i j c h => ⟨cf i j, by rw [← Nat.add_assoc]; exact hcell i j c h, (hrep i j c h).lift⟩)
        refine ⟨news, ?_, hk, n4⟩
        by_cases h0 : new.length = 0
        · have : news = [] := List.eq_nil_of_length_eq_zero (by rw [n1, h0]; simp)
          subst this
          rw [h0]
          exact Src.ofSlice w ht a 0 cap [] (by simp) (fun j u hu => by simp at hu) (by simp)
        · obtain ⟨ab, ao, asp⟩ := a
          have e1 : asp = none := ha (by omega)
          subst e1
          exact Src.ofSlice w ht _ _ cap news n1 (fun j u hu => by rw [Addr.add_mid]; exact n2 j u hu) n3
    · cases hs
  · rename_i s
    simp only [if_true] at ht
    split at hs
    · rename_i hk1
      subst hk1
      cases hs
      rw [hx.str_inv]
      have hdl : s.data.toList.length = s.size := by rw [Array.length_toList]; rfl
      refine ⟨byteCells s, ?_, fun row hrow => ?_, fun i j c h => ?_⟩
      · rw [List.length_map, hdl]
        exact Src.ofString w ht s
      · obtain ⟨b, _, rfl⟩ := List.mem_map.1 hrow
        exact ⟨rfl, rfl⟩
      · obtain ⟨row, p1, p2⟩ := kB5 h
        simp only [List.getElem?_map, Option.map_eq_some_iff] at p1
        obtain ⟨b, q1, rfl⟩ := p1
        match j with
        | 0 =>
          simp at p2
          subst p2
          exact ⟨.int .u8 b.toNat, by simp only [byteCells, Nat.mul_one, Nat.add_zero, List.getElem?_map, q1]; rfl, .sc rfl⟩
        | j + 1 => simp at p2
    · cases hs
  · cases hs
theorem kId (b : Nat) : ∀ (vs : List Value) (o : Nat) (w : World), (w.setCells b o vs).heap.size = w.heap.size ∧ (w.setCells b o vs).os = w.os ∧ (w.setCells b o vs).tape = w.tape ∧ (w.setCells b o vs).output = w.output ∧
    ∀ x, x ≠ b → (w.setCells b o vs).heap[x]? = w.heap[x]?
  | [], _, _ => ⟨rfl, rfl, rfl, rfl, fun _ _ => rfl⟩
  | v :: r, o, w => by
    obtain ⟨h1, h2, h3, h4, h5⟩ := kId b r (o + 1) (w.setCell ⟨b, o, none⟩ v)
    exact ⟨by rw [World.setCells, h1]; simp [World.setCell], by rw [World.setCells, h2]; rfl, by rw [World.setCells, h3]; rfl, by rw [World.setCells, h4]; rfl,
      fun x hx => by rw [World.setCells, h5 x hx]; exact Go.RowKit.Below.heap_setCell _ _ _ _ hx⟩
theorem kHn (b : Nat) : ∀ (vs : List Value) (o : Nat) (w : World), (w.setCells b o vs).drawn = w.drawn
  | [], _, _ => rfl
  | v :: r, o, w => by
    rw [World.setCells, kHn b r (o + 1) (w.setCell ⟨b, o, none⟩ v)]
    rfl
theorem HRep.write {h : kA4} (hr : HRep P X ρ h w) {o : Nat} {io : OI} (hio : ρ o = some io) {ob ob' : AObj} (hob : h[o]? = some ob) (hk : ob'.k = io.k) (hle : io.ep ≤ ob'.rows.length) (hC : ob'.rows.length ≤ io.C)
    (hwid : ∀ row ∈ ob'.rows, row.length = io.k ∧ row.all AV.flat = true) (off : Nat) (vs : List Value) (hin : off + vs.length ≤ io.C * io.k)
    (hcells : ∀ i j c, kB4 ob'.rows i j = some c → ∃ v, (if off ≤ i * io.k + j ∧ i * io.k + j < off + vs.length then vs[i * io.k + j - off]? else w.cell? ⟨io.b, i * io.k + j, none⟩) = some v ∧ Rep (Own X ρ) w ρ c v) :
    HRep P X (ρ.put o ⟨io.b, io.C, io.k, ob'.rows.length⟩) (h.set o ob') (w.setCells io.b off vs) ∧ Step ρ w (ρ.put o ⟨io.b, io.C, io.k, ob'.rows.length⟩) (w.setCells io.b off vs) := by
  obtain ⟨s1, s2, s3, s4, s5⟩ := kId io.b vs off w
  obtain ⟨ob0, e0, r⟩ := hr.obj o io hio
  rw [hob] at e0
  cases e0
  have hlt := hr.lt hio
  have howns : ∀ b, Owns (ρ.put o ⟨io.b, io.C, io.k, ob'.rows.length⟩) b → Owns ρ b := fun b ⟨x, i, e, e'⟩ => by
    by_cases hx : x = o
    · subst hx; rw [kC4] at e; cases e; exact ⟨x, io, hio, e'⟩
    · rw [kCl hx] at e; exact ⟨x, i, e, e'⟩
  have hstep : Step ρ w (ρ.put o ⟨io.b, io.C, io.k, ob'.rows.length⟩) (w.setCells io.b off vs) :=
    ⟨s2, s3, s4, by rw [s1]; exact Nat.le_refl _, fun b _ hn => ⟨fun hh => hn (howns b hh), s5 b (fun e => hn ⟨o, io, hio, e.symm⟩)⟩, fun x i e => by
      by_cases hx : x = o
      · subst hx
        rw [hio] at e
        cases e
        exact ⟨_, kC4, hle, fun e => by rw [show ob'.rows.length = io.ep from e]⟩
      · exact ⟨i, by rw [kCl hx]; exact e, Nat.le_refl _, fun _ => rfl⟩, fun _ => by rw [kHn]; exact Nat.le_refl _⟩
  have hcell : ∀ x, x < io.C * io.k → (w.setCells io.b off vs).cell? ⟨io.b, x, none⟩ = if off ≤ x ∧ x < off + vs.length then vs[x - off]? else w.cell? ⟨io.b, x, none⟩ := fun x hx => by
    split
    · rename_i hb
      have := World.cell?_setCells_in io.b vs off w (fun j hj => (r.there (off + j) (by omega)).1) (x - off) (by omega)
      rw [show off + (x - off) = x by omega] at this
      rw [this, List.getElem?_eq_getElem]
    · rename_i hb
      exact World.cell?_setCells_out io.b vs off w ⟨io.b, x, none⟩ (fun _ _ => by simp; omega)
  refine ⟨⟨⟨fun x i e => ?_, fun x y i i' e e' hb => ?_⟩, hr.glob.step hstep⟩, hstep⟩
  · by_cases hx : x = o
    · subst hx
      rw [kC4] at e
      cases e
      refine ⟨ob', by rw [List.getElem?_set_self hlt], hk, rfl, hC, hwid, fun x hx => ?_, fun i j c hc => ?_, by rw [s1]; exact r.lt, fun hk x => by rw [World.frozen?_setCells]; exact r.thaw hk x⟩
      · obtain ⟨t1, t2⟩ := r.there x hx
        refine ⟨?_, by rw [World.frozen?_setCells]; exact t2⟩
        rw [hcell x hx]
        split
        · rw [List.getElem?_eq_getElem (by omega)]; rfl
        · exact t1
      · have hl := kFl hwid hc
        have hlt' : i * io.k + j < io.C * io.k := kDj (by omega) hl.2
        obtain ⟨v, h1, h2⟩ := hcells i j c hc
        exact ⟨v, by rw [hcell _ hlt']; exact h1, hstep.rep h2⟩
    · rw [kCl hx] at e
      obtain ⟨ob1, e1, r1⟩ := hr.obj x i e
      have hne : i.b ≠ io.b := fun e2 => hx (hr.inj x o i io e hio e2)
      have hb := s5 i.b hne
      refine ⟨ob1, by rw [List.getElem?_set_ne (Ne.symm hx)]; exact e1, r1.k, r1.ep, r1.le, r1.wid, fun y hy => ?_, fun i' j c hc => ?_, by rw [s1]; exact r1.lt, fun hk y => by rw [World.frozen?_setCells]; exact r1.thaw hk y⟩
      · rw [World.cell?_of_block (w := w) (a := ⟨i.b, y, none⟩) hb, World.frozen?_setCells]
        exact r1.there y hy
      · obtain ⟨v, h1, h2⟩ := r1.cells i' j c hc
        exact ⟨v, by rw [World.cell?_of_block (w := w) (a := ⟨i.b, _, none⟩) hb]; exact h1, hstep.rep h2⟩
  · by_cases hx : x = o <;> by_cases hy : y = o
    · rw [hx, hy]
    · subst hx
      rw [kC4] at e
      rw [kCl hy] at e'
      cases e
      exact hr.inj x y io i' hio e' hb
    · subst hy
      rw [kC4] at e'
      rw [kCl hx] at e
      cases e'
      exact hr.inj x y i io e hio hb
    · rw [kCl hx] at e
      rw [kCl hy] at e'
      exact hr.inj x y i i' e e' hb
def Wrote (P : Program) (X : Nat → Prop) (ρ : RM) (w : World) (h' : kA4) (v : AV) (u : Value) (w' : World) : Prop :=
  ∃ ρ', HRep P X ρ' h' w' ∧ Step ρ w ρ' w' ∧ Rep (Own X ρ') w' ρ' v u
def WroteN (P : Program) (X : Nat → Prop) (ρ : RM) (w : World) (h h' : kA4) (v : AV) (u : Value) (w' : World) : Prop :=
  ∃ ρ', HRep P X ρ' h' w' ∧ Step ρ w ρ' w' ∧ Rep (Own X ρ') w' ρ' v u ∧ ∀ x, x < h.length → ρ x = none → ρ' x = none ∧ h'[x]? = h[x]?
theorem WroteN.wrote {h h' : kA4} {v : AV} {u : Value} {w' : World} (hm : WroteN P X ρ w h h' v u w') : Wrote P X ρ w h' v u w' :=
  let ⟨ρ', a, b, c, _⟩ := hm; ⟨ρ', a, b, c⟩
theorem keepN {o : Nat} {io io' : OI} (hio : ρ o = some io) {h : kA4} {ob : AObj} : ∀ x, x < h.length → ρ x = none → (ρ.put o io') x = none ∧ (h.set o ob)[x]? = h[x]? := fun x _ hx => by
  have : x ≠ o := fun e => by subst e; rw [hio] at hx; cases hx
  exact ⟨by rw [kCl this]; exact hx, by rw [List.getElem?_set_ne (Ne.symm this)]⟩
theorem Made.wrote {h h' : kA4} {v : AV} {u : Value} {w' : World} (hm : Made P X ρ w h h' h' v u w') : Wrote P X ρ w h' v u w' :=
  let ⟨ρ', a, b, c, _⟩ := hm; ⟨ρ', a, b, c⟩
theorem store_okN {t : TypeId} {s : Nat} (hs : tsize P t = some s) {h h' : kA4} (hr : HRep P X ρ h w) {x y : AV} {px py : Value} (hx : Rep (Own X ρ) w ρ x px) (hy : Rep (Own X ρ) w ρ y py) (hl : kAw s x y h = some h') :
    ∃ w', (Instr.storeAt t px py).run P w = .ok () w' ∧ WroteN P X ρ w h h' und undef w' := by
  unfold kAw at hl
  split at hl
  · rename_i o ep i j
    split at hl
    · rename_i ob hob
      split at hl
      · rename_i hep
        split at hl
        · rename_i row hrow
          split at hl
          · rename_i hc
            obtain ⟨c1, c2, c3⟩ := hc
            cases hl
            cases hx with
            | @ptr _ _ _ _ _ a io hio he ha =>
              have r := hr.look (List.prefix_refl _) hio hob
              have e1 := ha (by rw [← r.ep, hep])
              subst e1
              have hv := cells_ok hy c3
              have hvs : py.cells.size = s := by rw [hv.1, c1]
              have hi := (List.getElem?_eq_some_iff.1 hrow).1
              have hrl := (r.wid row (List.mem_of_getElem? hrow))
              have hin : i * io.k + j + s ≤ io.C * io.k := by
                have h1 := Nat.mul_le_mul_right io.k (show i + 1 ≤ io.C by have := r.le; have := r.ep; omega)
                rw [Nat.succ_mul] at h1
                have := hrl.1
                omega
              have hone : ∀ v ∈ py.cells.toList, v.oneCell' = true := fun v hv' => by
                obtain ⟨n, hn⟩ := List.mem_iff_getElem?.1 hv'
                have hn2 := (List.getElem?_eq_some_iff.1 hn).1
                have h3 : y.cells[n]? = some (y.cells[n]'(by rw [← hv.1]; simpa using hn2)) := List.getElem?_eq_getElem _
                exact (hv.2 n _ v h3 (by simpa using hn)).flat (List.all_eq_true.1 c3 _ (List.getElem_mem _))
              have hrun : (Instr.storeAt t (.pointer (some ⟨io.b, i * io.k + j, none⟩)) py).run P w = .ok () (w.setCells io.b (i * io.k + j) py.cells.toList) := by
                have h2 := run_storeCells_cells (P := P) io.b (i * io.k + j) py.cells.toList 0 w (fun x hx => (r.there _ (by simp at hx; omega)).1) (fun x hx => (r.there _ (by simp at hx; omega)).2) hone
                simp only [Nat.add_zero] at h2
                simp [Instr.storeAt, Instr.sureAddr, storeVar, kBv hs, hvs, h2]
              obtain ⟨g1, g2⟩ := hr.write hio hob (ob' := ⟨ob.k, ob.rows.set i (kBe row j y.cells)⟩) r.k (by simp [r.ep]) (by simp; rw [r.ep]; exact r.le)
                (fun row' hrow' => by
                  rcases List.mem_or_eq_of_mem_set hrow' with h | h
                  · exact r.wid row' h
                  · subst h; exact ⟨by rw [splice_len (by omega), hrl.1], splice_flat hrl.2 c3⟩)
                (i * io.k + j) py.cells.toList (by simp; omega) (fun i' j' c hc => by
                  obtain ⟨row', p1, p2⟩ := kB5 hc
                  simp only at p1
                  by_cases e : i' = i
                  · subst e
                    rw [List.getElem?_set_self hi] at p1
                    cases p1
                    rw [splice_get (by omega), c1] at p2
                    split at p2
                    · rename_i hb
                      have h4 : j' - j < py.cells.size := by omega
                      rw [if_pos (by simp; omega)]
                      refine ⟨py.cells[j' - j], ?_, hv.2 _ c _ p2 (Array.getElem?_eq_getElem h4)⟩
                      rw [show i' * io.k + j' - (i' * io.k + j) = j' - j by omega, Array.getElem?_toList]
                      exact Array.getElem?_eq_getElem h4
                    · rename_i hb
                      rw [if_neg (by simp; omega)]
                      exact r.cells i' j' c (by unfold kB4; rw [hrow]; exact p2)
                  · rw [List.getElem?_set_ne (Ne.symm e)] at p1
                    have hj' : j' < io.k := by rw [← (r.wid row' (List.mem_of_getElem? p1)).1]; exact (List.getElem?_eq_some_iff.1 p2).1
                    rw [if_neg (by
                      have := row_apart e hj'
                      have := hrl.1
                      simp
                      omega)]
                    exact r.cells i' j' c (by unfold kB4; rw [p1]; exact p2))
              exact ⟨_, hrun, _, g1, g2, .tup (by rfl) (fun i c v h => by simp at h), keepN hio⟩
          · cases hl
        · cases hl
      · cases hl
    · cases hl
  · cases hl
theorem HRep.move {h : kA4} (hr : HRep P X ρ h w) {o : Nat} {io : OI} (hio : ρ o = some io) {ob' : AObj} (hk : ob'.k = io.k) (hep : io.ep < ob'.rows.length) (C : Nat) (cs : Array Value) (elem : TypeId)
    (hC : ob'.rows.length ≤ C) (hsz : C * io.k ≤ cs.size) (hwid : ∀ row ∈ ob'.rows, row.length = io.k ∧ row.all AV.flat = true)
    (hcs : ∀ i j c, kB4 ob'.rows i j = some c → ∃ v, cs[i * io.k + j]? = some v ∧ Rep (Own X ρ) w ρ c v) :
    HRep P X (ρ.put o ⟨w.heap.size, C, io.k, ob'.rows.length⟩) (h.set o ob') (w.drew.alloc (.cells cs elem)) ∧ Step ρ w (ρ.put o ⟨w.heap.size, C, io.k, ob'.rows.length⟩) (w.drew.alloc (.cells cs elem)) := by
  have hlt := hr.lt hio
  have hold : ∀ b, b < w.heap.size → (w.drew.alloc (.cells cs elem)).heap[b]? = w.heap[b]? := fun b hb => kEu w.drew _ hb
  have hstep : Step ρ w (ρ.put o ⟨w.heap.size, C, io.k, ob'.rows.length⟩) (w.drew.alloc (.cells cs elem)) :=
    ⟨rfl, rfl, rfl, by show w.heap.size ≤ (w.heap.push _).size; simp, fun b hb hn => ⟨fun ⟨x, i, e, e'⟩ => by
        by_cases hx : x = o
        · subst hx; rw [kC4] at e; cases e; simp at e'; omega
        · rw [kCl hx] at e; exact hn ⟨x, i, e, e'⟩, hold b hb⟩, fun x i e => by
      by_cases hx : x = o
      · subst hx
        rw [hio] at e
        cases e
        exact ⟨_, kC4, Nat.le_of_lt hep, fun e => by simp at e; omega⟩
      · exact ⟨i, by rw [kCl hx]; exact e, Nat.le_refl _, fun _ => rfl⟩, fun _ => Nat.le_succ _⟩
  have hcell : ∀ x, (w.drew.alloc (.cells cs elem)).cell? ⟨w.heap.size, x, none⟩ = cs[x]? := fun x => by
    unfold World.cell?
    rw [show (w.drew.alloc (.cells cs elem)).heap[w.heap.size]? = some (.cells cs elem) from kCc w.drew _]
    rfl
  refine ⟨⟨⟨fun x i e => ?_, fun x y i i' e e' hb => ?_⟩, hr.glob.step hstep⟩, hstep⟩
  · by_cases hx : x = o
    · subst hx
      rw [kC4] at e
      cases e
      refine ⟨ob', by rw [List.getElem?_set_self hlt], hk, rfl, hC, hwid, fun x hx => ⟨?_, ?_⟩, fun i j c hc => ?_, by show w.heap.size < (w.heap.push _).size; simp, fun _ x => by
        unfold World.frozen?
        rw [show (w.drew.alloc (.cells cs elem)).heap[w.heap.size]? = some (.cells cs elem) from kCc w.drew _]
        simp⟩
      · rw [hcell]
        simp only at hx
        rw [Array.getElem?_eq_getElem (by omega)]
        rfl
      · unfold World.frozen?
        rw [show (w.drew.alloc (.cells cs elem)).heap[w.heap.size]? = some (.cells cs elem) from kCc w.drew _]
        simp
      · obtain ⟨v, h1, h2⟩ := hcs i j c hc
        exact ⟨v, by rw [hcell]; exact h1, hstep.rep h2⟩
    · rw [kCl hx] at e
      obtain ⟨ob1, e1, r1⟩ := hr.obj x i e
      have hb := hold i.b r1.lt
      refine ⟨ob1, by rw [List.getElem?_set_ne (Ne.symm hx)]; exact e1, r1.k, r1.ep, r1.le, r1.wid, fun y hy => ?_, fun i' j c hc => ?_, by have := r1.lt; show _ < (w.heap.push _).size; simp; omega, fun hk y => by rw [World.frozen?_of_block (w := w) (a := ⟨i.b, y, none⟩) hb]; exact r1.thaw hk y⟩
      · rw [World.cell?_of_block (w := w) (a := ⟨i.b, y, none⟩) hb, World.frozen?_of_block (w := w) (a := ⟨i.b, y, none⟩) hb]
        exact r1.there y hy
      · obtain ⟨v, h1, h2⟩ := r1.cells i' j c hc
        exact ⟨v, by rw [World.cell?_of_block (w := w) (a := ⟨i.b, _, none⟩) hb]; exact h1, hstep.rep h2⟩
  · by_cases hx : x = o <;> by_cases hy : y = o
    · rw [hx, hy]
    · subst hx
      rw [kC4] at e
      rw [kCl hy] at e'
      cases e
      obtain ⟨_, _, r⟩ := hr.obj y i' e'
      have := r.lt
      simp at hb
      omega
    · subst hy
      rw [kC4] at e'
      rw [kCl hx] at e
      cases e'
      obtain ⟨_, _, r⟩ := hr.obj x i e
      have := r.lt
      simp at hb
      omega
    · rw [kCl hx] at e
      rw [kCl hy] at e'
      exact hr.inj x y i i' e e' hb
theorem cells_append {old new : List Value} {A : Array Value} {n : Nat} (hl : old.length = n) (x : Nat) : ((old ++ new).toArray ++ A)[x]? = if x < n then old[x]? else if x < n + new.length then new[x - n]? else A[x - (n + new.length)]? := by
  rw [Array.getElem?_append]
  simp only [List.size_toArray, List.length_append, hl, List.getElem?_toArray]
  by_cases h1 : x < n
  · rw [if_pos (by omega), if_pos h1, List.getElem?_append_left (by omega)]
  · rw [if_neg h1]
    by_cases h2 : x < n + new.length
    · rw [if_pos h2, if_pos h2, List.getElem?_append_right (by omega), hl]
    · rw [if_neg h2, if_neg h2]
theorem get_pfx {h t : kA4} {o : Nat} {ob : AObj} (e : h[o]? = some ob) : (h ++ t)[o]? = some ob := by
  rw [List.getElem?_append_left (List.getElem?_eq_some_iff.1 e).1]; exact e
theorem src_ext {st : Bool} {k : Nat} {x : AV} {h : kA4} {r : List (List AV)} (t : kA4) (hl : aSrc st k x h = some r) : aSrc st k x (h ++ t) = some r := by
  unfold aSrc at hl ⊢
  split at hl
  · exact hl
  · split at hl
    · rename_i ob hob
      simp only [get_pfx hob]
      exact hl
    · cases hl
  · exact hl
  · exact hl
  · cases hl
theorem appendNil_ok {t tx ty e : TypeId} {k b : Nat} {st : Bool} (hu : P.underlying t = some (.slice e)) (hs : tsize P e = some (k + 1)) (hb : tbytes P e = some b) {z : List Value} (hz : tzero P e = some z) (hzl : z.length = k + 1)
    (htx : if st = true then P.underlying tx = some .string else ∃ e', P.underlying tx = some (.slice e')) {h H : kA4} (hr : HRep P X ρ H w) {x : AV} {px : Value} (hx : Rep (Own X ρ) w ρ x px)
    {new : List (List AV)} (hnew : aSrc st (k + 1) x H = some new) (hp : h ++ [⟨k + 1, new⟩] <+: H) (hn : ρ h.length = none) (h0 : ¬ new.length = 0) (hc : new.length * b ≤ kBh ∧ new.length ≤ kBh) :
    ∃ u w', (Builtin.append_ #[t, tx] ty #[.slice none 0 0, px]).run P w = .ok u w' ∧ Made P X ρ w h (h ++ [⟨k + 1, new⟩]) H (.sl h.length new.length 0 new.length) u w' := by
  obtain ⟨i, zv, e1, e2, e3, e4⟩ := kEo hz
  obtain ⟨i1, f1, f2⟩ := kH2 hs
  obtain ⟨i2, g1, g2⟩ := kI5 hb
  rw [e1] at f1 g1
  cases f1
  cases g1
  have hzz : zv.cells = z.toArray := by rw [← e3]
  have hmax : kBh = 140737488355328 := rfl
  obtain ⟨news, hsrc, hwid, hcells⟩ := src_ok (P := P) (k := k + 1) (by omega) htx hr hx hnew
  rw [← f2] at hsrc
  have hnl : news.length = new.length * (k + 1) := by rw [hsrc.newsLen, f2]
  obtain ⟨c1, c2⟩ := hc
  have hrun := run_append_grow_src w t tx ty e i zv hu e1 e2 none 0 0 [] (run_firstCells_none w.drew i.size 0 0 0) px new.length news hsrc (by omega) (by omega) (growslice_fits (by omega) (by rw [g2]; simp; omega))
  refine ⟨_, _, hrun, ?_⟩
  have hcap := grownCap_ge w (0 + new.length) 0 e
  obtain ⟨ρ', a1, a2, a3, a4⟩ := new_ok (w := w.drew) (h := h) (H := H) (ob := ⟨k + 1, new⟩) (v := .sl h.length new.length 0 new.length) (u := .slice (some ⟨w.heap.size, 0, none⟩) (0 + new.length) (grownCap w (0 + new.length) 0 e)) hp
    hr.drew hn (grownCap w (0 + new.length) 0 e) (([] ++ news).toArray ++ Builtin.zeroCells zv.cells (grownCap w (0 + new.length) 0 e - (0 + new.length))) e (0, 0)
    (by simp only; omega) (by
      simp only [List.nil_append, Array.size_append, List.size_toArray, size_zeroCells, hnl, hzz, hzl]
      rw [← Nat.add_mul]
      exact Nat.mul_le_mul_right _ (by omega)) (by simp) (fun _ => rfl) hwid
    (fun i' j c hc => by
      obtain ⟨v, p1, p2⟩ := hcells i' j c hc
      have hl := kFl hwid hc
      have hlt : i' * (k + 1) + j < news.length := by rw [hnl]; exact kDj hl.1 hl.2
      refine ⟨v, ?_, (Step.drew ρ w).rep p2⟩
      simp only [List.nil_append]
      rw [Array.getElem?_append_left (by simpa using hlt)]
      simpa using p1)
    (fun ρ' e' => by rw [Nat.zero_add]; exact .sl e' (Nat.le_refl _) fun _ => ⟨by rw [Nat.zero_add] at hcap; exact hcap, by simp, fun _ => by simp⟩)
  exact ⟨ρ', a1, (Step.drew ρ w).trans a2, a3, a4⟩
theorem append_okN {t tx ty e : TypeId} {k b : Nat} {st : Bool} (hu : P.underlying t = some (.slice e)) (hs : tsize P e = some (k + 1)) (hb : tbytes P e = some b) {z : List Value} (hz : tzero P e = some z) (hzl : z.length = k + 1)
    (htx : if st = true then P.underlying tx = some .string else ∃ e', P.underlying tx = some (.slice e')) {h h' : kA4} (hr : HRep P X ρ h w) {s x v : AV} {ps px : Value}
    (hss : Rep (Own X ρ) w ρ s ps) (hx : Rep (Own X ρ) w ρ x px) (ha : kB1 st (k + 1) b s x h = some (v, h')) :
    ∃ u w', (Builtin.append_ #[t, tx] ty #[ps, px]).run P w = .ok u w' ∧ WroteN P X ρ w h h' v u w' := by
  obtain ⟨i, zv, e1, e2, e3, e4⟩ := kEo hz
  obtain ⟨i1, f1, f2⟩ := kH2 hs
  obtain ⟨i2, g1, g2⟩ := kI5 hb
  rw [e1] at f1 g1
  cases f1
  cases g1
  have hzz : zv.cells = z.toArray := by rw [← e3]
  have hmax : kBh = 140737488355328 := rfl
  unfold kB1 at ha
  split at ha
  · rename_i new hnew
    obtain ⟨news, hsrc, hwid, hcells⟩ := src_ok (P := P) (k := k + 1) (by omega) htx hr hx hnew
    rw [← f2] at hsrc
    have hnl : news.length = new.length * (k + 1) := by rw [hsrc.newsLen, f2]
    split at ha
    ·
      rw [hss.sc_inv]
      split at ha
      · rename_i h0
        cases ha
        have hn0 : news = [] := List.eq_nil_of_length_eq_zero (by rw [hnl, h0]; simp)
        subst hn0
        rw [h0] at hsrc
        exact ⟨_, _, run_append_nothing w t tx ty e i hu e1 none 0 0 (Nat.le_refl _) px hsrc, ρ, hr, Step.refl _ _, .sc rfl, fun x _ hx => ⟨hx, rfl⟩⟩
      · rename_i h0
        split at ha
        · rename_i hc
          cases ha
          obtain ⟨u, w', hrun, ρ', a1, a2, a3, a4⟩ := appendNil_ok (P := P) (X := X) (w := w) (ρ := ρ) (ty := ty) hu hs hb hz hzl htx (h := h) (H := h ++ [⟨k + 1, new⟩]) (hr.pfx (List.prefix_append _ _)) hx (src_ext _ hnew) (List.prefix_refl _) (hr.fresh (Nat.le_refl _)) h0 hc
          exact ⟨u, w', hrun, ρ', a1, a2, a3, fun x hx hn => ⟨by
            cases h9 : ρ' x with
            | none => rfl
            | some io =>
              rcases a4 x (by rw [h9]; intro e; cases e) with h8 | h8
              · exact absurd hn h8
              · omega, List.getElem?_append_left hx⟩⟩
        · cases ha
    · rename_i o ep i0 n
      split at ha
      · rename_i ob hob
        split at ha
        · rename_i hc
          obtain ⟨c1, c2, c3, c4, c5, c6⟩ := hc
          subst c3
          cases ha
          cases hss with
          | @sl _ _ _ _ _ cap a io hio he hA =>
            have r := hr.look (List.prefix_refl _) hio hob
            obtain ⟨g3, g4, g5⟩ := hA (by rw [← r.ep, c1])
            have hkk : io.k = k + 1 := by rw [← r.k, c2]
            have hep : io.ep = ep := by rw [← r.ep, c1]
            have hrowslen : (ob.rows.take n ++ new ++ ob.rows.drop (n + new.length)).length = max ep (n + new.length) := by simp; omega
            have hwid' : ∀ row ∈ ob.rows.take n ++ new ++ ob.rows.drop (n + new.length), row.length = io.k ∧ row.all AV.flat = true := fun row hrow => by
              simp only [List.mem_append] at hrow
              rcases hrow with (hh | hh) | hh
              · exact r.wid row (List.mem_of_mem_take hh)
              · rw [hkk]; exact hwid row hh
              · exact r.wid row (List.mem_of_mem_drop hh)
            have hfrom : ∀ i' j c, kB4 (ob.rows.take n ++ new ++ ob.rows.drop (n + new.length)) i' j = some c →
                (i' < n ∧ kB4 ob.rows i' j = some c) ∨ (n ≤ i' ∧ i' < n + new.length ∧ kB4 new (i' - n) j = some c) ∨ (n + new.length ≤ i' ∧ kB4 ob.rows i' j = some c) := fun i' j c hc => by
              obtain ⟨row, p1, p2⟩ := kB5 hc
              have hnl' : (ob.rows.take n).length = n := by simp; omega
              by_cases q1 : i' < n
              · rw [List.append_assoc, List.getElem?_append_left (by omega), List.getElem?_take, if_pos q1] at p1
                exact .inl ⟨q1, by unfold kB4; rw [p1]; exact p2⟩
              · by_cases q2 : i' < n + new.length
                · rw [List.append_assoc, List.getElem?_append_right (by omega), hnl', List.getElem?_append_left (by omega)] at p1
                  exact .inr (.inl ⟨by omega, q2, by unfold kB4; rw [p1]; exact p2⟩)
                · rw [List.getElem?_append_right (by simp; omega), List.getElem?_drop] at p1
                  rw [show n + new.length + (i' - (ob.rows.take n ++ new).length) = i' by simp; omega] at p1
                  exact .inr (.inr ⟨by omega, by unfold kB4; rw [p1]; exact p2⟩)
            by_cases hroom : n + new.length ≤ cap
            · by_cases h0 : new.length = 0
              · have hn0 : news = [] := List.eq_nil_of_length_eq_zero (by rw [hnl, h0]; simp)
                subst hn0
                have hnew0 : new = [] := List.eq_nil_of_length_eq_zero h0
                subst hnew0
                refine ⟨_, _, run_append_nothing w t tx ty e i hu e1 (some a) n cap g3 px hsrc, ρ, ?_, Step.refl _ _, ?_, fun x hx hn => ⟨hn, (keepN (io' := io) hio x hx hn).2⟩⟩
                · rw [show h.set o ⟨ob.k, ob.rows.take n ++ [] ++ ob.rows.drop (n + ([] : List (List AV)).length)⟩ = h by
                    simp
                    apply List.ext_getElem?
                    intro y
                    by_cases hy : y = o
                    · subst hy
                      rw [List.getElem?_set_self (hr.lt hio), hob]
                    · rw [List.getElem?_set_ne (Ne.symm hy)]]
                  exact hr
                · simp only [List.length_nil, Nat.add_zero]
                  rw [Nat.max_eq_left c6]
                  exact .sl hio (by omega) hA
              · have hcap0 : 0 < cap := by omega
                have ea := g5 hcap0
                rw [Nat.zero_mul] at ea
                subst ea
                have hin : n * (k + 1) + news.length ≤ io.C * io.k := by
                  rw [hnl, ← Nat.add_mul, hkk]
                  exact Nat.mul_le_mul_right _ (by omega)
                have hrun := run_append_room_src w t tx ty e i hu e1 io.b 0 n cap px new.length news hsrc hroom
                  (fun j hj => by rw [f2]; exact (r.there _ (by omega)).1) (fun j hj => by rw [f2]; exact (r.there _ (by omega)).2)
                rw [f2, Nat.zero_add] at hrun
                obtain ⟨q1, q2⟩ := hr.write hio hob (ob' := ⟨ob.k, ob.rows.take n ++ new ++ ob.rows.drop (n + new.length)⟩) r.k (by show io.ep ≤ (_ : List (List AV)).length; rw [hrowslen]; omega) (by show (_ : List (List AV)).length ≤ io.C; rw [hrowslen]; have := r.le; omega) hwid' (n * (k + 1)) news hin
                  (fun i' j c hc => by
                    have hl := kFl hwid' hc
                    rcases hfrom i' j c hc with ⟨w1, w2⟩ | ⟨w1, w2, w3⟩ | ⟨w1, w2⟩
                    · have := kDj (k := k + 1) w1 (by rw [← hkk]; exact hl.2)
                      rw [hkk, if_neg (by omega)]
                      rw [← hkk]
                      exact r.cells i' j c w2
                    · obtain ⟨v, p1, p2⟩ := hcells (i' - n) j c w3
                      have h1 := Nat.mul_le_mul_right (k + 1) w1
                      have h2 := kDj (k := k + 1) (show i' - n < new.length by omega) (by rw [← hkk]; exact hl.2)
                      have h3 : i' * (k + 1) = n * (k + 1) + (i' - n) * (k + 1) := by rw [← Nat.add_mul]; congr 1; omega
                      rw [hkk, if_pos (by omega)]
                      exact ⟨v, by rw [show i' * (k + 1) + j - n * (k + 1) = (i' - n) * (k + 1) + j by omega]; exact p1, p2⟩
                    · have h1 := Nat.mul_le_mul_right (k + 1) w1
                      rw [Nat.add_mul, ← hnl] at h1
                      rw [hkk, if_neg (by omega)]
                      rw [← hkk]
                      exact r.cells i' j c w2)
                refine ⟨_, _, hrun, _, q1, q2, .sl kC4 (by simp only; rw [hrowslen]; exact Nat.le_refl _) (fun _ => ⟨hroom, g4, fun _ => by simp⟩), keepN hio⟩
            ·
              have hepn : ep ≤ cap := by have := r.le; omega
              obtain ⟨olds, o1, o2, o3, o4⟩ := gather (own := Own X ρ) (ρ := ρ) (w := w) (rows := ob.rows.take n) (k := k + 1) (fun row hrow => by rw [← hkk]; exact r.wid row (List.mem_of_mem_take hrow)) (b := io.b) (off := 0)
                (fun i' j c hc => by
                  obtain ⟨row, p1, p2⟩ := kB5 hc
                  rw [List.getElem?_take] at p1
                  split at p1
                  · obtain ⟨v, y1, y2⟩ := r.cells i' j c (by unfold kB4; rw [p1]; exact p2)
                    exact ⟨v, by rw [Nat.zero_add, ← hkk]; exact y1, y2⟩
                  · cases p1)
              have hol : olds.length = n * (k + 1) := by rw [o1, List.length_take, Nat.min_eq_left (by omega)]
              have hold : (Builtin.firstCells i.size n (.slice (some a) n cap)).run P w.drew = .ok olds.toArray w.drew := by
                by_cases h0 : n = 0
                · subst h0
                  have : olds = [] := List.eq_nil_of_length_eq_zero (by rw [hol]; simp)
                  subst this
                  exact run_firstCells_some w.drew i.size 0 a 0 cap [] (by simp) (fun j v hj => by simp at hj)
                · have ea := g5 (by omega)
                  rw [Nat.zero_mul] at ea
                  subst ea
                  exact run_firstCells_some w.drew i.size n _ n cap olds (by rw [hol, f2]) (fun j v hj => by rw [Addr.add_mid]; simpa using o2 j v hj)
              have hrun := run_append_grow_src w t tx ty e i zv hu e1 e2 (some a) n cap olds hold px new.length news hsrc (by omega) (by omega) (growslice_fits (by omega) (by rw [g2]; omega))
              have hcap := grownCap_ge w (n + new.length) cap e
              have hdrop : ob.rows.drop (n + new.length) = [] := List.drop_eq_nil_of_le (by omega)
              obtain ⟨q1, q2⟩ := hr.move hio (ob' := ⟨ob.k, ob.rows.take n ++ new ++ ob.rows.drop (n + new.length)⟩) r.k (by simp only; rw [hrowslen]; omega) (grownCap w (n + new.length) cap e)
                ((olds ++ news).toArray ++ Builtin.zeroCells zv.cells (grownCap w (n + new.length) cap e - (n + new.length))) e (by simp only; rw [hrowslen]; omega)
                (by
                  simp only [Array.size_append, List.size_toArray, List.length_append, size_zeroCells, hol, hnl, hzz, hzl, hkk]
                  rw [← Nat.add_mul, ← Nat.add_mul]
                  exact Nat.mul_le_mul_right _ (by omega)) hwid'
                (fun i' j c hc => by
                  have hl := kFl hwid' hc
                  rw [hkk, cells_append hol]
                  rcases hfrom i' j c hc with ⟨w1, w2⟩ | ⟨w1, w2, w3⟩ | ⟨w1, w2⟩
                  · have := kDj (k := k + 1) w1 (by rw [← hkk]; exact hl.2)
                    rw [if_pos this]
                    exact o4 i' j c (by
                      obtain ⟨row, p1, p2⟩ := kB5 w2
                      unfold kB4
                      rw [List.getElem?_take, if_pos w1, p1]
                      exact p2)
                  · obtain ⟨v, p1, p2⟩ := hcells (i' - n) j c w3
                    have h1 := Nat.mul_le_mul_right (k + 1) w1
                    have h2 := kDj (k := k + 1) (show i' - n < new.length by omega) (by rw [← hkk]; exact hl.2)
                    have h3 : i' * (k + 1) = n * (k + 1) + (i' - n) * (k + 1) := by rw [← Nat.add_mul]; congr 1; omega
                    rw [if_neg (by omega), if_pos (by omega)]
                    exact ⟨v, by rw [show i' * (k + 1) + j - n * (k + 1) = (i' - n) * (k + 1) + j by omega]; exact p1, p2⟩
                  · have := kB5 w2
                    obtain ⟨row, p1, _⟩ := this
                    have := (List.getElem?_eq_some_iff.1 p1).1
                    omega)
              exact ⟨_, _, hrun, _, q1, q2, .sl kC4 (by simp only; rw [hrowslen]; exact Nat.le_refl _) (fun _ => ⟨hcap, by simp, fun _ => by simp⟩), keepN hio⟩
        · cases ha
      · cases ha
    · cases ha
  · cases ha
end Go.Eng
