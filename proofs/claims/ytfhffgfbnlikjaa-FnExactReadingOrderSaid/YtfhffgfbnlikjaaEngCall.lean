import Derived.Test.YtfhffgfbnlikjaaEngOp
namespace Go.Eng
set_option linter.unusedVariables false
set_option linter.unusedSimpArgs false
open Go.RowKit
variable {P : Program} {X : Nat → Prop} {own : Nat → Prop} {w : World} {ρ : RM}
theorem kCj {α β : Type} {f : α → Option β} : ∀ {l : List α} {l' : List β}, kBb f l = some l' → l'.length = l.length ∧ ∀ (i : Nat) (a : α), l[i]? = some a → ∃ b, f a = some b ∧ l'[i]? = some b
  | [], l', h => by simp [kBb] at h; subst h; exact ⟨rfl, fun i a h => by simp at h⟩
  | a :: l, l', h => by
    simp only [kBb] at h
    split at h
    · rename_i b hb
      split at h
      · rename_i r hr
        cases h
        obtain ⟨h1, h2⟩ := kCj hr
        refine ⟨by simp [h1], fun i x hx => ?_⟩
        match i with
        | 0 => simp at hx; subst hx; exact ⟨b, hb, rfl⟩
        | i + 1 => exact h2 i x (by simpa using hx)
      · cases h
    · cases h
theorem kCz {α β : Type} {f : α → Option β} {l : List α} {l' : List β} (h : kBb f l = some l') {i : Nat} {b : β} (hb : l'[i]? = some b) : ∃ a, l[i]? = some a ∧ f a = some b := by
  obtain ⟨h1, h2⟩ := kCj h
  have hi := (List.getElem?_eq_some_iff.1 hb).1
  have h3 : l[i]? = some (l[i]'(by omega)) := List.getElem?_eq_getElem _
  obtain ⟨b', h4, h5⟩ := h2 i _ h3
  rw [hb] at h5
  cases h5
  exact ⟨_, h3, h4⟩
theorem omap2_cell {f : AV → Option AV} {rows rows' : List (List AV)} (h : kBb (kBb f) rows = some rows') {i j : Nat} {c : AV} (hc : kB4 rows' i j = some c) : ∃ a, kB4 rows i j = some a ∧ f a = some c := by
  obtain ⟨row, q1, q2⟩ := kB5 hc
  obtain ⟨row0, e1, e2⟩ := kCz h q1
  obtain ⟨a, e3, e4⟩ := kCz e2 q2
  exact ⟨a, by unfold kB4; rw [e1]; exact e3, e4⟩
theorem omap2_wid {f : AV → Option AV} (hf : ∀ a b, f a = some b → a.flat = true → b.flat = true) {k : Nat} {rows rows' : List (List AV)} (h : kBb (kBb f) rows = some rows') (hk : ∀ row ∈ rows, row.length = k ∧ row.all AV.flat = true) :
    ∀ row ∈ rows', row.length = k ∧ row.all AV.flat = true := fun row hrow => by
  obtain ⟨i, hi⟩ := List.mem_iff_getElem?.1 hrow
  obtain ⟨row0, e1, e2⟩ := kCz h hi
  obtain ⟨w1, w2⟩ := hk row0 (List.mem_of_getElem? e1)
  refine ⟨by rw [(kCj e2).1, w1], ?_⟩
  rw [List.all_eq_true] at w2 ⊢
  intro c hc
  obtain ⟨j, hj⟩ := List.mem_iff_getElem?.1 hc
  obtain ⟨a, e3, e4⟩ := kCz e2 hj
  exact hf a c e4 (w2 a (List.mem_of_getElem? e3))
theorem kIi {h : kA4} {d : Nat} {a b : AV} (hs : snap h d a = some b) (hf : a.flat = true) : b.flat = true := by
  cases d <;> cases a <;> simp [AV.flat] at hf <;> simp only [snap] at hs
  all_goals first
    | (cases hs; rfl)
    | cases hs
    | skip
  all_goals (repeat' split at hs) <;> first | (cases hs; rfl) | cases hs
def noX : Nat → Prop := fun _ => False
theorem snap_ok {H : kA4} (hr : HRep P X ρ H w) {h : kA4} (hp : h <+: H) : ∀ (d : Nat) (a b : AV) (v : Value), snap h d a = some b → Rep (Own X ρ) w ρ a v → Rep (Own noX RM.none) w RM.none b v := by
  have hno : ∀ b, ¬ Own noX RM.none b := fun b hb => hb.elim (fun h => h) (fun ⟨o, io, e, _⟩ => by cases e)
  have hmono : ∀ (a : AV) (v : Value), Rep (Own X ρ) w RM.none a v → Rep (Own noX RM.none) w RM.none a v := fun a v h => h.mono (fun b _ _ => ⟨hno b, rfl⟩) RM.none (fun _ _ e => by cases e)
  intro d
  induction d with
  | zero =>
    intro a b v hs hv
    cases a <;> simp only [snap] at hs <;> first | (cases hs; done) | skip
    all_goals cases hs
    · cases hv; exact .sc (by assumption)
    · cases hv with | fptr h1 h2 h3 h4 => exact .fptr h1 (fun _ => hno _) h3 fun i j c hc => hmono _ _ (h4 i j c hc)
    · cases hv with | fs h1 h2 h3 h4 h5 h6 => exact .fs h1 h2 h3 (fun _ => hno _) h5 fun i j c hc => hmono _ _ (h6 i j c hc)
  | succ d ih =>
    intro a b v hs hv
    cases hv with
    | sc h1 => simp only [snap] at hs; cases hs; exact .sc h1
    | top => simp [snap] at hs
    | tup h1 h2 => simp [snap] at hs
    | agg hf hn hr' =>
      simp only [snap] at hs
      split at hs
      · rename_i cs' hcs
        cases hs
        have hl := (kCj hcs).1
        refine .agg ?_ (by omega) fun i c u h1 h2 => ?_
        · rw [List.all_eq_true] at hf ⊢
          intro c hc
          obtain ⟨j, hj⟩ := List.mem_iff_getElem?.1 hc
          obtain ⟨a, e3, e4⟩ := kCz hcs hj
          exact kIi e4 (hf a (List.mem_of_getElem? e3))
        · obtain ⟨a, e3, e4⟩ := kCz hcs h1
          exact ih a c u e4 (hr' i a u e3 h2)
      · cases hs
    | fn hn hr' =>
      simp only [snap] at hs
      split at hs
      · rename_i cs' hcs
        cases hs
        have hl := (kCj hcs).1
        refine .fn (by omega) fun i c u h1 h2 => ?_
        obtain ⟨a, e3, e4⟩ := kCz hcs h1
        exact ih a c u e4 (hr' i a u e3 h2)
      · cases hs
    | fptr h1 h2 h3 h4 => simp only [snap] at hs; cases hs; exact .fptr h1 (fun _ => hno _) h3 fun i j c hc => hmono _ _ (h4 i j c hc)
    | fs h1 h2 h3 h4 h5 h6 => simp only [snap] at hs; cases hs; exact .fs h1 h2 h3 (fun _ => hno _) h5 fun i j c hc => hmono _ _ (h6 i j c hc)
    | @ptr _ o ep i j a io hio he ha =>
      simp only [snap] at hs
      split at hs
      · rename_i ob hob
        split at hs
        · rename_i hep
          split at hs
          · rename_i rows hrows
            cases hs
            have r := hr.look hp hio hob
            have e1 := ha (by rw [← r.ep, hep])
            subst e1
            have hwid := omap2_wid (fun a b => kIi) hrows r.wid
            have hcf : ∀ i j c, kB4 rows i j = some c → ∃ v, w.cell? ⟨io.b, i * io.k + j, none⟩ = some v ∧ Rep (Own noX RM.none) w RM.none c v := fun i j c hc => by
              obtain ⟨a, e1, e2⟩ := omap2_cell hrows hc
              obtain ⟨v, e3, e4⟩ := r.cells i j a e1
              exact ⟨v, e3, ih a c v e2 e4⟩
            rw [show (⟨io.b, i * io.k + j, none⟩ : Addr) = ⟨io.b, 0 + i * ob.k + j, none⟩ by rw [Nat.zero_add, r.k]]
            refine .fptr (cf := fun i j => (w.cell? ⟨io.b, i * io.k + j, none⟩).getD undef) (by rw [r.k]; exact hwid) (fun _ => hno _) (fun i j c hc => ?_) fun i j c hc => ?_
            · obtain ⟨v, e3, _⟩ := hcf i j c hc
              rw [Nat.zero_add, r.k, e3]
              rfl
            · obtain ⟨v, e3, e4⟩ := hcf i j c hc
              rw [e3]
              exact e4
          · cases hs
        · cases hs
      · cases hs
    | @sl _ o ep i n cap a io hio he ha =>
      simp only [snap] at hs
      split at hs
      · rename_i ob hob
        split at hs
        · rename_i hc
          split at hs
          · rename_i rows hrows
            cases hs
            have r := hr.look hp hio hob
            obtain ⟨g1, g2, g3⟩ := ha (by rw [← r.ep, hc.1])
            have hwid := omap2_wid (k := io.k) (fun a b => kIi) hrows (fun row hrow => r.wid row (List.mem_of_mem_drop (List.mem_of_mem_take hrow)))
            have hlen : rows.length = n := by rw [(kCj hrows).1]; simp; omega
            have hcf : ∀ i' j c, kB4 rows i' j = some c → ∃ v, w.cell? ⟨io.b, i * io.k + i' * io.k + j, none⟩ = some v ∧ Rep (Own noX RM.none) w RM.none c v := fun i' j c hcc => by
              obtain ⟨a, e1, e2⟩ := omap2_cell hrows hcc
              obtain ⟨row, q1, q2⟩ := kB5 e1
              rw [List.getElem?_take] at q1
              split at q1
              · rw [List.getElem?_drop] at q1
                obtain ⟨v, e3, e4⟩ := r.cells (i + i') j a (by unfold kB4; rw [q1]; exact q2)
                rw [Nat.add_mul] at e3
                exact ⟨v, e3, ih a c v e2 e4⟩
              · cases q1
            rw [← hlen]
            refine .fs (cf := fun i' j => (w.cell? ⟨io.b, i * io.k + i' * io.k + j, none⟩).getD undef) (by rw [r.k]; exact hwid) (by omega) (fun hpos => by rw [g3 (by omega)]) (fun _ => hno _) (fun i' j c hcc => ?_) fun i' j c hcc => ?_
            · obtain ⟨v, e3, _⟩ := hcf i' j c hcc
              have hpos := (kFl hwid hcc).1
              rw [g3 (by omega)]
              simp only
              rw [r.k, e3]
              rfl
            · obtain ⟨v, e3, e4⟩ := hcf i' j c hcc
              rw [e3]
              exact e4
          · cases hs
        · cases hs
      · cases hs
theorem snap_noRef {h : kA4} (hw : ∀ b, ¬ own b → ¬ Own own RM.none b) : ∀ (d : Nat) (a b : AV) (v : Value), snap h d a = some b → kD0 d a = true → Rep own w ρ a v → Rep (Own own RM.none) w RM.none b v := by
  have hm : ∀ (a : AV) (v : Value), Rep own w RM.none a v → Rep (Own own RM.none) w RM.none a v := fun a v h => h.mono (fun b _ hb => ⟨hw b hb, rfl⟩) RM.none (fun _ _ e => by cases e)
  intro d
  induction d with
  | zero =>
    intro a b v hs hn hv
    cases a <;> simp only [snap] at hs <;> first | (cases hs; done) | skip
    all_goals cases hs
    · cases hv; exact .sc (by assumption)
    · cases hv with | fptr h1 h2 h3 h4 => exact .fptr h1 (fun h => hw _ (h2 h)) h3 fun i j c hc => hm _ _ (h4 i j c hc)
    · cases hv with | fs h1 h2 h3 h4 h5 h6 => exact .fs h1 h2 h3 (fun h => hw _ (h4 h)) h5 fun i j c hc => hm _ _ (h6 i j c hc)
  | succ d ih =>
    intro a b v hs hn hv
    cases hv with
    | sc h1 => simp only [snap] at hs; cases hs; exact .sc h1
    | top => simp [snap] at hs
    | tup h1 h2 => simp [snap] at hs
    | agg hf hl hr' =>
      simp only [kD0] at hn
      rw [List.all_eq_true] at hn
      simp only [snap] at hs
      split at hs
      · rename_i cs' hcs
        cases hs
        have hl' := (kCj hcs).1
        refine .agg ?_ (by omega) fun i c u h1 h2 => ?_
        · rw [List.all_eq_true] at hf ⊢
          intro c hc
          obtain ⟨j, hj⟩ := List.mem_iff_getElem?.1 hc
          obtain ⟨a, e3, e4⟩ := kCz hcs hj
          exact kIi e4 (hf a (List.mem_of_getElem? e3))
        · obtain ⟨a, e3, e4⟩ := kCz hcs h1
          exact ih a c u e4 (hn a (List.mem_of_getElem? e3)) (hr' i a u e3 h2)
      · cases hs
    | fn hl hr' =>
      simp only [kD0] at hn
      rw [List.all_eq_true] at hn
      simp only [snap] at hs
      split at hs
      · rename_i cs' hcs
        cases hs
        have hl' := (kCj hcs).1
        refine .fn (by omega) fun i c u h1 h2 => ?_
        obtain ⟨a, e3, e4⟩ := kCz hcs h1
        exact ih a c u e4 (hn a (List.mem_of_getElem? e3)) (hr' i a u e3 h2)
      · cases hs
    | fptr h1 h2 h3 h4 => simp only [snap] at hs; cases hs; exact .fptr h1 (fun h => hw _ (h2 h)) h3 fun i j c hc => hm _ _ (h4 i j c hc)
    | fs h1 h2 h3 h4 h5 h6 => simp only [snap] at hs; cases hs; exact .fs h1 h2 h3 (fun h => hw _ (h4 h)) h5 fun i j c hc => hm _ _ (h6 i j c hc)
    | ptr => simp [kD0] at hn
    | sl => simp [kD0] at hn
end Go.Eng
