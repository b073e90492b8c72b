import Derived.Test.YtfhffgfbnlikjaaEngTree
namespace Go.Eng
set_option linter.unusedVariables false
set_option linter.unusedSimpArgs false
open Cod (enc dec)
class Wt (A : Type) [Row A] where
  wt : A → Nat
  big : A → Bool
  fb : ∀ a, Row.fine a → big a = true
instance : Wt Int := ⟨fun _ => 0, fun _ => true, fun _ _ => rfl⟩
instance : Wt Bool := ⟨fun _ => 0, fun _ => true, fun _ _ => rfl⟩
instance : Wt ByteArray := ⟨fun s => s.size, fun s => decide (s.size ≤ maxLen), fun _ h => decide_eq_true h⟩
instance {A : Type} [Row A] [Wt A] : Wt (Sl A) where
  wt q := (q.getD []).length + ((q.getD []).map Wt.wt).sum
  big q := decide ((q.getD []).length ≤ maxLen) && (q.getD []).all Wt.big
  fb q h := by
    cases q with
    | none => simp
    | some l =>
      obtain ⟨h1, h2⟩ := h l rfl
      simp only [Option.getD_some, Bool.and_eq_true, decide_eq_true_eq, List.all_eq_true]
      exact ⟨h1, fun x hx => Wt.fb x (h2 x hx)⟩
@[simp] theorem wt_int (n : Int) : Wt.wt n = 0 := rfl
@[simp] theorem wt_bool (n : Bool) : Wt.wt n = 0 := rfl
@[simp] theorem wt_str (n : ByteArray) : Wt.wt n = n.size := rfl
theorem wt_sl {A : Type} [Row A] [Wt A] (q : Sl A) : Wt.wt q = (q.getD []).length + ((q.getD []).map Wt.wt).sum := rfl
theorem big_len {A : Type} [Row A] [Wt A] {q : Sl A} (h : Wt.big q = true) : (q.getD []).length ≤ maxLen := by
  have h' : (decide ((q.getD []).length ≤ maxLen) && (q.getD []).all Wt.big) = true := h
  simp only [Bool.and_eq_true, decide_eq_true_eq] at h'
  exact h'.1
def fit {A : Type} [Row A] [Wt A] (a : A) : Bool := decide (Wt.wt a ≤ 4294967296)
@[simp] theorem fit_int (n : Int) : fit n = true := rfl
@[simp] theorem fit_bool (n : Bool) : fit n = true := rfl
theorem maxLen_eq : maxLen = 9223372036854775807 := by decide
theorem tr_mono {d : Nat} : ∀ {r : AV}, tr d r = true → tr (d + 1) r = true := by
  induction d with
  | zero => intro r h; cases r <;> simp [tr] at h ⊢
  | succ d ih =>
    intro r h
    cases r <;> simp only [tr, List.all_eq_true, Bool.false_eq_true] at h ⊢
    · exact fun x hx => ih (h x hx)
    · exact fun x hx y hy => ih (h x hx y hy)
theorem tr_le {d D : Nat} {r : AV} (hd : d ≤ D) (h : tr d r = true) : tr D r = true := by
  induction hd with
  | refl => exact h
  | step _ ih => exact tr_mono ih
theorem mat_le {d : Nat} : ∀ {r : AV}, tr d r = true → ∀ D b, d ≤ D → mat D r b = mat d r b := by
  induction d with
  | zero => intro r h D b _; cases r <;> simp [tr] at h; cases D <;> rfl
  | succ d ih =>
    intro r h D b hD
    obtain ⟨D, rfl⟩ : ∃ D', D = D' + 1 := ⟨D - 1, by omega⟩
    have hl : ∀ (cs : List AV), (∀ x ∈ cs, tr d x = true) → ∀ b, kC0 (mat D) cs b = kC0 (mat d) cs b := by
      intro cs
      induction cs with
      | nil => intro _ b; rfl
      | cons c cs ih2 =>
        intro hc b
        simp only [kC0, ih (hc c (by simp)) D b (by omega), ih2 (fun x hx => hc x (by simp [hx]))]
    have hr : ∀ (rs : List (List AV)), (∀ r ∈ rs, ∀ x ∈ r, tr d x = true) → ∀ b, kCt (mat D) rs b = kCt (mat d) rs b := by
      intro rs
      induction rs with
      | nil => intro _ b; rfl
      | cons c cs ih2 =>
        intro hc b
        simp only [kCt, hl c (hc c (by simp)), ih2 (fun x hx => hc x (by simp [hx]))]
    cases r <;> simp only [tr, List.all_eq_true, Bool.false_eq_true] at h
    · rfl
    · simp only [mat, hl _ h]
    · simp only [mat, hr _ h]
class Tre (A : Type) [Row A] where
  dep : Nat
  nrow : A → List AV
  norm : A → A
  trr : ∀ a, (nrow a).all (tr dep) = true
  frr : ∀ a d, dep ≤ d → (nrow a).map (frz d) = Row.cells (norm a)
  fl : ∀ a n, ((kC0 (mat 7) (nrow a) n).1).all AV.flat = true
theorem frz_sc (d : Nat) {a : AV} (h : isSc a = true) : frz d a = a := by
  obtain ⟨v, rfl⟩ := kGe h
  cases d <;> rfl
theorem tr_sc (d : Nat) {a : AV} (h : isSc a = true) : tr d a = true := by
  obtain ⟨v, rfl⟩ := kGe h
  cases d <;> rfl
abbrev kE3 (A : Type) [Row A] [Scal A] : Tre A where
  dep := 0
  nrow := Row.cells
  norm a := a
  trr a := List.all_eq_true.2 fun c hc => tr_sc 0 (Scal.mem hc)
  frr a d _ := by
    have : (Row.cells a).map (frz d) = (Row.cells a).map id := List.map_congr_left fun c hc => frz_sc d (Scal.mem hc)
    rw [this, List.map_id]
  fl a n := by
    have h1 : kC0 (mat 7) (Row.cells a) n = (Row.cells a, []) := matL_id fun c hc b => kGk 7 b (Scal.mem hc)
    rw [h1]
    exact flat_row a
instance : Tre Int := kE3 Int
instance : Tre Bool := kE3 Bool
instance : Tre ByteArray := kE3 ByteArray
instance : Tre Box := kE3 Box
instance : Tre Spot := kE3 Spot
instance : Tre Frac := kE3 Frac
@[simp] theorem dep_int : Tre.dep Int = 0 := rfl
@[simp] theorem dep_bool : Tre.dep Bool = 0 := rfl
@[simp] theorem dep_str : Tre.dep ByteArray = 0 := rfl
@[simp] theorem dep_box : Tre.dep Box = 0 := rfl
@[simp] theorem dep_spot : Tre.dep Spot = 0 := rfl
@[simp] theorem dep_frac : Tre.dep Frac = 0 := rfl
def nws {A : Type} [Row A] [Tre A] (q : Sl A) : AV := .nw (Row.w A) ((q.getD []).map Tre.nrow)
def nag {A : Type} [Row A] [Tre A] (a : A) : AV := .agg (Tre.nrow a)
section
variable {A : Type} [Row A] [Tre A]
theorem tr_row (a : A) {d : Nat} (hd : Tre.dep A ≤ d) : ∀ c ∈ Tre.nrow a, tr d c = true := fun c hc => tr_le hd (List.all_eq_true.1 (Tre.trr a) c hc)
theorem tr_nws (q : Sl A) {d : Nat} (hd : Tre.dep A + 1 ≤ d) : tr d (nws q) = true := by
  obtain ⟨d, rfl⟩ : ∃ D', d = D' + 1 := ⟨d - 1, by omega⟩
  show ((q.getD []).map Tre.nrow).all (fun r => r.all (tr d)) = true
  rw [List.all_eq_true]
  intro r hr
  obtain ⟨a, _, rfl⟩ := List.mem_map.1 hr
  exact List.all_eq_true.2 (tr_row a (by omega))
theorem frz_nws (q : Sl A) {d : Nat} (hd : Tre.dep A + 1 ≤ d) : frz d (nws q) = Sl.enc (some ((q.getD []).map Tre.norm)) := by
  obtain ⟨d, rfl⟩ : ∃ D', d = D' + 1 := ⟨d - 1, by omega⟩
  show AV.fs (Row.w A) (((q.getD []).map Tre.nrow).map fun r => r.map (frz d)) = _
  simp only [List.map_map, Sl.enc_some]
  congr 1
  exact List.map_congr_left fun a _ => Tre.frr a d (by omega)
end
instance {A : Type} [Row A] [Tre A] : Tre (Sl A) where
  dep := Tre.dep A + 1
  nrow q := [nws q]
  norm q := some ((q.getD []).map Tre.norm)
  trr q := by simp [tr_nws]
  frr q d hd := by simp [frz_nws q hd]
  fl q n := rfl
@[simp] theorem dep_sl {A : Type} [Row A] [Tre A] : Tre.dep (Sl A) = Tre.dep A + 1 := rfl
theorem norm_sl {A : Type} [Row A] [Tre A] (q : Sl A) : Tre.norm q = some ((q.getD []).map Tre.norm) := rfl
@[simp] theorem nrow_sl {A : Type} [Row A] [Tre A] (q : Sl A) : Tre.nrow q = [nws q] := rfl
@[simp] theorem nrow_int (q : Int) : Tre.nrow q = [iv q] := rfl
@[simp] theorem nrow_bool (q : Bool) : Tre.nrow q = [bv q] := rfl
@[simp] theorem nrow_str (q : ByteArray) : Tre.nrow q = [sv q] := rfl
def mv (r : AV) (n : Nat) : AV := (mat depth r n).1
def mt (r : AV) (n : Nat) : kA4 := (mat depth r n).2
def At (H : kA4) (n : Nat) (t : kA4) : Prop := ∃ h h2, H = h ++ t ++ h2 ∧ h.length = n
theorem At.here (t x : kA4) : At (t ++ x) 0 t := ⟨[], x, by simp, rfl⟩
theorem At.all (t : kA4) : At t 0 t := ⟨[], [], by simp, rfl⟩
theorem At.cons {H t : kA4} {n : Nat} (o : AObj) (h : At H n t) : At (o :: H) (n + 1) t := by
  obtain ⟨a, b, rfl, rfl⟩ := h
  exact ⟨o :: a, b, by simp, by simp⟩
theorem At.skip {H t : kA4} {n : Nat} (l : kA4) (h : At H n t) : At (l ++ H) (n + l.length) t := by
  obtain ⟨a, b, rfl, rfl⟩ := h
  exact ⟨l ++ a, b, by simp, by simp; omega⟩
theorem At.snap {H : kA4} {r : AV} {n : Nat} (hr : tr 6 r = true) (h : At H n (mt r n)) {D : Nat} (hD : 6 ≤ D) : snap H D (mv r n) = some (frz 6 r) := by
  obtain ⟨a, b, e, rfl⟩ := h
  rw [e]
  exact ((mats 6 r hr).go depth D a.length a b (by unfold depth; omega) hD rfl).1
theorem At.flat {r : AV} (hr : tr 6 r = true) (hf : r.flat = true) (n : Nat) : (mv r n).flat = true := (mats 6 r hr).flat hf depth n (by unfold depth; omega)
@[simp] theorem flat_mv_nws {A : Type} [Row A] [Tre A] (q : Sl A) (n : Nat) : (mv (nws q) n).flat = true := rfl
@[simp] theorem cells_mv_nws {A : Type} [Row A] [Tre A] (q : Sl A) (n : Nat) : (mv (nws q) n).cells = [mv (nws q) n] := rfl
theorem matL_len (m : AV → Nat → AV × kA4) : ∀ (l : List AV) (b : Nat), (kC0 m l b).1.length = l.length
  | [], _ => rfl
  | r :: l, b => by simp [kC0, matL_len m l]
theorem nrow_len {A : Type} [Row A] [Tre A] (a : A) : (Tre.nrow a).length = Row.w A := by
  have := congrArg List.length (Tre.frr a (Tre.dep A) (Nat.le_refl _))
  rw [List.length_map, Row.len] at this
  exact this
@[simp] theorem mc_len {A : Type} [Row A] [Tre A] (a : A) (n : Nat) : (mv (nag a) n).cells.length = Row.w A := by
  show (kC0 (mat 7) (Tre.nrow a) n).1.length = _
  rw [matL_len, nrow_len]
@[simp] theorem mc_flat {A : Type} [Row A] [Tre A] (a : A) (n : Nat) : (mv (nag a) n).cells.all AV.flat = true := Tre.fl a n
@[simp] theorem mc_flat' {A : Type} [Row A] [Tre A] (a : A) (n : Nat) (x : AV) (h : x ∈ (mv (nag a) n).cells) : x.flat = true := List.all_eq_true.1 (mc_flat a n) x h
@[simp] theorem mc_flat2 {A : Type} [Row A] [Tre A] (a : A) (n : Nat) : (∀ x, x ∈ (mv (nag a) n).cells → x.flat = true) = True := eq_true (mc_flat' a n)
@[simp] theorem mc_take {A : Type} [Row A] [Tre A] (a : A) (n k : Nat) (h : Row.w A ≤ k) : (mv (nag a) n).cells.take k = (mv (nag a) n).cells := List.take_of_length_le (by rw [mc_len]; exact h)
@[simp] theorem mc_agg {A : Type} [Row A] [Tre A] (a : A) (n : Nat) : AV.agg (mv (nag a) n).cells = mv (nag a) n := rfl
class Agg (A : Type) [Cod A] [Row A] : Prop where
  agg : ∀ a : A, enc a = .agg (Row.cells a)
instance : Agg Box := ⟨fun _ => rfl⟩
instance : Agg Spot := ⟨fun _ => rfl⟩
instance : Agg Frac := ⟨fun _ => rfl⟩
class Elem (A : Type) [Row A] [Tre A] where
  nv : A → AV
  hc : ∀ a n, Tre.dep A ≤ 5 → (mv (nv a) n).cells = (kC0 (mat 7) (Tre.nrow a) n).1
  ht : ∀ a n, Tre.dep A ≤ 5 → mt (nv a) n = (kC0 (mat 7) (Tre.nrow a) n).2
instance : Elem Int := ⟨iv, fun _ _ _ => rfl, fun _ _ _ => rfl⟩
instance : Elem Bool := ⟨bv, fun _ _ _ => rfl, fun _ _ _ => rfl⟩
instance : Elem ByteArray := ⟨sv, fun _ _ _ => rfl, fun _ _ _ => rfl⟩
instance {A : Type} [Row A] [Tre A] : Elem (Sl A) where
  nv := nws
  hc q n hd := by
    have : mat 7 (nws q) n = mat 8 (nws q) n := by rw [mat_le (tr_nws q (Nat.le_refl _)) 7 n (by simp at hd; omega), mat_le (tr_nws q (Nat.le_refl _)) 8 n (by simp at hd; omega)]
    simp [kC0, this]
    rfl
  ht q n hd := by
    have : mat 7 (nws q) n = mat 8 (nws q) n := by rw [mat_le (tr_nws q (Nat.le_refl _)) 7 n (by simp at hd; omega), mat_le (tr_nws q (Nat.le_refl _)) 8 n (by simp at hd; omega)]
    simp [kC0, this]
    rfl
abbrev kEd (A : Type) [Row A] [Tre A] : Elem A := ⟨nag, fun _ _ _ => rfl, fun _ _ _ => rfl⟩
instance : Elem Box := kEd Box
instance : Elem Spot := kEd Spot
instance : Elem Frac := kEd Frac
@[simp] theorem nv_int (n : Int) : Elem.nv n = iv n := rfl
@[simp] theorem nv_bool (n : Bool) : Elem.nv n = bv n := rfl
@[simp] theorem nv_str (n : ByteArray) : Elem.nv n = sv n := rfl
@[simp] theorem nv_sl {A : Type} [Row A] [Tre A] (q : Sl A) : Elem.nv q = nws q := rfl
@[simp] theorem mv_iv (n : Int) (m : Nat) : mv (iv n) m = iv n := rfl
@[simp] theorem mv_bv (n : Bool) (m : Nat) : mv (bv n) m = bv n := rfl
@[simp] theorem mv_sv (n : ByteArray) (m : Nat) : mv (sv n) m = sv n := rfl
@[simp] theorem mt_iv (n : Int) (m : Nat) : mt (iv n) m = [] := rfl
@[simp] theorem mt_bv (n : Bool) (m : Nat) : mt (bv n) m = [] := rfl
@[simp] theorem mt_sv (n : ByteArray) (m : Nat) : mt (sv n) m = [] := rfl
end Go.Eng
