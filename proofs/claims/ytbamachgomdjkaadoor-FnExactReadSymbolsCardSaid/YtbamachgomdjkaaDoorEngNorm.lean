/-
  THE ENGINE, PART 29: values with tables in them: their weight, and the trees that copy them.
-/
import Derived.Test.YtbamachgomdjkaaDoorEngTree
namespace Go.Eng
set_option linter.unusedVariables false
set_option linter.unusedSimpArgs false
open Cod (enc dec)

/-- The weight of a value: rows of its tables and bytes of its strings. -/
class Wt (A : Type) [Row A] where
  wt : A → Nat
  big : A → Bool
  fb : ∀ a, Row.fine a → big a = true
instance : Wt Int := ⟨fun _ => 0, fun _ => true, fun _ _ => rfl⟩
instance : Wt Bool := ⟨fun _ => 0, fun _ => true, fun _ _ => rfl⟩
instance : Wt ByteArray := ⟨fun s => s.size, fun s => decide (s.size ≤ maxLen), fun _ h => decide_eq_true h⟩
instance {A : Type} [Row A] [Wt A] : Wt (Sl A) where
  wt q := (q.getD []).length + ((q.getD []).map Wt.wt).sum
  big q := decide ((q.getD []).length ≤ maxLen) && (q.getD []).all Wt.big
  fb q h := by
    cases q with
    | none => simp
    | some l =>
      obtain ⟨h1, h2⟩ := h l rfl
      simp only [Option.getD_some, Bool.and_eq_true, decide_eq_true_eq, List.all_eq_true]
      exact ⟨h1, fun x hx => Wt.fb x (h2 x hx)⟩
@[simp] theorem wt_int (n : Int) : Wt.wt n = 0 := rfl
@[simp] theorem wt_bool (n : Bool) : Wt.wt n = 0 := rfl
@[simp] theorem wt_str (n : ByteArray) : Wt.wt n = n.size := rfl
theorem wt_sl {A : Type} [Row A] [Wt A] (q : Sl A) : Wt.wt q = (q.getD []).length + ((q.getD []).map Wt.wt).sum := rfl
theorem wt_len {A : Type} [Row A] [Wt A] (q : Sl A) : (q.getD []).length ≤ Wt.wt q := by rw [wt_sl]; omega
theorem sum_mem {l : List Nat} {x : Nat} (h : x ∈ l) : x ≤ l.sum := by
  induction l with
  | nil => cases h
  | cons a l ih =>
    simp only [List.sum_cons]
    rcases List.mem_cons.1 h with rfl | h
    · omega
    · have := ih h; omega
theorem wt_mem {A : Type} [Row A] [Wt A] {q : Sl A} {a : A} (h : a ∈ q.getD []) : Wt.wt a ≤ Wt.wt q := by
  rw [wt_sl]
  have := sum_mem (List.mem_map_of_mem (f := Wt.wt) h)
  omega
theorem big_len {A : Type} [Row A] [Wt A] {q : Sl A} (h : Wt.big q = true) : (q.getD []).length ≤ maxLen := by
  have h' : (decide ((q.getD []).length ≤ maxLen) && (q.getD []).all Wt.big) = true := h
  simp only [Bool.and_eq_true, decide_eq_true_eq] at h'
  exact h'.1
theorem big_mem {A : Type} [Row A] [Wt A] {q : Sl A} (h : Wt.big q = true) {a : A} (ha : a ∈ q.getD []) : Wt.big a = true := by
  have h' : (decide ((q.getD []).length ≤ maxLen) && (q.getD []).all Wt.big) = true := h
  simp only [Bool.and_eq_true, List.all_eq_true] at h'
  exact h'.2 a ha

/-- It is not too big. -/
def fit {A : Type} [Row A] [Wt A] (a : A) : Bool := decide (Wt.wt a ≤ 4294967296)
theorem fit_iff {A : Type} [Row A] [Wt A] (a : A) : fit a = true ↔ Wt.wt a ≤ 4294967296 := by simp [fit]
@[simp] theorem fit_int (n : Int) : fit n = true := rfl
@[simp] theorem fit_bool (n : Bool) : fit n = true := rfl
theorem maxLen_eq : maxLen = 9223372036854775807 := by decide
theorem fit_len {A : Type} [Row A] [Wt A] {q : Sl A} (h : fit q = true) : (q.getD []).length ≤ 4294967296 := by
  rw [fit_iff] at h
  have := wt_len q
  omega
theorem fit_max {A : Type} [Row A] [Wt A] {q : Sl A} (h : fit q = true) : (q.getD []).length ≤ maxLen := by
  have := fit_len h
  rw [maxLen_eq]
  omega
theorem fit_mem {A : Type} [Row A] [Wt A] {q : Sl A} {a : A} (h : fit q = true) (ha : a ∈ q.getD []) : fit a = true := by
  rw [fit_iff] at *
  have := wt_mem ha
  omega

/-! ### Copies -/

theorem tr_mono {d : Nat} : ∀ {r : AV}, tr d r = true → tr (d + 1) r = true := by
  induction d with
  | zero => intro r h; cases r <;> simp [tr] at h ⊢
  | succ d ih =>
    intro r h
    cases r <;> simp only [tr, List.all_eq_true, Bool.false_eq_true] at h ⊢
    · exact fun x hx => ih (h x hx)
    · exact fun x hx y hy => ih (h x hx y hy)
theorem tr_le {d D : Nat} {r : AV} (hd : d ≤ D) (h : tr d r = true) : tr D r = true := by
  induction hd with
  | refl => exact h
  | step _ ih => exact tr_mono ih
theorem frz_le {d : Nat} : ∀ {r : AV}, tr d r = true → ∀ D, d ≤ D → frz D r = frz d r := by
  induction d with
  | zero => intro r h D _; cases r <;> simp [tr] at h; cases D <;> rfl
  | succ d ih =>
    intro r h D hD
    obtain ⟨D, rfl⟩ : ∃ D', D = D' + 1 := ⟨D - 1, by omega⟩
    cases r <;> simp only [tr, List.all_eq_true, Bool.false_eq_true] at h
    · rfl
    · simp only [frz]
      congr 1
      exact List.map_congr_left fun x hx => ih (h x hx) D (by omega)
    · simp only [frz]
      congr 1
      exact List.map_congr_left fun x hx => List.map_congr_left fun y hy => ih (h x hx y hy) D (by omega)
theorem mat_le {d : Nat} : ∀ {r : AV}, tr d r = true → ∀ D b, d ≤ D → mat D r b = mat d r b := by
  induction d with
  | zero => intro r h D b _; cases r <;> simp [tr] at h; cases D <;> rfl
  | succ d ih =>
    intro r h D b hD
    obtain ⟨D, rfl⟩ : ∃ D', D = D' + 1 := ⟨D - 1, by omega⟩
    have hl : ∀ (cs : List AV), (∀ x ∈ cs, tr d x = true) → ∀ b, matL (mat D) cs b = matL (mat d) cs b := by
      intro cs
      induction cs with
      | nil => intro _ b; rfl
      | cons c cs ih2 =>
        intro hc b
        simp only [matL, ih (hc c (by simp)) D b (by omega), ih2 (fun x hx => hc x (by simp [hx]))]
    have hr : ∀ (rs : List (List AV)), (∀ r ∈ rs, ∀ x ∈ r, tr d x = true) → ∀ b, matR (mat D) rs b = matR (mat d) rs b := by
      intro rs
      induction rs with
      | nil => intro _ b; rfl
      | cons c cs ih2 =>
        intro hc b
        simp only [matR, hl c (hc c (by simp)), ih2 (fun x hx => hc x (by simp [hx]))]
    cases r <;> simp only [tr, List.all_eq_true, Bool.false_eq_true] at h
    · rfl
    · simp only [mat, hl _ h]
    · simp only [mat, hr _ h]

/-- How a value is copied: the cells of the copy, as new memory; what the copy is. -/
class Tre (A : Type) [Row A] where
  dep : Nat
  nrow : A → List AV
  norm : A → A
  trr : ∀ a, (nrow a).all (tr dep) = true
  frr : ∀ a d, dep ≤ d → (nrow a).map (frz d) = Row.cells (norm a)
  fl : ∀ a n, ((matL (mat 7) (nrow a) n).1).all AV.flat = true
theorem frz_sc (d : Nat) {a : AV} (h : isSc a = true) : frz d a = a := by
  obtain ⟨v, rfl⟩ := isSc_ex h
  cases d <;> rfl
theorem tr_sc (d : Nat) {a : AV} (h : isSc a = true) : tr d a = true := by
  obtain ⟨v, rfl⟩ := isSc_ex h
  cases d <;> rfl
/-- Rows of scalars are copied as they are. -/
abbrev scalTre (A : Type) [Row A] [Scal A] : Tre A where
  dep := 0
  nrow := Row.cells
  norm a := a
  trr a := List.all_eq_true.2 fun c hc => tr_sc 0 (Scal.mem hc)
  frr a d _ := by
    have : (Row.cells a).map (frz d) = (Row.cells a).map id := List.map_congr_left fun c hc => frz_sc d (Scal.mem hc)
    rw [this, List.map_id]
  fl a n := by
    have h1 : matL (mat 7) (Row.cells a) n = (Row.cells a, []) := matL_id fun c hc b => mat_sc 7 b (Scal.mem hc)
    rw [h1]
    exact flat_row a
instance : Tre Int := scalTre Int
instance : Tre Bool := scalTre Bool
instance : Tre ByteArray := scalTre ByteArray
instance : Tre Box := scalTre Box
instance : Tre Spot := scalTre Spot
instance : Tre Frac := scalTre Frac
@[simp] theorem dep_int : Tre.dep Int = 0 := rfl
@[simp] theorem dep_bool : Tre.dep Bool = 0 := rfl
@[simp] theorem dep_str : Tre.dep ByteArray = 0 := rfl
@[simp] theorem dep_box : Tre.dep Box = 0 := rfl
@[simp] theorem dep_spot : Tre.dep Spot = 0 := rfl
@[simp] theorem dep_frac : Tre.dep Frac = 0 := rfl

/-- A copied table. -/
def nws {A : Type} [Row A] [Tre A] (q : Sl A) : AV := .nw (Row.w A) ((q.getD []).map Tre.nrow)
def nag {A : Type} [Row A] [Tre A] (a : A) : AV := .agg (Tre.nrow a)

section
variable {A : Type} [Row A] [Tre A]
theorem tr_row (a : A) {d : Nat} (hd : Tre.dep A ≤ d) : ∀ c ∈ Tre.nrow a, tr d c = true := fun c hc => tr_le hd (List.all_eq_true.1 (Tre.trr a) c hc)
theorem tr_nws (q : Sl A) {d : Nat} (hd : Tre.dep A + 1 ≤ d) : tr d (nws q) = true := by
  obtain ⟨d, rfl⟩ : ∃ D', d = D' + 1 := ⟨d - 1, by omega⟩
  show ((q.getD []).map Tre.nrow).all (fun r => r.all (tr d)) = true
  rw [List.all_eq_true]
  intro r hr
  obtain ⟨a, _, rfl⟩ := List.mem_map.1 hr
  exact List.all_eq_true.2 (tr_row a (by omega))
theorem tr_nag (a : A) {d : Nat} (hd : Tre.dep A + 1 ≤ d) : tr d (nag a) = true := by
  obtain ⟨d, rfl⟩ : ∃ D', d = D' + 1 := ⟨d - 1, by omega⟩
  exact List.all_eq_true.2 (tr_row a (by omega))
theorem frz_nws (q : Sl A) {d : Nat} (hd : Tre.dep A + 1 ≤ d) : frz d (nws q) = Sl.enc (some ((q.getD []).map Tre.norm)) := by
  obtain ⟨d, rfl⟩ : ∃ D', d = D' + 1 := ⟨d - 1, by omega⟩
  show AV.fs (Row.w A) (((q.getD []).map Tre.nrow).map fun r => r.map (frz d)) = _
  simp only [List.map_map, Sl.enc_some]
  congr 1
  exact List.map_congr_left fun a _ => Tre.frr a d (by omega)
theorem frz_nag (a : A) {d : Nat} (hd : Tre.dep A + 1 ≤ d) : frz d (nag a) = .agg (Row.cells (Tre.norm a)) := by
  obtain ⟨d, rfl⟩ : ∃ D', d = D' + 1 := ⟨d - 1, by omega⟩
  show AV.agg ((Tre.nrow a).map (frz d)) = _
  rw [Tre.frr a d (by omega)]
end
instance {A : Type} [Row A] [Tre A] : Tre (Sl A) where
  dep := Tre.dep A + 1
  nrow q := [nws q]
  norm q := some ((q.getD []).map Tre.norm)
  trr q := by simp [tr_nws]
  frr q d hd := by simp [frz_nws q hd]
  fl q n := rfl
@[simp] theorem dep_sl {A : Type} [Row A] [Tre A] : Tre.dep (Sl A) = Tre.dep A + 1 := rfl
theorem norm_sl {A : Type} [Row A] [Tre A] (q : Sl A) : Tre.norm q = some ((q.getD []).map Tre.norm) := rfl
@[simp] theorem nrow_sl {A : Type} [Row A] [Tre A] (q : Sl A) : Tre.nrow q = [nws q] := rfl
@[simp] theorem nrow_int (q : Int) : Tre.nrow q = [iv q] := rfl
@[simp] theorem nrow_bool (q : Bool) : Tre.nrow q = [bv q] := rfl
@[simp] theorem nrow_str (q : ByteArray) : Tre.nrow q = [sv q] := rfl

/-! ### What is materialized -/

def mv (r : AV) (n : Nat) : AV := (mat depth r n).1
def mt (r : AV) (n : Nat) : Heap := (mat depth r n).2

theorem hand_mv {r : AV} (h : tr 6 r = true) (ok : Bool) (hp : Heap) : hand r ok hp = some (mv r hp.length, hp ++ mt r hp.length) := by
  unfold hand mv mt
  rw [(mats 6 r h).noF depth (by unfold depth; omega)]
  rfl
/-- In the heap `H`, from `n` on, lies `t`. -/
def At (H : Heap) (n : Nat) (t : Heap) : Prop := ∃ h h2, H = h ++ t ++ h2 ∧ h.length = n
theorem At.here (t x : Heap) : At (t ++ x) 0 t := ⟨[], x, by simp, rfl⟩
theorem At.all (t : Heap) : At t 0 t := ⟨[], [], by simp, rfl⟩
theorem At.cons {H t : Heap} {n : Nat} (o : AObj) (h : At H n t) : At (o :: H) (n + 1) t := by
  obtain ⟨a, b, rfl, rfl⟩ := h
  exact ⟨o :: a, b, by simp, by simp⟩
theorem At.skip {H t : Heap} {n : Nat} (l : Heap) (h : At H n t) : At (l ++ H) (n + l.length) t := by
  obtain ⟨a, b, rfl, rfl⟩ := h
  exact ⟨l ++ a, b, by simp, by simp; omega⟩
theorem At.app {H t : Heap} {n : Nat} (x : Heap) (h : At H n t) : At (H ++ x) n t := by
  obtain ⟨a, b, rfl, rfl⟩ := h
  exact ⟨a, b ++ x, by simp, rfl⟩
theorem At.snap {H : Heap} {r : AV} {n : Nat} (hr : tr 6 r = true) (h : At H n (mt r n)) {D : Nat} (hD : 6 ≤ D) : snap H D (mv r n) = some (frz 6 r) := by
  obtain ⟨a, b, e, rfl⟩ := h
  rw [e]
  exact ((mats 6 r hr).go depth D a.length a b (by unfold depth; omega) hD rfl).1
theorem At.rels {H : Heap} {r : AV} {n : Nat} (hr : tr 6 r = true) (h : At H n (mt r n)) {D : Nat} (hD : 6 ≤ D) : Rels H D (mv r n) r n (n + (mt r n).length) := by
  obtain ⟨a, b, e, rfl⟩ := h
  rw [e]
  exact ((mats 6 r hr).go depth D a.length a b (by unfold depth; omega) hD rfl).2
theorem At.flat {r : AV} (hr : tr 6 r = true) (hf : r.flat = true) (n : Nat) : (mv r n).flat = true := (mats 6 r hr).flat hf depth n (by unfold depth; omega)
@[simp] theorem flat_mv_nws {A : Type} [Row A] [Tre A] (q : Sl A) (n : Nat) : (mv (nws q) n).flat = true := rfl
@[simp] theorem cells_mv_nws {A : Type} [Row A] [Tre A] (q : Sl A) (n : Nat) : (mv (nws q) n).cells = [mv (nws q) n] := rfl

theorem matL_len (m : AV → Nat → AV × Heap) : ∀ (l : List AV) (b : Nat), (matL m l b).1.length = l.length
  | [], _ => rfl
  | r :: l, b => by simp [matL, matL_len m l]
theorem nrow_len {A : Type} [Row A] [Tre A] (a : A) : (Tre.nrow a).length = Row.w A := by
  have := congrArg List.length (Tre.frr a (Tre.dep A) (Nat.le_refl _))
  rw [List.length_map, Row.len] at this
  exact this
@[simp] theorem mc_len {A : Type} [Row A] [Tre A] (a : A) (n : Nat) : (mv (nag a) n).cells.length = Row.w A := by
  show (matL (mat 7) (Tre.nrow a) n).1.length = _
  rw [matL_len, nrow_len]
@[simp] theorem mc_flat {A : Type} [Row A] [Tre A] (a : A) (n : Nat) : (mv (nag a) n).cells.all AV.flat = true := Tre.fl a n
@[simp] theorem mc_flat' {A : Type} [Row A] [Tre A] (a : A) (n : Nat) (x : AV) (h : x ∈ (mv (nag a) n).cells) : x.flat = true := List.all_eq_true.1 (mc_flat a n) x h
@[simp] theorem mc_flat2 {A : Type} [Row A] [Tre A] (a : A) (n : Nat) : (∀ x, x ∈ (mv (nag a) n).cells → x.flat = true) = True := eq_true (mc_flat' a n)
@[simp] theorem mc_take {A : Type} [Row A] [Tre A] (a : A) (n k : Nat) (h : Row.w A ≤ k) : (mv (nag a) n).cells.take k = (mv (nag a) n).cells := List.take_of_length_le (by rw [mc_len]; exact h)
@[simp] theorem mc_agg {A : Type} [Row A] [Tre A] (a : A) (n : Nat) : AV.agg (mv (nag a) n).cells = mv (nag a) n := rfl

/-- A struct: its value is the group of its cells. -/
class Agg (A : Type) [Cod A] [Row A] : Prop where
  agg : ∀ a : A, enc a = .agg (Row.cells a)
instance : Agg Box := ⟨fun _ => rfl⟩
instance : Agg Spot := ⟨fun _ => rfl⟩
instance : Agg Frac := ⟨fun _ => rfl⟩

theorem snapD_nws {A : Type} [Row A] [Tre A] (q : Sl A) {H : Heap} {n : Nat} (hd : Tre.dep A + 1 ≤ 6) (h : At H n (mt (nws q) n)) : snapD H (mv (nws q) n) = some (Tre.norm q) := by
  unfold snapD
  rw [h.snap (tr_nws q hd) (by unfold depth; omega), frz_nws q hd]
  exact Sl.de (Tre.norm q)
theorem snapD_nag {A : Type} [Row A] [Tre A] [Cod A] [Agg A] (a : A) {H : Heap} {n : Nat} (hd : Tre.dep A + 1 ≤ 6) (h : At H n (mt (nag a) n)) : snapD H (mv (nag a) n) = some (Tre.norm a) := by
  unfold snapD
  rw [h.snap (tr_nag a hd) (by unfold depth; omega), frz_nag a hd, ← Agg.agg (Tre.norm a)]
  exact Cod.de _
theorem hand_nws {A : Type} [Row A] [Tre A] (q : Sl A) (hd : Tre.dep A + 1 ≤ 6) (ok : Bool) (hp : Heap) : hand (nws q) ok hp = some (mv (nws q) hp.length, hp ++ mt (nws q) hp.length) := hand_mv (tr_nws q hd) ok hp
theorem hand_nag {A : Type} [Row A] [Tre A] (a : A) (hd : Tre.dep A + 1 ≤ 6) (ok : Bool) (hp : Heap) : hand (nag a) ok hp = some (mv (nag a) hp.length, hp ++ mt (nag a) hp.length) := hand_mv (tr_nag a hd) ok hp

/-! ### The loop that copies a table -/

/-- The value that is copied into one row. -/
class Elem (A : Type) [Row A] [Tre A] where
  nv : A → AV
  hc : ∀ a n, Tre.dep A ≤ 5 → (mv (nv a) n).cells = (matL (mat 7) (Tre.nrow a) n).1
  ht : ∀ a n, Tre.dep A ≤ 5 → mt (nv a) n = (matL (mat 7) (Tre.nrow a) n).2
instance : Elem Int := ⟨iv, fun _ _ _ => rfl, fun _ _ _ => rfl⟩
instance : Elem Bool := ⟨bv, fun _ _ _ => rfl, fun _ _ _ => rfl⟩
instance : Elem ByteArray := ⟨sv, fun _ _ _ => rfl, fun _ _ _ => rfl⟩
instance {A : Type} [Row A] [Tre A] : Elem (Sl A) where
  nv := nws
  hc q n hd := by
    have : mat 7 (nws q) n = mat 8 (nws q) n := by rw [mat_le (tr_nws q (Nat.le_refl _)) 7 n (by simp at hd; omega), mat_le (tr_nws q (Nat.le_refl _)) 8 n (by simp at hd; omega)]
    simp [matL, this]
    rfl
  ht q n hd := by
    have : mat 7 (nws q) n = mat 8 (nws q) n := by rw [mat_le (tr_nws q (Nat.le_refl _)) 7 n (by simp at hd; omega), mat_le (tr_nws q (Nat.le_refl _)) 8 n (by simp at hd; omega)]
    simp [matL, this]
    rfl
abbrev aggElem (A : Type) [Row A] [Tre A] : Elem A := ⟨nag, fun _ _ _ => rfl, fun _ _ _ => rfl⟩
instance : Elem Box := aggElem Box
instance : Elem Spot := aggElem Spot
instance : Elem Frac := aggElem Frac
@[simp] theorem nv_int (n : Int) : Elem.nv n = iv n := rfl
@[simp] theorem nv_bool (n : Bool) : Elem.nv n = bv n := rfl
@[simp] theorem nv_str (n : ByteArray) : Elem.nv n = sv n := rfl
@[simp] theorem nv_sl {A : Type} [Row A] [Tre A] (q : Sl A) : Elem.nv q = nws q := rfl
@[simp] theorem mv_iv (n : Int) (m : Nat) : mv (iv n) m = iv n := rfl
@[simp] theorem mv_bv (n : Bool) (m : Nat) : mv (bv n) m = bv n := rfl
@[simp] theorem mv_sv (n : ByteArray) (m : Nat) : mv (sv n) m = sv n := rfl
@[simp] theorem mt_iv (n : Int) (m : Nat) : mt (iv n) m = [] := rfl
@[simp] theorem mt_bv (n : Bool) (m : Nat) : mt (bv n) m = [] := rfl
@[simp] theorem mt_sv (n : ByteArray) (m : Nat) : mt (sv n) m = [] := rfl

theorem matR_snoc (m : AV → Nat → AV × Heap) : ∀ (rs : List (List AV)) (r : List AV) (b : Nat), matR m (rs ++ [r]) b = ((matR m rs b).1 ++ [(matL m r (b + (matR m rs b).2.length)).1], (matR m rs b).2 ++ (matL m r (b + (matR m rs b).2.length)).2)
  | [], r, b => by simp [matR]
  | x :: rs, r, b => by simp [matR, matR_snoc m rs, Nat.add_assoc]

/-- Row `i` of a new table, which is being filled. -/
theorem fill_addr {w i k n : Nat} {rows objs : _} {z : List AV} (hi : rows.length = i) (hn : i + 1 + k = n) :
    aIndexAddr w (.sl 0 n 0 n) (iv (i : Int)) ((⟨w, rows ++ z :: List.replicate k z⟩ : AObj) :: objs) = some (.ptr 0 n i 0) := by
  subst hi hn
  have h1 : idx (iv (rows.length : Int)) (rows.length + 1 + k) = some rows.length := idx_lt (by omega)
  simp only [aIndexAddr, List.getElem?_cons_zero, List.length_append, List.length_cons, List.length_replicate, h1]
  rw [if_pos (by refine ⟨by omega, ?_⟩; trivial)]
  simp
theorem fill_store {w i k n : Nat} {rows objs : _} {z : List AV} {v : AV} (hi : rows.length = i) (hn : i + 1 + k = n) (hz : z.length = w) (hv : v.cells.length = w) (hf : v.cells.all AV.flat = true) :
    aStore w (.ptr 0 n i 0) v ((⟨w, rows ++ z :: List.replicate k z⟩ : AObj) :: objs) = some (⟨w, (rows ++ [v.cells]) ++ List.replicate k z⟩ :: objs) := by
  subst hi hn hz
  have h1 : (rows ++ z :: List.replicate k z)[rows.length]? = some z := by simp
  simp only [aStore, List.getElem?_cons_zero, List.length_append, List.length_cons, List.length_replicate, h1]
  rw [if_pos (by omega), if_pos ⟨hv, by omega, hf⟩]
  simp [splice, hv]

theorem zrows_eq (z : List AV) (n : Nat) : zrows z n = List.replicate n z := rfl

theorem loop_fill {A R : Type} [Row A] [Tre A] [Elem A] (hd : Tre.dep A ≤ 5) (l : List A) {hm xm : List Bool} {body : TM → Heap → Option Res} {K : Res → Option R} (z : List AV) (st : Nat → TM)
    (step : ∀ (pre : List A) (a : A) (suf : List A) (rows : List (List AV)) (objs : Heap), l = pre ++ a :: suf → rows.length = pre.length →
      obind (loopP hm xm body (st pre.length) (⟨Row.w A, rows ++ z :: List.replicate suf.length z⟩ :: objs)) K
      = obind (loopP hm xm body (st (pre.length + 1)) (⟨Row.w A, (rows ++ [(mv (Elem.nv a) (objs.length + 1)).cells]) ++ List.replicate suf.length z⟩ :: (objs ++ mt (Elem.nv a) (objs.length + 1)))) K) :
    obind (loopP hm xm body (st 0) [⟨Row.w A, List.replicate l.length z⟩]) K = obind (loopP hm xm body (st l.length) (mt (nws (some l)) 0)) K := by
  have key : ∀ (suf pre : List A), l = pre ++ suf → 
      obind (loopP hm xm body (st pre.length) (⟨Row.w A, (matR (mat 7) (pre.map Tre.nrow) 1).1 ++ List.replicate suf.length z⟩ :: (matR (mat 7) (pre.map Tre.nrow) 1).2)) K
      = obind (loopP hm xm body (st l.length) (mt (nws (some l)) 0)) K := by
    intro suf
    induction suf with
    | nil =>
      intro pre hl
      simp only [List.append_nil] at hl
      subst hl
      have : mt (nws (some l)) 0 = ⟨Row.w A, (matR (mat 7) (l.map Tre.nrow) 1).1⟩ :: (matR (mat 7) (l.map Tre.nrow) 1).2 := rfl
      rw [this]
      simp
    | cons a suf ih =>
      intro pre hl
      have h1 := step pre a suf (matR (mat 7) (pre.map Tre.nrow) 1).1 (matR (mat 7) (pre.map Tre.nrow) 1).2 hl (by simp [matR_len])
      have h2 := ih (pre ++ [a]) (by simp [hl])
      rw [List.map_append, List.map_cons, List.map_nil, matR_snoc, List.length_append] at h2
      simp only [List.length_cons, List.length_nil, Nat.zero_add] at h2
      rw [Elem.hc a _ hd, Elem.ht a _ hd, Nat.add_comm (matR (mat 7) (pre.map Tre.nrow) 1).2.length 1] at h1
      rw [List.length_cons, List.replicate_succ, h1]
      exact h2
  exact key l [] rfl
theorem release_nws {A : Type} [Row A] [Tre A] (hd : Tre.dep A + 1 ≤ 6) (q : Sl A) : release (mt (nws q) 0) depth (.sl 0 (q.getD []).length 0 (q.getD []).length) = some (nws q) := by
  have h := (At.rels (tr_nws q hd) (At.all (mt (nws q) 0)) (D := depth) (by unfold depth; omega)).release
  have e : mv (nws q) 0 = .sl 0 (q.getD []).length 0 (q.getD []).length := by
    show AV.sl 0 ((q.getD []).map Tre.nrow).length 0 ((q.getD []).map Tre.nrow).length = _
    simp
  rw [e] at h
  exact h
end Go.Eng
