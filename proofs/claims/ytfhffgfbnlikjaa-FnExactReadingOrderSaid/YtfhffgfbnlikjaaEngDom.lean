import Derived.Test.YtfhffgfbnlikjaaEngCod
namespace Go.Eng
set_option linter.unusedVariables false
set_option linter.unusedSimpArgs false
open Cod (enc dec)
class Row (A : Type) where
  w : Nat
  cells : A → List AV
  uncells : List AV → Option A
  un : ∀ a, uncells (cells a) = some a
  nu : ∀ cs a, uncells cs = some a → cs = cells a
  len : ∀ a, (cells a).length = w
  fine : A → Prop
def i64 (n : Int) : Prop := -9223372036854775808 ≤ n ∧ n ≤ 9223372036854775807
theorem fine_int {n : Int} (h : (Lit.int .i64 n).wf = true) : i64 n := by
  simp only [Lit.wf, Bool.and_eq_true, decide_eq_true_eq] at h
  exact h
instance : Row Int where
  w := 1
  cells n := [iv n]
  uncells | [.sc (.int .i64 n)] => some n | _ => none
  un _ := rfl
  nu x a h := by
    split at h
    · cases h; rfl
    · cases h
  len _ := rfl
  fine := i64
instance : Row Bool where
  w := 1
  cells n := [bv n]
  uncells | [.sc (.bool n)] => some n | _ => none
  un _ := rfl
  nu x a h := by
    split at h
    · cases h; rfl
    · cases h
  len _ := rfl
  fine _ := True
instance : Row ByteArray where
  w := 1
  cells n := [sv n]
  uncells | [.sc (.string n)] => some n | _ => none
  un _ := rfl
  nu x a h := by
    split at h
    · cases h; rfl
    · cases h
  len _ := rfl
  fine s := s.size ≤ maxLen
abbrev Sl (A : Type) := Option (List A)
def Sl.enc {A : Type} [Row A] : Sl A → AV
  | none => kBd
  | some l => .fs (Row.w A) (l.map Row.cells)
def Sl.dec {A : Type} [Row A] : AV → Option (Sl A)
  | .sc (.slice none 0 0) => some none
  | .fs k rows => if k = Row.w A then match kBb (Row.uncells (A := A)) rows with
    | some l => some (some l)
    | none => none else none
  | _ => none
theorem omap_un {A : Type} [Row A] : ∀ l : List A, kBb Row.uncells (l.map Row.cells) = some l
  | [] => rfl
  | a :: l => by simp [kBb, Row.un, omap_un l]
theorem omap_nu {A : Type} [Row A] : ∀ (rows : List (List AV)) (l : List A), kBb Row.uncells rows = some l → rows = l.map Row.cells
  | [], l, h => by simp [kBb] at h; subst h; rfl
  | r :: rows, l, h => by
    simp only [kBb] at h
    split at h
    · rename_i a ha
      split at h
      · rename_i l' hl
        cases h
        rw [List.map_cons, ← omap_nu rows l' hl, Row.nu _ _ ha]
      · cases h
    · cases h
theorem Sl.de {A : Type} [Row A] (a : Sl A) : Sl.dec (Sl.enc a) = some a := by
  cases a with
  | none => rfl
  | some l => simp [Sl.enc, Sl.dec, omap_un]
theorem Sl.ed {A : Type} [Row A] (x : AV) (a : Sl A) (h : Sl.dec x = some a) : x = Sl.enc a := by
  unfold Sl.dec at h
  split at h
  · cases h; rfl
  · split at h
    · split at h
      · rename_i l hl
        cases h
        rename_i hk _
        subst hk
        rw [omap_nu _ _ hl]
        rfl
      · cases h
    · cases h
  · cases h
instance {A : Type} [Row A] : Cod (Sl A) where
  enc := Sl.enc
  dec := Sl.dec
  de := Sl.de
  ed := Sl.ed
instance {A : Type} [Row A] : Row (Sl A) where
  w := 1
  cells s := [Sl.enc s]
  uncells | [x] => Sl.dec x | _ => none
  un a := Sl.de a
  nu x a h := by
    split at h
    · rw [Sl.ed _ _ h]
    · cases h
  len _ := rfl
  fine s := ∀ l, s = some l → l.length ≤ maxLen ∧ ∀ x ∈ l, Row.fine x
theorem Sl.isC {A : Type} [Row A] {k : Nat} {rows : List (List AV)} (hk : k = Row.w A) (hn : rows.length ≤ maxLen) (h : ∀ row ∈ rows, ∃ x : A, row = Row.cells x ∧ Row.fine x) :
    ∃ x : Sl A, [AV.fs k rows] = Row.cells x ∧ Row.fine x := by
  have key : ∀ rows : List (List AV), (∀ row ∈ rows, ∃ x : A, row = Row.cells x ∧ Row.fine x) → ∃ l : List A, rows = l.map Row.cells ∧ ∀ x ∈ l, Row.fine x := by
    intro rows
    induction rows with
    | nil => exact fun _ => ⟨[], rfl, fun x h => by cases h⟩
    | cons r rows ih =>
      intro h
      obtain ⟨a, h1, h2⟩ := h r (by simp)
      obtain ⟨l, h3, h4⟩ := ih fun row hr => h row (by simp [hr])
      refine ⟨a :: l, by rw [h1, h3]; rfl, fun x hx => ?_⟩
      rcases List.mem_cons.1 hx with rfl | hx
      · exact h2
      · exact h4 x hx
  obtain ⟨l, h1, h2⟩ := key rows h
  subst hk h1
  refine ⟨some l, rfl, fun l' e => ?_⟩
  cases e
  exact ⟨by simpa using hn, h2⟩
theorem Sl.fineNil {A : Type} [Row A] : Row.fine (none : Sl A) := fun l h => by cases h
class One (A : Type) [Cod A] [Row A] : Prop where
  one : ∀ a : A, Row.cells a = [enc a]
instance : One Int := ⟨fun _ => rfl⟩
instance : One Bool := ⟨fun _ => rfl⟩
instance : One ByteArray := ⟨fun _ => rfl⟩
instance {A : Type} [Row A] : One (Sl A) := ⟨fun _ => rfl⟩
theorem one_enc {A : Type} [Cod A] [Row A] [One A] {a : AV} {b : A} (h : [a] = Row.cells b) : a = enc b := by
  rw [One.one] at h
  exact (List.cons.inj h).1
def isStruct (P : Program) (t : TypeId) : Bool := match P.underlying t with
  | some (.struct _) => true
  | _ => false
theorem isV_one {P : Program} {t : TypeId} {a : AV} (h0 : isStruct P t = false) (h : IsV P t a) : IsC P t [a] := by
  unfold IsV at h
  unfold isStruct at h0
  split at h
  · simp_all
  · exact h
structure Box where
  x1 : Int
  y1 : Int
  x2 : Int
  y2 : Int
  deriving DecidableEq
structure Spot where
  x : Int
  y : Int
  deriving DecidableEq
structure Frac where
  n : Int
  d : Int
  deriving DecidableEq
instance : CodR Box where
  enc b := .agg [iv b.x1, iv b.y1, iv b.x2, iv b.y2]
  dec | .agg [.sc (.int .i64 a), .sc (.int .i64 b), .sc (.int .i64 c), .sc (.int .i64 d)] => some ⟨a, b, c, d⟩ | _ => none
  de _ := rfl
  ed x a h := by
    split at h
    · cases h; rfl
    · cases h
  plain _ := rfl
instance : CodR Spot where
  enc b := .agg [iv b.x, iv b.y]
  dec | .agg [.sc (.int .i64 a), .sc (.int .i64 b)] => some ⟨a, b⟩ | _ => none
  de _ := rfl
  ed x a h := by
    split at h
    · cases h; rfl
    · cases h
  plain _ := rfl
instance : CodR Frac where
  enc b := .agg [iv b.n, iv b.d]
  dec | .agg [.sc (.int .i64 a), .sc (.int .i64 b)] => some ⟨a, b⟩ | _ => none
  de _ := rfl
  ed x a h := by
    split at h
    · cases h; rfl
    · cases h
  plain _ := rfl
instance : Row Box where
  w := 4
  cells b := [iv b.x1, iv b.y1, iv b.x2, iv b.y2]
  uncells | [.sc (.int .i64 a0), .sc (.int .i64 a1), .sc (.int .i64 a2), .sc (.int .i64 a3)] => some ⟨a0, a1, a2, a3⟩ | _ => none
  un _ := rfl
  nu x a h := by
    split at h
    · cases h; rfl
    · cases h
  len _ := rfl
  fine b := i64 b.x1 ∧ i64 b.y1 ∧ i64 b.x2 ∧ i64 b.y2
@[simp] theorem enc_box (b : Box) : enc b = .agg [iv b.x1, iv b.y1, iv b.x2, iv b.y2] := rfl
@[simp] theorem snapD_box (h : kA4) (a b c d : Int) : snapD h (.agg [iv a, iv b, iv c, iv d]) = some (⟨a, b, c, d⟩ : Box) := rfl
instance : Row Spot where
  w := 2
  cells b := [iv b.x, iv b.y]
  uncells | [.sc (.int .i64 a0), .sc (.int .i64 a1)] => some ⟨a0, a1⟩ | _ => none
  un _ := rfl
  nu x a h := by
    split at h
    · cases h; rfl
    · cases h
  len _ := rfl
  fine b := i64 b.x ∧ i64 b.y
@[simp] theorem enc_spot (b : Spot) : enc b = .agg [iv b.x, iv b.y] := rfl
@[simp] theorem snapD_spot (h : kA4) (a b : Int) : snapD h (.agg [iv a, iv b]) = some (⟨a, b⟩ : Spot) := rfl
instance : Row Frac where
  w := 2
  cells b := [iv b.n, iv b.d]
  uncells | [.sc (.int .i64 a0), .sc (.int .i64 a1)] => some ⟨a0, a1⟩ | _ => none
  un _ := rfl
  nu x a h := by
    split at h
    · cases h; rfl
    · cases h
  len _ := rfl
  fine b := i64 b.n ∧ i64 b.d
@[simp] theorem enc_frac (b : Frac) : enc b = .agg [iv b.n, iv b.d] := rfl
@[simp] theorem snapD_frac (h : kA4) (a b : Int) : snapD h (.agg [iv a, iv b]) = some (⟨a, b⟩ : Frac) := rfl
class CellOr (A : Type) [CodR A] : Prop where
  tup : ∀ (a : A) (n : Int), kIc (.tup [enc a, iv n]) = true
instance : CellOr Int := ⟨fun _ _ => rfl⟩
instance : CellOr Bool := ⟨fun _ _ => rfl⟩
instance : CellOr ByteArray := ⟨fun _ _ => rfl⟩
instance : CellOr Box := ⟨fun _ _ => rfl⟩
instance : CellOr Spot := ⟨fun _ _ => rfl⟩
instance : CellOr Frac := ⟨fun _ _ => rfl⟩
instance {A : Type} [CodR A] [CellOr A] : CodR (A × Int) where
  enc p := .tup [enc p.1, iv p.2]
  dec
    | .tup [x, .sc (.int .i64 n)] => match (dec x : Option A) with | some a => some (a, n) | none => none
    | _ => none
  de p := by simp [iv, Cod.de]
  ed x a h := by
    split at h
    · split at h
      · rename_i e; cases h; rw [Cod.ed _ _ e]; rfl
      · cases h
    · cases h
  plain p := CellOr.tup p.1 p.2
@[simp] theorem enc_two {A : Type} [CodR A] [CellOr A] (p : A × Int) : enc p = .tup [enc p.1, iv p.2] := rfl
end Go.Eng
