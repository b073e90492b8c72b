/-
  THE ENGINE, PART 25: the program's plain structs.
-/
import Derived.Test.YtmdogimhcgljcaaEngCod
namespace Go.Eng
open Cod (enc dec)

structure Box where
  x1 : Int
  y1 : Int
  x2 : Int
  y2 : Int
  deriving DecidableEq
structure Spot where
  x : Int
  y : Int
  deriving DecidableEq
structure Frac where
  n : Int
  d : Int
  deriving DecidableEq

instance : CodR Box where
  enc b := .agg [iv b.x1, iv b.y1, iv b.x2, iv b.y2]
  dec | .agg [.sc (.int .i64 a), .sc (.int .i64 b), .sc (.int .i64 c), .sc (.int .i64 d)] => some ⟨a, b, c, d⟩ | _ => none
  de _ := rfl
  ed x a h := by
    split at h
    · cases h; rfl
    · cases h
  plain _ := rfl
instance : CodR Spot where
  enc b := .agg [iv b.x, iv b.y]
  dec | .agg [.sc (.int .i64 a), .sc (.int .i64 b)] => some ⟨a, b⟩ | _ => none
  de _ := rfl
  ed x a h := by
    split at h
    · cases h; rfl
    · cases h
  plain _ := rfl
instance : CodR Frac where
  enc b := .agg [iv b.n, iv b.d]
  dec | .agg [.sc (.int .i64 a), .sc (.int .i64 b)] => some ⟨a, b⟩ | _ => none
  de _ := rfl
  ed x a h := by
    split at h
    · cases h; rfl
    · cases h
  plain _ := rfl

@[simp] theorem enc_box (b : Box) : enc b = .agg [iv b.x1, iv b.y1, iv b.x2, iv b.y2] := rfl
@[simp] theorem snapD_box (h : Heap) (a b c d : Int) : snapD h (.agg [iv a, iv b, iv c, iv d]) = some (⟨a, b, c, d⟩ : Box) := rfl
@[simp] theorem enc_spot (b : Spot) : enc b = .agg [iv b.x, iv b.y] := rfl
@[simp] theorem snapD_spot (h : Heap) (a b : Int) : snapD h (.agg [iv a, iv b]) = some (⟨a, b⟩ : Spot) := rfl
@[simp] theorem enc_frac (b : Frac) : enc b = .agg [iv b.n, iv b.d] := rfl
@[simp] theorem snapD_frac (h : Heap) (a b : Int) : snapD h (.agg [iv a, iv b]) = some (⟨a, b⟩ : Frac) := rfl

/-- No group of results. -/
class CellOr (A : Type) [CodR A] : Prop where
  tup : ∀ (a : A) (n : Int), plainR (.tup [enc a, iv n]) = true
instance : CellOr Int := ⟨fun _ _ => rfl⟩
instance : CellOr Bool := ⟨fun _ _ => rfl⟩
instance : CellOr ByteArray := ⟨fun _ _ => rfl⟩
instance : CellOr Box := ⟨fun _ _ => rfl⟩
instance : CellOr Spot := ⟨fun _ _ => rfl⟩
instance : CellOr Frac := ⟨fun _ _ => rfl⟩
/-- Two results, a number the second. -/
instance {A : Type} [CodR A] [CellOr A] : CodR (A × Int) where
  enc p := .tup [enc p.1, iv p.2]
  dec | .tup [x, .sc (.int .i64 n)] => match (dec x : Option A) with | some a => some (a, n) | none => none
      | _ => none
  de p := by simp [iv, Cod.de]
  ed x a h := by
    split at h
    · split at h
      · rename_i e; cases h; rw [Cod.ed _ _ e]; rfl
      · cases h
    · cases h
  plain p := CellOr.tup p.1 p.2
@[simp] theorem enc_two {A : Type} [CodR A] [CellOr A] (p : A × Int) : enc p = .tup [enc p.1, iv p.2] := rfl
end Go.Eng
