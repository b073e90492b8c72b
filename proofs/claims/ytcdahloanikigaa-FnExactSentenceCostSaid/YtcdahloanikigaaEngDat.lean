import Derived.Test.YtcdahloanikigaaEngNorm
namespace Go.Eng
set_option linter.unusedVariables false
set_option linter.unusedSimpArgs false
open Cod (enc dec)
theorem kBn {α β : Type} {x : Option α} {f : α → Option β} {b : β} (h : kA0 x f = some b) : ∃ a, x = some a ∧ f a = some b := by
  cases x with
  | none => cases h
  | some a => exact ⟨a, rfl, h⟩
@[simp] theorem snap_slenc {A : Type} [Row A] (h : kA7) (d : Nat) (q : Sl A) : snap h d (Sl.enc q) = some (Sl.enc q) := by
  cases q <;> cases d <;> rfl
@[simp] theorem flat_slenc {A : Type} [Row A] (q : Sl A) : (Sl.enc q).flat = true := by cases q <;> rfl
@[simp] theorem cells_slenc {A : Type} [Row A] (q : Sl A) : (Sl.enc q).cells = [Sl.enc q] := by cases q <;> rfl
@[simp] theorem kG6 (h : kA7) (d : Nat) (n : Int) : snap h d (iv n) = some (iv n) := kH7 h d rfl
@[simp] theorem kH1 (h : kA7) (d : Nat) (n : Bool) : snap h d (bv n) = some (bv n) := kH7 h d rfl
@[simp] theorem kHd (h : kA7) (d : Nat) (n : ByteArray) : snap h d (sv n) = some (sv n) := kH7 h d rfl
@[simp] theorem frz_iv (d : Nat) (n : Int) : frz d (iv n) = iv n := frz_sc d rfl
@[simp] theorem frz_bv (d : Nat) (n : Bool) : frz d (bv n) = bv n := frz_sc d rfl
@[simp] theorem frz_sv (d : Nat) (n : ByteArray) : frz d (sv n) = sv n := frz_sc d rfl
@[simp] theorem tr_iv (d : Nat) (n : Int) : tr d (iv n) = true := tr_sc d rfl
@[simp] theorem tr_bv (d : Nat) (n : Bool) : tr d (bv n) = true := tr_sc d rfl
@[simp] theorem tr_sv (d : Nat) (n : ByteArray) : tr d (sv n) = true := tr_sc d rfl
@[simp] theorem snap_nil (h : kA7) (d : Nat) : snap h d kBv = some kBv := kH7 h d rfl
theorem kFh (h : kA7) (d : Nat) (cs : List AV) : snap h (d + 1) (.agg cs) = kA0 (kBm (snap h d) cs) fun cs => some (.agg cs) := by
  show (match kBm (snap h d) cs with | some cs => some (AV.agg cs) | none => none) = _
  cases kBm (snap h d) cs <;> rfl
structure Point where
  x : Int
  y : Int
  t : Int
  deriving DecidableEq
def Point.cells (b : Point) : List AV := [iv b.x, iv b.y, iv b.t]
def Point.un : List AV → Option Point
  | [c0, c1, c2] => kA0 (dec c0 : Option Int) fun v0 => kA0 (dec c1 : Option Int) fun v1 => kA0 (dec c2 : Option Int) fun v2 => some ⟨v0, v1, v2⟩
  | _ => none
instance : Row Point where
  w := 3
  cells := Point.cells
  uncells := Point.un
  un b := by
    show (kA0 (dec (enc b.x) : Option Int) fun v0 => kA0 (dec (enc b.y) : Option Int) fun v1 => kA0 (dec (enc b.t) : Option Int) fun v2 => some (⟨v0, v1, v2⟩ : Point)) = some b
    simp only [Cod.de, kA6]
  nu x b h := by
    unfold Point.un at h
    split at h
    · obtain ⟨v0, e0, h⟩ := kBn h
      obtain ⟨v1, e1, h⟩ := kBn h
      obtain ⟨v2, e2, h⟩ := kBn h
      cases h
      rw [Cod.ed _ _ e0]
      rw [Cod.ed _ _ e1]
      rw [Cod.ed _ _ e2]
      rfl
    · cases h
  len _ := rfl
  fine b := Row.fine b.x ∧ Row.fine b.y ∧ Row.fine b.t
instance : CodR Point where
  enc b := .agg b.cells
  dec | .agg cs => Point.un cs | _ => none
  de b := Row.un b
  ed x b h := by
    split at h
    · have e := Row.nu (A := Point) _ _ h
      rw [e]; rfl
    · cases h
  plain _ := rfl
instance : Agg Point := ⟨fun _ => rfl⟩
@[simp] theorem w_Point : Row.w Point = 3 := rfl
@[simp] theorem enc_Point (b : Point) : enc b = .agg [iv b.x, iv b.y, iv b.t] := rfl
@[simp] theorem cells_Point (b : Point) : Row.cells b = [iv b.x, iv b.y, iv b.t] := rfl
@[simp] theorem eta_Point (b : Point) : (⟨b.x, b.y, b.t⟩ : Point) = b := rfl
theorem snapD_Point {h : kA7} (v0 : Int) (v1 : Int) (v2 : Int)  : snapD h (.agg [iv v0, iv v1, iv v2]) = some (⟨v0, v1, v2⟩ : Point) := by
  unfold snapD depth
  rw [kFh]
  simp only [kBm, kG6, kH1, kHd, kA6]
  exact Cod.de (⟨v0, v1, v2⟩ : Point)
@[simp] theorem snapS_Point (h : kA7) (b : Point) : snapD h (.agg [iv b.x, iv b.y, iv b.t]) = some b := snapD_Point b.x b.y b.t 
instance : Scal Point := ⟨fun _ => rfl⟩
instance : Comp Point := ⟨fun _ => rfl⟩
instance : CellOr Point := ⟨fun _ _ => rfl⟩
instance : Tre Point := kEu Point
attribute [simp] snapD_Point
@[simp] theorem dep_Point : Tre.dep Point = 0 := rfl
instance : Elem Point := kEt Point
@[simp] theorem nv_Point (b : Point) : Elem.nv b = nag b := rfl
instance : Wt Point where
  wt _ := 0
  big _ := true
  fb := fun _ _ => rfl
structure Bigram where
  first : ByteArray
  second : ByteArray
  cost : Int
  deriving DecidableEq
def Bigram.cells (b : Bigram) : List AV := [sv b.first, sv b.second, iv b.cost]
def Bigram.un : List AV → Option Bigram
  | [c0, c1, c2] => kA0 (dec c0 : Option ByteArray) fun v0 => kA0 (dec c1 : Option ByteArray) fun v1 => kA0 (dec c2 : Option Int) fun v2 => some ⟨v0, v1, v2⟩
  | _ => none
instance : Row Bigram where
  w := 3
  cells := Bigram.cells
  uncells := Bigram.un
  un b := by
    show (kA0 (dec (enc b.first) : Option ByteArray) fun v0 => kA0 (dec (enc b.second) : Option ByteArray) fun v1 => kA0 (dec (enc b.cost) : Option Int) fun v2 => some (⟨v0, v1, v2⟩ : Bigram)) = some b
    simp only [Cod.de, kA6]
  nu x b h := by
    unfold Bigram.un at h
    split at h
    · obtain ⟨v0, e0, h⟩ := kBn h
      obtain ⟨v1, e1, h⟩ := kBn h
      obtain ⟨v2, e2, h⟩ := kBn h
      cases h
      rw [Cod.ed _ _ e0]
      rw [Cod.ed _ _ e1]
      rw [Cod.ed _ _ e2]
      rfl
    · cases h
  len _ := rfl
  fine b := Row.fine b.first ∧ Row.fine b.second ∧ Row.fine b.cost
instance : CodR Bigram where
  enc b := .agg b.cells
  dec | .agg cs => Bigram.un cs | _ => none
  de b := Row.un b
  ed x b h := by
    split at h
    · have e := Row.nu (A := Bigram) _ _ h
      rw [e]; rfl
    · cases h
  plain _ := rfl
instance : Agg Bigram := ⟨fun _ => rfl⟩
@[simp] theorem w_Bigram : Row.w Bigram = 3 := rfl
@[simp] theorem enc_Bigram (b : Bigram) : enc b = .agg [sv b.first, sv b.second, iv b.cost] := rfl
@[simp] theorem cells_Bigram (b : Bigram) : Row.cells b = [sv b.first, sv b.second, iv b.cost] := rfl
@[simp] theorem eta_Bigram (b : Bigram) : (⟨b.first, b.second, b.cost⟩ : Bigram) = b := rfl
theorem snapD_Bigram {h : kA7} (v0 : ByteArray) (v1 : ByteArray) (v2 : Int)  : snapD h (.agg [sv v0, sv v1, iv v2]) = some (⟨v0, v1, v2⟩ : Bigram) := by
  unfold snapD depth
  rw [kFh]
  simp only [kBm, kG6, kH1, kHd, kA6]
  exact Cod.de (⟨v0, v1, v2⟩ : Bigram)
@[simp] theorem snapS_Bigram (h : kA7) (b : Bigram) : snapD h (.agg [sv b.first, sv b.second, iv b.cost]) = some b := snapD_Bigram b.first b.second b.cost 
instance : Scal Bigram := ⟨fun _ => rfl⟩
instance : Comp Bigram := ⟨fun _ => rfl⟩
instance : CellOr Bigram := ⟨fun _ _ => rfl⟩
instance : Tre Bigram := kEu Bigram
attribute [simp] snapD_Bigram
@[simp] theorem dep_Bigram : Tre.dep Bigram = 0 := rfl
instance : Elem Bigram := kEt Bigram
@[simp] theorem nv_Bigram (b : Bigram) : Elem.nv b = nag b := rfl
instance : Wt Bigram where
  wt b := Wt.wt b.first + Wt.wt b.second
  big b := Wt.big b.first && Wt.big b.second
  fb := fun b h => by
    have hh : Row.fine b.first ∧ Row.fine b.second ∧ Row.fine b.cost := h
    simp only [Bool.and_eq_true]
    exact ⟨Wt.fb _ hh.1, Wt.fb _ hh.2.1⟩
structure Model where
  default : Int
  bigrams : (Sl Bigram)
  deriving DecidableEq
def Model.cells (b : Model) : List AV := [iv b.default, Sl.enc b.bigrams]
def Model.un : List AV → Option Model
  | [c0, c1] => kA0 (dec c0 : Option Int) fun v0 => kA0 (dec c1 : Option (Sl Bigram)) fun v1 => some ⟨v0, v1⟩
  | _ => none
instance : Row Model where
  w := 2
  cells := Model.cells
  uncells := Model.un
  un b := by
    show (kA0 (dec (enc b.default) : Option Int) fun v0 => kA0 (dec (enc b.bigrams) : Option (Sl Bigram)) fun v1 => some (⟨v0, v1⟩ : Model)) = some b
    simp only [Cod.de, kA6]
  nu x b h := by
    unfold Model.un at h
    split at h
    · obtain ⟨v0, e0, h⟩ := kBn h
      obtain ⟨v1, e1, h⟩ := kBn h
      cases h
      rw [Cod.ed _ _ e0]
      rw [Cod.ed _ _ e1]
      rfl
    · cases h
  len _ := rfl
  fine b := Row.fine b.default ∧ Row.fine b.bigrams
instance : Cod Model where
  enc b := .agg b.cells
  dec | .agg cs => Model.un cs | _ => none
  de b := Row.un b
  ed x b h := by
    split at h
    · have e := Row.nu (A := Model) _ _ h
      rw [e]; rfl
    · cases h
instance : Agg Model := ⟨fun _ => rfl⟩
@[simp] theorem w_Model : Row.w Model = 2 := rfl
@[simp] theorem enc_Model (b : Model) : enc b = .agg [iv b.default, Sl.enc b.bigrams] := rfl
@[simp] theorem cells_Model (b : Model) : Row.cells b = [iv b.default, Sl.enc b.bigrams] := rfl
@[simp] theorem eta_Model (b : Model) : (⟨b.default, b.bigrams⟩ : Model) = b := rfl
theorem snapD_Model {h : kA7} (v0 : Int) (v1 : (Sl Bigram)) {x1 : AV} (h1 : snap h 7 x1 = some (Sl.enc v1)) : snapD h (.agg [iv v0, x1]) = some (⟨v0, v1⟩ : Model) := by
  unfold snapD depth
  rw [kFh]
  simp only [kBm, kG6, kH1, kHd, h1, kA6]
  exact Cod.de (⟨v0, v1⟩ : Model)
@[simp] theorem snapS_Model (h : kA7) (b : Model) : snapD h (.agg [iv b.default, Sl.enc b.bigrams]) = some b := snapD_Model b.default b.bigrams (snap_slenc h 7 b.bigrams)
instance : Tre Model where
  dep := 1
  nrow b := [iv b.default, nws b.bigrams]
  norm b := ⟨b.default, Tre.norm b.bigrams⟩
  trr b := by simp [tr_nws]
  frr b d hd := by
    show List.map (frz d) _ = _
    simp only [List.map_cons, List.map_nil, frz_iv, frz_bv, frz_sv, frz_nws b.bigrams (d := d) (by simp; omega)]
    rfl
  fl b n := rfl
@[simp] theorem nrow_Model (b : Model) : Tre.nrow b = [iv b.default, nws b.bigrams] := rfl
theorem norm_Model (b : Model) : Tre.norm b = ⟨b.default, Tre.norm b.bigrams⟩ := rfl
@[simp] theorem dep_Model : Tre.dep Model = 1 := rfl
instance : Elem Model := kEt Model
@[simp] theorem nv_Model (b : Model) : Elem.nv b = nag b := rfl
instance : Wt Model where
  wt b := Wt.wt b.bigrams
  big b := Wt.big b.bigrams
  fb := fun b h => by
    have hh : Row.fine b.default ∧ Row.fine b.bigrams := h
    exact Wt.fb _ hh.2
theorem wt_Model (b : Model) : Wt.wt b = Wt.wt b.bigrams := rfl
instance : Wt Box where
  wt _ := 0
  big _ := true
  fb := fun _ _ => rfl
@[simp] theorem wt_Box (b : Box) : Wt.wt b = 0 := rfl
instance : Wt Frac where
  wt _ := 0
  big _ := true
  fb := fun _ _ => rfl
instance : Wt Spot where
  wt _ := 0
  big _ := true
  fb := fun _ _ => rfl
@[simp] theorem mc_Point (b : Point) (n : Nat) : (mv (nag b) n).cells = [iv b.x, iv b.y, iv b.t] := rfl
@[simp] theorem mt_Point (b : Point) (n : Nat) : mt (nag b) n = [] := rfl
@[simp] theorem mc_Bigram (b : Bigram) (n : Nat) : (mv (nag b) n).cells = [sv b.first, sv b.second, iv b.cost] := rfl
@[simp] theorem mt_Bigram (b : Bigram) (n : Nat) : mt (nag b) n = [] := rfl
@[simp] theorem mc_Box (b : Box) (n : Nat) : (mv (nag b) n).cells = [iv b.x1, iv b.y1, iv b.x2, iv b.y2] := rfl
@[simp] theorem mt_Box (b : Box) (n : Nat) : mt (nag b) n = [] := rfl
@[simp] theorem mc_Spot (b : Spot) (n : Nat) : (mv (nag b) n).cells = [iv b.x, iv b.y] := rfl
@[simp] theorem mt_Spot (b : Spot) (n : Nat) : mt (nag b) n = [] := rfl
@[simp] theorem mc_Frac (b : Frac) (n : Nat) : (mv (nag b) n).cells = [iv b.n, iv b.d] := rfl
@[simp] theorem mt_Frac (b : Frac) (n : Nat) : mt (nag b) n = [] := rfl
end Go.Eng
