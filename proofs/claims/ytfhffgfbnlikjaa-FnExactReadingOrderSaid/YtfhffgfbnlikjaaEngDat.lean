import Derived.Test.YtfhffgfbnlikjaaEngNorm
namespace Go.Eng
set_option linter.unusedVariables false
set_option linter.unusedSimpArgs false
open Cod (enc dec)
theorem kAm {α β : Type} {x : Option α} {f : α → Option β} {b : β} (h : kA0 x f = some b) : ∃ a, x = some a ∧ f a = some b := by
  cases x with
  | none => cases h
  | some a => exact ⟨a, rfl, h⟩
@[simp] theorem snap_slenc {A : Type} [Row A] (h : kA4) (d : Nat) (q : Sl A) : snap h d (Sl.enc q) = some (Sl.enc q) := by
  cases q <;> cases d <;> rfl
@[simp] theorem flat_slenc {A : Type} [Row A] (q : Sl A) : (Sl.enc q).flat = true := by cases q <;> rfl
@[simp] theorem cells_slenc {A : Type} [Row A] (q : Sl A) : (Sl.enc q).cells = [Sl.enc q] := by cases q <;> rfl
@[simp] theorem kF6 (h : kA4) (d : Nat) (n : Int) : snap h d (iv n) = some (iv n) := kHw h d rfl
@[simp] theorem kFp (h : kA4) (d : Nat) (n : Bool) : snap h d (bv n) = some (bv n) := kHw h d rfl
@[simp] theorem kFw (h : kA4) (d : Nat) (n : ByteArray) : snap h d (sv n) = some (sv n) := kHw h d rfl
@[simp] theorem frz_iv (d : Nat) (n : Int) : frz d (iv n) = iv n := frz_sc d rfl
@[simp] theorem frz_bv (d : Nat) (n : Bool) : frz d (bv n) = bv n := frz_sc d rfl
@[simp] theorem frz_sv (d : Nat) (n : ByteArray) : frz d (sv n) = sv n := frz_sc d rfl
@[simp] theorem tr_iv (d : Nat) (n : Int) : tr d (iv n) = true := tr_sc d rfl
@[simp] theorem tr_bv (d : Nat) (n : Bool) : tr d (bv n) = true := tr_sc d rfl
@[simp] theorem tr_sv (d : Nat) (n : ByteArray) : tr d (sv n) = true := tr_sc d rfl
@[simp] theorem snap_nil (h : kA4) (d : Nat) : snap h d kBd = some kBd := kHw h d rfl
theorem kEk (h : kA4) (d : Nat) (cs : List AV) : snap h (d + 1) (.agg cs) = kA0 (kBb (snap h d) cs) fun cs => some (.agg cs) := by
  show (match kBb (snap h d) cs with | some cs => some (AV.agg cs) | none => none) = _
  cases kBb (snap h d) cs <;> rfl
structure Point where
  x : Int
  y : Int
  t : Int
  deriving DecidableEq
def Point.cells (b : Point) : List AV := [iv b.x, iv b.y, iv b.t]
def Point.un : List AV → Option Point
  | [c0, c1, c2] => kA0 (dec c0 : Option Int) fun v0 => kA0 (dec c1 : Option Int) fun v1 => kA0 (dec c2 : Option Int) fun v2 => some ⟨v0, v1, v2⟩
  | _ => none
instance : Row Point where
  w := 3
  cells := Point.cells
  uncells := Point.un
  un b := by
    show (kA0 (dec (enc b.x) : Option Int) fun v0 => kA0 (dec (enc b.y) : Option Int) fun v1 => kA0 (dec (enc b.t) : Option Int) fun v2 => some (⟨v0, v1, v2⟩ : Point)) = some b
    simp only [Cod.de, kA2]
  nu x b h := by
    unfold Point.un at h
    split at h
    · obtain ⟨v0, e0, h⟩ := kAm h
      obtain ⟨v1, e1, h⟩ := kAm h
      obtain ⟨v2, e2, h⟩ := kAm h
      cases h
      rw [Cod.ed _ _ e0]
      rw [Cod.ed _ _ e1]
      rw [Cod.ed _ _ e2]
      rfl
    · cases h
  len _ := rfl
  fine b := Row.fine b.x ∧ Row.fine b.y ∧ Row.fine b.t
instance : CodR Point where
  enc b := .agg b.cells
  dec | .agg cs => Point.un cs | _ => none
  de b := Row.un b
  ed x b h := by
    split at h
    · have e := Row.nu (A := Point) _ _ h
      rw [e]; rfl
    · cases h
  plain _ := rfl
instance : Agg Point := ⟨fun _ => rfl⟩
@[simp] theorem w_Point : Row.w Point = 3 := rfl
@[simp] theorem enc_Point (b : Point) : enc b = .agg [iv b.x, iv b.y, iv b.t] := rfl
@[simp] theorem cells_Point (b : Point) : Row.cells b = [iv b.x, iv b.y, iv b.t] := rfl
@[simp] theorem eta_Point (b : Point) : (⟨b.x, b.y, b.t⟩ : Point) = b := rfl
theorem snapD_Point {h : kA4} (v0 : Int) (v1 : Int) (v2 : Int)  : snapD h (.agg [iv v0, iv v1, iv v2]) = some (⟨v0, v1, v2⟩ : Point) := by
  unfold snapD depth
  rw [kEk]
  simp only [kBb, kF6, kFp, kFw, kA2]
  exact Cod.de (⟨v0, v1, v2⟩ : Point)
@[simp] theorem snapS_Point (h : kA4) (b : Point) : snapD h (.agg [iv b.x, iv b.y, iv b.t]) = some b := snapD_Point b.x b.y b.t 
instance : Scal Point := ⟨fun _ => rfl⟩
instance : Comp Point := ⟨fun _ => rfl⟩
instance : CellOr Point := ⟨fun _ _ => rfl⟩
instance : Tre Point := kE3 Point
attribute [simp] snapD_Point
@[simp] theorem dep_Point : Tre.dep Point = 0 := rfl
instance : Elem Point := kEd Point
@[simp] theorem nv_Point (b : Point) : Elem.nv b = nag b := rfl
instance : Wt Point where
  wt _ := 0
  big _ := true
  fb := fun _ _ => rfl
structure Stroke where
  points : (Sl Point)
  deriving DecidableEq
def Stroke.cells (b : Stroke) : List AV := [Sl.enc b.points]
def Stroke.un : List AV → Option Stroke
  | [c0] => kA0 (dec c0 : Option (Sl Point)) fun v0 => some ⟨v0⟩
  | _ => none
instance : Row Stroke where
  w := 1
  cells := Stroke.cells
  uncells := Stroke.un
  un b := by
    show (kA0 (dec (enc b.points) : Option (Sl Point)) fun v0 => some (⟨v0⟩ : Stroke)) = some b
    simp only [Cod.de, kA2]
  nu x b h := by
    unfold Stroke.un at h
    split at h
    · obtain ⟨v0, e0, h⟩ := kAm h
      cases h
      rw [Cod.ed _ _ e0]
      rfl
    · cases h
  len _ := rfl
  fine b := Row.fine b.points
instance : Cod Stroke where
  enc b := .agg b.cells
  dec | .agg cs => Stroke.un cs | _ => none
  de b := Row.un b
  ed x b h := by
    split at h
    · have e := Row.nu (A := Stroke) _ _ h
      rw [e]; rfl
    · cases h
instance : Agg Stroke := ⟨fun _ => rfl⟩
@[simp] theorem w_Stroke : Row.w Stroke = 1 := rfl
@[simp] theorem enc_Stroke (b : Stroke) : enc b = .agg [Sl.enc b.points] := rfl
@[simp] theorem cells_Stroke (b : Stroke) : Row.cells b = [Sl.enc b.points] := rfl
@[simp] theorem eta_Stroke (b : Stroke) : (⟨b.points⟩ : Stroke) = b := rfl
theorem snapD_Stroke {h : kA4} (v0 : (Sl Point)) {x0 : AV} (h0 : snap h 7 x0 = some (Sl.enc v0)) : snapD h (.agg [x0]) = some (⟨v0⟩ : Stroke) := by
  unfold snapD depth
  rw [kEk]
  simp only [kBb, kF6, kFp, kFw, h0, kA2]
  exact Cod.de (⟨v0⟩ : Stroke)
@[simp] theorem snapS_Stroke (h : kA4) (b : Stroke) : snapD h (.agg [Sl.enc b.points]) = some b := snapD_Stroke b.points (snap_slenc h 7 b.points)
instance : Tre Stroke where
  dep := 1
  nrow b := [nws b.points]
  norm b := ⟨Tre.norm b.points⟩
  trr b := by simp [tr_nws]
  frr b d hd := by
    show List.map (frz d) _ = _
    simp only [List.map_cons, List.map_nil, frz_iv, frz_bv, frz_sv, frz_nws b.points (d := d) (by simp; omega)]
    rfl
  fl b n := rfl
@[simp] theorem nrow_Stroke (b : Stroke) : Tre.nrow b = [nws b.points] := rfl
theorem norm_Stroke (b : Stroke) : Tre.norm b = ⟨Tre.norm b.points⟩ := rfl
@[simp] theorem dep_Stroke : Tre.dep Stroke = 1 := rfl
instance : Elem Stroke := kEd Stroke
@[simp] theorem nv_Stroke (b : Stroke) : Elem.nv b = nag b := rfl
instance : Wt Stroke where
  wt b := Wt.wt b.points
  big b := Wt.big b.points
  fb := fun b h => by
    have hh : Row.fine b.points := h
    exact Wt.fb _ hh
theorem wt_Stroke (b : Stroke) : Wt.wt b = Wt.wt b.points := rfl
structure Note where
  frm : Int
  upto : Int
  text : ByteArray
  deriving DecidableEq
def Note.cells (b : Note) : List AV := [iv b.frm, iv b.upto, sv b.text]
def Note.un : List AV → Option Note
  | [c0, c1, c2] => kA0 (dec c0 : Option Int) fun v0 => kA0 (dec c1 : Option Int) fun v1 => kA0 (dec c2 : Option ByteArray) fun v2 => some ⟨v0, v1, v2⟩
  | _ => none
instance : Row Note where
  w := 3
  cells := Note.cells
  uncells := Note.un
  un b := by
    show (kA0 (dec (enc b.frm) : Option Int) fun v0 => kA0 (dec (enc b.upto) : Option Int) fun v1 => kA0 (dec (enc b.text) : Option ByteArray) fun v2 => some (⟨v0, v1, v2⟩ : Note)) = some b
    simp only [Cod.de, kA2]
  nu x b h := by
    unfold Note.un at h
    split at h
    · obtain ⟨v0, e0, h⟩ := kAm h
      obtain ⟨v1, e1, h⟩ := kAm h
      obtain ⟨v2, e2, h⟩ := kAm h
      cases h
      rw [Cod.ed _ _ e0]
      rw [Cod.ed _ _ e1]
      rw [Cod.ed _ _ e2]
      rfl
    · cases h
  len _ := rfl
  fine b := Row.fine b.frm ∧ Row.fine b.upto ∧ Row.fine b.text
instance : CodR Note where
  enc b := .agg b.cells
  dec | .agg cs => Note.un cs | _ => none
  de b := Row.un b
  ed x b h := by
    split at h
    · have e := Row.nu (A := Note) _ _ h
      rw [e]; rfl
    · cases h
  plain _ := rfl
instance : Agg Note := ⟨fun _ => rfl⟩
@[simp] theorem w_Note : Row.w Note = 3 := rfl
@[simp] theorem enc_Note (b : Note) : enc b = .agg [iv b.frm, iv b.upto, sv b.text] := rfl
@[simp] theorem cells_Note (b : Note) : Row.cells b = [iv b.frm, iv b.upto, sv b.text] := rfl
@[simp] theorem eta_Note (b : Note) : (⟨b.frm, b.upto, b.text⟩ : Note) = b := rfl
theorem snapD_Note {h : kA4} (v0 : Int) (v1 : Int) (v2 : ByteArray)  : snapD h (.agg [iv v0, iv v1, sv v2]) = some (⟨v0, v1, v2⟩ : Note) := by
  unfold snapD depth
  rw [kEk]
  simp only [kBb, kF6, kFp, kFw, kA2]
  exact Cod.de (⟨v0, v1, v2⟩ : Note)
@[simp] theorem snapS_Note (h : kA4) (b : Note) : snapD h (.agg [iv b.frm, iv b.upto, sv b.text]) = some b := snapD_Note b.frm b.upto b.text 
instance : Scal Note := ⟨fun _ => rfl⟩
instance : Comp Note := ⟨fun _ => rfl⟩
instance : CellOr Note := ⟨fun _ _ => rfl⟩
instance : Tre Note := kE3 Note
attribute [simp] snapD_Note
@[simp] theorem dep_Note : Tre.dep Note = 0 := rfl
instance : Elem Note := kEd Note
@[simp] theorem nv_Note (b : Note) : Elem.nv b = nag b := rfl
instance : Wt Note where
  wt b := Wt.wt b.text
  big b := Wt.big b.text
  fb := fun b h => by
    have hh : Row.fine b.frm ∧ Row.fine b.upto ∧ Row.fine b.text := h
    exact Wt.fb _ hh.2.2
structure Pair where
  i : Int
  j : Int
  deriving DecidableEq
def Pair.cells (b : Pair) : List AV := [iv b.i, iv b.j]
def Pair.un : List AV → Option Pair
  | [c0, c1] => kA0 (dec c0 : Option Int) fun v0 => kA0 (dec c1 : Option Int) fun v1 => some ⟨v0, v1⟩
  | _ => none
instance : Row Pair where
  w := 2
  cells := Pair.cells
  uncells := Pair.un
  un b := by
    show (kA0 (dec (enc b.i) : Option Int) fun v0 => kA0 (dec (enc b.j) : Option Int) fun v1 => some (⟨v0, v1⟩ : Pair)) = some b
    simp only [Cod.de, kA2]
  nu x b h := by
    unfold Pair.un at h
    split at h
    · obtain ⟨v0, e0, h⟩ := kAm h
      obtain ⟨v1, e1, h⟩ := kAm h
      cases h
      rw [Cod.ed _ _ e0]
      rw [Cod.ed _ _ e1]
      rfl
    · cases h
  len _ := rfl
  fine b := Row.fine b.i ∧ Row.fine b.j
instance : CodR Pair where
  enc b := .agg b.cells
  dec | .agg cs => Pair.un cs | _ => none
  de b := Row.un b
  ed x b h := by
    split at h
    · have e := Row.nu (A := Pair) _ _ h
      rw [e]; rfl
    · cases h
  plain _ := rfl
instance : Agg Pair := ⟨fun _ => rfl⟩
@[simp] theorem w_Pair : Row.w Pair = 2 := rfl
@[simp] theorem enc_Pair (b : Pair) : enc b = .agg [iv b.i, iv b.j] := rfl
@[simp] theorem cells_Pair (b : Pair) : Row.cells b = [iv b.i, iv b.j] := rfl
@[simp] theorem eta_Pair (b : Pair) : (⟨b.i, b.j⟩ : Pair) = b := rfl
theorem snapD_Pair {h : kA4} (v0 : Int) (v1 : Int)  : snapD h (.agg [iv v0, iv v1]) = some (⟨v0, v1⟩ : Pair) := by
  unfold snapD depth
  rw [kEk]
  simp only [kBb, kF6, kFp, kFw, kA2]
  exact Cod.de (⟨v0, v1⟩ : Pair)
@[simp] theorem snapS_Pair (h : kA4) (b : Pair) : snapD h (.agg [iv b.i, iv b.j]) = some b := snapD_Pair b.i b.j 
instance : Scal Pair := ⟨fun _ => rfl⟩
instance : Comp Pair := ⟨fun _ => rfl⟩
instance : CellOr Pair := ⟨fun _ _ => rfl⟩
instance : Tre Pair := kE3 Pair
attribute [simp] snapD_Pair
@[simp] theorem dep_Pair : Tre.dep Pair = 0 := rfl
instance : Elem Pair := kEd Pair
@[simp] theorem nv_Pair (b : Pair) : Elem.nv b = nag b := rfl
instance : Wt Pair where
  wt _ := 0
  big _ := true
  fb := fun _ _ => rfl
structure Symbol where
  label : ByteArray
  box : Box
  deriving DecidableEq
def Symbol.cells (b : Symbol) : List AV := [sv b.label, iv b.box.x1, iv b.box.y1, iv b.box.x2, iv b.box.y2]
def Symbol.un : List AV → Option Symbol
  | [c0, c1, c2, c3, c4] => kA0 (dec c0 : Option ByteArray) fun v0 => kA0 (dec c1 : Option Int) fun v1 => kA0 (dec c2 : Option Int) fun v2 => kA0 (dec c3 : Option Int) fun v3 => kA0 (dec c4 : Option Int) fun v4 => some ⟨v0, ⟨v1, v2, v3, v4⟩⟩
  | _ => none
instance : Row Symbol where
  w := 5
  cells := Symbol.cells
  uncells := Symbol.un
  un b := by
    show (kA0 (dec (enc b.label) : Option ByteArray) fun v0 => kA0 (dec (enc b.box.x1) : Option Int) fun v1 => kA0 (dec (enc b.box.y1) : Option Int) fun v2 => kA0 (dec (enc b.box.x2) : Option Int) fun v3 => kA0 (dec (enc b.box.y2) : Option Int) fun v4 => some (⟨v0, ⟨v1, v2, v3, v4⟩⟩ : Symbol)) = some b
    simp only [Cod.de, kA2]
  nu x b h := by
    unfold Symbol.un at h
    split at h
    · obtain ⟨v0, e0, h⟩ := kAm h
      obtain ⟨v1, e1, h⟩ := kAm h
      obtain ⟨v2, e2, h⟩ := kAm h
      obtain ⟨v3, e3, h⟩ := kAm h
      obtain ⟨v4, e4, h⟩ := kAm h
      cases h
      rw [Cod.ed _ _ e0]
      rw [Cod.ed _ _ e1]
      rw [Cod.ed _ _ e2]
      rw [Cod.ed _ _ e3]
      rw [Cod.ed _ _ e4]
      rfl
    · cases h
  len _ := rfl
  fine b := Row.fine b.label ∧ Row.fine b.box
instance : CodR Symbol where
  enc b := .agg b.cells
  dec | .agg cs => Symbol.un cs | _ => none
  de b := Row.un b
  ed x b h := by
    split at h
    · have e := Row.nu (A := Symbol) _ _ h
      rw [e]; rfl
    · cases h
  plain _ := rfl
instance : Agg Symbol := ⟨fun _ => rfl⟩
@[simp] theorem w_Symbol : Row.w Symbol = 5 := rfl
@[simp] theorem enc_Symbol (b : Symbol) : enc b = .agg [sv b.label, iv b.box.x1, iv b.box.y1, iv b.box.x2, iv b.box.y2] := rfl
@[simp] theorem cells_Symbol (b : Symbol) : Row.cells b = [sv b.label, iv b.box.x1, iv b.box.y1, iv b.box.x2, iv b.box.y2] := rfl
@[simp] theorem eta_Symbol (b : Symbol) : (⟨b.label, b.box⟩ : Symbol) = b := rfl
theorem snapD_Symbol {h : kA4} (v0 : ByteArray) (v1 : Int) (v2 : Int) (v3 : Int) (v4 : Int)  : snapD h (.agg [sv v0, iv v1, iv v2, iv v3, iv v4]) = some (⟨v0, ⟨v1, v2, v3, v4⟩⟩ : Symbol) := by
  unfold snapD depth
  rw [kEk]
  simp only [kBb, kF6, kFp, kFw, kA2]
  exact Cod.de (⟨v0, ⟨v1, v2, v3, v4⟩⟩ : Symbol)
@[simp] theorem snapS_Symbol (h : kA4) (b : Symbol) : snapD h (.agg [sv b.label, iv b.box.x1, iv b.box.y1, iv b.box.x2, iv b.box.y2]) = some b := snapD_Symbol b.label b.box.x1 b.box.y1 b.box.x2 b.box.y2 
instance : Scal Symbol := ⟨fun _ => rfl⟩
instance : Comp Symbol := ⟨fun _ => rfl⟩
instance : CellOr Symbol := ⟨fun _ _ => rfl⟩
instance : Tre Symbol := kE3 Symbol
attribute [simp] snapD_Symbol
@[simp] theorem dep_Symbol : Tre.dep Symbol = 0 := rfl
instance : Elem Symbol := kEd Symbol
@[simp] theorem nv_Symbol (b : Symbol) : Elem.nv b = nag b := rfl
instance : Wt Symbol where
  wt b := Wt.wt b.label
  big b := Wt.big b.label
  fb := fun b h => by
    have hh : Row.fine b.label ∧ Row.fine b.box := h
    exact Wt.fb _ hh.1
structure Line where
  top : Int
  bottom : Int
  items : (Sl Int)
  deriving DecidableEq
def Line.cells (b : Line) : List AV := [iv b.top, iv b.bottom, Sl.enc b.items]
def Line.un : List AV → Option Line
  | [c0, c1, c2] => kA0 (dec c0 : Option Int) fun v0 => kA0 (dec c1 : Option Int) fun v1 => kA0 (dec c2 : Option (Sl Int)) fun v2 => some ⟨v0, v1, v2⟩
  | _ => none
instance : Row Line where
  w := 3
  cells := Line.cells
  uncells := Line.un
  un b := by
    show (kA0 (dec (enc b.top) : Option Int) fun v0 => kA0 (dec (enc b.bottom) : Option Int) fun v1 => kA0 (dec (enc b.items) : Option (Sl Int)) fun v2 => some (⟨v0, v1, v2⟩ : Line)) = some b
    simp only [Cod.de, kA2]
  nu x b h := by
    unfold Line.un at h
    split at h
    · obtain ⟨v0, e0, h⟩ := kAm h
      obtain ⟨v1, e1, h⟩ := kAm h
      obtain ⟨v2, e2, h⟩ := kAm h
      cases h
      rw [Cod.ed _ _ e0]
      rw [Cod.ed _ _ e1]
      rw [Cod.ed _ _ e2]
      rfl
    · cases h
  len _ := rfl
  fine b := Row.fine b.top ∧ Row.fine b.bottom ∧ Row.fine b.items
instance : Cod Line where
  enc b := .agg b.cells
  dec | .agg cs => Line.un cs | _ => none
  de b := Row.un b
  ed x b h := by
    split at h
    · have e := Row.nu (A := Line) _ _ h
      rw [e]; rfl
    · cases h
instance : Agg Line := ⟨fun _ => rfl⟩
@[simp] theorem w_Line : Row.w Line = 3 := rfl
@[simp] theorem enc_Line (b : Line) : enc b = .agg [iv b.top, iv b.bottom, Sl.enc b.items] := rfl
@[simp] theorem cells_Line (b : Line) : Row.cells b = [iv b.top, iv b.bottom, Sl.enc b.items] := rfl
@[simp] theorem eta_Line (b : Line) : (⟨b.top, b.bottom, b.items⟩ : Line) = b := rfl
theorem snapD_Line {h : kA4} (v0 : Int) (v1 : Int) (v2 : (Sl Int)) {x2 : AV} (h2 : snap h 7 x2 = some (Sl.enc v2)) : snapD h (.agg [iv v0, iv v1, x2]) = some (⟨v0, v1, v2⟩ : Line) := by
  unfold snapD depth
  rw [kEk]
  simp only [kBb, kF6, kFp, kFw, h2, kA2]
  exact Cod.de (⟨v0, v1, v2⟩ : Line)
@[simp] theorem snapS_Line (h : kA4) (b : Line) : snapD h (.agg [iv b.top, iv b.bottom, Sl.enc b.items]) = some b := snapD_Line b.top b.bottom b.items (snap_slenc h 7 b.items)
instance : Tre Line where
  dep := 1
  nrow b := [iv b.top, iv b.bottom, nws b.items]
  norm b := ⟨b.top, b.bottom, Tre.norm b.items⟩
  trr b := by simp [tr_nws]
  frr b d hd := by
    show List.map (frz d) _ = _
    simp only [List.map_cons, List.map_nil, frz_iv, frz_bv, frz_sv, frz_nws b.items (d := d) (by simp; omega)]
    rfl
  fl b n := rfl
@[simp] theorem nrow_Line (b : Line) : Tre.nrow b = [iv b.top, iv b.bottom, nws b.items] := rfl
theorem norm_Line (b : Line) : Tre.norm b = ⟨b.top, b.bottom, Tre.norm b.items⟩ := rfl
@[simp] theorem dep_Line : Tre.dep Line = 1 := rfl
instance : Elem Line := kEd Line
@[simp] theorem nv_Line (b : Line) : Elem.nv b = nag b := rfl
instance : Wt Line where
  wt b := Wt.wt b.items
  big b := Wt.big b.items
  fb := fun b h => by
    have hh : Row.fine b.top ∧ Row.fine b.bottom ∧ Row.fine b.items := h
    exact Wt.fb _ hh.2.2
theorem wt_Line (b : Line) : Wt.wt b = Wt.wt b.items := rfl
instance : Wt Box where
  wt _ := 0
  big _ := true
  fb := fun _ _ => rfl
@[simp] theorem wt_Box (b : Box) : Wt.wt b = 0 := rfl
instance : Wt Frac where
  wt _ := 0
  big _ := true
  fb := fun _ _ => rfl
instance : Wt Spot where
  wt _ := 0
  big _ := true
  fb := fun _ _ => rfl
@[simp] theorem mc_Point (b : Point) (n : Nat) : (mv (nag b) n).cells = [iv b.x, iv b.y, iv b.t] := rfl
@[simp] theorem mt_Point (b : Point) (n : Nat) : mt (nag b) n = [] := rfl
@[simp] theorem mc_Note (b : Note) (n : Nat) : (mv (nag b) n).cells = [iv b.frm, iv b.upto, sv b.text] := rfl
@[simp] theorem mt_Note (b : Note) (n : Nat) : mt (nag b) n = [] := rfl
@[simp] theorem mc_Pair (b : Pair) (n : Nat) : (mv (nag b) n).cells = [iv b.i, iv b.j] := rfl
@[simp] theorem mt_Pair (b : Pair) (n : Nat) : mt (nag b) n = [] := rfl
@[simp] theorem mc_Symbol (b : Symbol) (n : Nat) : (mv (nag b) n).cells = [sv b.label, iv b.box.x1, iv b.box.y1, iv b.box.x2, iv b.box.y2] := rfl
@[simp] theorem mt_Symbol (b : Symbol) (n : Nat) : mt (nag b) n = [] := rfl
@[simp] theorem mc_Box (b : Box) (n : Nat) : (mv (nag b) n).cells = [iv b.x1, iv b.y1, iv b.x2, iv b.y2] := rfl
@[simp] theorem mt_Box (b : Box) (n : Nat) : mt (nag b) n = [] := rfl
@[simp] theorem mc_Spot (b : Spot) (n : Nat) : (mv (nag b) n).cells = [iv b.x, iv b.y] := rfl
@[simp] theorem mt_Spot (b : Spot) (n : Nat) : mt (nag b) n = [] := rfl
@[simp] theorem mc_Frac (b : Frac) (n : Nat) : (mv (nag b) n).cells = [iv b.n, iv b.d] := rfl
@[simp] theorem mt_Frac (b : Frac) (n : Nat) : mt (nag b) n = [] := rfl
end Go.Eng
