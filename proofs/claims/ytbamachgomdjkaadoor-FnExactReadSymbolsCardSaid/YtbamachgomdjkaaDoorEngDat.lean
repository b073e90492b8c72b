/-
  THE ENGINE, PART 30: the program's structs as Lean types. Printed by a program of mine (dom2.py).
-/
import Derived.Test.YtbamachgomdjkaaDoorEngNorm
namespace Go.Eng
set_option linter.unusedVariables false
set_option linter.unusedSimpArgs false
open Cod (enc dec)

theorem obind_ex {α β : Type} {x : Option α} {f : α → Option β} {b : β} (h : obind x f = some b) : ∃ a, x = some a ∧ f a = some b := by
  cases x with
  | none => cases h
  | some a => exact ⟨a, rfl, h⟩
@[simp] theorem snap_slenc {A : Type} [Row A] (h : Heap) (d : Nat) (q : Sl A) : snap h d (Sl.enc q) = some (Sl.enc q) := by
  cases q <;> cases d <;> rfl
@[simp] theorem flat_slenc {A : Type} [Row A] (q : Sl A) : (Sl.enc q).flat = true := by cases q <;> rfl
@[simp] theorem cells_slenc {A : Type} [Row A] (q : Sl A) : (Sl.enc q).cells = [Sl.enc q] := by cases q <;> rfl
@[simp] theorem snap_iv (h : Heap) (d : Nat) (n : Int) : snap h d (iv n) = some (iv n) := snap_sc h d rfl
@[simp] theorem snap_bv (h : Heap) (d : Nat) (n : Bool) : snap h d (bv n) = some (bv n) := snap_sc h d rfl
@[simp] theorem snap_sv (h : Heap) (d : Nat) (n : ByteArray) : snap h d (sv n) = some (sv n) := snap_sc h d rfl
@[simp] theorem frz_iv (d : Nat) (n : Int) : frz d (iv n) = iv n := frz_sc d rfl
@[simp] theorem frz_bv (d : Nat) (n : Bool) : frz d (bv n) = bv n := frz_sc d rfl
@[simp] theorem frz_sv (d : Nat) (n : ByteArray) : frz d (sv n) = sv n := frz_sc d rfl
@[simp] theorem tr_iv (d : Nat) (n : Int) : tr d (iv n) = true := tr_sc d rfl
@[simp] theorem tr_bv (d : Nat) (n : Bool) : tr d (bv n) = true := tr_sc d rfl
@[simp] theorem tr_sv (d : Nat) (n : ByteArray) : tr d (sv n) = true := tr_sc d rfl
@[simp] theorem snap_nil (h : Heap) (d : Nat) : snap h d nilS = some nilS := snap_sc h d rfl
theorem snap_agg (h : Heap) (d : Nat) (cs : List AV) : snap h (d + 1) (.agg cs) = obind (omap (snap h d) cs) fun cs => some (.agg cs) := by
  show (match omap (snap h d) cs with | some cs => some (AV.agg cs) | none => none) = _
  cases omap (snap h d) cs <;> rfl
theorem at_snapN {A : Type} [Row A] [Tre A] {H : Heap} {n : Nat} (q : Sl A) (hd : Tre.dep A + 1 ≤ 6) (h : At H n (mt (nws q) n)) {D : Nat} (hD : 6 ≤ D) : snap H D (mv (nws q) n) = some (Sl.enc (Tre.norm q)) := by
  rw [h.snap (tr_nws q hd) hD, frz_nws q hd]
  rfl

structure Point where
  x : Int
  y : Int
  t : Int
  deriving DecidableEq
def Point.cells (b : Point) : List AV := [iv b.x, iv b.y, iv b.t]
def Point.un : List AV → Option Point
  | [c0, c1, c2] => obind (dec c0 : Option Int) fun v0 => obind (dec c1 : Option Int) fun v1 => obind (dec c2 : Option Int) fun v2 => some ⟨v0, v1, v2⟩
  | _ => none
instance : Row Point where
  w := 3
  cells := Point.cells
  uncells := Point.un
  un b := by
    show (obind (dec (enc b.x) : Option Int) fun v0 => obind (dec (enc b.y) : Option Int) fun v1 => obind (dec (enc b.t) : Option Int) fun v2 => some (⟨v0, v1, v2⟩ : Point)) = some b
    simp only [Cod.de, obind_sm]
  nu x b h := by
    unfold Point.un at h
    split at h
    · obtain ⟨v0, e0, h⟩ := obind_ex h
      obtain ⟨v1, e1, h⟩ := obind_ex h
      obtain ⟨v2, e2, h⟩ := obind_ex h
      cases h
      rw [Cod.ed _ _ e0]
      rw [Cod.ed _ _ e1]
      rw [Cod.ed _ _ e2]
      rfl
    · cases h
  len _ := rfl
  fine b := Row.fine b.x ∧ Row.fine b.y ∧ Row.fine b.t
instance : CodR Point where
  enc b := .agg b.cells
  dec | .agg cs => Point.un cs | _ => none
  de b := Row.un b
  ed x b h := by
    split at h
    · have e := Row.nu (A := Point) _ _ h
      rw [e]; rfl
    · cases h
  plain _ := rfl
instance : Agg Point := ⟨fun _ => rfl⟩
@[simp] theorem w_Point : Row.w Point = 3 := rfl
@[simp] theorem enc_Point (b : Point) : enc b = .agg [iv b.x, iv b.y, iv b.t] := rfl
@[simp] theorem cells_Point (b : Point) : Row.cells b = [iv b.x, iv b.y, iv b.t] := rfl
@[simp] theorem eta_Point (b : Point) : (⟨b.x, b.y, b.t⟩ : Point) = b := rfl
theorem snapD_Point {h : Heap} (v0 : Int) (v1 : Int) (v2 : Int)  : snapD h (.agg [iv v0, iv v1, iv v2]) = some (⟨v0, v1, v2⟩ : Point) := by
  unfold snapD depth
  rw [snap_agg]
  simp only [omap, snap_iv, snap_bv, snap_sv, obind_sm]
  exact Cod.de (⟨v0, v1, v2⟩ : Point)
@[simp] theorem snapS_Point (h : Heap) (b : Point) : snapD h (.agg [iv b.x, iv b.y, iv b.t]) = some b := snapD_Point b.x b.y b.t 
instance : Scal Point := ⟨fun _ => rfl⟩
instance : Comp Point := ⟨fun _ => rfl⟩
instance : CellOr Point := ⟨fun _ _ => rfl⟩
instance : Tre Point := scalTre Point
attribute [simp] snapD_Point
theorem aCmp_Point (a b : Point) : aCmp .eql (.agg [.int, .int, .int]) (.agg [iv a.x, iv a.y, iv a.t]) (.agg [iv b.x, iv b.y, iv b.t]) = some (bv (decide (a = b))) ∧
    aCmp .neq (.agg [.int, .int, .int]) (.agg [iv a.x, iv a.y, iv a.t]) (.agg [iv b.x, iv b.y, iv b.t]) = some (bv !decide (a = b)) := by
  have h := aCmp_agg (ks := [.int, .int, .int]) rfl rfl (cellsEq_cons _ _ _ _ _ _ _ _ (cellEq_iv a.x b.x) (cellsEq_cons _ _ _ _ _ _ _ _ (cellEq_iv a.y b.y) (cellsEq_cons _ _ _ _ _ _ _ _ (cellEq_iv a.t b.t) cellsEq_nil)))
  have e : (decide (a.x = b.x) && (decide (a.y = b.y) && (decide (a.t = b.t) && true))) = decide (a = b) := by
    obtain ⟨a_x, a_y, a_t⟩ := a
    obtain ⟨b_x, b_y, b_t⟩ := b
    simp [and_assoc]
  rw [e] at h
  exact h
@[simp] theorem dep_Point : Tre.dep Point = 0 := rfl
instance : Elem Point := aggElem Point
@[simp] theorem nv_Point (b : Point) : Elem.nv b = nag b := rfl
instance : Wt Point where
  wt _ := 0
  big _ := true
  fb := fun _ _ => rfl
theorem wt_Point (b : Point) : Wt.wt b = 0 := rfl
theorem big_Point (b : Point) : Wt.big b = (true) := rfl

structure Stroke where
  points : (Sl Point)
  deriving DecidableEq
def Stroke.cells (b : Stroke) : List AV := [Sl.enc b.points]
def Stroke.un : List AV → Option Stroke
  | [c0] => obind (dec c0 : Option (Sl Point)) fun v0 => some ⟨v0⟩
  | _ => none
instance : Row Stroke where
  w := 1
  cells := Stroke.cells
  uncells := Stroke.un
  un b := by
    show (obind (dec (enc b.points) : Option (Sl Point)) fun v0 => some (⟨v0⟩ : Stroke)) = some b
    simp only [Cod.de, obind_sm]
  nu x b h := by
    unfold Stroke.un at h
    split at h
    · obtain ⟨v0, e0, h⟩ := obind_ex h
      cases h
      rw [Cod.ed _ _ e0]
      rfl
    · cases h
  len _ := rfl
  fine b := Row.fine b.points
instance : Cod Stroke where
  enc b := .agg b.cells
  dec | .agg cs => Stroke.un cs | _ => none
  de b := Row.un b
  ed x b h := by
    split at h
    · have e := Row.nu (A := Stroke) _ _ h
      rw [e]; rfl
    · cases h
instance : Agg Stroke := ⟨fun _ => rfl⟩
@[simp] theorem w_Stroke : Row.w Stroke = 1 := rfl
@[simp] theorem enc_Stroke (b : Stroke) : enc b = .agg [Sl.enc b.points] := rfl
@[simp] theorem cells_Stroke (b : Stroke) : Row.cells b = [Sl.enc b.points] := rfl
@[simp] theorem eta_Stroke (b : Stroke) : (⟨b.points⟩ : Stroke) = b := rfl
theorem snapD_Stroke {h : Heap} (v0 : (Sl Point)) {x0 : AV} (h0 : snap h 7 x0 = some (Sl.enc v0)) : snapD h (.agg [x0]) = some (⟨v0⟩ : Stroke) := by
  unfold snapD depth
  rw [snap_agg]
  simp only [omap, snap_iv, snap_bv, snap_sv, h0, obind_sm]
  exact Cod.de (⟨v0⟩ : Stroke)
@[simp] theorem snapS_Stroke (h : Heap) (b : Stroke) : snapD h (.agg [Sl.enc b.points]) = some b := snapD_Stroke b.points (snap_slenc h 7 b.points)
instance : Tre Stroke where
  dep := 1
  nrow b := [nws b.points]
  norm b := ⟨Tre.norm b.points⟩
  trr b := by simp [tr_nws]
  frr b d hd := by
    show List.map (frz d) _ = _
    simp only [List.map_cons, List.map_nil, frz_iv, frz_bv, frz_sv, frz_nws b.points (d := d) (by simp; omega)]
    rfl
  fl b n := rfl
@[simp] theorem nrow_Stroke (b : Stroke) : Tre.nrow b = [nws b.points] := rfl
theorem norm_Stroke (b : Stroke) : Tre.norm b = ⟨Tre.norm b.points⟩ := rfl
@[simp] theorem dep_Stroke : Tre.dep Stroke = 1 := rfl
instance : Elem Stroke := aggElem Stroke
@[simp] theorem nv_Stroke (b : Stroke) : Elem.nv b = nag b := rfl
instance : Wt Stroke where
  wt b := Wt.wt b.points
  big b := Wt.big b.points
  fb := fun b h => by
    have hh : Row.fine b.points := h
    exact Wt.fb _ hh
theorem wt_Stroke (b : Stroke) : Wt.wt b = Wt.wt b.points := rfl
theorem big_Stroke (b : Stroke) : Wt.big b = (Wt.big b.points) := rfl

structure Ink where
  strokes : (Sl Stroke)
  deriving DecidableEq
def Ink.cells (b : Ink) : List AV := [Sl.enc b.strokes]
def Ink.un : List AV → Option Ink
  | [c0] => obind (dec c0 : Option (Sl Stroke)) fun v0 => some ⟨v0⟩
  | _ => none
instance : Row Ink where
  w := 1
  cells := Ink.cells
  uncells := Ink.un
  un b := by
    show (obind (dec (enc b.strokes) : Option (Sl Stroke)) fun v0 => some (⟨v0⟩ : Ink)) = some b
    simp only [Cod.de, obind_sm]
  nu x b h := by
    unfold Ink.un at h
    split at h
    · obtain ⟨v0, e0, h⟩ := obind_ex h
      cases h
      rw [Cod.ed _ _ e0]
      rfl
    · cases h
  len _ := rfl
  fine b := Row.fine b.strokes
instance : Cod Ink where
  enc b := .agg b.cells
  dec | .agg cs => Ink.un cs | _ => none
  de b := Row.un b
  ed x b h := by
    split at h
    · have e := Row.nu (A := Ink) _ _ h
      rw [e]; rfl
    · cases h
instance : Agg Ink := ⟨fun _ => rfl⟩
@[simp] theorem w_Ink : Row.w Ink = 1 := rfl
@[simp] theorem enc_Ink (b : Ink) : enc b = .agg [Sl.enc b.strokes] := rfl
@[simp] theorem cells_Ink (b : Ink) : Row.cells b = [Sl.enc b.strokes] := rfl
@[simp] theorem eta_Ink (b : Ink) : (⟨b.strokes⟩ : Ink) = b := rfl
theorem snapD_Ink {h : Heap} (v0 : (Sl Stroke)) {x0 : AV} (h0 : snap h 7 x0 = some (Sl.enc v0)) : snapD h (.agg [x0]) = some (⟨v0⟩ : Ink) := by
  unfold snapD depth
  rw [snap_agg]
  simp only [omap, snap_iv, snap_bv, snap_sv, h0, obind_sm]
  exact Cod.de (⟨v0⟩ : Ink)
@[simp] theorem snapS_Ink (h : Heap) (b : Ink) : snapD h (.agg [Sl.enc b.strokes]) = some b := snapD_Ink b.strokes (snap_slenc h 7 b.strokes)
instance : Tre Ink where
  dep := 2
  nrow b := [nws b.strokes]
  norm b := ⟨Tre.norm b.strokes⟩
  trr b := by simp [tr_nws]
  frr b d hd := by
    show List.map (frz d) _ = _
    simp only [List.map_cons, List.map_nil, frz_iv, frz_bv, frz_sv, frz_nws b.strokes (d := d) (by simp; omega)]
    rfl
  fl b n := rfl
@[simp] theorem nrow_Ink (b : Ink) : Tre.nrow b = [nws b.strokes] := rfl
theorem norm_Ink (b : Ink) : Tre.norm b = ⟨Tre.norm b.strokes⟩ := rfl
@[simp] theorem dep_Ink : Tre.dep Ink = 2 := rfl
instance : Elem Ink := aggElem Ink
@[simp] theorem nv_Ink (b : Ink) : Elem.nv b = nag b := rfl
instance : Wt Ink where
  wt b := Wt.wt b.strokes
  big b := Wt.big b.strokes
  fb := fun b h => by
    have hh : Row.fine b.strokes := h
    exact Wt.fb _ hh
theorem wt_Ink (b : Ink) : Wt.wt b = Wt.wt b.strokes := rfl
theorem big_Ink (b : Ink) : Wt.big b = (Wt.big b.strokes) := rfl

structure Note where
  frm : Int
  upto : Int
  text : ByteArray
  deriving DecidableEq
def Note.cells (b : Note) : List AV := [iv b.frm, iv b.upto, sv b.text]
def Note.un : List AV → Option Note
  | [c0, c1, c2] => obind (dec c0 : Option Int) fun v0 => obind (dec c1 : Option Int) fun v1 => obind (dec c2 : Option ByteArray) fun v2 => some ⟨v0, v1, v2⟩
  | _ => none
instance : Row Note where
  w := 3
  cells := Note.cells
  uncells := Note.un
  un b := by
    show (obind (dec (enc b.frm) : Option Int) fun v0 => obind (dec (enc b.upto) : Option Int) fun v1 => obind (dec (enc b.text) : Option ByteArray) fun v2 => some (⟨v0, v1, v2⟩ : Note)) = some b
    simp only [Cod.de, obind_sm]
  nu x b h := by
    unfold Note.un at h
    split at h
    · obtain ⟨v0, e0, h⟩ := obind_ex h
      obtain ⟨v1, e1, h⟩ := obind_ex h
      obtain ⟨v2, e2, h⟩ := obind_ex h
      cases h
      rw [Cod.ed _ _ e0]
      rw [Cod.ed _ _ e1]
      rw [Cod.ed _ _ e2]
      rfl
    · cases h
  len _ := rfl
  fine b := Row.fine b.frm ∧ Row.fine b.upto ∧ Row.fine b.text
instance : CodR Note where
  enc b := .agg b.cells
  dec | .agg cs => Note.un cs | _ => none
  de b := Row.un b
  ed x b h := by
    split at h
    · have e := Row.nu (A := Note) _ _ h
      rw [e]; rfl
    · cases h
  plain _ := rfl
instance : Agg Note := ⟨fun _ => rfl⟩
@[simp] theorem w_Note : Row.w Note = 3 := rfl
@[simp] theorem enc_Note (b : Note) : enc b = .agg [iv b.frm, iv b.upto, sv b.text] := rfl
@[simp] theorem cells_Note (b : Note) : Row.cells b = [iv b.frm, iv b.upto, sv b.text] := rfl
@[simp] theorem eta_Note (b : Note) : (⟨b.frm, b.upto, b.text⟩ : Note) = b := rfl
theorem snapD_Note {h : Heap} (v0 : Int) (v1 : Int) (v2 : ByteArray)  : snapD h (.agg [iv v0, iv v1, sv v2]) = some (⟨v0, v1, v2⟩ : Note) := by
  unfold snapD depth
  rw [snap_agg]
  simp only [omap, snap_iv, snap_bv, snap_sv, obind_sm]
  exact Cod.de (⟨v0, v1, v2⟩ : Note)
@[simp] theorem snapS_Note (h : Heap) (b : Note) : snapD h (.agg [iv b.frm, iv b.upto, sv b.text]) = some b := snapD_Note b.frm b.upto b.text 
instance : Scal Note := ⟨fun _ => rfl⟩
instance : Comp Note := ⟨fun _ => rfl⟩
instance : CellOr Note := ⟨fun _ _ => rfl⟩
instance : Tre Note := scalTre Note
attribute [simp] snapD_Note
theorem aCmp_Note (a b : Note) : aCmp .eql (.agg [.int, .int, .str]) (.agg [iv a.frm, iv a.upto, sv a.text]) (.agg [iv b.frm, iv b.upto, sv b.text]) = some (bv (decide (a = b))) ∧
    aCmp .neq (.agg [.int, .int, .str]) (.agg [iv a.frm, iv a.upto, sv a.text]) (.agg [iv b.frm, iv b.upto, sv b.text]) = some (bv !decide (a = b)) := by
  have h := aCmp_agg (ks := [.int, .int, .str]) rfl rfl (cellsEq_cons _ _ _ _ _ _ _ _ (cellEq_iv a.frm b.frm) (cellsEq_cons _ _ _ _ _ _ _ _ (cellEq_iv a.upto b.upto) (cellsEq_cons _ _ _ _ _ _ _ _ (cellEq_sv a.text b.text) cellsEq_nil)))
  have e : (decide (a.frm = b.frm) && (decide (a.upto = b.upto) && (decide (a.text = b.text) && true))) = decide (a = b) := by
    obtain ⟨a_frm, a_upto, a_text⟩ := a
    obtain ⟨b_frm, b_upto, b_text⟩ := b
    simp [and_assoc]
  rw [e] at h
  exact h
@[simp] theorem dep_Note : Tre.dep Note = 0 := rfl
instance : Elem Note := aggElem Note
@[simp] theorem nv_Note (b : Note) : Elem.nv b = nag b := rfl
instance : Wt Note where
  wt b := Wt.wt b.text
  big b := Wt.big b.text
  fb := fun b h => by
    have hh : Row.fine b.frm ∧ Row.fine b.upto ∧ Row.fine b.text := h
    exact Wt.fb _ hh.2.2
theorem wt_Note (b : Note) : Wt.wt b = Wt.wt b.text := rfl
theorem big_Note (b : Note) : Wt.big b = (Wt.big b.text) := rfl

structure Feat where
  x : Int
  y : Int
  d : Int
  deriving DecidableEq
def Feat.cells (b : Feat) : List AV := [iv b.x, iv b.y, iv b.d]
def Feat.un : List AV → Option Feat
  | [c0, c1, c2] => obind (dec c0 : Option Int) fun v0 => obind (dec c1 : Option Int) fun v1 => obind (dec c2 : Option Int) fun v2 => some ⟨v0, v1, v2⟩
  | _ => none
instance : Row Feat where
  w := 3
  cells := Feat.cells
  uncells := Feat.un
  un b := by
    show (obind (dec (enc b.x) : Option Int) fun v0 => obind (dec (enc b.y) : Option Int) fun v1 => obind (dec (enc b.d) : Option Int) fun v2 => some (⟨v0, v1, v2⟩ : Feat)) = some b
    simp only [Cod.de, obind_sm]
  nu x b h := by
    unfold Feat.un at h
    split at h
    · obtain ⟨v0, e0, h⟩ := obind_ex h
      obtain ⟨v1, e1, h⟩ := obind_ex h
      obtain ⟨v2, e2, h⟩ := obind_ex h
      cases h
      rw [Cod.ed _ _ e0]
      rw [Cod.ed _ _ e1]
      rw [Cod.ed _ _ e2]
      rfl
    · cases h
  len _ := rfl
  fine b := Row.fine b.x ∧ Row.fine b.y ∧ Row.fine b.d
instance : CodR Feat where
  enc b := .agg b.cells
  dec | .agg cs => Feat.un cs | _ => none
  de b := Row.un b
  ed x b h := by
    split at h
    · have e := Row.nu (A := Feat) _ _ h
      rw [e]; rfl
    · cases h
  plain _ := rfl
instance : Agg Feat := ⟨fun _ => rfl⟩
@[simp] theorem w_Feat : Row.w Feat = 3 := rfl
@[simp] theorem enc_Feat (b : Feat) : enc b = .agg [iv b.x, iv b.y, iv b.d] := rfl
@[simp] theorem cells_Feat (b : Feat) : Row.cells b = [iv b.x, iv b.y, iv b.d] := rfl
@[simp] theorem eta_Feat (b : Feat) : (⟨b.x, b.y, b.d⟩ : Feat) = b := rfl
theorem snapD_Feat {h : Heap} (v0 : Int) (v1 : Int) (v2 : Int)  : snapD h (.agg [iv v0, iv v1, iv v2]) = some (⟨v0, v1, v2⟩ : Feat) := by
  unfold snapD depth
  rw [snap_agg]
  simp only [omap, snap_iv, snap_bv, snap_sv, obind_sm]
  exact Cod.de (⟨v0, v1, v2⟩ : Feat)
@[simp] theorem snapS_Feat (h : Heap) (b : Feat) : snapD h (.agg [iv b.x, iv b.y, iv b.d]) = some b := snapD_Feat b.x b.y b.d 
instance : Scal Feat := ⟨fun _ => rfl⟩
instance : Comp Feat := ⟨fun _ => rfl⟩
instance : CellOr Feat := ⟨fun _ _ => rfl⟩
instance : Tre Feat := scalTre Feat
attribute [simp] snapD_Feat
theorem aCmp_Feat (a b : Feat) : aCmp .eql (.agg [.int, .int, .int]) (.agg [iv a.x, iv a.y, iv a.d]) (.agg [iv b.x, iv b.y, iv b.d]) = some (bv (decide (a = b))) ∧
    aCmp .neq (.agg [.int, .int, .int]) (.agg [iv a.x, iv a.y, iv a.d]) (.agg [iv b.x, iv b.y, iv b.d]) = some (bv !decide (a = b)) := by
  have h := aCmp_agg (ks := [.int, .int, .int]) rfl rfl (cellsEq_cons _ _ _ _ _ _ _ _ (cellEq_iv a.x b.x) (cellsEq_cons _ _ _ _ _ _ _ _ (cellEq_iv a.y b.y) (cellsEq_cons _ _ _ _ _ _ _ _ (cellEq_iv a.d b.d) cellsEq_nil)))
  have e : (decide (a.x = b.x) && (decide (a.y = b.y) && (decide (a.d = b.d) && true))) = decide (a = b) := by
    obtain ⟨a_x, a_y, a_d⟩ := a
    obtain ⟨b_x, b_y, b_d⟩ := b
    simp [and_assoc]
  rw [e] at h
  exact h
@[simp] theorem dep_Feat : Tre.dep Feat = 0 := rfl
instance : Elem Feat := aggElem Feat
@[simp] theorem nv_Feat (b : Feat) : Elem.nv b = nag b := rfl
instance : Wt Feat where
  wt _ := 0
  big _ := true
  fb := fun _ _ => rfl
theorem wt_Feat (b : Feat) : Wt.wt b = 0 := rfl
theorem big_Feat (b : Feat) : Wt.big b = (true) := rfl

structure Pair where
  i : Int
  j : Int
  deriving DecidableEq
def Pair.cells (b : Pair) : List AV := [iv b.i, iv b.j]
def Pair.un : List AV → Option Pair
  | [c0, c1] => obind (dec c0 : Option Int) fun v0 => obind (dec c1 : Option Int) fun v1 => some ⟨v0, v1⟩
  | _ => none
instance : Row Pair where
  w := 2
  cells := Pair.cells
  uncells := Pair.un
  un b := by
    show (obind (dec (enc b.i) : Option Int) fun v0 => obind (dec (enc b.j) : Option Int) fun v1 => some (⟨v0, v1⟩ : Pair)) = some b
    simp only [Cod.de, obind_sm]
  nu x b h := by
    unfold Pair.un at h
    split at h
    · obtain ⟨v0, e0, h⟩ := obind_ex h
      obtain ⟨v1, e1, h⟩ := obind_ex h
      cases h
      rw [Cod.ed _ _ e0]
      rw [Cod.ed _ _ e1]
      rfl
    · cases h
  len _ := rfl
  fine b := Row.fine b.i ∧ Row.fine b.j
instance : CodR Pair where
  enc b := .agg b.cells
  dec | .agg cs => Pair.un cs | _ => none
  de b := Row.un b
  ed x b h := by
    split at h
    · have e := Row.nu (A := Pair) _ _ h
      rw [e]; rfl
    · cases h
  plain _ := rfl
instance : Agg Pair := ⟨fun _ => rfl⟩
@[simp] theorem w_Pair : Row.w Pair = 2 := rfl
@[simp] theorem enc_Pair (b : Pair) : enc b = .agg [iv b.i, iv b.j] := rfl
@[simp] theorem cells_Pair (b : Pair) : Row.cells b = [iv b.i, iv b.j] := rfl
@[simp] theorem eta_Pair (b : Pair) : (⟨b.i, b.j⟩ : Pair) = b := rfl
theorem snapD_Pair {h : Heap} (v0 : Int) (v1 : Int)  : snapD h (.agg [iv v0, iv v1]) = some (⟨v0, v1⟩ : Pair) := by
  unfold snapD depth
  rw [snap_agg]
  simp only [omap, snap_iv, snap_bv, snap_sv, obind_sm]
  exact Cod.de (⟨v0, v1⟩ : Pair)
@[simp] theorem snapS_Pair (h : Heap) (b : Pair) : snapD h (.agg [iv b.i, iv b.j]) = some b := snapD_Pair b.i b.j 
instance : Scal Pair := ⟨fun _ => rfl⟩
instance : Comp Pair := ⟨fun _ => rfl⟩
instance : CellOr Pair := ⟨fun _ _ => rfl⟩
instance : Tre Pair := scalTre Pair
attribute [simp] snapD_Pair
theorem aCmp_Pair (a b : Pair) : aCmp .eql (.agg [.int, .int]) (.agg [iv a.i, iv a.j]) (.agg [iv b.i, iv b.j]) = some (bv (decide (a = b))) ∧
    aCmp .neq (.agg [.int, .int]) (.agg [iv a.i, iv a.j]) (.agg [iv b.i, iv b.j]) = some (bv !decide (a = b)) := by
  have h := aCmp_agg (ks := [.int, .int]) rfl rfl (cellsEq_cons _ _ _ _ _ _ _ _ (cellEq_iv a.i b.i) (cellsEq_cons _ _ _ _ _ _ _ _ (cellEq_iv a.j b.j) cellsEq_nil))
  have e : (decide (a.i = b.i) && (decide (a.j = b.j) && true)) = decide (a = b) := by
    obtain ⟨a_i, a_j⟩ := a
    obtain ⟨b_i, b_j⟩ := b
    simp [and_assoc]
  rw [e] at h
  exact h
@[simp] theorem dep_Pair : Tre.dep Pair = 0 := rfl
instance : Elem Pair := aggElem Pair
@[simp] theorem nv_Pair (b : Pair) : Elem.nv b = nag b := rfl
instance : Wt Pair where
  wt _ := 0
  big _ := true
  fb := fun _ _ => rfl
theorem wt_Pair (b : Pair) : Wt.wt b = 0 := rfl
theorem big_Pair (b : Pair) : Wt.big b = (true) := rfl

structure Symbol where
  label : ByteArray
  box : Box
  deriving DecidableEq
def Symbol.cells (b : Symbol) : List AV := [sv b.label, iv b.box.x1, iv b.box.y1, iv b.box.x2, iv b.box.y2]
def Symbol.un : List AV → Option Symbol
  | [c0, c1, c2, c3, c4] => obind (dec c0 : Option ByteArray) fun v0 => obind (dec c1 : Option Int) fun v1 => obind (dec c2 : Option Int) fun v2 => obind (dec c3 : Option Int) fun v3 => obind (dec c4 : Option Int) fun v4 => some ⟨v0, ⟨v1, v2, v3, v4⟩⟩
  | _ => none
instance : Row Symbol where
  w := 5
  cells := Symbol.cells
  uncells := Symbol.un
  un b := by
    show (obind (dec (enc b.label) : Option ByteArray) fun v0 => obind (dec (enc b.box.x1) : Option Int) fun v1 => obind (dec (enc b.box.y1) : Option Int) fun v2 => obind (dec (enc b.box.x2) : Option Int) fun v3 => obind (dec (enc b.box.y2) : Option Int) fun v4 => some (⟨v0, ⟨v1, v2, v3, v4⟩⟩ : Symbol)) = some b
    simp only [Cod.de, obind_sm]
  nu x b h := by
    unfold Symbol.un at h
    split at h
    · obtain ⟨v0, e0, h⟩ := obind_ex h
      obtain ⟨v1, e1, h⟩ := obind_ex h
      obtain ⟨v2, e2, h⟩ := obind_ex h
      obtain ⟨v3, e3, h⟩ := obind_ex h
      obtain ⟨v4, e4, h⟩ := obind_ex h
      cases h
      rw [Cod.ed _ _ e0]
      rw [Cod.ed _ _ e1]
      rw [Cod.ed _ _ e2]
      rw [Cod.ed _ _ e3]
      rw [Cod.ed _ _ e4]
      rfl
    · cases h
  len _ := rfl
  fine b := Row.fine b.label ∧ Row.fine b.box
instance : CodR Symbol where
  enc b := .agg b.cells
  dec | .agg cs => Symbol.un cs | _ => none
  de b := Row.un b
  ed x b h := by
    split at h
    · have e := Row.nu (A := Symbol) _ _ h
      rw [e]; rfl
    · cases h
  plain _ := rfl
instance : Agg Symbol := ⟨fun _ => rfl⟩
@[simp] theorem w_Symbol : Row.w Symbol = 5 := rfl
@[simp] theorem enc_Symbol (b : Symbol) : enc b = .agg [sv b.label, iv b.box.x1, iv b.box.y1, iv b.box.x2, iv b.box.y2] := rfl
@[simp] theorem cells_Symbol (b : Symbol) : Row.cells b = [sv b.label, iv b.box.x1, iv b.box.y1, iv b.box.x2, iv b.box.y2] := rfl
@[simp] theorem eta_Symbol (b : Symbol) : (⟨b.label, b.box⟩ : Symbol) = b := rfl
theorem snapD_Symbol {h : Heap} (v0 : ByteArray) (v1 : Int) (v2 : Int) (v3 : Int) (v4 : Int)  : snapD h (.agg [sv v0, iv v1, iv v2, iv v3, iv v4]) = some (⟨v0, ⟨v1, v2, v3, v4⟩⟩ : Symbol) := by
  unfold snapD depth
  rw [snap_agg]
  simp only [omap, snap_iv, snap_bv, snap_sv, obind_sm]
  exact Cod.de (⟨v0, ⟨v1, v2, v3, v4⟩⟩ : Symbol)
@[simp] theorem snapS_Symbol (h : Heap) (b : Symbol) : snapD h (.agg [sv b.label, iv b.box.x1, iv b.box.y1, iv b.box.x2, iv b.box.y2]) = some b := snapD_Symbol b.label b.box.x1 b.box.y1 b.box.x2 b.box.y2 
instance : Scal Symbol := ⟨fun _ => rfl⟩
instance : Comp Symbol := ⟨fun _ => rfl⟩
instance : CellOr Symbol := ⟨fun _ _ => rfl⟩
instance : Tre Symbol := scalTre Symbol
attribute [simp] snapD_Symbol
theorem aCmp_Symbol (a b : Symbol) : aCmp .eql (.agg [.str, .int, .int, .int, .int]) (.agg [sv a.label, iv a.box.x1, iv a.box.y1, iv a.box.x2, iv a.box.y2]) (.agg [sv b.label, iv b.box.x1, iv b.box.y1, iv b.box.x2, iv b.box.y2]) = some (bv (decide (a = b))) ∧
    aCmp .neq (.agg [.str, .int, .int, .int, .int]) (.agg [sv a.label, iv a.box.x1, iv a.box.y1, iv a.box.x2, iv a.box.y2]) (.agg [sv b.label, iv b.box.x1, iv b.box.y1, iv b.box.x2, iv b.box.y2]) = some (bv !decide (a = b)) := by
  have h := aCmp_agg (ks := [.str, .int, .int, .int, .int]) rfl rfl (cellsEq_cons _ _ _ _ _ _ _ _ (cellEq_sv a.label b.label) (cellsEq_cons _ _ _ _ _ _ _ _ (cellEq_iv a.box.x1 b.box.x1) (cellsEq_cons _ _ _ _ _ _ _ _ (cellEq_iv a.box.y1 b.box.y1) (cellsEq_cons _ _ _ _ _ _ _ _ (cellEq_iv a.box.x2 b.box.x2) (cellsEq_cons _ _ _ _ _ _ _ _ (cellEq_iv a.box.y2 b.box.y2) cellsEq_nil)))))
  have e : (decide (a.label = b.label) && (decide (a.box.x1 = b.box.x1) && (decide (a.box.y1 = b.box.y1) && (decide (a.box.x2 = b.box.x2) && (decide (a.box.y2 = b.box.y2) && true))))) = decide (a = b) := by
    obtain ⟨a_label, ⟨abox__x1, abox__y1, abox__x2, abox__y2⟩⟩ := a
    obtain ⟨b_label, ⟨bbox__x1, bbox__y1, bbox__x2, bbox__y2⟩⟩ := b
    simp [and_assoc]
  rw [e] at h
  exact h
@[simp] theorem dep_Symbol : Tre.dep Symbol = 0 := rfl
instance : Elem Symbol := aggElem Symbol
@[simp] theorem nv_Symbol (b : Symbol) : Elem.nv b = nag b := rfl
instance : Wt Symbol where
  wt b := Wt.wt b.label
  big b := Wt.big b.label
  fb := fun b h => by
    have hh : Row.fine b.label ∧ Row.fine b.box := h
    exact Wt.fb _ hh.1
theorem wt_Symbol (b : Symbol) : Wt.wt b = Wt.wt b.label := rfl
theorem big_Symbol (b : Symbol) : Wt.big b = (Wt.big b.label) := rfl

structure Line where
  top : Int
  bottom : Int
  items : (Sl Int)
  deriving DecidableEq
def Line.cells (b : Line) : List AV := [iv b.top, iv b.bottom, Sl.enc b.items]
def Line.un : List AV → Option Line
  | [c0, c1, c2] => obind (dec c0 : Option Int) fun v0 => obind (dec c1 : Option Int) fun v1 => obind (dec c2 : Option (Sl Int)) fun v2 => some ⟨v0, v1, v2⟩
  | _ => none
instance : Row Line where
  w := 3
  cells := Line.cells
  uncells := Line.un
  un b := by
    show (obind (dec (enc b.top) : Option Int) fun v0 => obind (dec (enc b.bottom) : Option Int) fun v1 => obind (dec (enc b.items) : Option (Sl Int)) fun v2 => some (⟨v0, v1, v2⟩ : Line)) = some b
    simp only [Cod.de, obind_sm]
  nu x b h := by
    unfold Line.un at h
    split at h
    · obtain ⟨v0, e0, h⟩ := obind_ex h
      obtain ⟨v1, e1, h⟩ := obind_ex h
      obtain ⟨v2, e2, h⟩ := obind_ex h
      cases h
      rw [Cod.ed _ _ e0]
      rw [Cod.ed _ _ e1]
      rw [Cod.ed _ _ e2]
      rfl
    · cases h
  len _ := rfl
  fine b := Row.fine b.top ∧ Row.fine b.bottom ∧ Row.fine b.items
instance : Cod Line where
  enc b := .agg b.cells
  dec | .agg cs => Line.un cs | _ => none
  de b := Row.un b
  ed x b h := by
    split at h
    · have e := Row.nu (A := Line) _ _ h
      rw [e]; rfl
    · cases h
instance : Agg Line := ⟨fun _ => rfl⟩
@[simp] theorem w_Line : Row.w Line = 3 := rfl
@[simp] theorem enc_Line (b : Line) : enc b = .agg [iv b.top, iv b.bottom, Sl.enc b.items] := rfl
@[simp] theorem cells_Line (b : Line) : Row.cells b = [iv b.top, iv b.bottom, Sl.enc b.items] := rfl
@[simp] theorem eta_Line (b : Line) : (⟨b.top, b.bottom, b.items⟩ : Line) = b := rfl
theorem snapD_Line {h : Heap} (v0 : Int) (v1 : Int) (v2 : (Sl Int)) {x2 : AV} (h2 : snap h 7 x2 = some (Sl.enc v2)) : snapD h (.agg [iv v0, iv v1, x2]) = some (⟨v0, v1, v2⟩ : Line) := by
  unfold snapD depth
  rw [snap_agg]
  simp only [omap, snap_iv, snap_bv, snap_sv, h2, obind_sm]
  exact Cod.de (⟨v0, v1, v2⟩ : Line)
@[simp] theorem snapS_Line (h : Heap) (b : Line) : snapD h (.agg [iv b.top, iv b.bottom, Sl.enc b.items]) = some b := snapD_Line b.top b.bottom b.items (snap_slenc h 7 b.items)
instance : Tre Line where
  dep := 1
  nrow b := [iv b.top, iv b.bottom, nws b.items]
  norm b := ⟨b.top, b.bottom, Tre.norm b.items⟩
  trr b := by simp [tr_nws]
  frr b d hd := by
    show List.map (frz d) _ = _
    simp only [List.map_cons, List.map_nil, frz_iv, frz_bv, frz_sv, frz_nws b.items (d := d) (by simp; omega)]
    rfl
  fl b n := rfl
@[simp] theorem nrow_Line (b : Line) : Tre.nrow b = [iv b.top, iv b.bottom, nws b.items] := rfl
theorem norm_Line (b : Line) : Tre.norm b = ⟨b.top, b.bottom, Tre.norm b.items⟩ := rfl
@[simp] theorem dep_Line : Tre.dep Line = 1 := rfl
instance : Elem Line := aggElem Line
@[simp] theorem nv_Line (b : Line) : Elem.nv b = nag b := rfl
instance : Wt Line where
  wt b := Wt.wt b.items
  big b := Wt.big b.items
  fb := fun b h => by
    have hh : Row.fine b.top ∧ Row.fine b.bottom ∧ Row.fine b.items := h
    exact Wt.fb _ hh.2.2
theorem wt_Line (b : Line) : Wt.wt b = Wt.wt b.items := rfl
theorem big_Line (b : Line) : Wt.big b = (Wt.big b.items) := rfl

structure TreeNode where
  kind : Int
  a : Int
  b : Int
  sign : Int
  deriving DecidableEq
def TreeNode.cells (b : TreeNode) : List AV := [iv b.kind, iv b.a, iv b.b, iv b.sign]
def TreeNode.un : List AV → Option TreeNode
  | [c0, c1, c2, c3] => obind (dec c0 : Option Int) fun v0 => obind (dec c1 : Option Int) fun v1 => obind (dec c2 : Option Int) fun v2 => obind (dec c3 : Option Int) fun v3 => some ⟨v0, v1, v2, v3⟩
  | _ => none
instance : Row TreeNode where
  w := 4
  cells := TreeNode.cells
  uncells := TreeNode.un
  un b := by
    show (obind (dec (enc b.kind) : Option Int) fun v0 => obind (dec (enc b.a) : Option Int) fun v1 => obind (dec (enc b.b) : Option Int) fun v2 => obind (dec (enc b.sign) : Option Int) fun v3 => some (⟨v0, v1, v2, v3⟩ : TreeNode)) = some b
    simp only [Cod.de, obind_sm]
  nu x b h := by
    unfold TreeNode.un at h
    split at h
    · obtain ⟨v0, e0, h⟩ := obind_ex h
      obtain ⟨v1, e1, h⟩ := obind_ex h
      obtain ⟨v2, e2, h⟩ := obind_ex h
      obtain ⟨v3, e3, h⟩ := obind_ex h
      cases h
      rw [Cod.ed _ _ e0]
      rw [Cod.ed _ _ e1]
      rw [Cod.ed _ _ e2]
      rw [Cod.ed _ _ e3]
      rfl
    · cases h
  len _ := rfl
  fine b := Row.fine b.kind ∧ Row.fine b.a ∧ Row.fine b.b ∧ Row.fine b.sign
instance : CodR TreeNode where
  enc b := .agg b.cells
  dec | .agg cs => TreeNode.un cs | _ => none
  de b := Row.un b
  ed x b h := by
    split at h
    · have e := Row.nu (A := TreeNode) _ _ h
      rw [e]; rfl
    · cases h
  plain _ := rfl
instance : Agg TreeNode := ⟨fun _ => rfl⟩
@[simp] theorem w_TreeNode : Row.w TreeNode = 4 := rfl
@[simp] theorem enc_TreeNode (b : TreeNode) : enc b = .agg [iv b.kind, iv b.a, iv b.b, iv b.sign] := rfl
@[simp] theorem cells_TreeNode (b : TreeNode) : Row.cells b = [iv b.kind, iv b.a, iv b.b, iv b.sign] := rfl
@[simp] theorem eta_TreeNode (b : TreeNode) : (⟨b.kind, b.a, b.b, b.sign⟩ : TreeNode) = b := rfl
theorem snapD_TreeNode {h : Heap} (v0 : Int) (v1 : Int) (v2 : Int) (v3 : Int)  : snapD h (.agg [iv v0, iv v1, iv v2, iv v3]) = some (⟨v0, v1, v2, v3⟩ : TreeNode) := by
  unfold snapD depth
  rw [snap_agg]
  simp only [omap, snap_iv, snap_bv, snap_sv, obind_sm]
  exact Cod.de (⟨v0, v1, v2, v3⟩ : TreeNode)
@[simp] theorem snapS_TreeNode (h : Heap) (b : TreeNode) : snapD h (.agg [iv b.kind, iv b.a, iv b.b, iv b.sign]) = some b := snapD_TreeNode b.kind b.a b.b b.sign 
instance : Scal TreeNode := ⟨fun _ => rfl⟩
instance : Comp TreeNode := ⟨fun _ => rfl⟩
instance : CellOr TreeNode := ⟨fun _ _ => rfl⟩
instance : Tre TreeNode := scalTre TreeNode
attribute [simp] snapD_TreeNode
theorem aCmp_TreeNode (a b : TreeNode) : aCmp .eql (.agg [.int, .int, .int, .int]) (.agg [iv a.kind, iv a.a, iv a.b, iv a.sign]) (.agg [iv b.kind, iv b.a, iv b.b, iv b.sign]) = some (bv (decide (a = b))) ∧
    aCmp .neq (.agg [.int, .int, .int, .int]) (.agg [iv a.kind, iv a.a, iv a.b, iv a.sign]) (.agg [iv b.kind, iv b.a, iv b.b, iv b.sign]) = some (bv !decide (a = b)) := by
  have h := aCmp_agg (ks := [.int, .int, .int, .int]) rfl rfl (cellsEq_cons _ _ _ _ _ _ _ _ (cellEq_iv a.kind b.kind) (cellsEq_cons _ _ _ _ _ _ _ _ (cellEq_iv a.a b.a) (cellsEq_cons _ _ _ _ _ _ _ _ (cellEq_iv a.b b.b) (cellsEq_cons _ _ _ _ _ _ _ _ (cellEq_iv a.sign b.sign) cellsEq_nil))))
  have e : (decide (a.kind = b.kind) && (decide (a.a = b.a) && (decide (a.b = b.b) && (decide (a.sign = b.sign) && true)))) = decide (a = b) := by
    obtain ⟨a_kind, a_a, a_b, a_sign⟩ := a
    obtain ⟨b_kind, b_a, b_b, b_sign⟩ := b
    simp [and_assoc]
  rw [e] at h
  exact h
@[simp] theorem dep_TreeNode : Tre.dep TreeNode = 0 := rfl
instance : Elem TreeNode := aggElem TreeNode
@[simp] theorem nv_TreeNode (b : TreeNode) : Elem.nv b = nag b := rfl
instance : Wt TreeNode where
  wt _ := 0
  big _ := true
  fb := fun _ _ => rfl
theorem wt_TreeNode (b : TreeNode) : Wt.wt b = 0 := rfl
theorem big_TreeNode (b : TreeNode) : Wt.big b = (true) := rfl

structure Tree where
  nodes : (Sl TreeNode)
  deriving DecidableEq
def Tree.cells (b : Tree) : List AV := [Sl.enc b.nodes]
def Tree.un : List AV → Option Tree
  | [c0] => obind (dec c0 : Option (Sl TreeNode)) fun v0 => some ⟨v0⟩
  | _ => none
instance : Row Tree where
  w := 1
  cells := Tree.cells
  uncells := Tree.un
  un b := by
    show (obind (dec (enc b.nodes) : Option (Sl TreeNode)) fun v0 => some (⟨v0⟩ : Tree)) = some b
    simp only [Cod.de, obind_sm]
  nu x b h := by
    unfold Tree.un at h
    split at h
    · obtain ⟨v0, e0, h⟩ := obind_ex h
      cases h
      rw [Cod.ed _ _ e0]
      rfl
    · cases h
  len _ := rfl
  fine b := Row.fine b.nodes
instance : Cod Tree where
  enc b := .agg b.cells
  dec | .agg cs => Tree.un cs | _ => none
  de b := Row.un b
  ed x b h := by
    split at h
    · have e := Row.nu (A := Tree) _ _ h
      rw [e]; rfl
    · cases h
instance : Agg Tree := ⟨fun _ => rfl⟩
@[simp] theorem w_Tree : Row.w Tree = 1 := rfl
@[simp] theorem enc_Tree (b : Tree) : enc b = .agg [Sl.enc b.nodes] := rfl
@[simp] theorem cells_Tree (b : Tree) : Row.cells b = [Sl.enc b.nodes] := rfl
@[simp] theorem eta_Tree (b : Tree) : (⟨b.nodes⟩ : Tree) = b := rfl
theorem snapD_Tree {h : Heap} (v0 : (Sl TreeNode)) {x0 : AV} (h0 : snap h 7 x0 = some (Sl.enc v0)) : snapD h (.agg [x0]) = some (⟨v0⟩ : Tree) := by
  unfold snapD depth
  rw [snap_agg]
  simp only [omap, snap_iv, snap_bv, snap_sv, h0, obind_sm]
  exact Cod.de (⟨v0⟩ : Tree)
@[simp] theorem snapS_Tree (h : Heap) (b : Tree) : snapD h (.agg [Sl.enc b.nodes]) = some b := snapD_Tree b.nodes (snap_slenc h 7 b.nodes)
instance : Tre Tree where
  dep := 1
  nrow b := [nws b.nodes]
  norm b := ⟨Tre.norm b.nodes⟩
  trr b := by simp [tr_nws]
  frr b d hd := by
    show List.map (frz d) _ = _
    simp only [List.map_cons, List.map_nil, frz_iv, frz_bv, frz_sv, frz_nws b.nodes (d := d) (by simp; omega)]
    rfl
  fl b n := rfl
@[simp] theorem nrow_Tree (b : Tree) : Tre.nrow b = [nws b.nodes] := rfl
theorem norm_Tree (b : Tree) : Tre.norm b = ⟨Tre.norm b.nodes⟩ := rfl
@[simp] theorem dep_Tree : Tre.dep Tree = 1 := rfl
instance : Elem Tree := aggElem Tree
@[simp] theorem nv_Tree (b : Tree) : Elem.nv b = nag b := rfl
instance : Wt Tree where
  wt b := Wt.wt b.nodes
  big b := Wt.big b.nodes
  fb := fun b h => by
    have hh : Row.fine b.nodes := h
    exact Wt.fb _ hh
theorem wt_Tree (b : Tree) : Wt.wt b = Wt.wt b.nodes := rfl
theorem big_Tree (b : Tree) : Wt.big b = (Wt.big b.nodes) := rfl

structure Bigram where
  first : ByteArray
  second : ByteArray
  cost : Int
  deriving DecidableEq
def Bigram.cells (b : Bigram) : List AV := [sv b.first, sv b.second, iv b.cost]
def Bigram.un : List AV → Option Bigram
  | [c0, c1, c2] => obind (dec c0 : Option ByteArray) fun v0 => obind (dec c1 : Option ByteArray) fun v1 => obind (dec c2 : Option Int) fun v2 => some ⟨v0, v1, v2⟩
  | _ => none
instance : Row Bigram where
  w := 3
  cells := Bigram.cells
  uncells := Bigram.un
  un b := by
    show (obind (dec (enc b.first) : Option ByteArray) fun v0 => obind (dec (enc b.second) : Option ByteArray) fun v1 => obind (dec (enc b.cost) : Option Int) fun v2 => some (⟨v0, v1, v2⟩ : Bigram)) = some b
    simp only [Cod.de, obind_sm]
  nu x b h := by
    unfold Bigram.un at h
    split at h
    · obtain ⟨v0, e0, h⟩ := obind_ex h
      obtain ⟨v1, e1, h⟩ := obind_ex h
      obtain ⟨v2, e2, h⟩ := obind_ex h
      cases h
      rw [Cod.ed _ _ e0]
      rw [Cod.ed _ _ e1]
      rw [Cod.ed _ _ e2]
      rfl
    · cases h
  len _ := rfl
  fine b := Row.fine b.first ∧ Row.fine b.second ∧ Row.fine b.cost
instance : CodR Bigram where
  enc b := .agg b.cells
  dec | .agg cs => Bigram.un cs | _ => none
  de b := Row.un b
  ed x b h := by
    split at h
    · have e := Row.nu (A := Bigram) _ _ h
      rw [e]; rfl
    · cases h
  plain _ := rfl
instance : Agg Bigram := ⟨fun _ => rfl⟩
@[simp] theorem w_Bigram : Row.w Bigram = 3 := rfl
@[simp] theorem enc_Bigram (b : Bigram) : enc b = .agg [sv b.first, sv b.second, iv b.cost] := rfl
@[simp] theorem cells_Bigram (b : Bigram) : Row.cells b = [sv b.first, sv b.second, iv b.cost] := rfl
@[simp] theorem eta_Bigram (b : Bigram) : (⟨b.first, b.second, b.cost⟩ : Bigram) = b := rfl
theorem snapD_Bigram {h : Heap} (v0 : ByteArray) (v1 : ByteArray) (v2 : Int)  : snapD h (.agg [sv v0, sv v1, iv v2]) = some (⟨v0, v1, v2⟩ : Bigram) := by
  unfold snapD depth
  rw [snap_agg]
  simp only [omap, snap_iv, snap_bv, snap_sv, obind_sm]
  exact Cod.de (⟨v0, v1, v2⟩ : Bigram)
@[simp] theorem snapS_Bigram (h : Heap) (b : Bigram) : snapD h (.agg [sv b.first, sv b.second, iv b.cost]) = some b := snapD_Bigram b.first b.second b.cost 
instance : Scal Bigram := ⟨fun _ => rfl⟩
instance : Comp Bigram := ⟨fun _ => rfl⟩
instance : CellOr Bigram := ⟨fun _ _ => rfl⟩
instance : Tre Bigram := scalTre Bigram
attribute [simp] snapD_Bigram
theorem aCmp_Bigram (a b : Bigram) : aCmp .eql (.agg [.str, .str, .int]) (.agg [sv a.first, sv a.second, iv a.cost]) (.agg [sv b.first, sv b.second, iv b.cost]) = some (bv (decide (a = b))) ∧
    aCmp .neq (.agg [.str, .str, .int]) (.agg [sv a.first, sv a.second, iv a.cost]) (.agg [sv b.first, sv b.second, iv b.cost]) = some (bv !decide (a = b)) := by
  have h := aCmp_agg (ks := [.str, .str, .int]) rfl rfl (cellsEq_cons _ _ _ _ _ _ _ _ (cellEq_sv a.first b.first) (cellsEq_cons _ _ _ _ _ _ _ _ (cellEq_sv a.second b.second) (cellsEq_cons _ _ _ _ _ _ _ _ (cellEq_iv a.cost b.cost) cellsEq_nil)))
  have e : (decide (a.first = b.first) && (decide (a.second = b.second) && (decide (a.cost = b.cost) && true))) = decide (a = b) := by
    obtain ⟨a_first, a_second, a_cost⟩ := a
    obtain ⟨b_first, b_second, b_cost⟩ := b
    simp [and_assoc]
  rw [e] at h
  exact h
@[simp] theorem dep_Bigram : Tre.dep Bigram = 0 := rfl
instance : Elem Bigram := aggElem Bigram
@[simp] theorem nv_Bigram (b : Bigram) : Elem.nv b = nag b := rfl
instance : Wt Bigram where
  wt b := Wt.wt b.first + Wt.wt b.second
  big b := Wt.big b.first && Wt.big b.second
  fb := fun b h => by
    have hh : Row.fine b.first ∧ Row.fine b.second ∧ Row.fine b.cost := h
    simp only [Bool.and_eq_true]
    exact ⟨Wt.fb _ hh.1, Wt.fb _ hh.2.1⟩
theorem wt_Bigram (b : Bigram) : Wt.wt b = Wt.wt b.first + Wt.wt b.second := rfl
theorem big_Bigram (b : Bigram) : Wt.big b = (Wt.big b.first && Wt.big b.second) := rfl

structure Model where
  default : Int
  bigrams : (Sl Bigram)
  deriving DecidableEq
def Model.cells (b : Model) : List AV := [iv b.default, Sl.enc b.bigrams]
def Model.un : List AV → Option Model
  | [c0, c1] => obind (dec c0 : Option Int) fun v0 => obind (dec c1 : Option (Sl Bigram)) fun v1 => some ⟨v0, v1⟩
  | _ => none
instance : Row Model where
  w := 2
  cells := Model.cells
  uncells := Model.un
  un b := by
    show (obind (dec (enc b.default) : Option Int) fun v0 => obind (dec (enc b.bigrams) : Option (Sl Bigram)) fun v1 => some (⟨v0, v1⟩ : Model)) = some b
    simp only [Cod.de, obind_sm]
  nu x b h := by
    unfold Model.un at h
    split at h
    · obtain ⟨v0, e0, h⟩ := obind_ex h
      obtain ⟨v1, e1, h⟩ := obind_ex h
      cases h
      rw [Cod.ed _ _ e0]
      rw [Cod.ed _ _ e1]
      rfl
    · cases h
  len _ := rfl
  fine b := Row.fine b.default ∧ Row.fine b.bigrams
instance : Cod Model where
  enc b := .agg b.cells
  dec | .agg cs => Model.un cs | _ => none
  de b := Row.un b
  ed x b h := by
    split at h
    · have e := Row.nu (A := Model) _ _ h
      rw [e]; rfl
    · cases h
instance : Agg Model := ⟨fun _ => rfl⟩
@[simp] theorem w_Model : Row.w Model = 2 := rfl
@[simp] theorem enc_Model (b : Model) : enc b = .agg [iv b.default, Sl.enc b.bigrams] := rfl
@[simp] theorem cells_Model (b : Model) : Row.cells b = [iv b.default, Sl.enc b.bigrams] := rfl
@[simp] theorem eta_Model (b : Model) : (⟨b.default, b.bigrams⟩ : Model) = b := rfl
theorem snapD_Model {h : Heap} (v0 : Int) (v1 : (Sl Bigram)) {x1 : AV} (h1 : snap h 7 x1 = some (Sl.enc v1)) : snapD h (.agg [iv v0, x1]) = some (⟨v0, v1⟩ : Model) := by
  unfold snapD depth
  rw [snap_agg]
  simp only [omap, snap_iv, snap_bv, snap_sv, h1, obind_sm]
  exact Cod.de (⟨v0, v1⟩ : Model)
@[simp] theorem snapS_Model (h : Heap) (b : Model) : snapD h (.agg [iv b.default, Sl.enc b.bigrams]) = some b := snapD_Model b.default b.bigrams (snap_slenc h 7 b.bigrams)
instance : Tre Model where
  dep := 1
  nrow b := [iv b.default, nws b.bigrams]
  norm b := ⟨b.default, Tre.norm b.bigrams⟩
  trr b := by simp [tr_nws]
  frr b d hd := by
    show List.map (frz d) _ = _
    simp only [List.map_cons, List.map_nil, frz_iv, frz_bv, frz_sv, frz_nws b.bigrams (d := d) (by simp; omega)]
    rfl
  fl b n := rfl
@[simp] theorem nrow_Model (b : Model) : Tre.nrow b = [iv b.default, nws b.bigrams] := rfl
theorem norm_Model (b : Model) : Tre.norm b = ⟨b.default, Tre.norm b.bigrams⟩ := rfl
@[simp] theorem dep_Model : Tre.dep Model = 1 := rfl
instance : Elem Model := aggElem Model
@[simp] theorem nv_Model (b : Model) : Elem.nv b = nag b := rfl
instance : Wt Model where
  wt b := Wt.wt b.bigrams
  big b := Wt.big b.bigrams
  fb := fun b h => by
    have hh : Row.fine b.default ∧ Row.fine b.bigrams := h
    exact Wt.fb _ hh.2
theorem wt_Model (b : Model) : Wt.wt b = Wt.wt b.bigrams := rfl
theorem big_Model (b : Model) : Wt.big b = (Wt.big b.bigrams) := rfl

structure Sentence where
  words : (Sl ByteArray)
  cost : Int
  deriving DecidableEq
def Sentence.cells (b : Sentence) : List AV := [Sl.enc b.words, iv b.cost]
def Sentence.un : List AV → Option Sentence
  | [c0, c1] => obind (dec c0 : Option (Sl ByteArray)) fun v0 => obind (dec c1 : Option Int) fun v1 => some ⟨v0, v1⟩
  | _ => none
instance : Row Sentence where
  w := 2
  cells := Sentence.cells
  uncells := Sentence.un
  un b := by
    show (obind (dec (enc b.words) : Option (Sl ByteArray)) fun v0 => obind (dec (enc b.cost) : Option Int) fun v1 => some (⟨v0, v1⟩ : Sentence)) = some b
    simp only [Cod.de, obind_sm]
  nu x b h := by
    unfold Sentence.un at h
    split at h
    · obtain ⟨v0, e0, h⟩ := obind_ex h
      obtain ⟨v1, e1, h⟩ := obind_ex h
      cases h
      rw [Cod.ed _ _ e0]
      rw [Cod.ed _ _ e1]
      rfl
    · cases h
  len _ := rfl
  fine b := Row.fine b.words ∧ Row.fine b.cost
instance : Cod Sentence where
  enc b := .agg b.cells
  dec | .agg cs => Sentence.un cs | _ => none
  de b := Row.un b
  ed x b h := by
    split at h
    · have e := Row.nu (A := Sentence) _ _ h
      rw [e]; rfl
    · cases h
instance : Agg Sentence := ⟨fun _ => rfl⟩
@[simp] theorem w_Sentence : Row.w Sentence = 2 := rfl
@[simp] theorem enc_Sentence (b : Sentence) : enc b = .agg [Sl.enc b.words, iv b.cost] := rfl
@[simp] theorem cells_Sentence (b : Sentence) : Row.cells b = [Sl.enc b.words, iv b.cost] := rfl
@[simp] theorem eta_Sentence (b : Sentence) : (⟨b.words, b.cost⟩ : Sentence) = b := rfl
theorem snapD_Sentence {h : Heap} (v0 : (Sl ByteArray)) (v1 : Int) {x0 : AV} (h0 : snap h 7 x0 = some (Sl.enc v0)) : snapD h (.agg [x0, iv v1]) = some (⟨v0, v1⟩ : Sentence) := by
  unfold snapD depth
  rw [snap_agg]
  simp only [omap, snap_iv, snap_bv, snap_sv, h0, obind_sm]
  exact Cod.de (⟨v0, v1⟩ : Sentence)
@[simp] theorem snapS_Sentence (h : Heap) (b : Sentence) : snapD h (.agg [Sl.enc b.words, iv b.cost]) = some b := snapD_Sentence b.words b.cost (snap_slenc h 7 b.words)
instance : Tre Sentence where
  dep := 1
  nrow b := [nws b.words, iv b.cost]
  norm b := ⟨Tre.norm b.words, b.cost⟩
  trr b := by simp [tr_nws]
  frr b d hd := by
    show List.map (frz d) _ = _
    simp only [List.map_cons, List.map_nil, frz_iv, frz_bv, frz_sv, frz_nws b.words (d := d) (by simp; omega)]
    rfl
  fl b n := rfl
@[simp] theorem nrow_Sentence (b : Sentence) : Tre.nrow b = [nws b.words, iv b.cost] := rfl
theorem norm_Sentence (b : Sentence) : Tre.norm b = ⟨Tre.norm b.words, b.cost⟩ := rfl
@[simp] theorem dep_Sentence : Tre.dep Sentence = 1 := rfl
instance : Elem Sentence := aggElem Sentence
@[simp] theorem nv_Sentence (b : Sentence) : Elem.nv b = nag b := rfl
instance : Wt Sentence where
  wt b := Wt.wt b.words
  big b := Wt.big b.words
  fb := fun b h => by
    have hh : Row.fine b.words ∧ Row.fine b.cost := h
    exact Wt.fb _ hh.1
theorem wt_Sentence (b : Sentence) : Wt.wt b = Wt.wt b.words := rfl
theorem big_Sentence (b : Sentence) : Wt.big b = (Wt.big b.words) := rfl

instance : Wt Box where
  wt _ := 0
  big _ := true
  fb := fun _ _ => rfl
@[simp] theorem wt_Box (b : Box) : Wt.wt b = 0 := rfl
instance : Wt Frac where
  wt _ := 0
  big _ := true
  fb := fun _ _ => rfl
instance : Wt Spot where
  wt _ := 0
  big _ := true
  fb := fun _ _ => rfl
@[simp] theorem mc_Point (b : Point) (n : Nat) : (mv (nag b) n).cells = [iv b.x, iv b.y, iv b.t] := rfl
@[simp] theorem mt_Point (b : Point) (n : Nat) : mt (nag b) n = [] := rfl
@[simp] theorem mc_Note (b : Note) (n : Nat) : (mv (nag b) n).cells = [iv b.frm, iv b.upto, sv b.text] := rfl
@[simp] theorem mt_Note (b : Note) (n : Nat) : mt (nag b) n = [] := rfl
@[simp] theorem mc_Feat (b : Feat) (n : Nat) : (mv (nag b) n).cells = [iv b.x, iv b.y, iv b.d] := rfl
@[simp] theorem mt_Feat (b : Feat) (n : Nat) : mt (nag b) n = [] := rfl
@[simp] theorem mc_Pair (b : Pair) (n : Nat) : (mv (nag b) n).cells = [iv b.i, iv b.j] := rfl
@[simp] theorem mt_Pair (b : Pair) (n : Nat) : mt (nag b) n = [] := rfl
@[simp] theorem mc_Symbol (b : Symbol) (n : Nat) : (mv (nag b) n).cells = [sv b.label, iv b.box.x1, iv b.box.y1, iv b.box.x2, iv b.box.y2] := rfl
@[simp] theorem mt_Symbol (b : Symbol) (n : Nat) : mt (nag b) n = [] := rfl
@[simp] theorem mc_TreeNode (b : TreeNode) (n : Nat) : (mv (nag b) n).cells = [iv b.kind, iv b.a, iv b.b, iv b.sign] := rfl
@[simp] theorem mt_TreeNode (b : TreeNode) (n : Nat) : mt (nag b) n = [] := rfl
@[simp] theorem mc_Bigram (b : Bigram) (n : Nat) : (mv (nag b) n).cells = [sv b.first, sv b.second, iv b.cost] := rfl
@[simp] theorem mt_Bigram (b : Bigram) (n : Nat) : mt (nag b) n = [] := rfl
@[simp] theorem mc_Box (b : Box) (n : Nat) : (mv (nag b) n).cells = [iv b.x1, iv b.y1, iv b.x2, iv b.y2] := rfl
@[simp] theorem mt_Box (b : Box) (n : Nat) : mt (nag b) n = [] := rfl
@[simp] theorem mc_Spot (b : Spot) (n : Nat) : (mv (nag b) n).cells = [iv b.x, iv b.y] := rfl
@[simp] theorem mt_Spot (b : Spot) (n : Nat) : mt (nag b) n = [] := rfl
@[simp] theorem mc_Frac (b : Frac) (n : Nat) : (mv (nag b) n).cells = [iv b.n, iv b.d] := rfl
@[simp] theorem mt_Frac (b : Frac) (n : Nat) : mt (nag b) n = [] := rfl
end Go.Eng
