import Derived.Test.YtokbncnochagaaaEngNorm
namespace Go.Eng
set_option linter.unusedVariables false
set_option linter.unusedSimpArgs false
open Cod (enc dec)
theorem kAw {α β : Type} {x : Option α} {f : α → Option β} {b : β} (h : kA0 x f = some b) : ∃ a, x = some a ∧ f a = some b := by
  cases x with
  | none => cases h
  | some a => exact ⟨a, rfl, h⟩
@[simp] theorem snap_slenc {A : Type} [Row A] (h : kA6) (d : Nat) (q : Sl A) : snap h d (Sl.enc q) = some (Sl.enc q) := by
  cases q <;> cases d <;> rfl
@[simp] theorem flat_slenc {A : Type} [Row A] (q : Sl A) : (Sl.enc q).flat = true := by cases q <;> rfl
@[simp] theorem cells_slenc {A : Type} [Row A] (q : Sl A) : (Sl.enc q).cells = [Sl.enc q] := by cases q <;> rfl
@[simp] theorem kH8 (h : kA6) (d : Nat) (n : Int) : snap h d (iv n) = some (iv n) := kIh h d rfl
@[simp] theorem kH7 (h : kA6) (d : Nat) (n : Bool) : snap h d (bv n) = some (bv n) := kIh h d rfl
@[simp] theorem kHf (h : kA6) (d : Nat) (n : ByteArray) : snap h d (sv n) = some (sv n) := kIh h d rfl
@[simp] theorem frz_iv (d : Nat) (n : Int) : frz d (iv n) = iv n := frz_sc d rfl
@[simp] theorem frz_bv (d : Nat) (n : Bool) : frz d (bv n) = bv n := frz_sc d rfl
@[simp] theorem frz_sv (d : Nat) (n : ByteArray) : frz d (sv n) = sv n := frz_sc d rfl
@[simp] theorem tr_iv (d : Nat) (n : Int) : tr d (iv n) = true := tr_sc d rfl
@[simp] theorem tr_bv (d : Nat) (n : Bool) : tr d (bv n) = true := tr_sc d rfl
@[simp] theorem tr_sv (d : Nat) (n : ByteArray) : tr d (sv n) = true := tr_sc d rfl
@[simp] theorem snap_nil (h : kA6) (d : Nat) : snap h d kBu = some kBu := kIh h d rfl
theorem kFa (h : kA6) (d : Nat) (cs : List AV) : snap h (d + 1) (.agg cs) = kA0 (kBj (snap h d) cs) fun cs => some (.agg cs) := by
  show (match kBj (snap h d) cs with | some cs => some (AV.agg cs) | none => none) = _
  cases kBj (snap h d) cs <;> rfl
structure Point where
  x : Int
  y : Int
  t : Int
  deriving DecidableEq
def Point.cells (b : Point) : List AV := [iv b.x, iv b.y, iv b.t]
def Point.un : List AV → Option Point
  | [c0, c1, c2] => kA0 (dec c0 : Option Int) fun v0 => kA0 (dec c1 : Option Int) fun v1 => kA0 (dec c2 : Option Int) fun v2 => some ⟨v0, v1, v2⟩
  | _ => none
instance : Row Point where
  w := 3
  cells := Point.cells
  uncells := Point.un
  un b := by
    show (kA0 (dec (enc b.x) : Option Int) fun v0 => kA0 (dec (enc b.y) : Option Int) fun v1 => kA0 (dec (enc b.t) : Option Int) fun v2 => some (⟨v0, v1, v2⟩ : Point)) = some b
    simp only [Cod.de, kA4]
  nu x b h := by
    unfold Point.un at h
    split at h
    · obtain ⟨v0, e0, h⟩ := kAw h
      obtain ⟨v1, e1, h⟩ := kAw h
      obtain ⟨v2, e2, h⟩ := kAw h
      cases h
      rw [Cod.ed _ _ e0]
      rw [Cod.ed _ _ e1]
      rw [Cod.ed _ _ e2]
      rfl
    · cases h
  len _ := rfl
  fine b := Row.fine b.x ∧ Row.fine b.y ∧ Row.fine b.t
instance : CodR Point where
  enc b := .agg b.cells
  dec | .agg cs => Point.un cs | _ => none
  de b := Row.un b
  ed x b h := by
    split at h
    · have e := Row.nu (A := Point) _ _ h
      rw [e]; rfl
    · cases h
  plain _ := rfl
instance : Agg Point := ⟨fun _ => rfl⟩
@[simp] theorem w_Point : Row.w Point = 3 := rfl
@[simp] theorem enc_Point (b : Point) : enc b = .agg [iv b.x, iv b.y, iv b.t] := rfl
@[simp] theorem cells_Point (b : Point) : Row.cells b = [iv b.x, iv b.y, iv b.t] := rfl
@[simp] theorem eta_Point (b : Point) : (⟨b.x, b.y, b.t⟩ : Point) = b := rfl
theorem snapD_Point {h : kA6} (v0 : Int) (v1 : Int) (v2 : Int)  : snapD h (.agg [iv v0, iv v1, iv v2]) = some (⟨v0, v1, v2⟩ : Point) := by
  unfold snapD depth
  rw [kFa]
  simp only [kBj, kH8, kH7, kHf, kA4]
  exact Cod.de (⟨v0, v1, v2⟩ : Point)
@[simp] theorem snapS_Point (h : kA6) (b : Point) : snapD h (.agg [iv b.x, iv b.y, iv b.t]) = some b := snapD_Point b.x b.y b.t 
instance : Scal Point := ⟨fun _ => rfl⟩
instance : Comp Point := ⟨fun _ => rfl⟩
instance : CellOr Point := ⟨fun _ _ => rfl⟩
instance : Tre Point := kEs Point
attribute [simp] snapD_Point
@[simp] theorem dep_Point : Tre.dep Point = 0 := rfl
instance : Elem Point := kF1 Point
@[simp] theorem nv_Point (b : Point) : Elem.nv b = nag b := rfl
instance : Wt Point where
  wt _ := 0
  big _ := true
  fb := fun _ _ => rfl
structure Stroke where
  points : (Sl Point)
  deriving DecidableEq
def Stroke.cells (b : Stroke) : List AV := [Sl.enc b.points]
def Stroke.un : List AV → Option Stroke
  | [c0] => kA0 (dec c0 : Option (Sl Point)) fun v0 => some ⟨v0⟩
  | _ => none
instance : Row Stroke where
  w := 1
  cells := Stroke.cells
  uncells := Stroke.un
  un b := by
    show (kA0 (dec (enc b.points) : Option (Sl Point)) fun v0 => some (⟨v0⟩ : Stroke)) = some b
    simp only [Cod.de, kA4]
  nu x b h := by
    unfold Stroke.un at h
    split at h
    · obtain ⟨v0, e0, h⟩ := kAw h
      cases h
      rw [Cod.ed _ _ e0]
      rfl
    · cases h
  len _ := rfl
  fine b := Row.fine b.points
instance : Cod Stroke where
  enc b := .agg b.cells
  dec | .agg cs => Stroke.un cs | _ => none
  de b := Row.un b
  ed x b h := by
    split at h
    · have e := Row.nu (A := Stroke) _ _ h
      rw [e]; rfl
    · cases h
instance : Agg Stroke := ⟨fun _ => rfl⟩
@[simp] theorem w_Stroke : Row.w Stroke = 1 := rfl
@[simp] theorem enc_Stroke (b : Stroke) : enc b = .agg [Sl.enc b.points] := rfl
@[simp] theorem cells_Stroke (b : Stroke) : Row.cells b = [Sl.enc b.points] := rfl
@[simp] theorem eta_Stroke (b : Stroke) : (⟨b.points⟩ : Stroke) = b := rfl
theorem snapD_Stroke {h : kA6} (v0 : (Sl Point)) {x0 : AV} (h0 : snap h 7 x0 = some (Sl.enc v0)) : snapD h (.agg [x0]) = some (⟨v0⟩ : Stroke) := by
  unfold snapD depth
  rw [kFa]
  simp only [kBj, kH8, kH7, kHf, h0, kA4]
  exact Cod.de (⟨v0⟩ : Stroke)
@[simp] theorem snapS_Stroke (h : kA6) (b : Stroke) : snapD h (.agg [Sl.enc b.points]) = some b := snapD_Stroke b.points (snap_slenc h 7 b.points)
instance : Tre Stroke where
  dep := 1
  nrow b := [nws b.points]
  norm b := ⟨Tre.norm b.points⟩
  trr b := by simp [tr_nws]
  frr b d hd := by
    show List.map (frz d) _ = _
    simp only [List.map_cons, List.map_nil, frz_iv, frz_bv, frz_sv, frz_nws b.points (d := d) (by simp; omega)]
    rfl
  fl b n := rfl
@[simp] theorem nrow_Stroke (b : Stroke) : Tre.nrow b = [nws b.points] := rfl
theorem norm_Stroke (b : Stroke) : Tre.norm b = ⟨Tre.norm b.points⟩ := rfl
@[simp] theorem dep_Stroke : Tre.dep Stroke = 1 := rfl
instance : Elem Stroke := kF1 Stroke
@[simp] theorem nv_Stroke (b : Stroke) : Elem.nv b = nag b := rfl
instance : Wt Stroke where
  wt b := Wt.wt b.points
  big b := Wt.big b.points
  fb := fun b h => by
    have hh : Row.fine b.points := h
    exact Wt.fb _ hh
theorem wt_Stroke (b : Stroke) : Wt.wt b = Wt.wt b.points := rfl
structure Symbol where
  label : ByteArray
  box : Box
  deriving DecidableEq
def Symbol.cells (b : Symbol) : List AV := [sv b.label, iv b.box.x1, iv b.box.y1, iv b.box.x2, iv b.box.y2]
def Symbol.un : List AV → Option Symbol
  | [c0, c1, c2, c3, c4] => kA0 (dec c0 : Option ByteArray) fun v0 => kA0 (dec c1 : Option Int) fun v1 => kA0 (dec c2 : Option Int) fun v2 => kA0 (dec c3 : Option Int) fun v3 => kA0 (dec c4 : Option Int) fun v4 => some ⟨v0, ⟨v1, v2, v3, v4⟩⟩
  | _ => none
instance : Row Symbol where
  w := 5
  cells := Symbol.cells
  uncells := Symbol.un
  un b := by
    show (kA0 (dec (enc b.label) : Option ByteArray) fun v0 => kA0 (dec (enc b.box.x1) : Option Int) fun v1 => kA0 (dec (enc b.box.y1) : Option Int) fun v2 => kA0 (dec (enc b.box.x2) : Option Int) fun v3 => kA0 (dec (enc b.box.y2) : Option Int) fun v4 => some (⟨v0, ⟨v1, v2, v3, v4⟩⟩ : Symbol)) = some b
    simp only [Cod.de, kA4]
  nu x b h := by
    unfold Symbol.un at h
    split at h
    · obtain ⟨v0, e0, h⟩ := kAw h
      obtain ⟨v1, e1, h⟩ := kAw h
      obtain ⟨v2, e2, h⟩ := kAw h
      obtain ⟨v3, e3, h⟩ := kAw h
      obtain ⟨v4, e4, h⟩ := kAw h
      cases h
      rw [Cod.ed _ _ e0]
      rw [Cod.ed _ _ e1]
      rw [Cod.ed _ _ e2]
      rw [Cod.ed _ _ e3]
      rw [Cod.ed _ _ e4]
      rfl
    · cases h
  len _ := rfl
  fine b := Row.fine b.label ∧ Row.fine b.box
instance : CodR Symbol where
  enc b := .agg b.cells
  dec | .agg cs => Symbol.un cs | _ => none
  de b := Row.un b
  ed x b h := by
    split at h
    · have e := Row.nu (A := Symbol) _ _ h
      rw [e]; rfl
    · cases h
  plain _ := rfl
instance : Agg Symbol := ⟨fun _ => rfl⟩
@[simp] theorem w_Symbol : Row.w Symbol = 5 := rfl
@[simp] theorem enc_Symbol (b : Symbol) : enc b = .agg [sv b.label, iv b.box.x1, iv b.box.y1, iv b.box.x2, iv b.box.y2] := rfl
@[simp] theorem cells_Symbol (b : Symbol) : Row.cells b = [sv b.label, iv b.box.x1, iv b.box.y1, iv b.box.x2, iv b.box.y2] := rfl
@[simp] theorem eta_Symbol (b : Symbol) : (⟨b.label, b.box⟩ : Symbol) = b := rfl
theorem snapD_Symbol {h : kA6} (v0 : ByteArray) (v1 : Int) (v2 : Int) (v3 : Int) (v4 : Int)  : snapD h (.agg [sv v0, iv v1, iv v2, iv v3, iv v4]) = some (⟨v0, ⟨v1, v2, v3, v4⟩⟩ : Symbol) := by
  unfold snapD depth
  rw [kFa]
  simp only [kBj, kH8, kH7, kHf, kA4]
  exact Cod.de (⟨v0, ⟨v1, v2, v3, v4⟩⟩ : Symbol)
@[simp] theorem snapS_Symbol (h : kA6) (b : Symbol) : snapD h (.agg [sv b.label, iv b.box.x1, iv b.box.y1, iv b.box.x2, iv b.box.y2]) = some b := snapD_Symbol b.label b.box.x1 b.box.y1 b.box.x2 b.box.y2 
instance : Scal Symbol := ⟨fun _ => rfl⟩
instance : Comp Symbol := ⟨fun _ => rfl⟩
instance : CellOr Symbol := ⟨fun _ _ => rfl⟩
instance : Tre Symbol := kEs Symbol
attribute [simp] snapD_Symbol
@[simp] theorem dep_Symbol : Tre.dep Symbol = 0 := rfl
instance : Elem Symbol := kF1 Symbol
@[simp] theorem nv_Symbol (b : Symbol) : Elem.nv b = nag b := rfl
instance : Wt Symbol where
  wt b := Wt.wt b.label
  big b := Wt.big b.label
  fb := fun b h => by
    have hh : Row.fine b.label ∧ Row.fine b.box := h
    exact Wt.fb _ hh.1
structure TreeNode where
  kind : Int
  a : Int
  b : Int
  sign : Int
  deriving DecidableEq
def TreeNode.cells (b : TreeNode) : List AV := [iv b.kind, iv b.a, iv b.b, iv b.sign]
def TreeNode.un : List AV → Option TreeNode
  | [c0, c1, c2, c3] => kA0 (dec c0 : Option Int) fun v0 => kA0 (dec c1 : Option Int) fun v1 => kA0 (dec c2 : Option Int) fun v2 => kA0 (dec c3 : Option Int) fun v3 => some ⟨v0, v1, v2, v3⟩
  | _ => none
instance : Row TreeNode where
  w := 4
  cells := TreeNode.cells
  uncells := TreeNode.un
  un b := by
    show (kA0 (dec (enc b.kind) : Option Int) fun v0 => kA0 (dec (enc b.a) : Option Int) fun v1 => kA0 (dec (enc b.b) : Option Int) fun v2 => kA0 (dec (enc b.sign) : Option Int) fun v3 => some (⟨v0, v1, v2, v3⟩ : TreeNode)) = some b
    simp only [Cod.de, kA4]
  nu x b h := by
    unfold TreeNode.un at h
    split at h
    · obtain ⟨v0, e0, h⟩ := kAw h
      obtain ⟨v1, e1, h⟩ := kAw h
      obtain ⟨v2, e2, h⟩ := kAw h
      obtain ⟨v3, e3, h⟩ := kAw h
      cases h
      rw [Cod.ed _ _ e0]
      rw [Cod.ed _ _ e1]
      rw [Cod.ed _ _ e2]
      rw [Cod.ed _ _ e3]
      rfl
    · cases h
  len _ := rfl
  fine b := Row.fine b.kind ∧ Row.fine b.a ∧ Row.fine b.b ∧ Row.fine b.sign
instance : CodR TreeNode where
  enc b := .agg b.cells
  dec | .agg cs => TreeNode.un cs | _ => none
  de b := Row.un b
  ed x b h := by
    split at h
    · have e := Row.nu (A := TreeNode) _ _ h
      rw [e]; rfl
    · cases h
  plain _ := rfl
instance : Agg TreeNode := ⟨fun _ => rfl⟩
@[simp] theorem w_TreeNode : Row.w TreeNode = 4 := rfl
@[simp] theorem enc_TreeNode (b : TreeNode) : enc b = .agg [iv b.kind, iv b.a, iv b.b, iv b.sign] := rfl
@[simp] theorem cells_TreeNode (b : TreeNode) : Row.cells b = [iv b.kind, iv b.a, iv b.b, iv b.sign] := rfl
@[simp] theorem eta_TreeNode (b : TreeNode) : (⟨b.kind, b.a, b.b, b.sign⟩ : TreeNode) = b := rfl
theorem kI4 {h : kA6} (v0 : Int) (v1 : Int) (v2 : Int) (v3 : Int)  : snapD h (.agg [iv v0, iv v1, iv v2, iv v3]) = some (⟨v0, v1, v2, v3⟩ : TreeNode) := by
  unfold snapD depth
  rw [kFa]
  simp only [kBj, kH8, kH7, kHf, kA4]
  exact Cod.de (⟨v0, v1, v2, v3⟩ : TreeNode)
@[simp] theorem snapS_TreeNode (h : kA6) (b : TreeNode) : snapD h (.agg [iv b.kind, iv b.a, iv b.b, iv b.sign]) = some b := kI4 b.kind b.a b.b b.sign 
instance : Scal TreeNode := ⟨fun _ => rfl⟩
instance : Comp TreeNode := ⟨fun _ => rfl⟩
instance : CellOr TreeNode := ⟨fun _ _ => rfl⟩
instance : Tre TreeNode := kEs TreeNode
attribute [simp] kI4
@[simp] theorem dep_TreeNode : Tre.dep TreeNode = 0 := rfl
instance : Elem TreeNode := kF1 TreeNode
@[simp] theorem nv_TreeNode (b : TreeNode) : Elem.nv b = nag b := rfl
instance : Wt TreeNode where
  wt _ := 0
  big _ := true
  fb := fun _ _ => rfl
structure Tree where
  nodes : (Sl TreeNode)
  deriving DecidableEq
def Tree.cells (b : Tree) : List AV := [Sl.enc b.nodes]
def Tree.un : List AV → Option Tree
  | [c0] => kA0 (dec c0 : Option (Sl TreeNode)) fun v0 => some ⟨v0⟩
  | _ => none
instance : Row Tree where
  w := 1
  cells := Tree.cells
  uncells := Tree.un
  un b := by
    show (kA0 (dec (enc b.nodes) : Option (Sl TreeNode)) fun v0 => some (⟨v0⟩ : Tree)) = some b
    simp only [Cod.de, kA4]
  nu x b h := by
    unfold Tree.un at h
    split at h
    · obtain ⟨v0, e0, h⟩ := kAw h
      cases h
      rw [Cod.ed _ _ e0]
      rfl
    · cases h
  len _ := rfl
  fine b := Row.fine b.nodes
instance : Cod Tree where
  enc b := .agg b.cells
  dec | .agg cs => Tree.un cs | _ => none
  de b := Row.un b
  ed x b h := by
    split at h
    · have e := Row.nu (A := Tree) _ _ h
      rw [e]; rfl
    · cases h
instance : Agg Tree := ⟨fun _ => rfl⟩
@[simp] theorem w_Tree : Row.w Tree = 1 := rfl
@[simp] theorem enc_Tree (b : Tree) : enc b = .agg [Sl.enc b.nodes] := rfl
@[simp] theorem cells_Tree (b : Tree) : Row.cells b = [Sl.enc b.nodes] := rfl
@[simp] theorem eta_Tree (b : Tree) : (⟨b.nodes⟩ : Tree) = b := rfl
theorem snapD_Tree {h : kA6} (v0 : (Sl TreeNode)) {x0 : AV} (h0 : snap h 7 x0 = some (Sl.enc v0)) : snapD h (.agg [x0]) = some (⟨v0⟩ : Tree) := by
  unfold snapD depth
  rw [kFa]
  simp only [kBj, kH8, kH7, kHf, h0, kA4]
  exact Cod.de (⟨v0⟩ : Tree)
@[simp] theorem snapS_Tree (h : kA6) (b : Tree) : snapD h (.agg [Sl.enc b.nodes]) = some b := snapD_Tree b.nodes (snap_slenc h 7 b.nodes)
instance : Tre Tree where
  dep := 1
  nrow b := [nws b.nodes]
  norm b := ⟨Tre.norm b.nodes⟩
  trr b := by simp [tr_nws]
  frr b d hd := by
    show List.map (frz d) _ = _
    simp only [List.map_cons, List.map_nil, frz_iv, frz_bv, frz_sv, frz_nws b.nodes (d := d) (by simp; omega)]
    rfl
  fl b n := rfl
@[simp] theorem nrow_Tree (b : Tree) : Tre.nrow b = [nws b.nodes] := rfl
theorem norm_Tree (b : Tree) : Tre.norm b = ⟨Tre.norm b.nodes⟩ := rfl
@[simp] theorem dep_Tree : Tre.dep Tree = 1 := rfl
instance : Elem Tree := kF1 Tree
@[simp] theorem nv_Tree (b : Tree) : Elem.nv b = nag b := rfl
instance : Wt Tree where
  wt b := Wt.wt b.nodes
  big b := Wt.big b.nodes
  fb := fun b h => by
    have hh : Row.fine b.nodes := h
    exact Wt.fb _ hh
theorem wt_Tree (b : Tree) : Wt.wt b = Wt.wt b.nodes := rfl
instance : Wt Box where
  wt _ := 0
  big _ := true
  fb := fun _ _ => rfl
@[simp] theorem wt_Box (b : Box) : Wt.wt b = 0 := rfl
instance : Wt Frac where
  wt _ := 0
  big _ := true
  fb := fun _ _ => rfl
instance : Wt Spot where
  wt _ := 0
  big _ := true
  fb := fun _ _ => rfl
@[simp] theorem mc_Point (b : Point) (n : Nat) : (mv (nag b) n).cells = [iv b.x, iv b.y, iv b.t] := rfl
@[simp] theorem mt_Point (b : Point) (n : Nat) : mt (nag b) n = [] := rfl
@[simp] theorem mc_Symbol (b : Symbol) (n : Nat) : (mv (nag b) n).cells = [sv b.label, iv b.box.x1, iv b.box.y1, iv b.box.x2, iv b.box.y2] := rfl
@[simp] theorem mt_Symbol (b : Symbol) (n : Nat) : mt (nag b) n = [] := rfl
@[simp] theorem mc_TreeNode (b : TreeNode) (n : Nat) : (mv (nag b) n).cells = [iv b.kind, iv b.a, iv b.b, iv b.sign] := rfl
@[simp] theorem mt_TreeNode (b : TreeNode) (n : Nat) : mt (nag b) n = [] := rfl
@[simp] theorem mc_Box (b : Box) (n : Nat) : (mv (nag b) n).cells = [iv b.x1, iv b.y1, iv b.x2, iv b.y2] := rfl
@[simp] theorem mt_Box (b : Box) (n : Nat) : mt (nag b) n = [] := rfl
@[simp] theorem mc_Spot (b : Spot) (n : Nat) : (mv (nag b) n).cells = [iv b.x, iv b.y] := rfl
@[simp] theorem mt_Spot (b : Spot) (n : Nat) : mt (nag b) n = [] := rfl
@[simp] theorem mc_Frac (b : Frac) (n : Nat) : (mv (nag b) n).cells = [iv b.n, iv b.d] := rfl
@[simp] theorem mt_Frac (b : Frac) (n : Nat) : mt (nag b) n = [] := rfl
end Go.Eng
