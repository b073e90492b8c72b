import Derived.Test.YtfhffgfbnlikjaaEngLib
namespace Go.Eng
set_option linter.unusedVariables false
set_option linter.unusedSimpArgs false
open Cod (enc dec)
structure Edg where
  frm : Int
  upto : Int
  label : ByteArray
  cost : Int
  deriving DecidableEq
def Edg.cells (b : Edg) : List AV := [iv b.frm, iv b.upto, sv b.label, iv b.cost]
def Edg.un : List AV → Option Edg
  | [c0, c1, c2, c3] => kA0 (dec c0 : Option Int) fun v0 => kA0 (dec c1 : Option Int) fun v1 => kA0 (dec c2 : Option ByteArray) fun v2 => kA0 (dec c3 : Option Int) fun v3 => some ⟨v0, v1, v2, v3⟩
  | _ => none
instance : Row Edg where
  w := 4
  cells := Edg.cells
  uncells := Edg.un
  un b := by
    show (kA0 (dec (enc b.frm) : Option Int) fun v0 => kA0 (dec (enc b.upto) : Option Int) fun v1 => kA0 (dec (enc b.label) : Option ByteArray) fun v2 => kA0 (dec (enc b.cost) : Option Int) fun v3 => some (⟨v0, v1, v2, v3⟩ : Edg)) = some b
    simp only [Cod.de, kA2]
  nu x b h := by
    unfold Edg.un at h
    split at h
    · obtain ⟨v0, e0, h⟩ := kAm h
      obtain ⟨v1, e1, h⟩ := kAm h
      obtain ⟨v2, e2, h⟩ := kAm h
      obtain ⟨v3, e3, h⟩ := kAm h
      cases h
      rw [Cod.ed _ _ e0]
      rw [Cod.ed _ _ e1]
      rw [Cod.ed _ _ e2]
      rw [Cod.ed _ _ e3]
      rfl
    · cases h
  len _ := rfl
  fine b := Row.fine b.frm ∧ Row.fine b.upto ∧ Row.fine b.label ∧ Row.fine b.cost
instance : CodR Edg where
  enc b := .agg b.cells
  dec | .agg cs => Edg.un cs | _ => none
  de b := Row.un b
  ed x b h := by
    split at h
    · have e := Row.nu (A := Edg) _ _ h
      rw [e]; rfl
    · cases h
  plain _ := rfl
instance : Agg Edg := ⟨fun _ => rfl⟩
@[simp] theorem w_Edg : Row.w Edg = 4 := rfl
@[simp] theorem enc_Edg (b : Edg) : enc b = .agg [iv b.frm, iv b.upto, sv b.label, iv b.cost] := rfl
@[simp] theorem cells_Edg (b : Edg) : Row.cells b = [iv b.frm, iv b.upto, sv b.label, iv b.cost] := rfl
@[simp] theorem eta_Edg (b : Edg) : (⟨b.frm, b.upto, b.label, b.cost⟩ : Edg) = b := rfl
theorem snapD_Edg {h : kA4} (v0 : Int) (v1 : Int) (v2 : ByteArray) (v3 : Int)  : snapD h (.agg [iv v0, iv v1, sv v2, iv v3]) = some (⟨v0, v1, v2, v3⟩ : Edg) := by
  unfold snapD depth
  rw [kEk]
  simp only [kBb, kF6, kFp, kFw, kA2]
  exact Cod.de (⟨v0, v1, v2, v3⟩ : Edg)
@[simp] theorem snapS_Edg (h : kA4) (b : Edg) : snapD h (.agg [iv b.frm, iv b.upto, sv b.label, iv b.cost]) = some b := snapD_Edg b.frm b.upto b.label b.cost 
instance : Scal Edg := ⟨fun _ => rfl⟩
instance : Comp Edg := ⟨fun _ => rfl⟩
instance : CellOr Edg := ⟨fun _ _ => rfl⟩
instance : Tre Edg := kE3 Edg
attribute [simp] snapD_Edg
@[simp] theorem dep_Edg : Tre.dep Edg = 0 := rfl
instance : Elem Edg := kEd Edg
@[simp] theorem nv_Edg (b : Edg) : Elem.nv b = nag b := rfl
instance : Wt Edg where
  wt b := Wt.wt b.label
  big b := Wt.big b.label
  fb := fun b h => by
    have hh : Row.fine b.frm ∧ Row.fine b.upto ∧ Row.fine b.label ∧ Row.fine b.cost := h
    exact Wt.fb _ hh.2.2.1
structure Choice where
  kind : Int
  sign : Int
  a : Int
  b : Int
  cost : Int
  deriving DecidableEq
def Choice.cells (b : Choice) : List AV := [iv b.kind, iv b.sign, iv b.a, iv b.b, iv b.cost]
def Choice.un : List AV → Option Choice
  | [c0, c1, c2, c3, c4] => kA0 (dec c0 : Option Int) fun v0 => kA0 (dec c1 : Option Int) fun v1 => kA0 (dec c2 : Option Int) fun v2 => kA0 (dec c3 : Option Int) fun v3 => kA0 (dec c4 : Option Int) fun v4 => some ⟨v0, v1, v2, v3, v4⟩
  | _ => none
instance : Row Choice where
  w := 5
  cells := Choice.cells
  uncells := Choice.un
  un b := by
    show (kA0 (dec (enc b.kind) : Option Int) fun v0 => kA0 (dec (enc b.sign) : Option Int) fun v1 => kA0 (dec (enc b.a) : Option Int) fun v2 => kA0 (dec (enc b.b) : Option Int) fun v3 => kA0 (dec (enc b.cost) : Option Int) fun v4 => some (⟨v0, v1, v2, v3, v4⟩ : Choice)) = some b
    simp only [Cod.de, kA2]
  nu x b h := by
    unfold Choice.un at h
    split at h
    · obtain ⟨v0, e0, h⟩ := kAm h
      obtain ⟨v1, e1, h⟩ := kAm h
      obtain ⟨v2, e2, h⟩ := kAm h
      obtain ⟨v3, e3, h⟩ := kAm h
      obtain ⟨v4, e4, h⟩ := kAm h
      cases h
      rw [Cod.ed _ _ e0]
      rw [Cod.ed _ _ e1]
      rw [Cod.ed _ _ e2]
      rw [Cod.ed _ _ e3]
      rw [Cod.ed _ _ e4]
      rfl
    · cases h
  len _ := rfl
  fine b := Row.fine b.kind ∧ Row.fine b.sign ∧ Row.fine b.a ∧ Row.fine b.b ∧ Row.fine b.cost
instance : CodR Choice where
  enc b := .agg b.cells
  dec | .agg cs => Choice.un cs | _ => none
  de b := Row.un b
  ed x b h := by
    split at h
    · have e := Row.nu (A := Choice) _ _ h
      rw [e]; rfl
    · cases h
  plain _ := rfl
instance : Agg Choice := ⟨fun _ => rfl⟩
@[simp] theorem w_Choice : Row.w Choice = 5 := rfl
@[simp] theorem enc_Choice (b : Choice) : enc b = .agg [iv b.kind, iv b.sign, iv b.a, iv b.b, iv b.cost] := rfl
@[simp] theorem cells_Choice (b : Choice) : Row.cells b = [iv b.kind, iv b.sign, iv b.a, iv b.b, iv b.cost] := rfl
@[simp] theorem eta_Choice (b : Choice) : (⟨b.kind, b.sign, b.a, b.b, b.cost⟩ : Choice) = b := rfl
theorem snapD_Choice {h : kA4} (v0 : Int) (v1 : Int) (v2 : Int) (v3 : Int) (v4 : Int)  : snapD h (.agg [iv v0, iv v1, iv v2, iv v3, iv v4]) = some (⟨v0, v1, v2, v3, v4⟩ : Choice) := by
  unfold snapD depth
  rw [kEk]
  simp only [kBb, kF6, kFp, kFw, kA2]
  exact Cod.de (⟨v0, v1, v2, v3, v4⟩ : Choice)
@[simp] theorem snapS_Choice (h : kA4) (b : Choice) : snapD h (.agg [iv b.kind, iv b.sign, iv b.a, iv b.b, iv b.cost]) = some b := snapD_Choice b.kind b.sign b.a b.b b.cost 
instance : Scal Choice := ⟨fun _ => rfl⟩
instance : Comp Choice := ⟨fun _ => rfl⟩
instance : CellOr Choice := ⟨fun _ _ => rfl⟩
instance : Tre Choice := kE3 Choice
attribute [simp] snapD_Choice
@[simp] theorem dep_Choice : Tre.dep Choice = 0 := rfl
instance : Elem Choice := kEd Choice
@[simp] theorem nv_Choice (b : Choice) : Elem.nv b = nag b := rfl
instance : Wt Choice where
  wt _ := 0
  big _ := true
  fb := fun _ _ => rfl
structure Cell21 where
  box : Box
  ways : Int
  cost : Int
  kind : Int
  sign : Int
  first : Int
  rest : Int
  deriving DecidableEq
def Cell21.cells (b : Cell21) : List AV := [iv b.box.x1, iv b.box.y1, iv b.box.x2, iv b.box.y2, iv b.ways, iv b.cost, iv b.kind, iv b.sign, iv b.first, iv b.rest]
def Cell21.un : List AV → Option Cell21
  | [c0, c1, c2, c3, c4, c5, c6, c7, c8, c9] => kA0 (dec c0 : Option Int) fun v0 => kA0 (dec c1 : Option Int) fun v1 => kA0 (dec c2 : Option Int) fun v2 => kA0 (dec c3 : Option Int) fun v3 => kA0 (dec c4 : Option Int) fun v4 => kA0 (dec c5 : Option Int) fun v5 => kA0 (dec c6 : Option Int) fun v6 => kA0 (dec c7 : Option Int) fun v7 => kA0 (dec c8 : Option Int) fun v8 => kA0 (dec c9 : Option Int) fun v9 => some ⟨⟨v0, v1, v2, v3⟩, v4, v5, v6, v7, v8, v9⟩
  | _ => none
instance : Row Cell21 where
  w := 10
  cells := Cell21.cells
  uncells := Cell21.un
  un b := by
    show (kA0 (dec (enc b.box.x1) : Option Int) fun v0 => kA0 (dec (enc b.box.y1) : Option Int) fun v1 => kA0 (dec (enc b.box.x2) : Option Int) fun v2 => kA0 (dec (enc b.box.y2) : Option Int) fun v3 => kA0 (dec (enc b.ways) : Option Int) fun v4 => kA0 (dec (enc b.cost) : Option Int) fun v5 => kA0 (dec (enc b.kind) : Option Int) fun v6 => kA0 (dec (enc b.sign) : Option Int) fun v7 => kA0 (dec (enc b.first) : Option Int) fun v8 => kA0 (dec (enc b.rest) : Option Int) fun v9 => some (⟨⟨v0, v1, v2, v3⟩, v4, v5, v6, v7, v8, v9⟩ : Cell21)) = some b
    simp only [Cod.de, kA2]
  nu x b h := by
    unfold Cell21.un at h
    split at h
    · obtain ⟨v0, e0, h⟩ := kAm h
      obtain ⟨v1, e1, h⟩ := kAm h
      obtain ⟨v2, e2, h⟩ := kAm h
      obtain ⟨v3, e3, h⟩ := kAm h
      obtain ⟨v4, e4, h⟩ := kAm h
      obtain ⟨v5, e5, h⟩ := kAm h
      obtain ⟨v6, e6, h⟩ := kAm h
      obtain ⟨v7, e7, h⟩ := kAm h
      obtain ⟨v8, e8, h⟩ := kAm h
      obtain ⟨v9, e9, h⟩ := kAm h
      cases h
      rw [Cod.ed _ _ e0]
      rw [Cod.ed _ _ e1]
      rw [Cod.ed _ _ e2]
      rw [Cod.ed _ _ e3]
      rw [Cod.ed _ _ e4]
      rw [Cod.ed _ _ e5]
      rw [Cod.ed _ _ e6]
      rw [Cod.ed _ _ e7]
      rw [Cod.ed _ _ e8]
      rw [Cod.ed _ _ e9]
      rfl
    · cases h
  len _ := rfl
  fine b := Row.fine b.box ∧ Row.fine b.ways ∧ Row.fine b.cost ∧ Row.fine b.kind ∧ Row.fine b.sign ∧ Row.fine b.first ∧ Row.fine b.rest
instance : CodR Cell21 where
  enc b := .agg b.cells
  dec | .agg cs => Cell21.un cs | _ => none
  de b := Row.un b
  ed x b h := by
    split at h
    · have e := Row.nu (A := Cell21) _ _ h
      rw [e]; rfl
    · cases h
  plain _ := rfl
instance : Agg Cell21 := ⟨fun _ => rfl⟩
@[simp] theorem w_Cell21 : Row.w Cell21 = 10 := rfl
@[simp] theorem enc_Cell21 (b : Cell21) : enc b = .agg [iv b.box.x1, iv b.box.y1, iv b.box.x2, iv b.box.y2, iv b.ways, iv b.cost, iv b.kind, iv b.sign, iv b.first, iv b.rest] := rfl
@[simp] theorem cells_Cell21 (b : Cell21) : Row.cells b = [iv b.box.x1, iv b.box.y1, iv b.box.x2, iv b.box.y2, iv b.ways, iv b.cost, iv b.kind, iv b.sign, iv b.first, iv b.rest] := rfl
@[simp] theorem eta_Cell21 (b : Cell21) : (⟨b.box, b.ways, b.cost, b.kind, b.sign, b.first, b.rest⟩ : Cell21) = b := rfl
theorem snapD_Cell21 {h : kA4} (v0 : Int) (v1 : Int) (v2 : Int) (v3 : Int) (v4 : Int) (v5 : Int) (v6 : Int) (v7 : Int) (v8 : Int) (v9 : Int)  : snapD h (.agg [iv v0, iv v1, iv v2, iv v3, iv v4, iv v5, iv v6, iv v7, iv v8, iv v9]) = some (⟨⟨v0, v1, v2, v3⟩, v4, v5, v6, v7, v8, v9⟩ : Cell21) := by
  unfold snapD depth
  rw [kEk]
  simp only [kBb, kF6, kFp, kFw, kA2]
  exact Cod.de (⟨⟨v0, v1, v2, v3⟩, v4, v5, v6, v7, v8, v9⟩ : Cell21)
@[simp] theorem snapS_Cell21 (h : kA4) (b : Cell21) : snapD h (.agg [iv b.box.x1, iv b.box.y1, iv b.box.x2, iv b.box.y2, iv b.ways, iv b.cost, iv b.kind, iv b.sign, iv b.first, iv b.rest]) = some b := snapD_Cell21 b.box.x1 b.box.y1 b.box.x2 b.box.y2 b.ways b.cost b.kind b.sign b.first b.rest 
instance : Scal Cell21 := ⟨fun _ => rfl⟩
instance : Comp Cell21 := ⟨fun _ => rfl⟩
instance : CellOr Cell21 := ⟨fun _ _ => rfl⟩
instance : Tre Cell21 := kE3 Cell21
attribute [simp] snapD_Cell21
@[simp] theorem dep_Cell21 : Tre.dep Cell21 = 0 := rfl
instance : Elem Cell21 := kEd Cell21
@[simp] theorem nv_Cell21 (b : Cell21) : Elem.nv b = nag b := rfl
instance : Wt Cell21 where
  wt _ := 0
  big _ := true
  fb := fun _ _ => rfl
@[simp] theorem mc_Edg (b : Edg) (n : Nat) : (mv (nag b) n).cells = [iv b.frm, iv b.upto, sv b.label, iv b.cost] := rfl
@[simp] theorem mt_Edg (b : Edg) (n : Nat) : mt (nag b) n = [] := rfl
@[simp] theorem mc_Choice (b : Choice) (n : Nat) : (mv (nag b) n).cells = [iv b.kind, iv b.sign, iv b.a, iv b.b, iv b.cost] := rfl
@[simp] theorem mt_Choice (b : Choice) (n : Nat) : mt (nag b) n = [] := rfl
@[simp] theorem mc_Cell21 (b : Cell21) (n : Nat) : (mv (nag b) n).cells = [iv b.box.x1, iv b.box.y1, iv b.box.x2, iv b.box.y2, iv b.ways, iv b.cost, iv b.kind, iv b.sign, iv b.first, iv b.rest] := rfl
@[simp] theorem mt_Cell21 (b : Cell21) (n : Nat) : mt (nag b) n = [] := rfl
instance : NR Edg := ⟨fun b => by simp only [Row.cells, Edg.cells, List.all_cons, List.all_nil, kI4, nr_iv, nr_bv, nr_sv, Bool.and_self]⟩
instance : NR Choice := ⟨fun b => by simp only [Row.cells, Choice.cells, List.all_cons, List.all_nil, kI4, nr_iv, nr_bv, nr_sv, Bool.and_self]⟩
instance : NR Cell21 := ⟨fun b => by simp only [Row.cells, Cell21.cells, List.all_cons, List.all_nil, kI4, nr_iv, nr_bv, nr_sv, Bool.and_self]⟩
structure Parser where
  list : Sl Symbol
  boxes : Sl Box
  best : Sl Choice
  count : Sl Int
structure Chart21 where
  list : Sl Symbol
  cells : Sl Cell21
end Go.Eng
