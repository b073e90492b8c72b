/-
  THE ENGINE, PART 40: further structs of the program. Printed by a program of mine (dom3.py).
-/
import Derived.Test.YtbamachgomdjkaaDoorEngLib
namespace Go.Eng
set_option linter.unusedVariables false
set_option linter.unusedSimpArgs false
open Cod (enc dec)

structure Edg where
  frm : Int
  upto : Int
  label : ByteArray
  cost : Int
  deriving DecidableEq
def Edg.cells (b : Edg) : List AV := [iv b.frm, iv b.upto, sv b.label, iv b.cost]
def Edg.un : List AV → Option Edg
  | [c0, c1, c2, c3] => obind (dec c0 : Option Int) fun v0 => obind (dec c1 : Option Int) fun v1 => obind (dec c2 : Option ByteArray) fun v2 => obind (dec c3 : Option Int) fun v3 => some ⟨v0, v1, v2, v3⟩
  | _ => none
instance : Row Edg where
  w := 4
  cells := Edg.cells
  uncells := Edg.un
  un b := by
    show (obind (dec (enc b.frm) : Option Int) fun v0 => obind (dec (enc b.upto) : Option Int) fun v1 => obind (dec (enc b.label) : Option ByteArray) fun v2 => obind (dec (enc b.cost) : Option Int) fun v3 => some (⟨v0, v1, v2, v3⟩ : Edg)) = some b
    simp only [Cod.de, obind_sm]
  nu x b h := by
    unfold Edg.un at h
    split at h
    · obtain ⟨v0, e0, h⟩ := obind_ex h
      obtain ⟨v1, e1, h⟩ := obind_ex h
      obtain ⟨v2, e2, h⟩ := obind_ex h
      obtain ⟨v3, e3, h⟩ := obind_ex h
      cases h
      rw [Cod.ed _ _ e0]
      rw [Cod.ed _ _ e1]
      rw [Cod.ed _ _ e2]
      rw [Cod.ed _ _ e3]
      rfl
    · cases h
  len _ := rfl
  fine b := Row.fine b.frm ∧ Row.fine b.upto ∧ Row.fine b.label ∧ Row.fine b.cost
instance : CodR Edg where
  enc b := .agg b.cells
  dec | .agg cs => Edg.un cs | _ => none
  de b := Row.un b
  ed x b h := by
    split at h
    · have e := Row.nu (A := Edg) _ _ h
      rw [e]; rfl
    · cases h
  plain _ := rfl
instance : Agg Edg := ⟨fun _ => rfl⟩
@[simp] theorem w_Edg : Row.w Edg = 4 := rfl
@[simp] theorem enc_Edg (b : Edg) : enc b = .agg [iv b.frm, iv b.upto, sv b.label, iv b.cost] := rfl
@[simp] theorem cells_Edg (b : Edg) : Row.cells b = [iv b.frm, iv b.upto, sv b.label, iv b.cost] := rfl
@[simp] theorem eta_Edg (b : Edg) : (⟨b.frm, b.upto, b.label, b.cost⟩ : Edg) = b := rfl
theorem snapD_Edg {h : Heap} (v0 : Int) (v1 : Int) (v2 : ByteArray) (v3 : Int)  : snapD h (.agg [iv v0, iv v1, sv v2, iv v3]) = some (⟨v0, v1, v2, v3⟩ : Edg) := by
  unfold snapD depth
  rw [snap_agg]
  simp only [omap, snap_iv, snap_bv, snap_sv, obind_sm]
  exact Cod.de (⟨v0, v1, v2, v3⟩ : Edg)
@[simp] theorem snapS_Edg (h : Heap) (b : Edg) : snapD h (.agg [iv b.frm, iv b.upto, sv b.label, iv b.cost]) = some b := snapD_Edg b.frm b.upto b.label b.cost 
instance : Scal Edg := ⟨fun _ => rfl⟩
instance : Comp Edg := ⟨fun _ => rfl⟩
instance : CellOr Edg := ⟨fun _ _ => rfl⟩
instance : Tre Edg := scalTre Edg
attribute [simp] snapD_Edg
theorem aCmp_Edg (a b : Edg) : aCmp .eql (.agg [.int, .int, .str, .int]) (.agg [iv a.frm, iv a.upto, sv a.label, iv a.cost]) (.agg [iv b.frm, iv b.upto, sv b.label, iv b.cost]) = some (bv (decide (a = b))) ∧
    aCmp .neq (.agg [.int, .int, .str, .int]) (.agg [iv a.frm, iv a.upto, sv a.label, iv a.cost]) (.agg [iv b.frm, iv b.upto, sv b.label, iv b.cost]) = some (bv !decide (a = b)) := by
  have h := aCmp_agg (ks := [.int, .int, .str, .int]) rfl rfl (cellsEq_cons _ _ _ _ _ _ _ _ (cellEq_iv a.frm b.frm) (cellsEq_cons _ _ _ _ _ _ _ _ (cellEq_iv a.upto b.upto) (cellsEq_cons _ _ _ _ _ _ _ _ (cellEq_sv a.label b.label) (cellsEq_cons _ _ _ _ _ _ _ _ (cellEq_iv a.cost b.cost) cellsEq_nil))))
  have e : (decide (a.frm = b.frm) && (decide (a.upto = b.upto) && (decide (a.label = b.label) && (decide (a.cost = b.cost) && true)))) = decide (a = b) := by
    obtain ⟨a_frm, a_upto, a_label, a_cost⟩ := a
    obtain ⟨b_frm, b_upto, b_label, b_cost⟩ := b
    simp [and_assoc]
  rw [e] at h
  exact h
@[simp] theorem dep_Edg : Tre.dep Edg = 0 := rfl
instance : Elem Edg := aggElem Edg
@[simp] theorem nv_Edg (b : Edg) : Elem.nv b = nag b := rfl
instance : Wt Edg where
  wt b := Wt.wt b.label
  big b := Wt.big b.label
  fb := fun b h => by
    have hh : Row.fine b.frm ∧ Row.fine b.upto ∧ Row.fine b.label ∧ Row.fine b.cost := h
    exact Wt.fb _ hh.2.2.1
theorem wt_Edg (b : Edg) : Wt.wt b = Wt.wt b.label := rfl
theorem big_Edg (b : Edg) : Wt.big b = (Wt.big b.label) := rfl

structure Lattice where
  nodes : Int
  edges : (Sl Edg)
  deriving DecidableEq
def Lattice.cells (b : Lattice) : List AV := [iv b.nodes, Sl.enc b.edges]
def Lattice.un : List AV → Option Lattice
  | [c0, c1] => obind (dec c0 : Option Int) fun v0 => obind (dec c1 : Option (Sl Edg)) fun v1 => some ⟨v0, v1⟩
  | _ => none
instance : Row Lattice where
  w := 2
  cells := Lattice.cells
  uncells := Lattice.un
  un b := by
    show (obind (dec (enc b.nodes) : Option Int) fun v0 => obind (dec (enc b.edges) : Option (Sl Edg)) fun v1 => some (⟨v0, v1⟩ : Lattice)) = some b
    simp only [Cod.de, obind_sm]
  nu x b h := by
    unfold Lattice.un at h
    split at h
    · obtain ⟨v0, e0, h⟩ := obind_ex h
      obtain ⟨v1, e1, h⟩ := obind_ex h
      cases h
      rw [Cod.ed _ _ e0]
      rw [Cod.ed _ _ e1]
      rfl
    · cases h
  len _ := rfl
  fine b := Row.fine b.nodes ∧ Row.fine b.edges
instance : Cod Lattice where
  enc b := .agg b.cells
  dec | .agg cs => Lattice.un cs | _ => none
  de b := Row.un b
  ed x b h := by
    split at h
    · have e := Row.nu (A := Lattice) _ _ h
      rw [e]; rfl
    · cases h
instance : Agg Lattice := ⟨fun _ => rfl⟩
@[simp] theorem w_Lattice : Row.w Lattice = 2 := rfl
@[simp] theorem enc_Lattice (b : Lattice) : enc b = .agg [iv b.nodes, Sl.enc b.edges] := rfl
@[simp] theorem cells_Lattice (b : Lattice) : Row.cells b = [iv b.nodes, Sl.enc b.edges] := rfl
@[simp] theorem eta_Lattice (b : Lattice) : (⟨b.nodes, b.edges⟩ : Lattice) = b := rfl
theorem snapD_Lattice {h : Heap} (v0 : Int) (v1 : (Sl Edg)) {x1 : AV} (h1 : snap h 7 x1 = some (Sl.enc v1)) : snapD h (.agg [iv v0, x1]) = some (⟨v0, v1⟩ : Lattice) := by
  unfold snapD depth
  rw [snap_agg]
  simp only [omap, snap_iv, snap_bv, snap_sv, h1, obind_sm]
  exact Cod.de (⟨v0, v1⟩ : Lattice)
@[simp] theorem snapS_Lattice (h : Heap) (b : Lattice) : snapD h (.agg [iv b.nodes, Sl.enc b.edges]) = some b := snapD_Lattice b.nodes b.edges (snap_slenc h 7 b.edges)
instance : Tre Lattice where
  dep := 1
  nrow b := [iv b.nodes, nws b.edges]
  norm b := ⟨b.nodes, Tre.norm b.edges⟩
  trr b := by simp [tr_nws]
  frr b d hd := by
    show List.map (frz d) _ = _
    simp only [List.map_cons, List.map_nil, frz_iv, frz_bv, frz_sv, frz_nws b.edges (d := d) (by simp; omega)]
    rfl
  fl b n := rfl
@[simp] theorem nrow_Lattice (b : Lattice) : Tre.nrow b = [iv b.nodes, nws b.edges] := rfl
theorem norm_Lattice (b : Lattice) : Tre.norm b = ⟨b.nodes, Tre.norm b.edges⟩ := rfl
@[simp] theorem dep_Lattice : Tre.dep Lattice = 1 := rfl
instance : Elem Lattice := aggElem Lattice
@[simp] theorem nv_Lattice (b : Lattice) : Elem.nv b = nag b := rfl
instance : Wt Lattice where
  wt b := Wt.wt b.edges
  big b := Wt.big b.edges
  fb := fun b h => by
    have hh : Row.fine b.nodes ∧ Row.fine b.edges := h
    exact Wt.fb _ hh.2
theorem wt_Lattice (b : Lattice) : Wt.wt b = Wt.wt b.edges := rfl
theorem big_Lattice (b : Lattice) : Wt.big b = (Wt.big b.edges) := rfl

structure Entry where
  word : ByteArray
  cost : Int
  deriving DecidableEq
def Entry.cells (b : Entry) : List AV := [sv b.word, iv b.cost]
def Entry.un : List AV → Option Entry
  | [c0, c1] => obind (dec c0 : Option ByteArray) fun v0 => obind (dec c1 : Option Int) fun v1 => some ⟨v0, v1⟩
  | _ => none
instance : Row Entry where
  w := 2
  cells := Entry.cells
  uncells := Entry.un
  un b := by
    show (obind (dec (enc b.word) : Option ByteArray) fun v0 => obind (dec (enc b.cost) : Option Int) fun v1 => some (⟨v0, v1⟩ : Entry)) = some b
    simp only [Cod.de, obind_sm]
  nu x b h := by
    unfold Entry.un at h
    split at h
    · obtain ⟨v0, e0, h⟩ := obind_ex h
      obtain ⟨v1, e1, h⟩ := obind_ex h
      cases h
      rw [Cod.ed _ _ e0]
      rw [Cod.ed _ _ e1]
      rfl
    · cases h
  len _ := rfl
  fine b := Row.fine b.word ∧ Row.fine b.cost
instance : CodR Entry where
  enc b := .agg b.cells
  dec | .agg cs => Entry.un cs | _ => none
  de b := Row.un b
  ed x b h := by
    split at h
    · have e := Row.nu (A := Entry) _ _ h
      rw [e]; rfl
    · cases h
  plain _ := rfl
instance : Agg Entry := ⟨fun _ => rfl⟩
@[simp] theorem w_Entry : Row.w Entry = 2 := rfl
@[simp] theorem enc_Entry (b : Entry) : enc b = .agg [sv b.word, iv b.cost] := rfl
@[simp] theorem cells_Entry (b : Entry) : Row.cells b = [sv b.word, iv b.cost] := rfl
@[simp] theorem eta_Entry (b : Entry) : (⟨b.word, b.cost⟩ : Entry) = b := rfl
theorem snapD_Entry {h : Heap} (v0 : ByteArray) (v1 : Int)  : snapD h (.agg [sv v0, iv v1]) = some (⟨v0, v1⟩ : Entry) := by
  unfold snapD depth
  rw [snap_agg]
  simp only [omap, snap_iv, snap_bv, snap_sv, obind_sm]
  exact Cod.de (⟨v0, v1⟩ : Entry)
@[simp] theorem snapS_Entry (h : Heap) (b : Entry) : snapD h (.agg [sv b.word, iv b.cost]) = some b := snapD_Entry b.word b.cost 
instance : Scal Entry := ⟨fun _ => rfl⟩
instance : Comp Entry := ⟨fun _ => rfl⟩
instance : CellOr Entry := ⟨fun _ _ => rfl⟩
instance : Tre Entry := scalTre Entry
attribute [simp] snapD_Entry
theorem aCmp_Entry (a b : Entry) : aCmp .eql (.agg [.str, .int]) (.agg [sv a.word, iv a.cost]) (.agg [sv b.word, iv b.cost]) = some (bv (decide (a = b))) ∧
    aCmp .neq (.agg [.str, .int]) (.agg [sv a.word, iv a.cost]) (.agg [sv b.word, iv b.cost]) = some (bv !decide (a = b)) := by
  have h := aCmp_agg (ks := [.str, .int]) rfl rfl (cellsEq_cons _ _ _ _ _ _ _ _ (cellEq_sv a.word b.word) (cellsEq_cons _ _ _ _ _ _ _ _ (cellEq_iv a.cost b.cost) cellsEq_nil))
  have e : (decide (a.word = b.word) && (decide (a.cost = b.cost) && true)) = decide (a = b) := by
    obtain ⟨a_word, a_cost⟩ := a
    obtain ⟨b_word, b_cost⟩ := b
    simp [and_assoc]
  rw [e] at h
  exact h
@[simp] theorem dep_Entry : Tre.dep Entry = 0 := rfl
instance : Elem Entry := aggElem Entry
@[simp] theorem nv_Entry (b : Entry) : Elem.nv b = nag b := rfl
instance : Wt Entry where
  wt b := Wt.wt b.word
  big b := Wt.big b.word
  fb := fun b h => by
    have hh : Row.fine b.word ∧ Row.fine b.cost := h
    exact Wt.fb _ hh.1
theorem wt_Entry (b : Entry) : Wt.wt b = Wt.wt b.word := rfl
theorem big_Entry (b : Entry) : Wt.big b = (Wt.big b.word) := rfl

structure Lexicon where
  entries : (Sl Entry)
  deriving DecidableEq
def Lexicon.cells (b : Lexicon) : List AV := [Sl.enc b.entries]
def Lexicon.un : List AV → Option Lexicon
  | [c0] => obind (dec c0 : Option (Sl Entry)) fun v0 => some ⟨v0⟩
  | _ => none
instance : Row Lexicon where
  w := 1
  cells := Lexicon.cells
  uncells := Lexicon.un
  un b := by
    show (obind (dec (enc b.entries) : Option (Sl Entry)) fun v0 => some (⟨v0⟩ : Lexicon)) = some b
    simp only [Cod.de, obind_sm]
  nu x b h := by
    unfold Lexicon.un at h
    split at h
    · obtain ⟨v0, e0, h⟩ := obind_ex h
      cases h
      rw [Cod.ed _ _ e0]
      rfl
    · cases h
  len _ := rfl
  fine b := Row.fine b.entries
instance : Cod Lexicon where
  enc b := .agg b.cells
  dec | .agg cs => Lexicon.un cs | _ => none
  de b := Row.un b
  ed x b h := by
    split at h
    · have e := Row.nu (A := Lexicon) _ _ h
      rw [e]; rfl
    · cases h
instance : Agg Lexicon := ⟨fun _ => rfl⟩
@[simp] theorem w_Lexicon : Row.w Lexicon = 1 := rfl
@[simp] theorem enc_Lexicon (b : Lexicon) : enc b = .agg [Sl.enc b.entries] := rfl
@[simp] theorem cells_Lexicon (b : Lexicon) : Row.cells b = [Sl.enc b.entries] := rfl
@[simp] theorem eta_Lexicon (b : Lexicon) : (⟨b.entries⟩ : Lexicon) = b := rfl
theorem snapD_Lexicon {h : Heap} (v0 : (Sl Entry)) {x0 : AV} (h0 : snap h 7 x0 = some (Sl.enc v0)) : snapD h (.agg [x0]) = some (⟨v0⟩ : Lexicon) := by
  unfold snapD depth
  rw [snap_agg]
  simp only [omap, snap_iv, snap_bv, snap_sv, h0, obind_sm]
  exact Cod.de (⟨v0⟩ : Lexicon)
@[simp] theorem snapS_Lexicon (h : Heap) (b : Lexicon) : snapD h (.agg [Sl.enc b.entries]) = some b := snapD_Lexicon b.entries (snap_slenc h 7 b.entries)
instance : Tre Lexicon where
  dep := 1
  nrow b := [nws b.entries]
  norm b := ⟨Tre.norm b.entries⟩
  trr b := by simp [tr_nws]
  frr b d hd := by
    show List.map (frz d) _ = _
    simp only [List.map_cons, List.map_nil, frz_iv, frz_bv, frz_sv, frz_nws b.entries (d := d) (by simp; omega)]
    rfl
  fl b n := rfl
@[simp] theorem nrow_Lexicon (b : Lexicon) : Tre.nrow b = [nws b.entries] := rfl
theorem norm_Lexicon (b : Lexicon) : Tre.norm b = ⟨Tre.norm b.entries⟩ := rfl
@[simp] theorem dep_Lexicon : Tre.dep Lexicon = 1 := rfl
instance : Elem Lexicon := aggElem Lexicon
@[simp] theorem nv_Lexicon (b : Lexicon) : Elem.nv b = nag b := rfl
instance : Wt Lexicon where
  wt b := Wt.wt b.entries
  big b := Wt.big b.entries
  fb := fun b h => by
    have hh : Row.fine b.entries := h
    exact Wt.fb _ hh
theorem wt_Lexicon (b : Lexicon) : Wt.wt b = Wt.wt b.entries := rfl
theorem big_Lexicon (b : Lexicon) : Wt.big b = (Wt.big b.entries) := rfl

structure Fnd where
  word : ByteArray
  path : Int
  own : Int
  deriving DecidableEq
def Fnd.cells (b : Fnd) : List AV := [sv b.word, iv b.path, iv b.own]
def Fnd.un : List AV → Option Fnd
  | [c0, c1, c2] => obind (dec c0 : Option ByteArray) fun v0 => obind (dec c1 : Option Int) fun v1 => obind (dec c2 : Option Int) fun v2 => some ⟨v0, v1, v2⟩
  | _ => none
instance : Row Fnd where
  w := 3
  cells := Fnd.cells
  uncells := Fnd.un
  un b := by
    show (obind (dec (enc b.word) : Option ByteArray) fun v0 => obind (dec (enc b.path) : Option Int) fun v1 => obind (dec (enc b.own) : Option Int) fun v2 => some (⟨v0, v1, v2⟩ : Fnd)) = some b
    simp only [Cod.de, obind_sm]
  nu x b h := by
    unfold Fnd.un at h
    split at h
    · obtain ⟨v0, e0, h⟩ := obind_ex h
      obtain ⟨v1, e1, h⟩ := obind_ex h
      obtain ⟨v2, e2, h⟩ := obind_ex h
      cases h
      rw [Cod.ed _ _ e0]
      rw [Cod.ed _ _ e1]
      rw [Cod.ed _ _ e2]
      rfl
    · cases h
  len _ := rfl
  fine b := Row.fine b.word ∧ Row.fine b.path ∧ Row.fine b.own
instance : CodR Fnd where
  enc b := .agg b.cells
  dec | .agg cs => Fnd.un cs | _ => none
  de b := Row.un b
  ed x b h := by
    split at h
    · have e := Row.nu (A := Fnd) _ _ h
      rw [e]; rfl
    · cases h
  plain _ := rfl
instance : Agg Fnd := ⟨fun _ => rfl⟩
@[simp] theorem w_Fnd : Row.w Fnd = 3 := rfl
@[simp] theorem enc_Fnd (b : Fnd) : enc b = .agg [sv b.word, iv b.path, iv b.own] := rfl
@[simp] theorem cells_Fnd (b : Fnd) : Row.cells b = [sv b.word, iv b.path, iv b.own] := rfl
@[simp] theorem eta_Fnd (b : Fnd) : (⟨b.word, b.path, b.own⟩ : Fnd) = b := rfl
theorem snapD_Fnd {h : Heap} (v0 : ByteArray) (v1 : Int) (v2 : Int)  : snapD h (.agg [sv v0, iv v1, iv v2]) = some (⟨v0, v1, v2⟩ : Fnd) := by
  unfold snapD depth
  rw [snap_agg]
  simp only [omap, snap_iv, snap_bv, snap_sv, obind_sm]
  exact Cod.de (⟨v0, v1, v2⟩ : Fnd)
@[simp] theorem snapS_Fnd (h : Heap) (b : Fnd) : snapD h (.agg [sv b.word, iv b.path, iv b.own]) = some b := snapD_Fnd b.word b.path b.own 
instance : Scal Fnd := ⟨fun _ => rfl⟩
instance : Comp Fnd := ⟨fun _ => rfl⟩
instance : CellOr Fnd := ⟨fun _ _ => rfl⟩
instance : Tre Fnd := scalTre Fnd
attribute [simp] snapD_Fnd
theorem aCmp_Fnd (a b : Fnd) : aCmp .eql (.agg [.str, .int, .int]) (.agg [sv a.word, iv a.path, iv a.own]) (.agg [sv b.word, iv b.path, iv b.own]) = some (bv (decide (a = b))) ∧
    aCmp .neq (.agg [.str, .int, .int]) (.agg [sv a.word, iv a.path, iv a.own]) (.agg [sv b.word, iv b.path, iv b.own]) = some (bv !decide (a = b)) := by
  have h := aCmp_agg (ks := [.str, .int, .int]) rfl rfl (cellsEq_cons _ _ _ _ _ _ _ _ (cellEq_sv a.word b.word) (cellsEq_cons _ _ _ _ _ _ _ _ (cellEq_iv a.path b.path) (cellsEq_cons _ _ _ _ _ _ _ _ (cellEq_iv a.own b.own) cellsEq_nil)))
  have e : (decide (a.word = b.word) && (decide (a.path = b.path) && (decide (a.own = b.own) && true))) = decide (a = b) := by
    obtain ⟨a_word, a_path, a_own⟩ := a
    obtain ⟨b_word, b_path, b_own⟩ := b
    simp [and_assoc]
  rw [e] at h
  exact h
@[simp] theorem dep_Fnd : Tre.dep Fnd = 0 := rfl
instance : Elem Fnd := aggElem Fnd
@[simp] theorem nv_Fnd (b : Fnd) : Elem.nv b = nag b := rfl
instance : Wt Fnd where
  wt b := Wt.wt b.word
  big b := Wt.big b.word
  fb := fun b h => by
    have hh : Row.fine b.word ∧ Row.fine b.path ∧ Row.fine b.own := h
    exact Wt.fb _ hh.1
theorem wt_Fnd (b : Fnd) : Wt.wt b = Wt.wt b.word := rfl
theorem big_Fnd (b : Fnd) : Wt.big b = (Wt.big b.word) := rfl

structure Choice where
  kind : Int
  sign : Int
  a : Int
  b : Int
  cost : Int
  deriving DecidableEq
def Choice.cells (b : Choice) : List AV := [iv b.kind, iv b.sign, iv b.a, iv b.b, iv b.cost]
def Choice.un : List AV → Option Choice
  | [c0, c1, c2, c3, c4] => obind (dec c0 : Option Int) fun v0 => obind (dec c1 : Option Int) fun v1 => obind (dec c2 : Option Int) fun v2 => obind (dec c3 : Option Int) fun v3 => obind (dec c4 : Option Int) fun v4 => some ⟨v0, v1, v2, v3, v4⟩
  | _ => none
instance : Row Choice where
  w := 5
  cells := Choice.cells
  uncells := Choice.un
  un b := by
    show (obind (dec (enc b.kind) : Option Int) fun v0 => obind (dec (enc b.sign) : Option Int) fun v1 => obind (dec (enc b.a) : Option Int) fun v2 => obind (dec (enc b.b) : Option Int) fun v3 => obind (dec (enc b.cost) : Option Int) fun v4 => some (⟨v0, v1, v2, v3, v4⟩ : Choice)) = some b
    simp only [Cod.de, obind_sm]
  nu x b h := by
    unfold Choice.un at h
    split at h
    · obtain ⟨v0, e0, h⟩ := obind_ex h
      obtain ⟨v1, e1, h⟩ := obind_ex h
      obtain ⟨v2, e2, h⟩ := obind_ex h
      obtain ⟨v3, e3, h⟩ := obind_ex h
      obtain ⟨v4, e4, h⟩ := obind_ex h
      cases h
      rw [Cod.ed _ _ e0]
      rw [Cod.ed _ _ e1]
      rw [Cod.ed _ _ e2]
      rw [Cod.ed _ _ e3]
      rw [Cod.ed _ _ e4]
      rfl
    · cases h
  len _ := rfl
  fine b := Row.fine b.kind ∧ Row.fine b.sign ∧ Row.fine b.a ∧ Row.fine b.b ∧ Row.fine b.cost
instance : CodR Choice where
  enc b := .agg b.cells
  dec | .agg cs => Choice.un cs | _ => none
  de b := Row.un b
  ed x b h := by
    split at h
    · have e := Row.nu (A := Choice) _ _ h
      rw [e]; rfl
    · cases h
  plain _ := rfl
instance : Agg Choice := ⟨fun _ => rfl⟩
@[simp] theorem w_Choice : Row.w Choice = 5 := rfl
@[simp] theorem enc_Choice (b : Choice) : enc b = .agg [iv b.kind, iv b.sign, iv b.a, iv b.b, iv b.cost] := rfl
@[simp] theorem cells_Choice (b : Choice) : Row.cells b = [iv b.kind, iv b.sign, iv b.a, iv b.b, iv b.cost] := rfl
@[simp] theorem eta_Choice (b : Choice) : (⟨b.kind, b.sign, b.a, b.b, b.cost⟩ : Choice) = b := rfl
theorem snapD_Choice {h : Heap} (v0 : Int) (v1 : Int) (v2 : Int) (v3 : Int) (v4 : Int)  : snapD h (.agg [iv v0, iv v1, iv v2, iv v3, iv v4]) = some (⟨v0, v1, v2, v3, v4⟩ : Choice) := by
  unfold snapD depth
  rw [snap_agg]
  simp only [omap, snap_iv, snap_bv, snap_sv, obind_sm]
  exact Cod.de (⟨v0, v1, v2, v3, v4⟩ : Choice)
@[simp] theorem snapS_Choice (h : Heap) (b : Choice) : snapD h (.agg [iv b.kind, iv b.sign, iv b.a, iv b.b, iv b.cost]) = some b := snapD_Choice b.kind b.sign b.a b.b b.cost 
instance : Scal Choice := ⟨fun _ => rfl⟩
instance : Comp Choice := ⟨fun _ => rfl⟩
instance : CellOr Choice := ⟨fun _ _ => rfl⟩
instance : Tre Choice := scalTre Choice
attribute [simp] snapD_Choice
theorem aCmp_Choice (a b : Choice) : aCmp .eql (.agg [.int, .int, .int, .int, .int]) (.agg [iv a.kind, iv a.sign, iv a.a, iv a.b, iv a.cost]) (.agg [iv b.kind, iv b.sign, iv b.a, iv b.b, iv b.cost]) = some (bv (decide (a = b))) ∧
    aCmp .neq (.agg [.int, .int, .int, .int, .int]) (.agg [iv a.kind, iv a.sign, iv a.a, iv a.b, iv a.cost]) (.agg [iv b.kind, iv b.sign, iv b.a, iv b.b, iv b.cost]) = some (bv !decide (a = b)) := by
  have h := aCmp_agg (ks := [.int, .int, .int, .int, .int]) rfl rfl (cellsEq_cons _ _ _ _ _ _ _ _ (cellEq_iv a.kind b.kind) (cellsEq_cons _ _ _ _ _ _ _ _ (cellEq_iv a.sign b.sign) (cellsEq_cons _ _ _ _ _ _ _ _ (cellEq_iv a.a b.a) (cellsEq_cons _ _ _ _ _ _ _ _ (cellEq_iv a.b b.b) (cellsEq_cons _ _ _ _ _ _ _ _ (cellEq_iv a.cost b.cost) cellsEq_nil)))))
  have e : (decide (a.kind = b.kind) && (decide (a.sign = b.sign) && (decide (a.a = b.a) && (decide (a.b = b.b) && (decide (a.cost = b.cost) && true))))) = decide (a = b) := by
    obtain ⟨a_kind, a_sign, a_a, a_b, a_cost⟩ := a
    obtain ⟨b_kind, b_sign, b_a, b_b, b_cost⟩ := b
    simp [and_assoc]
  rw [e] at h
  exact h
@[simp] theorem dep_Choice : Tre.dep Choice = 0 := rfl
instance : Elem Choice := aggElem Choice
@[simp] theorem nv_Choice (b : Choice) : Elem.nv b = nag b := rfl
instance : Wt Choice where
  wt _ := 0
  big _ := true
  fb := fun _ _ => rfl
theorem wt_Choice (b : Choice) : Wt.wt b = 0 := rfl
theorem big_Choice (b : Choice) : Wt.big b = (true) := rfl

structure Cell21 where
  box : Box
  ways : Int
  cost : Int
  kind : Int
  sign : Int
  first : Int
  rest : Int
  deriving DecidableEq
def Cell21.cells (b : Cell21) : List AV := [iv b.box.x1, iv b.box.y1, iv b.box.x2, iv b.box.y2, iv b.ways, iv b.cost, iv b.kind, iv b.sign, iv b.first, iv b.rest]
def Cell21.un : List AV → Option Cell21
  | [c0, c1, c2, c3, c4, c5, c6, c7, c8, c9] => obind (dec c0 : Option Int) fun v0 => obind (dec c1 : Option Int) fun v1 => obind (dec c2 : Option Int) fun v2 => obind (dec c3 : Option Int) fun v3 => obind (dec c4 : Option Int) fun v4 => obind (dec c5 : Option Int) fun v5 => obind (dec c6 : Option Int) fun v6 => obind (dec c7 : Option Int) fun v7 => obind (dec c8 : Option Int) fun v8 => obind (dec c9 : Option Int) fun v9 => some ⟨⟨v0, v1, v2, v3⟩, v4, v5, v6, v7, v8, v9⟩
  | _ => none
instance : Row Cell21 where
  w := 10
  cells := Cell21.cells
  uncells := Cell21.un
  un b := by
    show (obind (dec (enc b.box.x1) : Option Int) fun v0 => obind (dec (enc b.box.y1) : Option Int) fun v1 => obind (dec (enc b.box.x2) : Option Int) fun v2 => obind (dec (enc b.box.y2) : Option Int) fun v3 => obind (dec (enc b.ways) : Option Int) fun v4 => obind (dec (enc b.cost) : Option Int) fun v5 => obind (dec (enc b.kind) : Option Int) fun v6 => obind (dec (enc b.sign) : Option Int) fun v7 => obind (dec (enc b.first) : Option Int) fun v8 => obind (dec (enc b.rest) : Option Int) fun v9 => some (⟨⟨v0, v1, v2, v3⟩, v4, v5, v6, v7, v8, v9⟩ : Cell21)) = some b
    simp only [Cod.de, obind_sm]
  nu x b h := by
    unfold Cell21.un at h
    split at h
    · obtain ⟨v0, e0, h⟩ := obind_ex h
      obtain ⟨v1, e1, h⟩ := obind_ex h
      obtain ⟨v2, e2, h⟩ := obind_ex h
      obtain ⟨v3, e3, h⟩ := obind_ex h
      obtain ⟨v4, e4, h⟩ := obind_ex h
      obtain ⟨v5, e5, h⟩ := obind_ex h
      obtain ⟨v6, e6, h⟩ := obind_ex h
      obtain ⟨v7, e7, h⟩ := obind_ex h
      obtain ⟨v8, e8, h⟩ := obind_ex h
      obtain ⟨v9, e9, h⟩ := obind_ex h
      cases h
      rw [Cod.ed _ _ e0]
      rw [Cod.ed _ _ e1]
      rw [Cod.ed _ _ e2]
      rw [Cod.ed _ _ e3]
      rw [Cod.ed _ _ e4]
      rw [Cod.ed _ _ e5]
      rw [Cod.ed _ _ e6]
      rw [Cod.ed _ _ e7]
      rw [Cod.ed _ _ e8]
      rw [Cod.ed _ _ e9]
      rfl
    · cases h
  len _ := rfl
  fine b := Row.fine b.box ∧ Row.fine b.ways ∧ Row.fine b.cost ∧ Row.fine b.kind ∧ Row.fine b.sign ∧ Row.fine b.first ∧ Row.fine b.rest
instance : CodR Cell21 where
  enc b := .agg b.cells
  dec | .agg cs => Cell21.un cs | _ => none
  de b := Row.un b
  ed x b h := by
    split at h
    · have e := Row.nu (A := Cell21) _ _ h
      rw [e]; rfl
    · cases h
  plain _ := rfl
instance : Agg Cell21 := ⟨fun _ => rfl⟩
@[simp] theorem w_Cell21 : Row.w Cell21 = 10 := rfl
@[simp] theorem enc_Cell21 (b : Cell21) : enc b = .agg [iv b.box.x1, iv b.box.y1, iv b.box.x2, iv b.box.y2, iv b.ways, iv b.cost, iv b.kind, iv b.sign, iv b.first, iv b.rest] := rfl
@[simp] theorem cells_Cell21 (b : Cell21) : Row.cells b = [iv b.box.x1, iv b.box.y1, iv b.box.x2, iv b.box.y2, iv b.ways, iv b.cost, iv b.kind, iv b.sign, iv b.first, iv b.rest] := rfl
@[simp] theorem eta_Cell21 (b : Cell21) : (⟨b.box, b.ways, b.cost, b.kind, b.sign, b.first, b.rest⟩ : Cell21) = b := rfl
theorem snapD_Cell21 {h : Heap} (v0 : Int) (v1 : Int) (v2 : Int) (v3 : Int) (v4 : Int) (v5 : Int) (v6 : Int) (v7 : Int) (v8 : Int) (v9 : Int)  : snapD h (.agg [iv v0, iv v1, iv v2, iv v3, iv v4, iv v5, iv v6, iv v7, iv v8, iv v9]) = some (⟨⟨v0, v1, v2, v3⟩, v4, v5, v6, v7, v8, v9⟩ : Cell21) := by
  unfold snapD depth
  rw [snap_agg]
  simp only [omap, snap_iv, snap_bv, snap_sv, obind_sm]
  exact Cod.de (⟨⟨v0, v1, v2, v3⟩, v4, v5, v6, v7, v8, v9⟩ : Cell21)
@[simp] theorem snapS_Cell21 (h : Heap) (b : Cell21) : snapD h (.agg [iv b.box.x1, iv b.box.y1, iv b.box.x2, iv b.box.y2, iv b.ways, iv b.cost, iv b.kind, iv b.sign, iv b.first, iv b.rest]) = some b := snapD_Cell21 b.box.x1 b.box.y1 b.box.x2 b.box.y2 b.ways b.cost b.kind b.sign b.first b.rest 
instance : Scal Cell21 := ⟨fun _ => rfl⟩
instance : Comp Cell21 := ⟨fun _ => rfl⟩
instance : CellOr Cell21 := ⟨fun _ _ => rfl⟩
instance : Tre Cell21 := scalTre Cell21
attribute [simp] snapD_Cell21
theorem aCmp_Cell21 (a b : Cell21) : aCmp .eql (.agg [.int, .int, .int, .int, .int, .int, .int, .int, .int, .int]) (.agg [iv a.box.x1, iv a.box.y1, iv a.box.x2, iv a.box.y2, iv a.ways, iv a.cost, iv a.kind, iv a.sign, iv a.first, iv a.rest]) (.agg [iv b.box.x1, iv b.box.y1, iv b.box.x2, iv b.box.y2, iv b.ways, iv b.cost, iv b.kind, iv b.sign, iv b.first, iv b.rest]) = some (bv (decide (a = b))) ∧
    aCmp .neq (.agg [.int, .int, .int, .int, .int, .int, .int, .int, .int, .int]) (.agg [iv a.box.x1, iv a.box.y1, iv a.box.x2, iv a.box.y2, iv a.ways, iv a.cost, iv a.kind, iv a.sign, iv a.first, iv a.rest]) (.agg [iv b.box.x1, iv b.box.y1, iv b.box.x2, iv b.box.y2, iv b.ways, iv b.cost, iv b.kind, iv b.sign, iv b.first, iv b.rest]) = some (bv !decide (a = b)) := by
  have h := aCmp_agg (ks := [.int, .int, .int, .int, .int, .int, .int, .int, .int, .int]) rfl rfl (cellsEq_cons _ _ _ _ _ _ _ _ (cellEq_iv a.box.x1 b.box.x1) (cellsEq_cons _ _ _ _ _ _ _ _ (cellEq_iv a.box.y1 b.box.y1) (cellsEq_cons _ _ _ _ _ _ _ _ (cellEq_iv a.box.x2 b.box.x2) (cellsEq_cons _ _ _ _ _ _ _ _ (cellEq_iv a.box.y2 b.box.y2) (cellsEq_cons _ _ _ _ _ _ _ _ (cellEq_iv a.ways b.ways) (cellsEq_cons _ _ _ _ _ _ _ _ (cellEq_iv a.cost b.cost) (cellsEq_cons _ _ _ _ _ _ _ _ (cellEq_iv a.kind b.kind) (cellsEq_cons _ _ _ _ _ _ _ _ (cellEq_iv a.sign b.sign) (cellsEq_cons _ _ _ _ _ _ _ _ (cellEq_iv a.first b.first) (cellsEq_cons _ _ _ _ _ _ _ _ (cellEq_iv a.rest b.rest) cellsEq_nil))))))))))
  have e : (decide (a.box.x1 = b.box.x1) && (decide (a.box.y1 = b.box.y1) && (decide (a.box.x2 = b.box.x2) && (decide (a.box.y2 = b.box.y2) && (decide (a.ways = b.ways) && (decide (a.cost = b.cost) && (decide (a.kind = b.kind) && (decide (a.sign = b.sign) && (decide (a.first = b.first) && (decide (a.rest = b.rest) && true)))))))))) = decide (a = b) := by
    obtain ⟨⟨abox__x1, abox__y1, abox__x2, abox__y2⟩, a_ways, a_cost, a_kind, a_sign, a_first, a_rest⟩ := a
    obtain ⟨⟨bbox__x1, bbox__y1, bbox__x2, bbox__y2⟩, b_ways, b_cost, b_kind, b_sign, b_first, b_rest⟩ := b
    simp [and_assoc]
  rw [e] at h
  exact h
@[simp] theorem dep_Cell21 : Tre.dep Cell21 = 0 := rfl
instance : Elem Cell21 := aggElem Cell21
@[simp] theorem nv_Cell21 (b : Cell21) : Elem.nv b = nag b := rfl
instance : Wt Cell21 where
  wt _ := 0
  big _ := true
  fb := fun _ _ => rfl
theorem wt_Cell21 (b : Cell21) : Wt.wt b = 0 := rfl
theorem big_Cell21 (b : Cell21) : Wt.big b = (true) := rfl

structure WordAt where
  word : ByteArray
  cost : Int
  deriving DecidableEq
def WordAt.cells (b : WordAt) : List AV := [sv b.word, iv b.cost]
def WordAt.un : List AV → Option WordAt
  | [c0, c1] => obind (dec c0 : Option ByteArray) fun v0 => obind (dec c1 : Option Int) fun v1 => some ⟨v0, v1⟩
  | _ => none
instance : Row WordAt where
  w := 2
  cells := WordAt.cells
  uncells := WordAt.un
  un b := by
    show (obind (dec (enc b.word) : Option ByteArray) fun v0 => obind (dec (enc b.cost) : Option Int) fun v1 => some (⟨v0, v1⟩ : WordAt)) = some b
    simp only [Cod.de, obind_sm]
  nu x b h := by
    unfold WordAt.un at h
    split at h
    · obtain ⟨v0, e0, h⟩ := obind_ex h
      obtain ⟨v1, e1, h⟩ := obind_ex h
      cases h
      rw [Cod.ed _ _ e0]
      rw [Cod.ed _ _ e1]
      rfl
    · cases h
  len _ := rfl
  fine b := Row.fine b.word ∧ Row.fine b.cost
instance : CodR WordAt where
  enc b := .agg b.cells
  dec | .agg cs => WordAt.un cs | _ => none
  de b := Row.un b
  ed x b h := by
    split at h
    · have e := Row.nu (A := WordAt) _ _ h
      rw [e]; rfl
    · cases h
  plain _ := rfl
instance : Agg WordAt := ⟨fun _ => rfl⟩
@[simp] theorem w_WordAt : Row.w WordAt = 2 := rfl
@[simp] theorem enc_WordAt (b : WordAt) : enc b = .agg [sv b.word, iv b.cost] := rfl
@[simp] theorem cells_WordAt (b : WordAt) : Row.cells b = [sv b.word, iv b.cost] := rfl
@[simp] theorem eta_WordAt (b : WordAt) : (⟨b.word, b.cost⟩ : WordAt) = b := rfl
theorem snapD_WordAt {h : Heap} (v0 : ByteArray) (v1 : Int)  : snapD h (.agg [sv v0, iv v1]) = some (⟨v0, v1⟩ : WordAt) := by
  unfold snapD depth
  rw [snap_agg]
  simp only [omap, snap_iv, snap_bv, snap_sv, obind_sm]
  exact Cod.de (⟨v0, v1⟩ : WordAt)
@[simp] theorem snapS_WordAt (h : Heap) (b : WordAt) : snapD h (.agg [sv b.word, iv b.cost]) = some b := snapD_WordAt b.word b.cost 
instance : Scal WordAt := ⟨fun _ => rfl⟩
instance : Comp WordAt := ⟨fun _ => rfl⟩
instance : CellOr WordAt := ⟨fun _ _ => rfl⟩
instance : Tre WordAt := scalTre WordAt
attribute [simp] snapD_WordAt
theorem aCmp_WordAt (a b : WordAt) : aCmp .eql (.agg [.str, .int]) (.agg [sv a.word, iv a.cost]) (.agg [sv b.word, iv b.cost]) = some (bv (decide (a = b))) ∧
    aCmp .neq (.agg [.str, .int]) (.agg [sv a.word, iv a.cost]) (.agg [sv b.word, iv b.cost]) = some (bv !decide (a = b)) := by
  have h := aCmp_agg (ks := [.str, .int]) rfl rfl (cellsEq_cons _ _ _ _ _ _ _ _ (cellEq_sv a.word b.word) (cellsEq_cons _ _ _ _ _ _ _ _ (cellEq_iv a.cost b.cost) cellsEq_nil))
  have e : (decide (a.word = b.word) && (decide (a.cost = b.cost) && true)) = decide (a = b) := by
    obtain ⟨a_word, a_cost⟩ := a
    obtain ⟨b_word, b_cost⟩ := b
    simp [and_assoc]
  rw [e] at h
  exact h
@[simp] theorem dep_WordAt : Tre.dep WordAt = 0 := rfl
instance : Elem WordAt := aggElem WordAt
@[simp] theorem nv_WordAt (b : WordAt) : Elem.nv b = nag b := rfl
instance : Wt WordAt where
  wt b := Wt.wt b.word
  big b := Wt.big b.word
  fb := fun b h => by
    have hh : Row.fine b.word ∧ Row.fine b.cost := h
    exact Wt.fb _ hh.1
theorem wt_WordAt (b : WordAt) : Wt.wt b = Wt.wt b.word := rfl
theorem big_WordAt (b : WordAt) : Wt.big b = (Wt.big b.word) := rfl

structure Reading where
  text : ByteArray
  cost : Int
  deriving DecidableEq
def Reading.cells (b : Reading) : List AV := [sv b.text, iv b.cost]
def Reading.un : List AV → Option Reading
  | [c0, c1] => obind (dec c0 : Option ByteArray) fun v0 => obind (dec c1 : Option Int) fun v1 => some ⟨v0, v1⟩
  | _ => none
instance : Row Reading where
  w := 2
  cells := Reading.cells
  uncells := Reading.un
  un b := by
    show (obind (dec (enc b.text) : Option ByteArray) fun v0 => obind (dec (enc b.cost) : Option Int) fun v1 => some (⟨v0, v1⟩ : Reading)) = some b
    simp only [Cod.de, obind_sm]
  nu x b h := by
    unfold Reading.un at h
    split at h
    · obtain ⟨v0, e0, h⟩ := obind_ex h
      obtain ⟨v1, e1, h⟩ := obind_ex h
      cases h
      rw [Cod.ed _ _ e0]
      rw [Cod.ed _ _ e1]
      rfl
    · cases h
  len _ := rfl
  fine b := Row.fine b.text ∧ Row.fine b.cost
instance : CodR Reading where
  enc b := .agg b.cells
  dec | .agg cs => Reading.un cs | _ => none
  de b := Row.un b
  ed x b h := by
    split at h
    · have e := Row.nu (A := Reading) _ _ h
      rw [e]; rfl
    · cases h
  plain _ := rfl
instance : Agg Reading := ⟨fun _ => rfl⟩
@[simp] theorem w_Reading : Row.w Reading = 2 := rfl
@[simp] theorem enc_Reading (b : Reading) : enc b = .agg [sv b.text, iv b.cost] := rfl
@[simp] theorem cells_Reading (b : Reading) : Row.cells b = [sv b.text, iv b.cost] := rfl
@[simp] theorem eta_Reading (b : Reading) : (⟨b.text, b.cost⟩ : Reading) = b := rfl
theorem snapD_Reading {h : Heap} (v0 : ByteArray) (v1 : Int)  : snapD h (.agg [sv v0, iv v1]) = some (⟨v0, v1⟩ : Reading) := by
  unfold snapD depth
  rw [snap_agg]
  simp only [omap, snap_iv, snap_bv, snap_sv, obind_sm]
  exact Cod.de (⟨v0, v1⟩ : Reading)
@[simp] theorem snapS_Reading (h : Heap) (b : Reading) : snapD h (.agg [sv b.text, iv b.cost]) = some b := snapD_Reading b.text b.cost 
instance : Scal Reading := ⟨fun _ => rfl⟩
instance : Comp Reading := ⟨fun _ => rfl⟩
instance : CellOr Reading := ⟨fun _ _ => rfl⟩
instance : Tre Reading := scalTre Reading
attribute [simp] snapD_Reading
theorem aCmp_Reading (a b : Reading) : aCmp .eql (.agg [.str, .int]) (.agg [sv a.text, iv a.cost]) (.agg [sv b.text, iv b.cost]) = some (bv (decide (a = b))) ∧
    aCmp .neq (.agg [.str, .int]) (.agg [sv a.text, iv a.cost]) (.agg [sv b.text, iv b.cost]) = some (bv !decide (a = b)) := by
  have h := aCmp_agg (ks := [.str, .int]) rfl rfl (cellsEq_cons _ _ _ _ _ _ _ _ (cellEq_sv a.text b.text) (cellsEq_cons _ _ _ _ _ _ _ _ (cellEq_iv a.cost b.cost) cellsEq_nil))
  have e : (decide (a.text = b.text) && (decide (a.cost = b.cost) && true)) = decide (a = b) := by
    obtain ⟨a_text, a_cost⟩ := a
    obtain ⟨b_text, b_cost⟩ := b
    simp [and_assoc]
  rw [e] at h
  exact h
@[simp] theorem dep_Reading : Tre.dep Reading = 0 := rfl
instance : Elem Reading := aggElem Reading
@[simp] theorem nv_Reading (b : Reading) : Elem.nv b = nag b := rfl
instance : Wt Reading where
  wt b := Wt.wt b.text
  big b := Wt.big b.text
  fb := fun b h => by
    have hh : Row.fine b.text ∧ Row.fine b.cost := h
    exact Wt.fb _ hh.1
theorem wt_Reading (b : Reading) : Wt.wt b = Wt.wt b.text := rfl
theorem big_Reading (b : Reading) : Wt.big b = (Wt.big b.text) := rfl

@[simp] theorem mc_Edg (b : Edg) (n : Nat) : (mv (nag b) n).cells = [iv b.frm, iv b.upto, sv b.label, iv b.cost] := rfl
@[simp] theorem mt_Edg (b : Edg) (n : Nat) : mt (nag b) n = [] := rfl
@[simp] theorem mc_Entry (b : Entry) (n : Nat) : (mv (nag b) n).cells = [sv b.word, iv b.cost] := rfl
@[simp] theorem mt_Entry (b : Entry) (n : Nat) : mt (nag b) n = [] := rfl
@[simp] theorem mc_Fnd (b : Fnd) (n : Nat) : (mv (nag b) n).cells = [sv b.word, iv b.path, iv b.own] := rfl
@[simp] theorem mt_Fnd (b : Fnd) (n : Nat) : mt (nag b) n = [] := rfl
@[simp] theorem mc_Choice (b : Choice) (n : Nat) : (mv (nag b) n).cells = [iv b.kind, iv b.sign, iv b.a, iv b.b, iv b.cost] := rfl
@[simp] theorem mt_Choice (b : Choice) (n : Nat) : mt (nag b) n = [] := rfl
@[simp] theorem mc_Cell21 (b : Cell21) (n : Nat) : (mv (nag b) n).cells = [iv b.box.x1, iv b.box.y1, iv b.box.x2, iv b.box.y2, iv b.ways, iv b.cost, iv b.kind, iv b.sign, iv b.first, iv b.rest] := rfl
@[simp] theorem mt_Cell21 (b : Cell21) (n : Nat) : mt (nag b) n = [] := rfl
@[simp] theorem mc_WordAt (b : WordAt) (n : Nat) : (mv (nag b) n).cells = [sv b.word, iv b.cost] := rfl
@[simp] theorem mt_WordAt (b : WordAt) (n : Nat) : mt (nag b) n = [] := rfl
@[simp] theorem mc_Reading (b : Reading) (n : Nat) : (mv (nag b) n).cells = [sv b.text, iv b.cost] := rfl
@[simp] theorem mt_Reading (b : Reading) (n : Nat) : mt (nag b) n = [] := rfl
instance : NR Edg := ⟨fun b => by simp only [Row.cells, Edg.cells, List.all_cons, List.all_nil, nr_sl, nr_iv, nr_bv, nr_sv, Bool.and_self]⟩
instance : NR Lattice := ⟨fun b => by simp only [Row.cells, Lattice.cells, List.all_cons, List.all_nil, nr_sl, nr_iv, nr_bv, nr_sv, Bool.and_self]⟩
instance : NR Entry := ⟨fun b => by simp only [Row.cells, Entry.cells, List.all_cons, List.all_nil, nr_sl, nr_iv, nr_bv, nr_sv, Bool.and_self]⟩
instance : NR Lexicon := ⟨fun b => by simp only [Row.cells, Lexicon.cells, List.all_cons, List.all_nil, nr_sl, nr_iv, nr_bv, nr_sv, Bool.and_self]⟩
instance : NR Fnd := ⟨fun b => by simp only [Row.cells, Fnd.cells, List.all_cons, List.all_nil, nr_sl, nr_iv, nr_bv, nr_sv, Bool.and_self]⟩
instance : NR Choice := ⟨fun b => by simp only [Row.cells, Choice.cells, List.all_cons, List.all_nil, nr_sl, nr_iv, nr_bv, nr_sv, Bool.and_self]⟩
instance : NR Cell21 := ⟨fun b => by simp only [Row.cells, Cell21.cells, List.all_cons, List.all_nil, nr_sl, nr_iv, nr_bv, nr_sv, Bool.and_self]⟩
instance : NR WordAt := ⟨fun b => by simp only [Row.cells, WordAt.cells, List.all_cons, List.all_nil, nr_sl, nr_iv, nr_bv, nr_sv, Bool.and_self]⟩
instance : NR Reading := ⟨fun b => by simp only [Row.cells, Reading.cells, List.all_cons, List.all_nil, nr_sl, nr_iv, nr_bv, nr_sv, Bool.and_self]⟩
instance : Inn Lattice Edg where
  sub a := a.edges
  row a x := [iv a.nodes, x]
  enc _ := rfl
  len _ _ := rfl
  flat _ x hx := by simp [hx]
  snap h d a x hx := by simp [omap, hx, Row.cells, Lattice.cells, snap_iv]
  rel h d a x hx := by simp [omap, hx, rel_iv]
  ids h d a x := by simp [ids_iv]
  mat d a b y o hy := by simp [matL, hy, mat_iv]
  noF d a hx := by simp [hx, noF_iv]
instance : Inn Sentence ByteArray where
  sub a := a.words
  row a x := [x, iv a.cost]
  enc _ := rfl
  len _ _ := rfl
  flat _ x hx := by simp [hx]
  snap h d a x hx := by simp [omap, hx, Row.cells, Sentence.cells, snap_iv]
  rel h d a x hx := by simp [omap, hx, rel_iv]
  ids h d a x := by simp [ids_iv]
  mat d a b y o hy := by simp [matL, hy, mat_iv]
  noF d a hx := by simp [hx, noF_iv]
structure Parser where
  list : Sl Symbol
  boxes : Sl Box
  best : Sl Choice
  count : Sl Int
structure Chart21 where
  list : Sl Symbol
  cells : Sl Cell21

end Go.Eng
