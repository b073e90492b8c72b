import Derived.Test.YtcdahloanikigaaEngLib
namespace Go.Eng
set_option linter.unusedVariables false
set_option linter.unusedSimpArgs false
open Cod (enc dec)
structure Edg where
  frm : Int
  upto : Int
  label : ByteArray
  cost : Int
  deriving DecidableEq
def Edg.cells (b : Edg) : List AV := [iv b.frm, iv b.upto, sv b.label, iv b.cost]
def Edg.un : List AV → Option Edg
  | [c0, c1, c2, c3] => kA0 (dec c0 : Option Int) fun v0 => kA0 (dec c1 : Option Int) fun v1 => kA0 (dec c2 : Option ByteArray) fun v2 => kA0 (dec c3 : Option Int) fun v3 => some ⟨v0, v1, v2, v3⟩
  | _ => none
instance : Row Edg where
  w := 4
  cells := Edg.cells
  uncells := Edg.un
  un b := by
    show (kA0 (dec (enc b.frm) : Option Int) fun v0 => kA0 (dec (enc b.upto) : Option Int) fun v1 => kA0 (dec (enc b.label) : Option ByteArray) fun v2 => kA0 (dec (enc b.cost) : Option Int) fun v3 => some (⟨v0, v1, v2, v3⟩ : Edg)) = some b
    simp only [Cod.de, kA6]
  nu x b h := by
    unfold Edg.un at h
    split at h
    · obtain ⟨v0, e0, h⟩ := kBn h
      obtain ⟨v1, e1, h⟩ := kBn h
      obtain ⟨v2, e2, h⟩ := kBn h
      obtain ⟨v3, e3, h⟩ := kBn h
      cases h
      rw [Cod.ed _ _ e0]
      rw [Cod.ed _ _ e1]
      rw [Cod.ed _ _ e2]
      rw [Cod.ed _ _ e3]
      rfl
    · cases h
  len _ := rfl
  fine b := Row.fine b.frm ∧ Row.fine b.upto ∧ Row.fine b.label ∧ Row.fine b.cost
instance : CodR Edg where
  enc b := .agg b.cells
  dec | .agg cs => Edg.un cs | _ => none
  de b := Row.un b
  ed x b h := by
    split at h
    · have e := Row.nu (A := Edg) _ _ h
      rw [e]; rfl
    · cases h
  plain _ := rfl
instance : Agg Edg := ⟨fun _ => rfl⟩
@[simp] theorem w_Edg : Row.w Edg = 4 := rfl
@[simp] theorem enc_Edg (b : Edg) : enc b = .agg [iv b.frm, iv b.upto, sv b.label, iv b.cost] := rfl
@[simp] theorem cells_Edg (b : Edg) : Row.cells b = [iv b.frm, iv b.upto, sv b.label, iv b.cost] := rfl
@[simp] theorem eta_Edg (b : Edg) : (⟨b.frm, b.upto, b.label, b.cost⟩ : Edg) = b := rfl
theorem snapD_Edg {h : kA7} (v0 : Int) (v1 : Int) (v2 : ByteArray) (v3 : Int)  : snapD h (.agg [iv v0, iv v1, sv v2, iv v3]) = some (⟨v0, v1, v2, v3⟩ : Edg) := by
  unfold snapD depth
  rw [kFh]
  simp only [kBm, kG6, kH1, kHd, kA6]
  exact Cod.de (⟨v0, v1, v2, v3⟩ : Edg)
@[simp] theorem snapS_Edg (h : kA7) (b : Edg) : snapD h (.agg [iv b.frm, iv b.upto, sv b.label, iv b.cost]) = some b := snapD_Edg b.frm b.upto b.label b.cost 
instance : Scal Edg := ⟨fun _ => rfl⟩
instance : Comp Edg := ⟨fun _ => rfl⟩
instance : CellOr Edg := ⟨fun _ _ => rfl⟩
instance : Tre Edg := kEu Edg
attribute [simp] snapD_Edg
@[simp] theorem dep_Edg : Tre.dep Edg = 0 := rfl
instance : Elem Edg := kEt Edg
@[simp] theorem nv_Edg (b : Edg) : Elem.nv b = nag b := rfl
instance : Wt Edg where
  wt b := Wt.wt b.label
  big b := Wt.big b.label
  fb := fun b h => by
    have hh : Row.fine b.frm ∧ Row.fine b.upto ∧ Row.fine b.label ∧ Row.fine b.cost := h
    exact Wt.fb _ hh.2.2.1
structure Lattice where
  nodes : Int
  edges : (Sl Edg)
  deriving DecidableEq
def Lattice.cells (b : Lattice) : List AV := [iv b.nodes, Sl.enc b.edges]
def Lattice.un : List AV → Option Lattice
  | [c0, c1] => kA0 (dec c0 : Option Int) fun v0 => kA0 (dec c1 : Option (Sl Edg)) fun v1 => some ⟨v0, v1⟩
  | _ => none
instance : Row Lattice where
  w := 2
  cells := Lattice.cells
  uncells := Lattice.un
  un b := by
    show (kA0 (dec (enc b.nodes) : Option Int) fun v0 => kA0 (dec (enc b.edges) : Option (Sl Edg)) fun v1 => some (⟨v0, v1⟩ : Lattice)) = some b
    simp only [Cod.de, kA6]
  nu x b h := by
    unfold Lattice.un at h
    split at h
    · obtain ⟨v0, e0, h⟩ := kBn h
      obtain ⟨v1, e1, h⟩ := kBn h
      cases h
      rw [Cod.ed _ _ e0]
      rw [Cod.ed _ _ e1]
      rfl
    · cases h
  len _ := rfl
  fine b := Row.fine b.nodes ∧ Row.fine b.edges
instance : Cod Lattice where
  enc b := .agg b.cells
  dec | .agg cs => Lattice.un cs | _ => none
  de b := Row.un b
  ed x b h := by
    split at h
    · have e := Row.nu (A := Lattice) _ _ h
      rw [e]; rfl
    · cases h
instance : Agg Lattice := ⟨fun _ => rfl⟩
@[simp] theorem w_Lattice : Row.w Lattice = 2 := rfl
@[simp] theorem enc_Lattice (b : Lattice) : enc b = .agg [iv b.nodes, Sl.enc b.edges] := rfl
@[simp] theorem cells_Lattice (b : Lattice) : Row.cells b = [iv b.nodes, Sl.enc b.edges] := rfl
@[simp] theorem eta_Lattice (b : Lattice) : (⟨b.nodes, b.edges⟩ : Lattice) = b := rfl
theorem snapD_Lattice {h : kA7} (v0 : Int) (v1 : (Sl Edg)) {x1 : AV} (h1 : snap h 7 x1 = some (Sl.enc v1)) : snapD h (.agg [iv v0, x1]) = some (⟨v0, v1⟩ : Lattice) := by
  unfold snapD depth
  rw [kFh]
  simp only [kBm, kG6, kH1, kHd, h1, kA6]
  exact Cod.de (⟨v0, v1⟩ : Lattice)
@[simp] theorem snapS_Lattice (h : kA7) (b : Lattice) : snapD h (.agg [iv b.nodes, Sl.enc b.edges]) = some b := snapD_Lattice b.nodes b.edges (snap_slenc h 7 b.edges)
instance : Tre Lattice where
  dep := 1
  nrow b := [iv b.nodes, nws b.edges]
  norm b := ⟨b.nodes, Tre.norm b.edges⟩
  trr b := by simp [tr_nws]
  frr b d hd := by
    show List.map (frz d) _ = _
    simp only [List.map_cons, List.map_nil, frz_iv, frz_bv, frz_sv, frz_nws b.edges (d := d) (by simp; omega)]
    rfl
  fl b n := rfl
@[simp] theorem nrow_Lattice (b : Lattice) : Tre.nrow b = [iv b.nodes, nws b.edges] := rfl
@[simp] theorem dep_Lattice : Tre.dep Lattice = 1 := rfl
instance : Elem Lattice := kEt Lattice
@[simp] theorem nv_Lattice (b : Lattice) : Elem.nv b = nag b := rfl
instance : Wt Lattice where
  wt b := Wt.wt b.edges
  big b := Wt.big b.edges
  fb := fun b h => by
    have hh : Row.fine b.nodes ∧ Row.fine b.edges := h
    exact Wt.fb _ hh.2
structure Entry where
  word : ByteArray
  cost : Int
  deriving DecidableEq
def Entry.cells (b : Entry) : List AV := [sv b.word, iv b.cost]
def Entry.un : List AV → Option Entry
  | [c0, c1] => kA0 (dec c0 : Option ByteArray) fun v0 => kA0 (dec c1 : Option Int) fun v1 => some ⟨v0, v1⟩
  | _ => none
instance : Row Entry where
  w := 2
  cells := Entry.cells
  uncells := Entry.un
  un b := by
    show (kA0 (dec (enc b.word) : Option ByteArray) fun v0 => kA0 (dec (enc b.cost) : Option Int) fun v1 => some (⟨v0, v1⟩ : Entry)) = some b
    simp only [Cod.de, kA6]
  nu x b h := by
    unfold Entry.un at h
    split at h
    · obtain ⟨v0, e0, h⟩ := kBn h
      obtain ⟨v1, e1, h⟩ := kBn h
      cases h
      rw [Cod.ed _ _ e0]
      rw [Cod.ed _ _ e1]
      rfl
    · cases h
  len _ := rfl
  fine b := Row.fine b.word ∧ Row.fine b.cost
instance : CodR Entry where
  enc b := .agg b.cells
  dec | .agg cs => Entry.un cs | _ => none
  de b := Row.un b
  ed x b h := by
    split at h
    · have e := Row.nu (A := Entry) _ _ h
      rw [e]; rfl
    · cases h
  plain _ := rfl
instance : Agg Entry := ⟨fun _ => rfl⟩
@[simp] theorem w_Entry : Row.w Entry = 2 := rfl
@[simp] theorem enc_Entry (b : Entry) : enc b = .agg [sv b.word, iv b.cost] := rfl
@[simp] theorem cells_Entry (b : Entry) : Row.cells b = [sv b.word, iv b.cost] := rfl
@[simp] theorem eta_Entry (b : Entry) : (⟨b.word, b.cost⟩ : Entry) = b := rfl
theorem snapD_Entry {h : kA7} (v0 : ByteArray) (v1 : Int)  : snapD h (.agg [sv v0, iv v1]) = some (⟨v0, v1⟩ : Entry) := by
  unfold snapD depth
  rw [kFh]
  simp only [kBm, kG6, kH1, kHd, kA6]
  exact Cod.de (⟨v0, v1⟩ : Entry)
@[simp] theorem snapS_Entry (h : kA7) (b : Entry) : snapD h (.agg [sv b.word, iv b.cost]) = some b := snapD_Entry b.word b.cost 
instance : Scal Entry := ⟨fun _ => rfl⟩
instance : Comp Entry := ⟨fun _ => rfl⟩
instance : CellOr Entry := ⟨fun _ _ => rfl⟩
instance : Tre Entry := kEu Entry
attribute [simp] snapD_Entry
@[simp] theorem dep_Entry : Tre.dep Entry = 0 := rfl
instance : Elem Entry := kEt Entry
@[simp] theorem nv_Entry (b : Entry) : Elem.nv b = nag b := rfl
instance : Wt Entry where
  wt b := Wt.wt b.word
  big b := Wt.big b.word
  fb := fun b h => by
    have hh : Row.fine b.word ∧ Row.fine b.cost := h
    exact Wt.fb _ hh.1
structure Lexicon where
  entries : (Sl Entry)
  deriving DecidableEq
def Lexicon.cells (b : Lexicon) : List AV := [Sl.enc b.entries]
def Lexicon.un : List AV → Option Lexicon
  | [c0] => kA0 (dec c0 : Option (Sl Entry)) fun v0 => some ⟨v0⟩
  | _ => none
instance : Row Lexicon where
  w := 1
  cells := Lexicon.cells
  uncells := Lexicon.un
  un b := by
    show (kA0 (dec (enc b.entries) : Option (Sl Entry)) fun v0 => some (⟨v0⟩ : Lexicon)) = some b
    simp only [Cod.de, kA6]
  nu x b h := by
    unfold Lexicon.un at h
    split at h
    · obtain ⟨v0, e0, h⟩ := kBn h
      cases h
      rw [Cod.ed _ _ e0]
      rfl
    · cases h
  len _ := rfl
  fine b := Row.fine b.entries
instance : Cod Lexicon where
  enc b := .agg b.cells
  dec | .agg cs => Lexicon.un cs | _ => none
  de b := Row.un b
  ed x b h := by
    split at h
    · have e := Row.nu (A := Lexicon) _ _ h
      rw [e]; rfl
    · cases h
instance : Agg Lexicon := ⟨fun _ => rfl⟩
@[simp] theorem w_Lexicon : Row.w Lexicon = 1 := rfl
@[simp] theorem enc_Lexicon (b : Lexicon) : enc b = .agg [Sl.enc b.entries] := rfl
@[simp] theorem cells_Lexicon (b : Lexicon) : Row.cells b = [Sl.enc b.entries] := rfl
@[simp] theorem eta_Lexicon (b : Lexicon) : (⟨b.entries⟩ : Lexicon) = b := rfl
theorem snapD_Lexicon {h : kA7} (v0 : (Sl Entry)) {x0 : AV} (h0 : snap h 7 x0 = some (Sl.enc v0)) : snapD h (.agg [x0]) = some (⟨v0⟩ : Lexicon) := by
  unfold snapD depth
  rw [kFh]
  simp only [kBm, kG6, kH1, kHd, h0, kA6]
  exact Cod.de (⟨v0⟩ : Lexicon)
@[simp] theorem snapS_Lexicon (h : kA7) (b : Lexicon) : snapD h (.agg [Sl.enc b.entries]) = some b := snapD_Lexicon b.entries (snap_slenc h 7 b.entries)
instance : Tre Lexicon where
  dep := 1
  nrow b := [nws b.entries]
  norm b := ⟨Tre.norm b.entries⟩
  trr b := by simp [tr_nws]
  frr b d hd := by
    show List.map (frz d) _ = _
    simp only [List.map_cons, List.map_nil, frz_iv, frz_bv, frz_sv, frz_nws b.entries (d := d) (by simp; omega)]
    rfl
  fl b n := rfl
@[simp] theorem nrow_Lexicon (b : Lexicon) : Tre.nrow b = [nws b.entries] := rfl
@[simp] theorem dep_Lexicon : Tre.dep Lexicon = 1 := rfl
instance : Elem Lexicon := kEt Lexicon
@[simp] theorem nv_Lexicon (b : Lexicon) : Elem.nv b = nag b := rfl
instance : Wt Lexicon where
  wt b := Wt.wt b.entries
  big b := Wt.big b.entries
  fb := fun b h => by
    have hh : Row.fine b.entries := h
    exact Wt.fb _ hh
@[simp] theorem mc_Edg (b : Edg) (n : Nat) : (mv (nag b) n).cells = [iv b.frm, iv b.upto, sv b.label, iv b.cost] := rfl
@[simp] theorem mt_Edg (b : Edg) (n : Nat) : mt (nag b) n = [] := rfl
@[simp] theorem mc_Entry (b : Entry) (n : Nat) : (mv (nag b) n).cells = [sv b.word, iv b.cost] := rfl
@[simp] theorem mt_Entry (b : Entry) (n : Nat) : mt (nag b) n = [] := rfl
instance : NR Edg := ⟨fun b => by simp only [Row.cells, Edg.cells, List.all_cons, List.all_nil, nr_sl, nr_iv, nr_bv, nr_sv, Bool.and_self]⟩
instance : NR Lattice := ⟨fun b => by simp only [Row.cells, Lattice.cells, List.all_cons, List.all_nil, nr_sl, nr_iv, nr_bv, nr_sv, Bool.and_self]⟩
instance : NR Entry := ⟨fun b => by simp only [Row.cells, Entry.cells, List.all_cons, List.all_nil, nr_sl, nr_iv, nr_bv, nr_sv, Bool.and_self]⟩
instance : NR Lexicon := ⟨fun b => by simp only [Row.cells, Lexicon.cells, List.all_cons, List.all_nil, nr_sl, nr_iv, nr_bv, nr_sv, Bool.and_self]⟩
instance : Inn Lattice Edg where
  sub a := a.edges
  row a x := [iv a.nodes, x]
  enc _ := rfl
  len _ _ := rfl
  flat _ x hx := by simp [hx]
  snap h d a x hx := by simp [kBm, hx, Row.cells, Lattice.cells, kG6]
  rel h d a x hx := by simp [kBm, hx, rel_iv]
  ids h d a x := by simp [ids_iv]
  mat d a b y o hy := by simp [kC8, hy, mat_iv]
  noF d a hx := by simp [hx, noF_iv]
end Go.Eng
