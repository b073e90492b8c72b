import Derived.Test.YtfhffgfbnlikjaaEngDom
namespace Go.Eng
set_option linter.unusedVariables false
set_option linter.unusedSimpArgs false
open Cod (enc dec)
def isSc : AV → Bool
  | .sc _ => true
  | _ => false
class Scal (A : Type) [Row A] : Prop where
  sc : ∀ a : A, (Row.cells a).all isSc = true
instance : Scal Int := ⟨fun _ => rfl⟩
instance : Scal Bool := ⟨fun _ => rfl⟩
instance : Scal ByteArray := ⟨fun _ => rfl⟩
instance : Scal Box := ⟨fun _ => rfl⟩
instance : Scal Spot := ⟨fun _ => rfl⟩
instance : Scal Frac := ⟨fun _ => rfl⟩
@[simp] theorem w_int : Row.w Int = 1 := rfl
@[simp] theorem w_bool : Row.w Bool = 1 := rfl
@[simp] theorem w_str : Row.w ByteArray = 1 := rfl
@[simp] theorem w_sl {A : Type} [Row A] : Row.w (Sl A) = 1 := rfl
@[simp] theorem w_box : Row.w Box = 4 := rfl
@[simp] theorem w_spot : Row.w Spot = 2 := rfl
@[simp] theorem w_frac : Row.w Frac = 2 := rfl
@[simp] theorem cells_int' (n : Int) : Row.cells n = [iv n] := rfl
@[simp] theorem cells_bool' (n : Bool) : Row.cells n = [bv n] := rfl
@[simp] theorem cells_str' (n : ByteArray) : Row.cells n = [sv n] := rfl
@[simp] theorem cells_box' (b : Box) : Row.cells b = [iv b.x1, iv b.y1, iv b.x2, iv b.y2] := rfl
@[simp] theorem cells_spot' (b : Spot) : Row.cells b = [iv b.x, iv b.y] := rfl
@[simp] theorem cells_frac' (b : Frac) : Row.cells b = [iv b.n, iv b.d] := rfl
@[simp] theorem cells_slr {A : Type} [Row A] (s : Sl A) : Row.cells s = [Sl.enc s] := rfl
@[simp] theorem len_cells {A : Type} [Row A] (a : A) : (Row.cells a).length = Row.w A := Row.len a
theorem kGe {a : AV} (h : isSc a = true) : ∃ v, a = .sc v := by cases a <;> simp [isSc] at h; exact ⟨_, rfl⟩
theorem kHw (h : kA4) (d : Nat) {a : AV} (ha : isSc a = true) : snap h d a = some a := by
  obtain ⟨v, rfl⟩ := kGe ha
  cases d <;> rfl
theorem rel_sc (h : kA4) (d : Nat) {a : AV} (ha : isSc a = true) : rel h d a = some a := by
  obtain ⟨v, rfl⟩ := kGe ha
  cases d <;> rfl
theorem ids_sc (h : kA4) (d : Nat) {a : AV} (ha : isSc a = true) : ids h d a = [] := by
  obtain ⟨v, rfl⟩ := kGe ha
  cases d <;> rfl
theorem kGk (d b : Nat) {a : AV} (ha : isSc a = true) : mat d a b = (a, []) := by
  obtain ⟨v, rfl⟩ := kGe ha
  cases d <;> rfl
theorem noF_sc (d : Nat) {a : AV} (ha : isSc a = true) : noF d a = true := by
  obtain ⟨v, rfl⟩ := kGe ha
  cases d <;> rfl
section
variable {A : Type} [Row A] [Scal A]
theorem Scal.mem {a : A} {c : AV} (hc : c ∈ Row.cells a) : isSc c = true := List.all_eq_true.1 (Scal.sc a) c hc
@[simp] theorem flat_row (a : A) : (Row.cells a).all AV.flat = true := List.all_eq_true.2 fun c hc => by
  obtain ⟨v, rfl⟩ := kGe (Scal.mem hc)
  rfl
@[simp] theorem snap_row (h : kA4) (d : Nat) (a : A) : kBb (snap h d) (Row.cells a) = some (Row.cells a) := kE0 fun _ hc => kHw h d (Scal.mem hc)
@[simp] theorem rel_row (h : kA4) (d : Nat) (a : A) : kBb (rel h d) (Row.cells a) = some (Row.cells a) := kE0 fun _ hc => rel_sc h d (Scal.mem hc)
@[simp] theorem ids_row (h : kA4) (d : Nat) (a : A) : (Row.cells a).flatMap (ids h d) = [] := by
  simp only [List.flatMap_eq_nil_iff]
  exact fun c hc => ids_sc h d (Scal.mem hc)
@[simp] theorem snap_rows (h : kA4) (d : Nat) (l : List A) : kBb (kBb (snap h d)) (l.map Row.cells) = some (l.map Row.cells) := kE0 fun r hr => by
  obtain ⟨a, _, rfl⟩ := List.mem_map.1 hr
  exact snap_row h d a
@[simp] theorem rel_rows (h : kA4) (d : Nat) (l : List A) : kBb (kBb (rel h d)) (l.map Row.cells) = some (l.map Row.cells) := kE0 fun r hr => by
  obtain ⟨a, _, rfl⟩ := List.mem_map.1 hr
  exact rel_row h d a
theorem ids_rows (h : kA4) (d : Nat) (l : List A) : (l.map Row.cells).flatMap (fun r => r.flatMap (ids h d)) = [] := by
  simp only [List.flatMap_eq_nil_iff]
  intro r hr
  obtain ⟨a, _, rfl⟩ := List.mem_map.1 hr
  exact fun c hc => ids_sc h d (Scal.mem hc)
theorem mat_rows (d b : Nat) (l : List A) : kCt (mat d) (l.map Row.cells) b = (l.map Row.cells, []) := by
  induction l generalizing b with
  | nil => rfl
  | cons a l ih =>
    have h1 : kC0 (mat d) (Row.cells a) b = (Row.cells a, []) := matL_id fun c hc b => kGk d b (Scal.mem hc)
    simp [kCt, h1, ih]
theorem noF_rows (d : Nat) (l : List A) : (l.map Row.cells).all (fun r => r.all (noF d)) = true := by
  simp only [List.all_eq_true]
  intro r hr
  obtain ⟨a, _, rfl⟩ := List.mem_map.1 hr
  exact fun c hc => noF_sc d (Scal.mem hc)
def nwl (l : List A) : AV := .nw (Row.w A) (l.map Row.cells)
@[simp] theorem hand_nwl (l : List A) (ok : Bool) (h : kA4) : kEe (nwl l) ok h = some (.sl h.length l.length 0 l.length, h ++ [⟨Row.w A, l.map Row.cells⟩]) := by
  have h1 : noF depth (nwl l) = true := noF_rows 7 l
  have h2 : mat depth (nwl l) h.length = (.sl h.length l.length 0 l.length, [⟨Row.w A, l.map Row.cells⟩]) := by
    show (AV.sl h.length (l.map Row.cells).length 0 (l.map Row.cells).length, (⟨Row.w A, (kCt (mat 7) (l.map Row.cells) (h.length + 1)).1⟩ : AObj) :: _) = _
    rw [mat_rows]; simp
  unfold kEe
  simp [h1, h2]
theorem snapD_sl (h : kA4) {o ep n : Nat} (l : List A) (ho : h[o]? = some ⟨Row.w A, l.map Row.cells⟩) (he : l.length = ep) (hn : n = l.length) :
    snapD h (.sl o ep 0 n) = some (some l : Sl A) := by
  subst he hn
  have : snap h depth (.sl o l.length 0 l.length) = some (.fs (Row.w A) (l.map Row.cells)) := by
    show (match h[o]? with | some ob => if ob.rows.length = l.length ∧ 0 + l.length ≤ l.length then match kBb (kBb (snap h 7)) ((ob.rows.drop 0).take l.length) with | some rows => some (AV.fs ob.k rows) | none => none else none | none => none) = _
    rw [ho]
    simp
    have : List.take l.length (l.map (Row.cells (A := A))) = l.map Row.cells := List.take_of_length_le (by simp)
    rw [this, snap_rows]
  unfold snapD
  rw [this]
  exact Sl.de (some l)
end
@[simp] theorem snapD_fs {A : Type} [Row A] (h : kA4) (k : Nat) (l : List A) (hk : k = Row.w A) : snapD h (.fs k (l.map Row.cells)) = some (some l : Sl A) := by
  subst hk
  exact Sl.de (some l)
@[simp] theorem snapD_nil {A : Type} [Row A] (h : kA4) : snapD h kBd = some (none : Sl A) := rfl
@[simp] theorem kBc {A : Type} [Row A] (h : kA4) (s : Sl A) : snapD h (Sl.enc s) = some s := by
  cases s with
  | none => rfl
  | some l => exact snapD_fs h _ l rfl
@[simp] theorem enc_sl {A : Type} [Row A] (s : Sl A) : enc s = Sl.enc s := rfl
@[simp] theorem enc_slS {A : Type} [Row A] (l : List A) : enc (some l : Sl A) = .fs (Row.w A) (l.map Row.cells) := rfl
@[simp] theorem enc_slN {A : Type} [Row A] : enc (none : Sl A) = kBd := rfl
@[simp] theorem Sl.enc_some {A : Type} [Row A] (l : List A) : Sl.enc (some l : Sl A) = .fs (Row.w A) (l.map Row.cells) := rfl
@[simp] theorem Sl.enc_none {A : Type} [Row A] : Sl.enc (none : Sl A) = kBd := rfl
theorem Sl.len {A : Type} [Row A] (s : Sl A) : kBf .slice (Sl.enc s) = some (iv (s.getD []).length) := by
  cases s <;> simp
@[simp] theorem hand_iv (n : Int) (ok : Bool) (h : kA4) : kEe (iv n) ok h = some (iv n, h) := kAk rfl ok h
@[simp] theorem hand_bv (n : Bool) (ok : Bool) (h : kA4) : kEe (bv n) ok h = some (bv n, h) := kAk rfl ok h
@[simp] theorem hand_sv (n : ByteArray) (ok : Bool) (h : kA4) : kEe (sv n) ok h = some (sv n, h) := kAk rfl ok h
@[simp] theorem hand_nil (ok : Bool) (h : kA4) : kEe kBd ok h = some (kBd, h) := kAk rfl ok h
@[simp] theorem hand_encR {Z : Type} [CodR Z] (z : Z) (ok : Bool) (h : kA4) : kEe (enc z) ok h = some (enc z, h) := kAk (CodR.plain z) ok h
@[simp] theorem release_iv (n : Int) (h : kA4) : release h depth (iv n) = some (iv n) := kA8 rfl h
@[simp] theorem release_bv (n : Bool) (h : kA4) : release h depth (bv n) = some (bv n) := kA8 rfl h
@[simp] theorem release_sv (n : ByteArray) (h : kA4) : release h depth (sv n) = some (sv n) := kA8 rfl h
@[simp] theorem release_nil (h : kA4) : release h depth kBd = some kBd := kA8 rfl h
@[simp] theorem release_encR {Z : Type} [CodR Z] (z : Z) (h : kA4) : release h depth (enc z) = some (enc z) := kA8 (CodR.plain z) h
theorem pureG {P : Program} {g : Nat} {args : List AV} {env : Nat → Contract} {r : AV} (h : (kA0 (kAo P env g args []) fun p => release p.2 depth p.1) = some r) :
    ∃ r' h', kAo P env g args [] = some (r', h') ∧ release h' depth r' = some r := by
  revert h
  cases e : kAo P env g args [] with
  | none => intro h; cases h
  | some p => intro h; exact ⟨p.1, p.2, rfl, h⟩
theorem kBj {n : Int} (h1 : -9223372036854775808 ≤ n) (h2 : n ≤ 9223372036854775807) : wr n = n := by
  simp only [wr, IntKind.wrap, IntKind.bits, IntKind.signed]
  first | omega | (simp; omega)
theorem idx_lt {i n : Nat} (h : i < n) : idx (iv (i : Int)) n = some i := by
  simp [idx, iv]
  omega
def elp (x : AV) (i j : Nat) : AV :=
  match x with
  | .sl o ep b _ => .ptr o ep (b + i) j
  | .fs k rows => .fptr k rows i j
  | _ => .fptr 0 [] i j
structure Tab {A : Type} [Row A] (h : kA4) (x : AV) (s : Sl A) : Prop where
  len : kBf .slice x = some (iv ((s.getD []).length : Nat))
  idx : ∀ ix, kA5 (Row.w A) x ix h = kA0 (idx ix (s.getD []).length) fun m => some (elp x m 0)
  fld : ∀ i j off, kA7 off (elp x i j) = some (elp x i (j + off))
  load : ∀ g n i j, kAc g n (elp x i j) h = kA0 (s.getD [])[i]? fun a => cut g n ((Row.cells a).drop j)
  snap : snapD h x = some s
theorem idx_zero (ix : AV) : Eng.idx ix 0 = none := by
  unfold Eng.idx
  split
  · rw [if_neg (by omega)]
  · rfl
theorem Tab.nil {A : Type} [Row A] (h : kA4) : Tab h kBd (none : Sl A) := by
  refine ⟨rfl, fun ix => ?_, fun i j off => rfl, fun g n i j => rfl, rfl⟩
  show (none : Option AV) = _
  simp [idx_zero]
theorem Tab.fs {A : Type} [Row A] (h : kA4) (l : List A) : Tab h (.fs (Row.w A) (l.map Row.cells)) (some l) := by
  refine ⟨by simp, fun ix => ?_, fun i j off => rfl, fun g n i j => ?_, snapD_fs h _ l rfl⟩
  · simp only [kA5, if_true, List.length_map, Option.getD_some, elp]
    cases Eng.idx ix l.length <;> rfl
  · simp only [kAc, elp, List.getElem?_map, Option.getD_some]
    cases l[i]? <;> rfl
theorem Tab.enc {A : Type} [Row A] (h : kA4) (s : Sl A) : Tab h (Sl.enc s) s := by
  cases s with
  | none => exact Tab.nil h
  | some l => exact Tab.fs h l
theorem Tab.sl {A : Type} [Row A] [Scal A] {h : kA4} {o ep n : Nat} {l : List A} (ho : h[o]? = some ⟨Row.w A, l.map Row.cells⟩) (he : l.length = ep) (hn : n = l.length) : Tab h (.sl o ep 0 n) (some l) := by
  subst he hn
  refine ⟨by simp, fun ix => ?_, fun i j off => rfl, fun g n i j => ?_, snapD_sl h l ho rfl rfl⟩
  · simp only [kA5, ho, List.length_map, and_self, if_true, Option.getD_some, elp]
    cases Eng.idx ix l.length <;> rfl
  · simp only [kAc, elp, ho, List.length_map, if_true, List.getElem?_map, Option.getD_some, Nat.zero_add]
    cases l[i]? <;> rfl
structure Stp {A : Type} (l pre : List A) (a : A) : Prop where
  get : l[pre.length]? = some a
  idx : Eng.idx (iv (pre.length : Int)) l.length = some pre.length
  wr : wr ((pre.length : Int) + 1) = (pre.length : Int) + 1
  lt : pre.length < l.length
  elt : ∀ h : pre.length < l.length, l[pre.length] = a
  nn : ¬ (pre.length : Int) < 0
def kG4 : AV → Bool
  | .sc _ => true
  | .agg cs => cs.all isSc
  | _ => false
class Comp (A : Type) [CodR A] : Prop where
  pc : ∀ a : A, kG4 (enc a) = true
instance : Comp Int := ⟨fun _ => rfl⟩
instance : Comp Bool := ⟨fun _ => rfl⟩
instance : Comp ByteArray := ⟨fun _ => rfl⟩
instance : Comp Box := ⟨fun _ => rfl⟩
instance : Comp Spot := ⟨fun _ => rfl⟩
instance : Comp Frac := ⟨fun _ => rfl⟩
theorem kH0 {l : List AV} (h : ∀ a ∈ l, kG4 a = true) : kIc (.tup l) = true := by
  show l.all _ = true
  rw [List.all_eq_true]
  intro a ha
  have h1 := h a ha
  cases a <;> first | rfl | (simp [kG4] at h1; done) | skip
  rename_i cs
  show cs.all _ = true
  rw [List.all_eq_true]
  intro x hx
  have h2 := List.all_eq_true.1 (show cs.all isSc = true from h1) x hx
  cases x <;> first | rfl | simp [isSc] at h2
theorem plainR_agg {l : List AV} (h : ∀ a ∈ l, isSc a = true) : kIc (.agg l) = true := by
  show l.all _ = true
  rw [List.all_eq_true]
  intro x hx
  have h2 := h x hx
  cases x <;> first | rfl | simp [isSc] at h2
@[simp] theorem plainC_iv (n : Int) : kG4 (iv n) = true := rfl
@[simp] theorem plainC_bv (n : Bool) : kG4 (bv n) = true := rfl
@[simp] theorem plainC_sv (n : ByteArray) : kG4 (sv n) = true := rfl
@[simp] theorem plainC_enc {A : Type} [CodR A] [Comp A] (a : A) : kG4 (enc a) = true := Comp.pc a
@[simp] theorem isSc_iv (n : Int) : isSc (iv n) = true := rfl
@[simp] theorem isSc_bv (n : Bool) : isSc (bv n) = true := rfl
@[simp] theorem isSc_sv (n : ByteArray) : isSc (sv n) = true := rfl
@[simp] theorem isSc_nil : isSc kBd = true := rfl
theorem plainC_agg {l : List AV} (h : ∀ a ∈ l, isSc a = true) : kG4 (.agg l) = true := by
  exact List.all_eq_true.2 h
@[simp] theorem hand_tup {l : List AV} (h : ∀ a ∈ l, kG4 a = true) (ok : Bool) (hp : kA4) : kEe (.tup l) ok hp = some (.tup l, hp) := kAk (kH0 h) ok hp
@[simp] theorem hand_agg {l : List AV} (h : ∀ a ∈ l, isSc a = true) (ok : Bool) (hp : kA4) : kEe (.agg l) ok hp = some (.agg l, hp) := kAk (plainR_agg h) ok hp
@[simp] theorem release_tup {l : List AV} (h : ∀ a ∈ l, kG4 a = true) (hp : kA4) : release hp depth (.tup l) = some (.tup l) := kA8 (kH0 h) hp
@[simp] theorem release_agg {l : List AV} (h : ∀ a ∈ l, isSc a = true) (hp : kA4) : release hp depth (.agg l) = some (.agg l) := kA8 (plainR_agg h) hp
@[simp] theorem plainC_agg' {l : List AV} (h : ∀ a ∈ l, isSc a = true) : kG4 (.agg l) = true := plainC_agg h
instance {A : Type} [CodR A] [Comp A] : CodR (A × Bool) where
  enc p := .tup [enc p.1, bv p.2]
  dec
    | .tup [x, .sc (.bool n)] => match (dec x : Option A) with | some a => some (a, n) | none => none
    | _ => none
  de p := by simp [bv, Cod.de]
  ed x a h := by
    split at h
    · split at h
      · rename_i e; cases h; rw [Cod.ed _ _ e]; rfl
      · cases h
    · cases h
  plain p := kH0 (by
    intro a ha
    simp only [List.mem_cons, List.not_mem_nil, or_false] at ha
    rcases ha with rfl | rfl
    · exact Comp.pc _
    · rfl)
@[simp] theorem enc_twoB {A : Type} [CodR A] [Comp A] (p : A × Bool) : enc p = .tup [enc p.1, bv p.2] := rfl
instance {A : Type} [CodR A] [Comp A] : CodR (A × ByteArray) where
  enc p := .tup [enc p.1, sv p.2]
  dec
    | .tup [x, .sc (.string n)] => match (dec x : Option A) with | some a => some (a, n) | none => none
    | _ => none
  de p := by simp [sv, Cod.de]
  ed x a h := by
    split at h
    · split at h
      · rename_i e; cases h; rw [Cod.ed _ _ e]; rfl
      · cases h
    · cases h
  plain p := kH0 (by
    intro a ha
    simp only [List.mem_cons, List.not_mem_nil, or_false] at ha
    rcases ha with rfl | rfl
    · exact Comp.pc _
    · rfl)
@[simp] theorem enc_twoS {A : Type} [CodR A] [Comp A] (p : A × ByteArray) : enc p = .tup [enc p.1, sv p.2] := rfl
@[simp] theorem frac_eta (f : Frac) : (⟨f.n, f.d⟩ : Frac) = f := rfl
@[simp] theorem spot_eta (f : Spot) : (⟨f.x, f.y⟩ : Spot) = f := rfl
@[simp] theorem box_eta (f : Box) : (⟨f.x1, f.y1, f.x2, f.y2⟩ : Box) = f := rfl
theorem E0 {P : Program} : kBr P (kCa []) := envL_ok (fun _ h => by cases h)
theorem kC3 {P : Program} {l : List (Nat × Contract)} {g : Nat} {F : List AV → Option AV} (h : kAs P g F) (hl : kBr P (kCa l)) : kBr P (kCa ((g, .pure F) :: l)) := by
  intro x
  unfold kCa
  cases e : x == g with
  | true =>
    have := eq_of_beq e
    subst this
    exact h
  | false => exact hl x
section
variable {P : Program} {g1 g2 g3 g4 g5 g6 g7 g8 g9 : Nat} {F1 F2 F3 F4 F5 F6 F7 F8 F9 : List AV → Option AV}
theorem E1 (h1 : kAs P g1 F1) : kBr P (kCa [(g1, .pure F1)]) := kC3 h1 E0
theorem E2 (h1 : kAs P g1 F1) (h2 : kAs P g2 F2) : kBr P (kCa [(g1, .pure F1), (g2, .pure F2)]) := kC3 h1 (E1 h2)
end
end Go.Eng
