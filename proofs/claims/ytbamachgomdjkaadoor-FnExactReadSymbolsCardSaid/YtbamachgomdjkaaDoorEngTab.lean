/-
  THE ENGINE, PART 26: rows of plain cells; guarded contracts; loops.
-/
import Derived.Test.YtbamachgomdjkaaDoorEngDom
namespace Go.Eng
set_option linter.unusedVariables false
set_option linter.unusedSimpArgs false
open Cod (enc dec)

/-! ### Rows of scalars -/

def isSc : AV → Bool
  | .sc _ => true
  | _ => false

class Scal (A : Type) [Row A] : Prop where
  sc : ∀ a : A, (Row.cells a).all isSc = true
instance : Scal Int := ⟨fun _ => rfl⟩
instance : Scal Bool := ⟨fun _ => rfl⟩
instance : Scal ByteArray := ⟨fun _ => rfl⟩
instance : Scal Box := ⟨fun _ => rfl⟩
instance : Scal Spot := ⟨fun _ => rfl⟩
instance : Scal Frac := ⟨fun _ => rfl⟩

@[simp] theorem w_int : Row.w Int = 1 := rfl
@[simp] theorem w_bool : Row.w Bool = 1 := rfl
@[simp] theorem w_str : Row.w ByteArray = 1 := rfl
@[simp] theorem w_sl {A : Type} [Row A] : Row.w (Sl A) = 1 := rfl
@[simp] theorem w_box : Row.w Box = 4 := rfl
@[simp] theorem w_spot : Row.w Spot = 2 := rfl
@[simp] theorem w_frac : Row.w Frac = 2 := rfl
@[simp] theorem cells_int' (n : Int) : Row.cells n = [iv n] := rfl
@[simp] theorem cells_bool' (n : Bool) : Row.cells n = [bv n] := rfl
@[simp] theorem cells_str' (n : ByteArray) : Row.cells n = [sv n] := rfl
@[simp] theorem cells_box' (b : Box) : Row.cells b = [iv b.x1, iv b.y1, iv b.x2, iv b.y2] := rfl
@[simp] theorem cells_spot' (b : Spot) : Row.cells b = [iv b.x, iv b.y] := rfl
@[simp] theorem cells_frac' (b : Frac) : Row.cells b = [iv b.n, iv b.d] := rfl
@[simp] theorem cells_slr {A : Type} [Row A] (s : Sl A) : Row.cells s = [Sl.enc s] := rfl
@[simp] theorem len_cells {A : Type} [Row A] (a : A) : (Row.cells a).length = Row.w A := Row.len a

theorem isSc_ex {a : AV} (h : isSc a = true) : ∃ v, a = .sc v := by cases a <;> simp [isSc] at h; exact ⟨_, rfl⟩

theorem snap_sc (h : Heap) (d : Nat) {a : AV} (ha : isSc a = true) : snap h d a = some a := by
  obtain ⟨v, rfl⟩ := isSc_ex ha
  cases d <;> rfl
theorem rel_sc (h : Heap) (d : Nat) {a : AV} (ha : isSc a = true) : rel h d a = some a := by
  obtain ⟨v, rfl⟩ := isSc_ex ha
  cases d <;> rfl
theorem ids_sc (h : Heap) (d : Nat) {a : AV} (ha : isSc a = true) : ids h d a = [] := by
  obtain ⟨v, rfl⟩ := isSc_ex ha
  cases d <;> rfl
theorem mat_sc (d b : Nat) {a : AV} (ha : isSc a = true) : mat d a b = (a, []) := by
  obtain ⟨v, rfl⟩ := isSc_ex ha
  cases d <;> rfl
theorem noF_sc (d : Nat) {a : AV} (ha : isSc a = true) : noF d a = true := by
  obtain ⟨v, rfl⟩ := isSc_ex ha
  cases d <;> rfl

section
variable {A : Type} [Row A] [Scal A]
theorem Scal.mem {a : A} {c : AV} (hc : c ∈ Row.cells a) : isSc c = true := List.all_eq_true.1 (Scal.sc a) c hc
@[simp] theorem flat_row (a : A) : (Row.cells a).all AV.flat = true := List.all_eq_true.2 fun c hc => by
  obtain ⟨v, rfl⟩ := isSc_ex (Scal.mem hc)
  rfl
@[simp] theorem snap_row (h : Heap) (d : Nat) (a : A) : omap (snap h d) (Row.cells a) = some (Row.cells a) := omap_id fun _ hc => snap_sc h d (Scal.mem hc)
@[simp] theorem rel_row (h : Heap) (d : Nat) (a : A) : omap (rel h d) (Row.cells a) = some (Row.cells a) := omap_id fun _ hc => rel_sc h d (Scal.mem hc)
@[simp] theorem ids_row (h : Heap) (d : Nat) (a : A) : (Row.cells a).flatMap (ids h d) = [] := by
  simp only [List.flatMap_eq_nil_iff]
  exact fun c hc => ids_sc h d (Scal.mem hc)
@[simp] theorem snap_rows (h : Heap) (d : Nat) (l : List A) : omap (omap (snap h d)) (l.map Row.cells) = some (l.map Row.cells) := omap_id fun r hr => by
  obtain ⟨a, _, rfl⟩ := List.mem_map.1 hr
  exact snap_row h d a
@[simp] theorem rel_rows (h : Heap) (d : Nat) (l : List A) : omap (omap (rel h d)) (l.map Row.cells) = some (l.map Row.cells) := omap_id fun r hr => by
  obtain ⟨a, _, rfl⟩ := List.mem_map.1 hr
  exact rel_row h d a
theorem ids_rows (h : Heap) (d : Nat) (l : List A) : (l.map Row.cells).flatMap (fun r => r.flatMap (ids h d)) = [] := by
  simp only [List.flatMap_eq_nil_iff]
  intro r hr
  obtain ⟨a, _, rfl⟩ := List.mem_map.1 hr
  exact fun c hc => ids_sc h d (Scal.mem hc)
theorem mat_rows (d b : Nat) (l : List A) : matR (mat d) (l.map Row.cells) b = (l.map Row.cells, []) := by
  induction l generalizing b with
  | nil => rfl
  | cons a l ih =>
    have h1 : matL (mat d) (Row.cells a) b = (Row.cells a, []) := matL_id fun c hc b => mat_sc d b (Scal.mem hc)
    simp [matR, h1, ih]
theorem noF_rows (d : Nat) (l : List A) : (l.map Row.cells).all (fun r => r.all (noF d)) = true := by
  simp only [List.all_eq_true]
  intro r hr
  obtain ⟨a, _, rfl⟩ := List.mem_map.1 hr
  exact fun c hc => noF_sc d (Scal.mem hc)

/-- A new table. -/
def nwl (l : List A) : AV := .nw (Row.w A) (l.map Row.cells)

@[simp] theorem hand_nwl (l : List A) (ok : Bool) (h : Heap) : hand (nwl l) ok h = some (.sl h.length l.length 0 l.length, h ++ [⟨Row.w A, l.map Row.cells⟩]) := by
  have h1 : noF depth (nwl l) = true := noF_rows 7 l
  have h2 : mat depth (nwl l) h.length = (.sl h.length l.length 0 l.length, [⟨Row.w A, l.map Row.cells⟩]) := by
    show (AV.sl h.length (l.map Row.cells).length 0 (l.map Row.cells).length, (⟨Row.w A, (matR (mat 7) (l.map Row.cells) (h.length + 1)).1⟩ : AObj) :: _) = _
    rw [mat_rows]; simp
  unfold hand
  simp [h1, h2]

theorem snapD_sl (h : Heap) {o ep n : Nat} (l : List A) (ho : h[o]? = some ⟨Row.w A, l.map Row.cells⟩) (he : l.length = ep) (hn : n = l.length) :
    snapD h (.sl o ep 0 n) = some (some l : Sl A) := by
  subst he hn
  have : snap h depth (.sl o l.length 0 l.length) = some (.fs (Row.w A) (l.map Row.cells)) := by
    show (match h[o]? with | some ob => if ob.rows.length = l.length ∧ 0 + l.length ≤ l.length then match omap (omap (snap h 7)) ((ob.rows.drop 0).take l.length) with | some rows => some (AV.fs ob.k rows) | none => none else none | none => none) = _
    rw [ho]
    simp
    have : List.take l.length (l.map (Row.cells (A := A))) = l.map Row.cells := List.take_of_length_le (by simp)
    rw [this, snap_rows]
  unfold snapD
  rw [this]
  exact Sl.de (some l)
end

@[simp] theorem snapD_fs {A : Type} [Row A] (h : Heap) (k : Nat) (l : List A) (hk : k = Row.w A) : snapD h (.fs k (l.map Row.cells)) = some (some l : Sl A) := by
  subst hk
  exact Sl.de (some l)
@[simp] theorem snapD_nil {A : Type} [Row A] (h : Heap) : snapD h nilS = some (none : Sl A) := rfl
@[simp] theorem snapD_enc {A : Type} [Row A] (h : Heap) (s : Sl A) : snapD h (Sl.enc s) = some s := by
  cases s with
  | none => rfl
  | some l => exact snapD_fs h _ l rfl
@[simp] theorem enc_sl {A : Type} [Row A] (s : Sl A) : enc s = Sl.enc s := rfl
@[simp] theorem enc_slS {A : Type} [Row A] (l : List A) : enc (some l : Sl A) = .fs (Row.w A) (l.map Row.cells) := rfl
@[simp] theorem enc_slN {A : Type} [Row A] : enc (none : Sl A) = nilS := rfl
@[simp] theorem Sl.enc_some {A : Type} [Row A] (l : List A) : Sl.enc (some l : Sl A) = .fs (Row.w A) (l.map Row.cells) := rfl
@[simp] theorem Sl.enc_none {A : Type} [Row A] : Sl.enc (none : Sl A) = nilS := rfl
theorem Sl.len {A : Type} [Row A] (s : Sl A) : aLenK .slice (Sl.enc s) = some (iv (s.getD []).length) := by
  cases s <;> simp

/-! ### Results -/

@[simp] theorem hand_iv (n : Int) (ok : Bool) (h : Heap) : hand (iv n) ok h = some (iv n, h) := hand_plain rfl ok h
@[simp] theorem hand_bv (n : Bool) (ok : Bool) (h : Heap) : hand (bv n) ok h = some (bv n, h) := hand_plain rfl ok h
@[simp] theorem hand_sv (n : ByteArray) (ok : Bool) (h : Heap) : hand (sv n) ok h = some (sv n, h) := hand_plain rfl ok h
@[simp] theorem hand_nil (ok : Bool) (h : Heap) : hand nilS ok h = some (nilS, h) := hand_plain rfl ok h
@[simp] theorem hand_encR {Z : Type} [CodR Z] (z : Z) (ok : Bool) (h : Heap) : hand (enc z) ok h = some (enc z, h) := hand_plain (CodR.plain z) ok h
@[simp] theorem release_iv (n : Int) (h : Heap) : release h depth (iv n) = some (iv n) := release_plain rfl h
@[simp] theorem release_bv (n : Bool) (h : Heap) : release h depth (bv n) = some (bv n) := release_plain rfl h
@[simp] theorem release_sv (n : ByteArray) (h : Heap) : release h depth (sv n) = some (sv n) := release_plain rfl h
@[simp] theorem release_nil (h : Heap) : release h depth nilS = some nilS := release_plain rfl h
@[simp] theorem release_encR {Z : Type} [CodR Z] (z : Z) (h : Heap) : release h depth (enc z) = some (enc z) := release_plain (CodR.plain z) h

theorem release_sl {A : Type} [Row A] [Scal A] (h : Heap) {o ep n : Nat} (l : List A) (ho : h[o]? = some ⟨Row.w A, l.map Row.cells⟩) (he : l.length = ep) (hn : n = l.length) :
    release h depth (.sl o ep 0 n) = some (nwl l) := by
  subst he hn
  have ht : List.take l.length (l.map (Row.cells (A := A))) = l.map Row.cells := List.take_of_length_le (by simp)
  have h1 : ids h depth (.sl o l.length 0 l.length) = [(o, l.length)] := by
    show (match h[o]? with | some ob => (o, l.length) :: (ob.rows.take l.length).flatMap fun (r : List AV) => r.flatMap (ids h 7) | none => []) = _
    rw [ho]
    simp only [ht, ids_rows]
  have h2 : rel h depth (.sl o l.length 0 l.length) = some (nwl l) := by
    show (match h[o]? with | some ob => if ob.rows.length = l.length ∧ 0 = 0 ∧ l.length ≤ l.length then match omap (omap (rel h 7)) (ob.rows.take l.length) with | some rows => some (AV.nw ob.k rows) | none => none else none | none => none) = _
    rw [ho]
    simp [ht, nwl]
  unfold release
  rw [h1]
  simpa [nodupB] using h2

/-! ### Guarded contracts -/

theorem pureG {P : Program} {g : Nat} {args : List AV} {env : Nat → Contract} {r : AV} (h : (obind (denFn P env g args []) fun p => release p.2 depth p.1) = some r) :
    ∃ r' h', denFn P env g args [] = some (r', h') ∧ release h' depth r' = some r := by
  revert h
  cases e : denFn P env g args [] with
  | none => intro h; cases h
  | some p => intro h; exact ⟨p.1, p.2, rfl, h⟩

/-! ### Loops -/

theorem loop_next {hm xm : List Bool} {body : TM → Heap → Option Res} {tm tm' : TM} {h h' : Heap} (hb : body tm h = some (.normal, tm', h')) :
    loopP hm xm body tm h = loopP hm xm body (restr hm tm') h' := by
  rw [loopP.eq_1, hb]
theorem loop_exit {hm xm : List Bool} {body : TM → Heap → Option Res} {tm tm' : TM} {h h' : Heap} {i : Nat} (hb : body tm h = some (.exit i, tm', h')) :
    loopP hm xm body tm h = some (.exit i, restr xm tm', h') := by
  rw [loopP.eq_1, hb]
theorem loop_ret {hm xm : List Bool} {body : TM → Heap → Option Res} {tm tm' : TM} {h h' : Heap} (hb : body tm h = some (.ret, tm', h')) :
    loopP hm xm body tm h = some (.ret, restr xm tm', h') := by
  rw [loopP.eq_1, hb]

theorem wr_id {n : Int} (h1 : -9223372036854775808 ≤ n) (h2 : n ≤ 9223372036854775807) : wr n = n := by
  simp only [wr, IntKind.wrap, IntKind.bits, IntKind.signed]
  first | omega | (simp; omega)
theorem idx_lt {i n : Nat} (h : i < n) : idx (iv (i : Int)) n = some i := by
  simp [idx, iv]
  omega
/-! ### Tables that are read -/

/-- The address of a cell of a table. -/
def elp (x : AV) (i j : Nat) : AV :=
  match x with
  | .sl o ep b _ => .ptr o ep (b + i) j
  | .fs k rows => .fptr k rows i j
  | _ => .fptr 0 [] i j

/-- The value `x` holds, in the heap `h`, the table `s`. -/
structure Tab {A : Type} [Row A] (h : Heap) (x : AV) (s : Sl A) : Prop where
  len : aLenK .slice x = some (iv ((s.getD []).length : Nat))
  idx : ∀ ix, aIndexAddr (Row.w A) x ix h = obind (idx ix (s.getD []).length) fun m => some (elp x m 0)
  fld : ∀ i j off, aFieldAddr off (elp x i j) = some (elp x i (j + off))
  load : ∀ g n i j, aLoad g n (elp x i j) h = obind (s.getD [])[i]? fun a => cut g n ((Row.cells a).drop j)
  snap : snapD h x = some s

theorem idx_zero (ix : AV) : Eng.idx ix 0 = none := by
  unfold Eng.idx
  split
  · rw [if_neg (by omega)]
  · rfl

theorem Tab.nil {A : Type} [Row A] (h : Heap) : Tab h nilS (none : Sl A) := by
  refine ⟨rfl, fun ix => ?_, fun i j off => rfl, fun g n i j => rfl, rfl⟩
  show (none : Option AV) = _
  simp [idx_zero]
theorem Tab.fs {A : Type} [Row A] (h : Heap) (l : List A) : Tab h (.fs (Row.w A) (l.map Row.cells)) (some l) := by
  refine ⟨by simp, fun ix => ?_, fun i j off => rfl, fun g n i j => ?_, snapD_fs h _ l rfl⟩
  · simp only [aIndexAddr, if_true, List.length_map, Option.getD_some, elp]
    cases Eng.idx ix l.length <;> rfl
  · simp only [aLoad, elp, List.getElem?_map, Option.getD_some]
    cases l[i]? <;> rfl
theorem Tab.enc {A : Type} [Row A] (h : Heap) (s : Sl A) : Tab h (Sl.enc s) s := by
  cases s with
  | none => exact Tab.nil h
  | some l => exact Tab.fs h l
theorem Tab.sl {A : Type} [Row A] [Scal A] {h : Heap} {o ep n : Nat} {l : List A} (ho : h[o]? = some ⟨Row.w A, l.map Row.cells⟩) (he : l.length = ep) (hn : n = l.length) : Tab h (.sl o ep 0 n) (some l) := by
  subst he hn
  refine ⟨by simp, fun ix => ?_, fun i j off => rfl, fun g n i j => ?_, snapD_sl h l ho rfl rfl⟩
  · simp only [aIndexAddr, ho, List.length_map, and_self, if_true, Option.getD_some, elp]
    cases Eng.idx ix l.length <;> rfl
  · simp only [aLoad, elp, ho, List.length_map, if_true, List.getElem?_map, Option.getD_some, Nat.zero_add]
    cases l[i]? <;> rfl

/-- One step along a list. -/
structure Stp {A : Type} (l pre : List A) (a : A) : Prop where
  get : l[pre.length]? = some a
  idx : Eng.idx (iv (pre.length : Int)) l.length = some pre.length
  wr : wr ((pre.length : Int) + 1) = (pre.length : Int) + 1
  lt : pre.length < l.length
  elt : ∀ h : pre.length < l.length, l[pre.length] = a
  nn : ¬ (pre.length : Int) < 0
theorem Stp.mk' {A : Type} {l pre suf : List A} {a : A} (h : l = pre ++ a :: suf) (hm : l.length ≤ maxLen) : Stp l pre a := by
  subst h
  have h1 : (pre ++ a :: suf).length = pre.length + suf.length + 1 := by simp; omega
  have hm' : pre.length + suf.length + 1 ≤ 9223372036854775807 := by
    have : maxLen = 9223372036854775807 := by decide
    omega
  refine ⟨by simp, idx_lt (by omega), ?_, by omega, fun h => by simp, by omega⟩
  rw [wr_id (by omega) (by omega)]
theorem stp_end {A : Type} {l pre : List A} (h : l = pre ++ []) : ¬ pre.length < l.length := by subst h; simp
/-! ### Groups of results -/

def plainC : AV → Bool
  | .sc _ => true
  | .agg cs => cs.all isSc
  | _ => false
class Comp (A : Type) [CodR A] : Prop where
  pc : ∀ a : A, plainC (enc a) = true
instance : Comp Int := ⟨fun _ => rfl⟩
instance : Comp Bool := ⟨fun _ => rfl⟩
instance : Comp ByteArray := ⟨fun _ => rfl⟩
instance : Comp Box := ⟨fun _ => rfl⟩
instance : Comp Spot := ⟨fun _ => rfl⟩
instance : Comp Frac := ⟨fun _ => rfl⟩
theorem plainR_tup {l : List AV} (h : ∀ a ∈ l, plainC a = true) : plainR (.tup l) = true := by
  show l.all _ = true
  rw [List.all_eq_true]
  intro a ha
  have h1 := h a ha
  cases a <;> first | rfl | (simp [plainC] at h1; done) | skip
  rename_i cs
  show cs.all _ = true
  rw [List.all_eq_true]
  intro x hx
  have h2 := List.all_eq_true.1 (show cs.all isSc = true from h1) x hx
  cases x <;> first | rfl | simp [isSc] at h2
theorem plainR_agg {l : List AV} (h : ∀ a ∈ l, isSc a = true) : plainR (.agg l) = true := by
  show l.all _ = true
  rw [List.all_eq_true]
  intro x hx
  have h2 := h x hx
  cases x <;> first | rfl | simp [isSc] at h2
@[simp] theorem plainC_iv (n : Int) : plainC (iv n) = true := rfl
@[simp] theorem plainC_bv (n : Bool) : plainC (bv n) = true := rfl
@[simp] theorem plainC_sv (n : ByteArray) : plainC (sv n) = true := rfl
@[simp] theorem plainC_enc {A : Type} [CodR A] [Comp A] (a : A) : plainC (enc a) = true := Comp.pc a
@[simp] theorem isSc_iv (n : Int) : isSc (iv n) = true := rfl
@[simp] theorem isSc_bv (n : Bool) : isSc (bv n) = true := rfl
@[simp] theorem isSc_sv (n : ByteArray) : isSc (sv n) = true := rfl
@[simp] theorem isSc_nil : isSc nilS = true := rfl
theorem plainC_agg {l : List AV} (h : ∀ a ∈ l, isSc a = true) : plainC (.agg l) = true := by
  exact List.all_eq_true.2 h
@[simp] theorem hand_tup {l : List AV} (h : ∀ a ∈ l, plainC a = true) (ok : Bool) (hp : Heap) : hand (.tup l) ok hp = some (.tup l, hp) := hand_plain (plainR_tup h) ok hp
@[simp] theorem hand_agg {l : List AV} (h : ∀ a ∈ l, isSc a = true) (ok : Bool) (hp : Heap) : hand (.agg l) ok hp = some (.agg l, hp) := hand_plain (plainR_agg h) ok hp
@[simp] theorem release_tup {l : List AV} (h : ∀ a ∈ l, plainC a = true) (hp : Heap) : release hp depth (.tup l) = some (.tup l) := release_plain (plainR_tup h) hp
@[simp] theorem release_agg {l : List AV} (h : ∀ a ∈ l, isSc a = true) (hp : Heap) : release hp depth (.agg l) = some (.agg l) := release_plain (plainR_agg h) hp
@[simp] theorem plainC_agg' {l : List AV} (h : ∀ a ∈ l, isSc a = true) : plainC (.agg l) = true := plainC_agg h

instance {A : Type} [CodR A] [Comp A] : CodR (A × Bool) where
  enc p := .tup [enc p.1, bv p.2]
  dec
    | .tup [x, .sc (.bool n)] => match (dec x : Option A) with | some a => some (a, n) | none => none
    | _ => none
  de p := by simp [bv, Cod.de]
  ed x a h := by
    split at h
    · split at h
      · rename_i e; cases h; rw [Cod.ed _ _ e]; rfl
      · cases h
    · cases h
  plain p := plainR_tup (by
    intro a ha
    simp only [List.mem_cons, List.not_mem_nil, or_false] at ha
    rcases ha with rfl | rfl
    · exact Comp.pc _
    · rfl)
@[simp] theorem enc_twoB {A : Type} [CodR A] [Comp A] (p : A × Bool) : enc p = .tup [enc p.1, bv p.2] := rfl
instance {A : Type} [CodR A] [Comp A] : CodR (A × ByteArray) where
  enc p := .tup [enc p.1, sv p.2]
  dec
    | .tup [x, .sc (.string n)] => match (dec x : Option A) with | some a => some (a, n) | none => none
    | _ => none
  de p := by simp [sv, Cod.de]
  ed x a h := by
    split at h
    · split at h
      · rename_i e; cases h; rw [Cod.ed _ _ e]; rfl
      · cases h
    · cases h
  plain p := plainR_tup (by
    intro a ha
    simp only [List.mem_cons, List.not_mem_nil, or_false] at ha
    rcases ha with rfl | rfl
    · exact Comp.pc _
    · rfl)
@[simp] theorem enc_twoS {A : Type} [CodR A] [Comp A] (p : A × ByteArray) : enc p = .tup [enc p.1, sv p.2] := rfl
@[simp] theorem frac_eta (f : Frac) : (⟨f.n, f.d⟩ : Frac) = f := rfl
@[simp] theorem spot_eta (f : Spot) : (⟨f.x, f.y⟩ : Spot) = f := rfl
@[simp] theorem box_eta (f : Box) : (⟨f.x1, f.y1, f.x2, f.y2⟩ : Box) = f := rfl

/-! ### Structs compared -/

theorem cellsEq_cons (k : CK) (ks : List CK) (a b : AV) (as bs : List AV) (p q : Bool) (h1 : cellEq k a b = some p) (h2 : cellsEq ks as bs = some q) : cellsEq (k :: ks) (a :: as) (b :: bs) = some (p && q) := by
  cases p <;> simp [cellsEq, h1, h2]
theorem cellEq_iv (a b : Int) : cellEq .int (iv a) (iv b) = some (decide (a = b)) := rfl
theorem cellEq_bv (a b : Bool) : cellEq .bool (bv a) (bv b) = some (decide (a = b)) := by cases a <;> cases b <;> rfl
theorem cellEq_sv (a b : ByteArray) : cellEq .str (sv a) (sv b) = some (decide (a = b)) := by
  have : cellEq .str (sv a) (sv b) = some (a.toList == b.toList) := rfl
  rw [this]; congr 1; by_cases h : a = b
  · simp [h]
  · have h2 : ¬ a.toList = b.toList := fun e => h (toList_inj.1 e)
    simp [h, h2]
theorem cellsEq_nil : cellsEq [] [] [] = some true := rfl
theorem aCmp_agg {ks : List CK} {as bs : List AV} {p : Bool} (ha : as.length = ks.length) (hb : bs.length = ks.length) (h : cellsEq ks as bs = some p) :
    aCmp .eql (.agg ks) (.agg as) (.agg bs) = some (bv p) ∧ aCmp .neq (.agg ks) (.agg as) (.agg bs) = some (bv !p) := by
  have : aEq (.agg ks) (.agg as) (.agg bs) = some p := by
    show (if as.length = ks.length ∧ bs.length = ks.length then cellsEq ks as bs else none) = _
    rw [if_pos ⟨ha, hb⟩, h]
  exact ⟨by simp only [aCmp, this], by simp only [aCmp, this]⟩
theorem aCmp_box (a b : Box) : aCmp .eql (.agg [.int, .int, .int, .int]) (.agg [iv a.x1, iv a.y1, iv a.x2, iv a.y2]) (.agg [iv b.x1, iv b.y1, iv b.x2, iv b.y2]) = some (bv (decide (a = b))) ∧
    aCmp .neq (.agg [.int, .int, .int, .int]) (.agg [iv a.x1, iv a.y1, iv a.x2, iv a.y2]) (.agg [iv b.x1, iv b.y1, iv b.x2, iv b.y2]) = some (bv !decide (a = b)) := by
  have h := aCmp_agg (ks := [.int, .int, .int, .int]) rfl rfl (cellsEq_cons _ _ _ _ _ _ _ _ (cellEq_iv a.x1 b.x1) (cellsEq_cons _ _ _ _ _ _ _ _ (cellEq_iv a.y1 b.y1) (cellsEq_cons _ _ _ _ _ _ _ _ (cellEq_iv a.x2 b.x2) (cellsEq_cons _ _ _ _ _ _ _ _ (cellEq_iv a.y2 b.y2) cellsEq_nil))))
  have e : (decide (a.x1 = b.x1) && (decide (a.y1 = b.y1) && (decide (a.x2 = b.x2) && (decide (a.y2 = b.y2) && true)))) = decide (a = b) := by
    obtain ⟨a1, a2, a3, a4⟩ := a
    obtain ⟨b1, b2, b3, b4⟩ := b
    simp
  rw [e] at h
  exact h

/-! ### Environments -/

theorem E0 {P : Program} : EnvOK P (envL []) := envL_ok (fun _ h => by cases h)
theorem Econs {P : Program} {l : List (Nat × Contract)} {g : Nat} {F : List AV → Option AV} (h : PureOK P g F) (hl : EnvOK P (envL l)) : EnvOK P (envL ((g, .pure F) :: l)) := by
  intro x
  unfold envL
  cases e : x == g with
  | true =>
    have := eq_of_beq e
    subst this
    exact h
  | false => exact hl x
section
variable {P : Program} {g1 g2 g3 g4 g5 g6 g7 g8 g9 : Nat} {F1 F2 F3 F4 F5 F6 F7 F8 F9 : List AV → Option AV}
theorem E1 (h1 : PureOK P g1 F1) : EnvOK P (envL [(g1, .pure F1)]) := Econs h1 E0
theorem E2 (h1 : PureOK P g1 F1) (h2 : PureOK P g2 F2) : EnvOK P (envL [(g1, .pure F1), (g2, .pure F2)]) := Econs h1 (E1 h2)
theorem E3 (h1 : PureOK P g1 F1) (h2 : PureOK P g2 F2) (h3 : PureOK P g3 F3) : EnvOK P (envL [(g1, .pure F1), (g2, .pure F2), (g3, .pure F3)]) := Econs h1 (E2 h2 h3)
theorem E4 (h1 : PureOK P g1 F1) (h2 : PureOK P g2 F2) (h3 : PureOK P g3 F3) (h4 : PureOK P g4 F4) : EnvOK P (envL [(g1, .pure F1), (g2, .pure F2), (g3, .pure F3), (g4, .pure F4)]) := Econs h1 (E3 h2 h3 h4)
theorem E5 (h1 : PureOK P g1 F1) (h2 : PureOK P g2 F2) (h3 : PureOK P g3 F3) (h4 : PureOK P g4 F4) (h5 : PureOK P g5 F5) : EnvOK P (envL [(g1, .pure F1), (g2, .pure F2), (g3, .pure F3), (g4, .pure F4), (g5, .pure F5)]) := Econs h1 (E4 h2 h3 h4 h5)
theorem E6 (h1 : PureOK P g1 F1) (h2 : PureOK P g2 F2) (h3 : PureOK P g3 F3) (h4 : PureOK P g4 F4) (h5 : PureOK P g5 F5) (h6 : PureOK P g6 F6) : EnvOK P (envL [(g1, .pure F1), (g2, .pure F2), (g3, .pure F3), (g4, .pure F4), (g5, .pure F5), (g6, .pure F6)]) := Econs h1 (E5 h2 h3 h4 h5 h6)
end
end Go.Eng
