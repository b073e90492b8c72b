/-
  THE ENGINE, PART 32: bytes and strings.
-/
import Derived.Test.YtbamachgomdjkaaDoorEngKit
namespace Go.Eng
set_option linter.unusedVariables false
set_option linter.unusedSimpArgs false
open Cod (enc dec)

/-- A byte. -/
def bt (b : UInt8) : AV := .sc (.int .u8 (b.toNat : Int))
def bt.dec : AV → Option UInt8
  | .sc (.int .u8 n) => if 0 ≤ n ∧ n < 256 then some n.toNat.toUInt8 else none
  | _ => none
theorem bt.de (b : UInt8) : bt.dec (bt b) = some b := by
  have h : b.toNat < 256 := b.toNat_lt
  unfold bt bt.dec
  simp only
  rw [if_pos (by omega)]
  simp
theorem bt.ed (x : AV) (b : UInt8) (h : bt.dec x = some b) : x = bt b := by
  unfold bt.dec at h
  split at h
  · split at h
    · cases h
      rename_i n hn
      unfold bt
      congr 2
      have h2 : n.toNat < 256 := by omega
      have h3 : (n.toNat.toUInt8).toNat = n.toNat := by
        simp [Nat.toUInt8, UInt8.toNat_ofNat]
        omega
      rw [h3]
      omega
    · cases h
  · cases h
instance : CodR UInt8 where
  enc := bt
  dec := bt.dec
  de := bt.de
  ed := bt.ed
  plain _ := rfl
instance : Row UInt8 where
  w := 1
  cells b := [bt b]
  uncells | [x] => bt.dec x | _ => none
  un := bt.de
  nu x a h := by
    split at h
    · rw [bt.ed _ _ h]
    · cases h
  len _ := rfl
  fine _ := True
instance : Scal UInt8 := ⟨fun _ => rfl⟩
instance : Wt UInt8 := ⟨fun _ => 0, fun _ => true, fun _ _ => rfl⟩
@[simp] theorem w_byte : Row.w UInt8 = 1 := rfl
@[simp] theorem enc_byte (b : UInt8) : enc b = bt b := rfl
@[simp] theorem cells_byte (b : UInt8) : Row.cells b = [bt b] := rfl
@[simp] theorem snapD_byte (h : Heap) (b : UInt8) : snapD h (bt b) = some b := by
  have : snap h depth (bt b) = some (bt b) := rfl
  show obind (snap h depth (bt b)) bt.dec = some b
  rw [this, obind_sm]
  exact bt.de b
@[simp] theorem cells_bt (b : UInt8) : (bt b).cells = [bt b] := rfl
@[simp] theorem flat_bt (b : UInt8) : (bt b).flat = true := rfl
@[simp] theorem bt_geq (b : UInt8) (n : Int) : aBin .geq (bt b) (.sc (.int .u8 n)) = some (bv (decide (n ≤ (b.toNat : Int)))) := (rfl)
@[simp] theorem bt_leq (b : UInt8) (n : Int) : aBin .leq (bt b) (.sc (.int .u8 n)) = some (bv (decide ((b.toNat : Int) ≤ n))) := (rfl)
@[simp] theorem bt_eq (b : UInt8) (n : Int) : aCmp .eql .plain (bt b) (.sc (.int .u8 n)) = some (bv (decide ((b.toNat : Int) = n))) := (rfl)
@[simp] theorem bt_ne (b : UInt8) (n : Int) : aCmp .neq .plain (bt b) (.sc (.int .u8 n)) = some (bv !decide ((b.toNat : Int) = n)) := (rfl)
@[simp] theorem bt_eqb (b c : UInt8) : aCmp .eql .plain (bt b) (bt c) = some (bv (decide (b = c))) := by
  have : aCmp .eql .plain (bt b) (bt c) = some (bv (decide ((b.toNat : Int) = (c.toNat : Int)))) := rfl
  rw [this]
  congr 3
  rw [eq_iff_iff]
  constructor
  · intro h
    exact UInt8.toNat_inj.1 (by omega)
  · intro h; rw [h]
@[simp] theorem hand_bt (b : UInt8) (ok : Bool) (h : Heap) : hand (bt b) ok h = some (bt b, h) := hand_plain rfl ok h

/-- The bytes of a string. -/
def bl (s : ByteArray) : List UInt8 := s.data.toList
@[simp] theorem bl_len (s : ByteArray) : (bl s).length = s.size := by simp [bl]
theorem idx_str (s : ByteArray) (ix : AV) : aIndexStr (sv s) ix = obind (idx ix s.size) fun m => ((bl s)[m]?).map bt := by
  show (match idx ix s.size with | some m => (match s[m]? with | some b => some (AV.sc (.int .u8 b.toNat)) | none => none) | none => none) = _
  cases hx : idx ix s.size with
  | none => rfl
  | some m =>
    have e : s[m]? = (bl s)[m]? := by
      unfold bl
      by_cases h : m < s.size
      · have h2 : m < s.data.size := h
        rw [getElem?_pos s m h, Array.getElem?_toList, getElem?_pos s.data m h2]
        rfl
      · have h2 : ¬ m < s.data.size := h
        rw [getElem?_neg s m h, Array.getElem?_toList, getElem?_neg s.data m h2]
    simp only [obind_sm, e]
    cases (bl s)[m]? <;> rfl
theorem conv_bytes (s : ByteArray) (h : Heap) (hs : s.size ≤ 4294967296) : aConvBytes (sv s) h = some (.sl h.length s.size 0 s.size, h ++ [⟨1, (bl s).map Row.cells⟩]) := by
  show (if s.size ≤ maxBytes then _ else _) = _
  rw [if_pos (by unfold maxBytes; omega)]
  rfl
theorem fit_str (s : ByteArray) : fit s = true ↔ s.size ≤ 4294967296 := by rw [fit_iff]; rfl
/-- Is it less? -/
def ltS (a b : ByteArray) : Bool := Op.bytesLess a.toList b.toList
@[simp] theorem aBin_lssS (a b : ByteArray) : aBin .lss (sv a) (sv b) = some (bv (ltS a b)) := (rfl)
theorem beq_toList (a b : ByteArray) : (a.toList == b.toList) = decide (a = b) := by
  by_cases h : a = b
  · simp [h]
  · have h2 : ¬ a.toList = b.toList := fun e => h (toList_inj.1 e)
    simp [h, h2]
@[simp] theorem aBin_gtrS (a b : ByteArray) : aBin .gtr (sv a) (sv b) = some (bv !(ltS a b || decide (a = b))) := by
  have : aBin .gtr (sv a) (sv b) = some (bv !(Op.bytesLess a.toList b.toList || a.toList == b.toList)) := rfl
  rw [this, beq_toList]
  rfl
@[simp] theorem load_head (g : Bool) (s j k : Nat) (row : List AV) (t : Heap) : aLoad g s (.ptr 0 1 0 j) (⟨k, [row]⟩ :: t) = cut g s (row.drop j) := by
  simp [aLoad]
theorem load_end1 (g : Bool) (s j k : Nat) (row : List AV) (M : AObj) (t : Heap) : aLoad g s (.ptr (t.length + 1) 1 0 j) (M :: (t ++ [⟨k, [row]⟩])) = cut g s (row.drop j) := by
  simp [aLoad]
theorem store_end1 (s k : Nat) (row : List AV) (v : AV) (M : AObj) (t : Heap) (hv : v.cells.length = s) (hs : row.length = s) (hf : ∀ x ∈ v.cells, x.flat = true) : aStore s (.ptr (t.length + 1) 1 0 0) v (M :: (t ++ [⟨k, [row]⟩])) = some (M :: (t ++ [⟨k, [v.cells]⟩])) := by
  have h1 : v.cells.all AV.flat = true := List.all_eq_true.2 hf
  simp only [aStore, List.getElem?_cons_succ, get_skip0, List.getElem?_cons_zero, List.length_cons, List.length_nil, if_true, Nat.zero_add]
  rw [if_pos ⟨hv, by omega, h1⟩]
  simp [splice, hv, hs]
/-! ### Functions that the model tells by itself -/

theorem repN_sc {X : Nat → Prop} {B : Nat} {w : World} {v : Value} (hv : v.oneCell' = true) : RepN X B w (.sc v) v := by
  refine ⟨RM.none, (fun o io e => by cases e), fun base => ⟨(fun o io e => by cases e), fun H _ => ?_⟩⟩
  have hs : sh base RM.none = RM.none := by
    funext o
    unfold sh RM.none
    split <;> rfl
  rw [hs]
  exact ⟨HRep0.empty X H w, Rep.sc hv⟩
theorem pure_extern {P : Program} {g : Nat} {fn : Func} {e : Array Value → Sem Value} (hf : P.funcs[g]? = some fn) (hname : (fn.name == "runtime.NumGoroutine") = false) (hb : fn.body.isNone = true)
    (hn : Extern.findNext fn = none) (he : Extern.find fn = some e) {F : List AV → Option AV}
    (hF : ∀ ds r, F ds = some r → ∃ (us : List Value) (v : Value), ds = us.map AV.sc ∧ r = .sc v ∧ v.oneCell' = true ∧ e us.toArray = pure v) : PureOK P g F := by
  intro ds r hr X w vs _ hs hvs
  obtain ⟨us, v, rfl, rfl, hv, hu⟩ := hF ds r hr
  have : vs = us.toArray := by
    apply Array.ext
    · simpa using hs
    · intro i h1 h2
      have h3 : i < us.length := by simpa using h2
      have h4 := hvs i (.sc us[i]) vs[i] (by simp [h3]) (by simp [h1])
      have h5 : vs[i] = us[i] := by
        generalize vs[i] = a at h4
        generalize us[i] = b at h4
        cases h4
        rfl
      simpa using h5
  subst this
  unfold CallF
  rw [run_callFunc_extern hf hname hb hn he]
  simp only [hu]
  exact ⟨v, rfl, ⟨⟨rfl, rfl, rfl, Nat.le_refl _, fun _ _ => rfl⟩, fun _ => Nat.le_refl _⟩, repN_sc hv⟩
def indexB (s : ByteArray) (b : UInt8) : Int := match (List.range s.size).find? (fun i => s[i]! == b) with
  | some i => (i : Int)
  | none => -1
/-- 'bytealg.IndexByteString'. -/
theorem pure_indexByte {P : Program} {g : Nat} {fn : Func} (hf : P.funcs[g]? = some fn) (hname : (fn.name == "runtime.NumGoroutine") = false) (hb : fn.body.isNone = true)
    (hn : Extern.findNext fn = none) (he : Extern.find fn = some Extern.BytealgIndexByte.indexByte) : PureOK P g (T2 indexB) :=
  pure_extern hf hname hb hn he fun ds r h => by
    match ds, h with
    | [x0, x1], h =>
      have h1 : obind (dec x0 : Option ByteArray) (fun s => obind (dec x1 : Option UInt8) fun b => some (enc (indexB s b))) = some r := h
      obtain ⟨s, e1, h2⟩ := obind_ex h1
      obtain ⟨b, e2, h3⟩ := obind_ex h2
      have q1 := Cod.ed _ _ e1
      have q2 := Cod.ed _ _ e2
      have q3 := Option.some.inj h3
      refine ⟨[.string s, .int .u8 (b.toNat : Int)], .int .i64 (indexB s b), by rw [q1, q2]; rfl, q3.symm, rfl, ?_⟩
      have hb' : ((b.toNat : Int)).toNat.toUInt8 = b := by simp
      have h5 : Extern.BytealgIndexByte.indexByte #[.string s, .int .u8 (b.toNat : Int)] = (match (List.range s.size).find? fun i => s[i]! == ((b.toNat : Int)).toNat.toUInt8 with
        | some i => (pure (goInt i) : Sem Value)
        | none => pure (goInt (-1))) := rfl
      show Extern.BytealgIndexByte.indexByte #[.string s, .int .u8 (b.toNat : Int)] = _
      rw [h5, hb']
      unfold indexB
      cases (List.range s.size).find? (fun i => s[i]! == b) <;> rfl
    | [], h => exact absurd h (by simp [T2, R2])
    | [_], h => exact absurd h (by simp [T2, R2])
    | _ :: _ :: _ :: _, h => exact absurd h (by simp [T2, R2])
@[simp] theorem plainC_nil : plainC nilS = true := rfl
theorem EconsG {P : Program} {l : List (Nat × Contract)} {g : Nat} {F : List AV → Heap → Option (AV × Heap)} (h : GenOK P g F) (hl : EnvOK P (envL l)) : EnvOK P (envL ((g, .gen F) :: l)) := by
  intro x
  unfold envL
  cases e : x == g with
  | true =>
    have := eq_of_beq e
    subst this
    exact h
  | false => exact hl x
theorem hand_tup_nwl {A : Type} [Row A] [Scal A] (l : List A) {c : AV} (hc : isSc c = true) (ok : Bool) (h : Heap) : hand (.tup [nwl l, c]) ok h = some (.tup [.sl h.length l.length 0 l.length, c], h ++ [⟨Row.w A, l.map Row.cells⟩]) := by
  have h0 : mat 7 (nwl l) h.length = (.sl h.length l.length 0 l.length, [⟨Row.w A, l.map Row.cells⟩]) := by
    show (AV.sl h.length (l.map Row.cells).length 0 (l.map Row.cells).length, (⟨Row.w A, (matR (mat 6) (l.map Row.cells) (h.length + 1)).1⟩ : AObj) :: (matR (mat 6) (l.map Row.cells) (h.length + 1)).2) = _
    rw [mat_rows]; simp
  have h1 : noF depth (.tup [nwl l, c]) = true := by
    show (List.all [nwl l, c] (noF 7)) = true
    have e1 : noF 7 (nwl l) = true := noF_rows 6 l
    simp [e1, noF_sc 7 hc]
  have h2 : mat depth (.tup [nwl l, c]) h.length = (.tup [.sl h.length l.length 0 l.length, c], [⟨Row.w A, l.map Row.cells⟩]) := by
    show (AV.tup (matL (mat 7) [nwl l, c] h.length).1, (matL (mat 7) [nwl l, c] h.length).2) = _
    simp only [matL, h0, mat_sc 7 _ hc]
    rfl
  unfold hand
  simp [h1, h2]
theorem byte_of {n : Int} (h : (Lit.int .u8 n).wf = true) : ∃ x : UInt8, [AV.sc (.int .u8 n)] = Row.cells x ∧ Row.fine x := by
  simp only [Lit.wf, Bool.and_eq_true, decide_eq_true_eq] at h
  have h1 : 0 ≤ n ∧ n ≤ 255 := h
  refine ⟨n.toNat.toUInt8, ?_, trivial⟩
  have h2 : (n.toNat.toUInt8).toNat = n.toNat := by
    simp [Nat.toUInt8, UInt8.toNat_ofNat]
    omega
  show _ = [bt _]
  unfold bt
  rw [h2]
  congr 3
  omega
end Go.Eng
