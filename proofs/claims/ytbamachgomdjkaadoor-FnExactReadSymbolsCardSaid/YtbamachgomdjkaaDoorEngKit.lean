/-
  THE ENGINE, PART 31: loops over tables.
-/
import Derived.Test.YtbamachgomdjkaaDoorEngDat
namespace Go.Eng
set_option linter.unusedVariables false
set_option linter.unusedSimpArgs false
open Cod (enc dec)

theorem make_ok {n bytes : Nat} (z : List AV) (h : Heap) (hn : n ≤ 4294967296) (hb : bytes ≤ 1024) : aMakeSlice z bytes (iv (n : Int)) (iv (n : Int)) h = some (.sl h.length n 0 n, h ++ [⟨z.length, List.replicate n z⟩]) := by
  have h1 : n * bytes ≤ 4294967296 * 1024 := Nat.mul_le_mul hn hb
  have h2 : maxBytes = 140737488355328 := rfl
  have h3 : (0 : Int) ≤ n ∧ (n : Int) ≤ n ∧ (n : Int) ≤ (maxBytes : Int) ∧ (n : Int).toNat * bytes ≤ maxBytes := by
    rw [h2]
    refine ⟨by omega, by omega, by omega, ?_⟩
    simp only [Int.toNat_natCast]
    omega
  show (if (0 : Int) ≤ n ∧ (n : Int) ≤ n ∧ (n : Int) ≤ (maxBytes : Int) ∧ (n : Int).toNat * bytes ≤ maxBytes then _ else _) = _
  rw [if_pos h3]
  simp [zrows]

/-- The lookups in a table that came in. -/
structure Look {A : Type} [Row A] (w : Nat) (x : AV) (l : List A) : Prop where
  len : aLenK .slice x = some (iv (l.length : Nat))
  idx : ∀ ix h, aIndexAddr w x ix h = obind (Eng.idx ix l.length) fun m => some (elp x m 0)
  fld : ∀ i j off, aFieldAddr off (elp x i j) = some (elp x i (j + off))
  load : ∀ g n i j h, aLoad g n (elp x i j) h = obind l[i]? fun a => cut g n ((Row.cells a).drop j)
theorem lookT {A : Type} [Row A] (q : Sl A) {w : Nat} (hw : w = Row.w A) : Look w (Sl.enc q) (q.getD []) := by
  subst hw
  exact ⟨(Tab.enc [] q).len, fun ix h => (Tab.enc h q).idx ix, (Tab.enc [] q).fld, fun g n i j h => (Tab.enc h q).load g n i j⟩

/-- Two tables are compared from the front. -/
theorem loop_eq {A R : Type} [DecidableEq A] {a b : List A} (hab : a.length = b.length) (hm : a.length ≤ maxLen) {hmk xm : List Bool} {body : TM → Heap → Option Res} {K : Res → Option R} (h : Heap) (st : Nat → TM) (yes no : R)
    (step : ∀ (pre : List A) (x y : A), Stp a pre x → Eng.idx (iv (pre.length : Nat)) b.length = some pre.length → b[pre.length]? = some y → pre.length < b.length →
      obind (loopP hmk xm body (st pre.length) h) K = bif decide (x = y) then obind (loopP hmk xm body (st (pre.length + 1)) h) K else some no)
    (fin : obind (loopP hmk xm body (st a.length) h) K = some yes) :
    obind (loopP hmk xm body (st 0) h) K = some (bif decide (a = b) then yes else no) := by
  have key : ∀ (s1 s2 p1 p2 : List A), a = p1 ++ s1 → b = p2 ++ s2 → p1 = p2 → s1.length = s2.length →
      obind (loopP hmk xm body (st p1.length) h) K = some (bif decide (s1 = s2) then yes else no) := by
    intro s1
    induction s1 with
    | nil =>
      intro s2 p1 p2 h1 h2 h3 h4
      cases s2 with
      | nil =>
        simp at h1
        subst h1
        simpa using fin
      | cons y s2 => simp at h4
    | cons x s1 ih =>
      intro s2 p1 p2 h1 h2 h3 h4
      cases s2 with
      | nil => simp at h4
      | cons y s2 =>
        have S := Stp.mk' h1 hm
        have hlt : p1.length < b.length := by rw [← hab]; exact S.lt
        rw [step p1 x y S (idx_lt hlt) (by rw [h2, h3]; simp) hlt]
        by_cases e : x = y
        · subst e
          have := ih s2 (p1 ++ [x]) (p2 ++ [x]) (by simp [h1]) (by simp [h2]) (by rw [h3]) (by simpa using h4)
          simp only [List.length_append, List.length_cons, List.length_nil, Nat.zero_add] at this
          simp [this]
        · simp [e]
  exact key a b [] [] rfl rfl rfl hab

/-- The same, by a function. -/
theorem loop_eqv {A R : Type} (eqv : A → A → Bool) {a b : List A} (hab : a.length = b.length) (hm : a.length ≤ maxLen) {hmk xm : List Bool} {body : TM → Heap → Option Res} {K : Res → Option R} (h : Heap) (st : Nat → TM) (yes no : R)
    (step : ∀ (pre : List A) (x y : A), Stp a pre x → Eng.idx (iv (pre.length : Nat)) b.length = some pre.length → b[pre.length]? = some y → pre.length < b.length →
      obind (loopP hmk xm body (st pre.length) h) K = bif eqv x y then obind (loopP hmk xm body (st (pre.length + 1)) h) K else some no)
    (fin : obind (loopP hmk xm body (st a.length) h) K = some yes) :
    obind (loopP hmk xm body (st 0) h) K = some (bif (a.zip b).all (fun p => eqv p.1 p.2) then yes else no) := by
  have key : ∀ (s1 s2 p1 p2 : List A), a = p1 ++ s1 → b = p2 ++ s2 → p1.length = p2.length → s1.length = s2.length →
      obind (loopP hmk xm body (st p1.length) h) K = some (bif (s1.zip s2).all (fun p => eqv p.1 p.2) then yes else no) := by
    intro s1
    induction s1 with
    | nil =>
      intro s2 p1 p2 h1 h2 h3 h4
      cases s2 with
      | nil =>
        simp at h1
        subst h1
        simpa using fin
      | cons y s2 => simp at h4
    | cons x s1 ih =>
      intro s2 p1 p2 h1 h2 h3 h4
      cases s2 with
      | nil => simp at h4
      | cons y s2 =>
        have S := Stp.mk' h1 hm
        have hlt : p1.length < b.length := by rw [← hab]; exact S.lt
        rw [step p1 x y S (idx_lt hlt) (by rw [h2, h3]; simp) hlt]
        cases e : eqv x y
        · simp [e]
        · have := ih s2 (p1 ++ [x]) (p2 ++ [y]) (by simp [h1]) (by simp [h2]) (by simp [h3]) (by simpa using h4)
          simp only [List.length_append, List.length_cons, List.length_nil, Nat.zero_add] at this
          simp [this, e]
  exact key a b [] [] rfl rfl rfl hab

def eqL {A : Type} (eqv : A → A → Bool) (a b : List A) : Bool := decide (a.length = b.length) && (a.zip b).all fun p => eqv p.1 p.2
theorem eqL_self {A : Type} {eqv : A → A → Bool} (h : ∀ a, eqv a a = true) (l : List A) : eqL eqv l l = true := by
  unfold eqL
  simp only [decide_true, Bool.true_and]
  induction l with
  | nil => rfl
  | cons a l ih => simp [h a, ih]

/-- A loop over a table: what it holds is told by a function of what is left. -/
theorem loop_over {A R : Type} (l : List A) (hm : l.length ≤ maxLen) {hmk xm : List Bool} {body : TM → Heap → Option Res} {K : Res → Option R} {σ : Type} (st : σ → Nat → TM) (hp : σ → Heap) (inv : σ → List A → Prop) (f : σ → List A → Option R)
    (step : ∀ (pre : List A) (x : A) (suf : List A) (s : σ), l = pre ++ x :: suf → inv s (x :: suf) → Stp l pre x →
      obind (loopP hmk xm body (st s pre.length) (hp s)) K = f s (x :: suf) ∨
      ∃ s', inv s' suf ∧ obind (loopP hmk xm body (st s pre.length) (hp s)) K = obind (loopP hmk xm body (st s' (pre.length + 1)) (hp s')) K ∧ f s (x :: suf) = f s' suf)
    (fin : ∀ s, inv s [] → obind (loopP hmk xm body (st s l.length) (hp s)) K = f s []) (s : σ) (h0 : inv s l) :
    obind (loopP hmk xm body (st s 0) (hp s)) K = f s l := by
  have key : ∀ (suf pre : List A) (s : σ), l = pre ++ suf → inv s suf → obind (loopP hmk xm body (st s pre.length) (hp s)) K = f s suf := by
    intro suf
    induction suf with
    | nil =>
      intro pre s hl hi
      simp at hl
      subst hl
      exact fin s hi
    | cons x suf ih =>
      intro pre s hl hi
      rcases step pre x suf s hl hi (Stp.mk' hl hm) with h | ⟨s', h1, h2, h3⟩
      · exact h
      · rw [h2, h3]
        have := ih (pre ++ [x]) s' (by simp [hl]) h1
        simpa using this
  exact key l [] s rfl h0
/-- A loop over a table: the same, from some row on. -/
theorem loop_from {A R : Type} (l : List A) (hm : l.length ≤ maxLen) {hmk xm : List Bool} {body : TM → Heap → Option Res} {K : Res → Option R} {σ : Type} (st : σ → Nat → TM) (hp : σ → Heap) (inv : σ → List A → Prop) (f : σ → List A → Option R)
    (step : ∀ (pre : List A) (x : A) (suf : List A) (s : σ), l = pre ++ x :: suf → inv s (x :: suf) → Stp l pre x →
      obind (loopP hmk xm body (st s pre.length) (hp s)) K = f s (x :: suf) ∨
      ∃ s', inv s' suf ∧ obind (loopP hmk xm body (st s pre.length) (hp s)) K = obind (loopP hmk xm body (st s' (pre.length + 1)) (hp s')) K ∧ f s (x :: suf) = f s' suf)
    (fin : ∀ s, inv s [] → obind (loopP hmk xm body (st s l.length) (hp s)) K = f s []) (pre0 suf0 : List A) (hl0 : l = pre0 ++ suf0) (s : σ) (h0 : inv s suf0) :
    obind (loopP hmk xm body (st s pre0.length) (hp s)) K = f s suf0 := by
  have key : ∀ (suf pre : List A) (s : σ), l = pre ++ suf → inv s suf → obind (loopP hmk xm body (st s pre.length) (hp s)) K = f s suf := by
    intro suf
    induction suf with
    | nil =>
      intro pre s hl hi
      simp at hl
      subst hl
      exact fin s hi
    | cons x suf ih =>
      intro pre s hl hi
      rcases step pre x suf s hl hi (Stp.mk' hl hm) with h | ⟨s', h1, h2, h3⟩
      · exact h
      · rw [h2, h3]
        have := ih (pre ++ [x]) s' (by simp [hl]) h1
        simpa using this
  exact key suf0 pre0 s hl0 h0
/-! ### Where new memory lies -/

@[simp] theorem At_here (t x : Heap) : At (t ++ x) 0 t = True := eq_true (At.here t x)
@[simp] theorem At_all (t : Heap) : At t 0 t = True := eq_true (At.all t)
@[simp] theorem At_cons (o : AObj) (H t : Heap) (n : Nat) : At (o :: H) (n + 1) t = At H n t := by
  apply propext
  constructor
  · rintro ⟨h, h2, e, hl⟩
    cases h with
    | nil => simp at hl
    | cons a h =>
      simp only [List.cons_append, List.cons.injEq] at e
      exact ⟨h, h2, by simpa using e.2, by simpa using hl⟩
  · exact At.cons o
@[simp] theorem At_skip (l H t : Heap) (n : Nat) : At (l ++ H) (l.length + n) t = At H n t := by
  apply propext
  constructor
  · rintro ⟨h, h2, e, hl⟩
    induction l generalizing h with
    | nil => exact ⟨h, h2, by simpa using e, by simpa using hl⟩
    | cons o l ih =>
      cases h with
      | nil => simp at hl; omega
      | cons a h =>
        simp only [List.cons_append, List.cons.injEq] at e
        exact ih h (by simpa using e.2) (by simp at hl; omega)
  · intro h
    rw [Nat.add_comm]
    exact At.skip l h
@[simp] theorem At_skipA (l H t : Heap) (m n : Nat) : At (l ++ H) (l.length + m + n) t = At H (m + n) t := by
  rw [Nat.add_assoc]
  exact At_skip l H t (m + n)
@[simp] theorem At_skipB (l H t : Heap) (m n k : Nat) : At (l ++ H) (l.length + m + n + k) t = At H (m + n + k) t := by
  rw [Nat.add_assoc, Nat.add_assoc, ← Nat.add_assoc m]
  exact At_skip l H t (m + n + k)
@[simp] theorem At_one (o : AObj) (H t : Heap) (n : Nat) : At (o :: H) (1 + n) t = At H n t := by
  rw [Nat.add_comm]
  exact At_cons o H t n
@[simp] theorem At_oneA (o : AObj) (H t : Heap) (n m : Nat) : At (o :: H) (1 + n + m) t = At H (n + m) t := by
  rw [Nat.add_assoc]
  exact At_one o H t (n + m)
@[simp] theorem At_skip0 (l H t : Heap) : At (l ++ H) l.length t = At H 0 t := At_skip l H t 0
@[simp] theorem At_cons0 (o : AObj) (H t : Heap) : At (o :: H) 1 t = At H 0 t := At_cons o H t 0
@[simp] theorem At_cons1 (o : AObj) (H t : Heap) : At (o :: H) 2 t = At H 1 t := At_cons o H t 1
@[simp] theorem At_cons2 (o : AObj) (H t : Heap) : At (o :: H) 3 t = At H 2 t := At_cons o H t 2
@[simp] theorem At_cons3 (o : AObj) (H t : Heap) : At (o :: H) 4 t = At H 3 t := At_cons o H t 3
@[simp] theorem At_cons4 (o : AObj) (H t : Heap) : At (o :: H) 5 t = At H 4 t := At_cons o H t 4

@[simp] theorem get_skip {α : Type} (l H : List α) (n : Nat) : (l ++ H)[l.length + n]? = H[n]? := by
  rw [List.getElem?_append_right (by omega)]
  congr 1
  omega
@[simp] theorem get_skipA {α : Type} (l H : List α) (m n : Nat) : (l ++ H)[l.length + m + n]? = H[m + n]? := by
  rw [Nat.add_assoc]
  exact get_skip l H (m + n)
@[simp] theorem get_skipB {α : Type} (l H : List α) (m n k : Nat) : (l ++ H)[l.length + m + n + k]? = H[m + n + k]? := by
  rw [Nat.add_assoc, Nat.add_assoc, ← Nat.add_assoc m]
  exact get_skip l H (m + n + k)
@[simp] theorem get_one {α : Type} (o : α) (H : List α) (n : Nat) : (o :: H)[1 + n]? = H[n]? := by
  rw [Nat.add_comm]
  rfl
@[simp] theorem get_oneA {α : Type} (o : α) (H : List α) (n m : Nat) : (o :: H)[1 + n + m]? = H[n + m]? := by
  rw [Nat.add_assoc]
  exact get_one o H (n + m)
@[simp] theorem get_skip0 {α : Type} (l H : List α) : (l ++ H)[l.length]? = H[0]? := get_skip l H 0
@[simp] theorem set_skip {α : Type} (l H : List α) (n : Nat) (x : α) : (l ++ H).set (l.length + n) x = l ++ H.set n x := by
  rw [List.set_append_right _ _ (by omega)]
  congr 2
  omega
@[simp] theorem set_skipA {α : Type} (l H : List α) (m n : Nat) (x : α) : (l ++ H).set (l.length + m + n) x = l ++ H.set (m + n) x := by
  rw [Nat.add_assoc]
  exact set_skip l H (m + n) x
@[simp] theorem set_skipB {α : Type} (l H : List α) (m n k : Nat) (x : α) : (l ++ H).set (l.length + m + n + k) x = l ++ H.set (m + n + k) x := by
  rw [Nat.add_assoc, Nat.add_assoc, ← Nat.add_assoc m]
  exact set_skip l H (m + n + k) x
@[simp] theorem set_one {α : Type} (o : α) (H : List α) (n : Nat) (x : α) : (o :: H).set (1 + n) x = o :: H.set n x := by
  rw [Nat.add_comm]
  rfl
@[simp] theorem set_oneA {α : Type} (o : α) (H : List α) (n m : Nat) (x : α) : (o :: H).set (1 + n + m) x = o :: H.set (n + m) x := by
  rw [Nat.add_assoc]
  exact set_one o H (n + m) x
@[simp] theorem set_skip0 {α : Type} (l H : List α) (x : α) : (l ++ H).set l.length x = l ++ H.set 0 x := set_skip l H 0 x

/-! ### Pointers that are read -/

/-- A pointer to row `i` of a table. -/
structure Pt (A : Type) where
  tab : List A
  i : Nat
def Pt.enc {A : Type} [Row A] (p : Pt A) : AV := .fptr (Row.w A) (p.tab.map Row.cells) p.i 0
def Pt.dec {A : Type} [Row A] : AV → Option (Pt A)
  | .fptr k rows i 0 => if k = Row.w A then match omap (Row.uncells (A := A)) rows with
    | some l => some ⟨l, i⟩
    | none => none else none
  | _ => none
instance {A : Type} [Row A] : Cod (Pt A) where
  enc := Pt.enc
  dec := Pt.dec
  de p := by simp [Pt.enc, Pt.dec, omap_un]
  ed x p h := by
    unfold Pt.dec at h
    split at h
    · split at h
      · split at h
        · rename_i l hl
          cases h
          rename_i hk _
          subst hk
          rw [omap_nu _ _ hl]
          rfl
        · cases h
      · cases h
    · cases h
@[simp] theorem enc_pt {A : Type} [Row A] (p : Pt A) : Cod.enc p = .fptr (Row.w A) (p.tab.map Row.cells) p.i 0 := rfl
@[simp] theorem snapD_fptr {A : Type} [Row A] (h : Heap) (k i : Nat) (l : List A) (hk : k = Row.w A) : snapD h (.fptr k (l.map Row.cells) i 0) = some (⟨l, i⟩ : Pt A) := by
  subst hk
  exact Cod.de (⟨l, i⟩ : Pt A)
theorem snapD_elp {A : Type} [Row A] (h : Heap) (q : Sl A) {i : Nat} (hi : i < (q.getD []).length) : snapD h (elp (Sl.enc q) i 0) = some (⟨q.getD [], i⟩ : Pt A) := by
  cases q with
  | none => simp at hi
  | some l => exact snapD_fptr h _ i l rfl
/-- A variable of the caller's. -/
theorem snapD_ptr {A : Type} [Row A] {h : Heap} {o : Nat} {row : List AV} (a : A) (ho : h[o]? = some ⟨Row.w A, [row]⟩) (hr : omap (snap h 7) row = some (Row.cells a)) : snapD h (.ptr o 1 0 0) = some (⟨[a], 0⟩ : Pt A) := by
  have : snap h depth (.ptr o 1 0 0) = some (.fptr (Row.w A) [Row.cells a] 0 0) := by
    show (match h[o]? with | some ob => if ob.rows.length = 1 then match omap (omap (snap h 7)) ob.rows with | some rows => some (AV.fptr ob.k rows 0 0) | none => none else none | none => none) = _
    rw [ho]
    simp [omap, hr]
  unfold snapD
  rw [this]
  exact Cod.de (⟨[a], 0⟩ : Pt A)
theorem load_fptr {A : Type} [Row A] (g : Bool) (n k i j : Nat) (l : List A) (h : Heap) : aLoad g n (.fptr k (l.map Row.cells) i j) h = obind l[i]? fun a => cut g n ((Row.cells a).drop j) := by
  simp only [aLoad, List.getElem?_map]
  cases l[i]? <;> rfl

/-- A pointer to one variable. -/
structure Ref (A : Type) where
  val : A
def Ref.enc {A : Type} [Row A] (p : Ref A) : AV := .fptr (Row.w A) [Row.cells p.val] 0 0
def Ref.dec {A : Type} [Row A] : AV → Option (Ref A)
  | .fptr k [row] 0 0 => if k = Row.w A then match Row.uncells row with
    | some a => some ⟨a⟩
    | none => none else none
  | _ => none
instance {A : Type} [Row A] : Cod (Ref A) where
  enc := Ref.enc
  dec := Ref.dec
  de p := by simp [Ref.enc, Ref.dec, Row.un]
  ed x p h := by
    unfold Ref.dec at h
    split at h
    · split at h
      · split at h
        · rename_i l hl
          cases h
          rename_i hk _
          subst hk
          rw [Row.nu _ _ hl]
          rfl
        · cases h
      · cases h
    · cases h
@[simp] theorem enc_ref {A : Type} [Row A] (p : Ref A) : Cod.enc p = .fptr (Row.w A) [Row.cells p.val] 0 0 := rfl
theorem snapD_refE {A : Type} [Row A] (h : Heap) (a : A) : snapD h (.fptr (Row.w A) [Row.cells a] 0 0) = some (⟨a⟩ : Ref A) := Cod.de (⟨a⟩ : Ref A)
theorem snapD_ref {A : Type} [Row A] {h : Heap} {o : Nat} {row : List AV} (a : A) (ho : h[o]? = some ⟨Row.w A, [row]⟩) (hr : omap (snap h 7) row = some (Row.cells a)) : snapD h (.ptr o 1 0 0) = some (⟨a⟩ : Ref A) := by
  have : snap h depth (.ptr o 1 0 0) = some (.fptr (Row.w A) [Row.cells a] 0 0) := by
    show (match h[o]? with | some ob => if ob.rows.length = 1 then match omap (omap (snap h 7)) ob.rows with | some rows => some (AV.fptr ob.k rows 0 0) | none => none else none | none => none) = _
    rw [ho]
    simp [omap, hr]
  unfold snapD
  rw [this]
  exact Cod.de (⟨a⟩ : Ref A)
@[simp] theorem nil_fptr (k : Nat) (rows : List (List AV)) (i j : Nat) : aNilCheck (.fptr k rows i j) = some (.fptr k rows i j) := rfl
@[simp] theorem nil_ptr (k o i j : Nat) : aNilCheck (.ptr k o i j) = some (.ptr k o i j) := rfl

/-! ### Loops by index, over any heap -/

structure Ix {A : Type} (l : List A) (i : Nat) : Prop where
  lt : i < l.length
  idx : Eng.idx (iv (i : Int)) l.length = some i
  wr : wr ((i : Int) + 1) = (i : Int) + 1
  ltI : (i : Int) < (l.length : Nat)
theorem Ix.mk' {A : Type} {l : List A} {i : Nat} (h : i < l.length) (hm : l.length ≤ maxLen) : Ix l i := by
  rw [maxLen_eq] at hm
  exact ⟨h, idx_lt h, wr_id (by omega) (by omega), by omega⟩
theorem ix_prev {n i : Nat} (h : i < n) (hm : n ≤ maxLen) (h0 : 0 < i) : wr ((i : Int) - 1) = ((i - 1 : Nat) : Int) ∧ Eng.idx (iv ((i - 1 : Nat) : Int)) n = some (i - 1) ∧ i - 1 < n := by
  rw [maxLen_eq] at hm
  exact ⟨by rw [wr_id (by omega) (by omega)]; omega, idx_lt (by omega), by omega⟩

theorem loop_any {R : Type} (n : Nat) (bad : Nat → Bool) (F : Nat → Heap → Option R) (no yes : R) (step : ∀ i h, i < n → ∃ h', F i h = bif bad i then some no else F (i + 1) h')
    (fin : ∀ h, F n h = some yes) (h : Heap) : F 0 h = some (bif (List.range n).any bad then no else yes) := by
  have key : ∀ k i, i + k = n → ∀ h, F i h = some (bif (List.range' i k).any bad then no else yes) := by
    intro k
    induction k with
    | zero =>
      intro i hi h
      have : i = n := by omega
      subst this
      simpa using fin h
    | succ k ih =>
      intro i hi h
      obtain ⟨h', e⟩ := step i h (by omega)
      cases hb : bad i with
      | true => simp [List.range'_succ, hb, e]
      | false => simp [List.range'_succ, hb, e, ih (i + 1) (by omega) h']
  have := key n 0 (by omega) h
  rw [List.range_eq_range']
  exact this
theorem load_end (g : Bool) (s j k : Nat) (row : List AV) (h : Heap) : aLoad g s (.ptr h.length 1 0 j) (h ++ [⟨k, [row]⟩]) = cut g s (row.drop j) := by
  simp [aLoad]
theorem loop_fold {σ R : Type} (n k0 : Nat) (hk : k0 ≤ n) (inv : σ → Nat → Prop) (f : σ → Nat → σ) (F : σ → Nat → Heap → Option R) (g : σ → R)
    (next : ∀ s i h, k0 ≤ i → i < n → inv s i → inv (f s i) (i + 1) ∧ ∃ h', F s i h = F (f s i) (i + 1) h') (fin : ∀ s h, inv s n → F s n h = some (g s)) (s : σ) (h : Heap) (h0 : inv s k0) :
    F s k0 h = some (g ((List.range' k0 (n - k0)).foldl f s)) := by
  have key : ∀ k i s, i + k = n → k0 ≤ i → inv s i → ∀ h, F s i h = some (g ((List.range' i k).foldl f s)) := by
    intro k
    induction k with
    | zero =>
      intro i s hi _ h0 h
      have : i = n := by omega
      subst this
      simpa using fin s h h0
    | succ k ih =>
      intro i s hi hk h0 h
      obtain ⟨h1, h', e⟩ := next s i h hk (by omega) h0
      rw [e, ih (i + 1) (f s i) (by omega) (by omega) h1 h']
      simp [List.range'_succ]
  exact key (n - k0) k0 s (by omega) (Nat.le_refl _) h0 h
theorem obind_map {α β γ : Type} (x : Option α) (f : α → Option β) (g : β → γ) : (obind x f).map g = obind x fun a => (f a).map g := by cases x <;> rfl
theorem map_of {X : Option (AV × Heap)} {v : AV} (h : X.map Prod.fst = some v) : ∃ x, X = some (v, x) := by
  obtain ⟨⟨a, b⟩, e, e2⟩ := Option.map_eq_some_iff.1 h
  cases e2
  exact ⟨b, e⟩
/-- A result that is plain is released as it is. -/
theorem plain_of {X : Option (AV × Heap)} {v : AV} (hv : plainR v = true) (h : X.map Prod.fst = some v) : (obind X fun p => release p.2 depth p.1) = some v := by
  obtain ⟨x, e⟩ := map_of h
  rw [e]
  exact release_plain hv x

/-! ### Closures -/

structure Clo0 (g : Nat) where
instance (g : Nat) : Cod (Clo0 g) where
  enc _ := .fn g []
  dec
    | .fn g' [] => if g' = g then some ⟨⟩ else none
    | _ => none
  de _ := by simp
  ed x a h := by
    split at h
    · split at h
      · rename_i e; rw [e]
      · cases h
    · cases h
structure Clo (g : Nat) (C : Type) where
  val : C
instance (g : Nat) (C : Type) [Cod C] : Cod (Clo g C) where
  enc c := .fn g [enc c.val]
  dec
    | .fn g' [x] => if g' = g then (match (dec x : Option C) with | some c => some ⟨c⟩ | none => none) else none
    | _ => none
  de c := by simp [Cod.de]
  ed x a h := by
    split at h
    · split at h
      · split at h
        · rename_i e _ c hc
          cases h
          rw [e, Cod.ed _ _ hc]
        · cases h
      · cases h
    · cases h
@[simp] theorem enc_clo0 (g : Nat) (c : Clo0 g) : enc c = .fn g [] := rfl
@[simp] theorem enc_clo (g : Nat) (C : Type) [Cod C] (c : Clo g C) : enc c = .fn g [enc c.val] := rfl
@[simp] theorem snapD_clo0 (h : Heap) (g : Nat) : snapD h (.fn g []) = some (⟨⟩ : Clo0 g) := by
  have : snap h depth (.fn g []) = some (.fn g []) := rfl
  unfold snapD
  rw [this]
  exact Cod.de (⟨⟩ : Clo0 g)
theorem snapD_clo {h : Heap} {g : Nat} {C : Type} [Cod C] {x : AV} (c : C) (hx : snap h 7 x = some (enc c)) : snapD h (.fn g [x]) = some (⟨c⟩ : Clo g C) := by
  have : snap h depth (.fn g [x]) = some (.fn g [enc c]) := by
    show (match omap (snap h 7) [x] with | some cs => some (AV.fn g cs) | none => none) = _
    simp [omap, hx]
  unfold snapD
  rw [this]
  exact Cod.de (⟨c⟩ : Clo g C)
theorem snap_ref7 {A : Type} [Row A] {h : Heap} {o : Nat} {row : List AV} (a : A) (ho : h[o]? = some ⟨Row.w A, [row]⟩) (hr : omap (snap h 6) row = some (Row.cells a)) : snap h 7 (.ptr o 1 0 0) = some (enc (⟨a⟩ : Ref A)) := by
  show (match h[o]? with | some ob => if ob.rows.length = 1 then match omap (omap (snap h 6)) ob.rows with | some rows => some (AV.fptr ob.k rows 0 0) | none => none else none | none => none) = _
  rw [ho]
  simp [omap, hr]
def findI {A : Type} (p : A → Bool) : List A → Nat → Int
  | [], _ => -1
  | x :: r, i => bif p x then (i : Int) else findI p r (i + 1)
theorem findI_any {A : Type} (p : A → Bool) : ∀ (l : List A) (i : Nat), decide (0 ≤ findI p l i) = l.any p
  | [], _ => by simp [findI]
  | x :: r, i => by
    unfold findI
    cases h : p x
    · simpa [h] using findI_any p r (i + 1)
    · simp [h]

@[simp] theorem nv_box (b : Box) : Elem.nv b = nag b := rfl
@[simp] theorem nv_spot (b : Spot) : Elem.nv b = nag b := rfl
@[simp] theorem nv_frac (b : Frac) : Elem.nv b = nag b := rfl

/-! ### Weights -/

class Same (A : Type) [Row A] [Tre A] [Wt A] : Prop where
  wn : ∀ a : A, Wt.wt (Tre.norm a) = Wt.wt a
instance : Same Int := ⟨fun _ => rfl⟩
instance : Same Bool := ⟨fun _ => rfl⟩
instance : Same ByteArray := ⟨fun _ => rfl⟩
instance : Same Box := ⟨fun _ => rfl⟩
instance : Same Spot := ⟨fun _ => rfl⟩
instance : Same Frac := ⟨fun _ => rfl⟩
instance {A : Type} [Row A] [Tre A] [Wt A] [Same A] : Same (Sl A) := ⟨fun q => by
  rw [norm_sl, wt_sl, wt_sl]
  simp only [Option.getD_some, List.length_map, List.map_map]
  congr 2
  exact List.map_congr_left fun a _ => Same.wn a⟩
instance : Same Point := ⟨fun _ => rfl⟩
instance : Same Note := ⟨fun _ => rfl⟩
instance : Same Feat := ⟨fun _ => rfl⟩
instance : Same Pair := ⟨fun _ => rfl⟩
instance : Same Symbol := ⟨fun _ => rfl⟩
instance : Same TreeNode := ⟨fun _ => rfl⟩
instance : Same Bigram := ⟨fun _ => rfl⟩
instance : Same Stroke := ⟨fun a => by simp [norm_Stroke, wt_Stroke, Same.wn]⟩
instance : Same Ink := ⟨fun a => by simp [norm_Ink, wt_Ink, Same.wn]⟩
instance : Same Line := ⟨fun a => by simp [norm_Line, wt_Line, Same.wn]⟩
instance : Same Tree := ⟨fun a => by simp [norm_Tree, wt_Tree, Same.wn]⟩
instance : Same Model := ⟨fun a => by simp [norm_Model, wt_Model, Same.wn]⟩
instance : Same Sentence := ⟨fun a => by simp [norm_Sentence, wt_Sentence, Same.wn]⟩
theorem fit_norm {A : Type} [Row A] [Tre A] [Wt A] [Same A] {a : A} (h : fit a = true) : fit (Tre.norm a) = true := by
  rw [fit_iff] at *
  rw [Same.wn]
  exact h
theorem fit_wt {A : Type} [Row A] [Wt A] {a : A} {n : Int} (h : ¬ n < (Wt.wt a : Nat)) (hn : n ≤ 1048576) : fit a = true := by
  rw [fit_iff]
  omega
/-- A table of things without weight. -/
theorem wt_zero {A : Type} [Row A] [Wt A] (h : ∀ a : A, Wt.wt a = 0) (q : Sl A) : Wt.wt q = (q.getD []).length := by
  rw [wt_sl]
  have : ((q.getD []).map Wt.wt).sum = 0 := by
    induction q.getD [] with
    | nil => rfl
    | cons a l ih => simp [h a, ih]
  omega
def szR (left : Int) (w : Nat) : Int := bif decide (left < w) then -1 else left - w
def szOK {A : Type} [Row A] [Wt A] (a : A) (left : Int) : Bool := Wt.big a && (decide (0 ≤ left) && decide (left ≤ 1048576))
theorem szOK_iff {A : Type} [Row A] [Wt A] (a : A) (left : Int) : szOK a left = true ↔ Wt.big a = true ∧ 0 ≤ left ∧ left ≤ 1048576 := by simp [szOK]
theorem szR_lt {left : Int} {w : Nat} (h : left < w) : szR left w = -1 := by simp [szR, h]
theorem szR_ge {left : Int} {w : Nat} (h : ¬ left < w) : szR left w = left - w := by simp [szR, h]
theorem szR_add {left : Int} {w v : Nat} (h : ¬ left < w) : szR left (w + v) = szR (left - w) v := by
  by_cases h2 : left - w < v
  · rw [szR_lt h2, szR_lt (by omega)]
  · rw [szR_ge h2, szR_ge (by omega)]
    omega
theorem szR_lt' {left : Int} {w v : Nat} (h : left < w) : szR left (w + v) = -1 := szR_lt (by omega)
/-- A length taken off. -/
theorem sz_len {left : Int} {n : Nat} (h0 : 0 ≤ left) (h1 : left ≤ 1048576) (hn : n ≤ maxLen) : wr (left - n) = left - n := by
  rw [maxLen_eq] at hn
  exact wr_id (by omega) (by omega)
end Go.Eng
