import Derived.Test.YtfhffgfbnlikjaaEngDat
namespace Go.Eng
set_option linter.unusedVariables false
set_option linter.unusedSimpArgs false
open Cod (enc dec)
theorem make_ok {n bytes : Nat} (z : List AV) (h : kA4) (hn : n ≤ 4294967296) (hb : bytes ≤ 1024) : kDz z bytes (iv (n : Int)) (iv (n : Int)) h = some (.sl h.length n 0 n, h ++ [⟨z.length, List.replicate n z⟩]) := by
  have h1 : n * bytes ≤ 4294967296 * 1024 := Nat.mul_le_mul hn hb
  have h2 : kBh = 140737488355328 := rfl
  have h3 : (0 : Int) ≤ n ∧ (n : Int) ≤ n ∧ (n : Int) ≤ (kBh : Int) ∧ (n : Int).toNat * bytes ≤ kBh := by
    rw [h2]
    refine ⟨by omega, by omega, by omega, ?_⟩
    simp only [Int.toNat_natCast]
    omega
  show (if (0 : Int) ≤ n ∧ (n : Int) ≤ n ∧ (n : Int) ≤ (kBh : Int) ∧ (n : Int).toNat * bytes ≤ kBh then _ else _) = _
  rw [if_pos h3]
  simp [kCy]
structure Look {A : Type} [Row A] (w : Nat) (x : AV) (l : List A) : Prop where
  len : kBf .slice x = some (iv (l.length : Nat))
  idx : ∀ ix h, kA5 w x ix h = kA0 (Eng.idx ix l.length) fun m => some (elp x m 0)
  fld : ∀ i j off, kA7 off (elp x i j) = some (elp x i (j + off))
  load : ∀ g n i j h, kAc g n (elp x i j) h = kA0 l[i]? fun a => cut g n ((Row.cells a).drop j)
@[simp] theorem At_here (t x : kA4) : At (t ++ x) 0 t = True := eq_true (At.here t x)
@[simp] theorem At_all (t : kA4) : At t 0 t = True := eq_true (At.all t)
@[simp] theorem At_cons (o : AObj) (H t : kA4) (n : Nat) : At (o :: H) (n + 1) t = At H n t := by
  apply propext
  constructor
  · rintro ⟨h, h2, e, hl⟩
    cases h with
    | nil => simp at hl
    | cons a h =>
      simp only [List.cons_append, List.cons.injEq] at e
      exact ⟨h, h2, by simpa using e.2, by simpa using hl⟩
  · exact At.cons o
@[simp] theorem At_skip (l H t : kA4) (n : Nat) : At (l ++ H) (l.length + n) t = At H n t := by
  apply propext
  constructor
  · rintro ⟨h, h2, e, hl⟩
    induction l generalizing h with
    | nil => exact ⟨h, h2, by simpa using e, by simpa using hl⟩
    | cons o l ih =>
      cases h with
      | nil => simp at hl; omega
      | cons a h =>
        simp only [List.cons_append, List.cons.injEq] at e
        exact ih h (by simpa using e.2) (by simp at hl; omega)
  · intro h
    rw [Nat.add_comm]
    exact At.skip l h
@[simp] theorem At_skipA (l H t : kA4) (m n : Nat) : At (l ++ H) (l.length + m + n) t = At H (m + n) t := by
  rw [Nat.add_assoc]
  exact At_skip l H t (m + n)
@[simp] theorem At_skipB (l H t : kA4) (m n k : Nat) : At (l ++ H) (l.length + m + n + k) t = At H (m + n + k) t := by
  rw [Nat.add_assoc, Nat.add_assoc, ← Nat.add_assoc m]
  exact At_skip l H t (m + n + k)
@[simp] theorem At_one (o : AObj) (H t : kA4) (n : Nat) : At (o :: H) (1 + n) t = At H n t := by
  rw [Nat.add_comm]
  exact At_cons o H t n
@[simp] theorem At_oneA (o : AObj) (H t : kA4) (n m : Nat) : At (o :: H) (1 + n + m) t = At H (n + m) t := by
  rw [Nat.add_assoc]
  exact At_one o H t (n + m)
@[simp] theorem At_skip0 (l H t : kA4) : At (l ++ H) l.length t = At H 0 t := At_skip l H t 0
@[simp] theorem At_cons0 (o : AObj) (H t : kA4) : At (o :: H) 1 t = At H 0 t := At_cons o H t 0
@[simp] theorem At_cons1 (o : AObj) (H t : kA4) : At (o :: H) 2 t = At H 1 t := At_cons o H t 1
@[simp] theorem At_cons2 (o : AObj) (H t : kA4) : At (o :: H) 3 t = At H 2 t := At_cons o H t 2
@[simp] theorem At_cons3 (o : AObj) (H t : kA4) : At (o :: H) 4 t = At H 3 t := At_cons o H t 3
@[simp] theorem At_cons4 (o : AObj) (H t : kA4) : At (o :: H) 5 t = At H 4 t := At_cons o H t 4
@[simp] theorem get_skip {α : Type} (l H : List α) (n : Nat) : (l ++ H)[l.length + n]? = H[n]? := by
  rw [List.getElem?_append_right (by omega)]
  congr 1
  omega
@[simp] theorem get_skipA {α : Type} (l H : List α) (m n : Nat) : (l ++ H)[l.length + m + n]? = H[m + n]? := by
  rw [Nat.add_assoc]
  exact get_skip l H (m + n)
@[simp] theorem get_skipB {α : Type} (l H : List α) (m n k : Nat) : (l ++ H)[l.length + m + n + k]? = H[m + n + k]? := by
  rw [Nat.add_assoc, Nat.add_assoc, ← Nat.add_assoc m]
  exact get_skip l H (m + n + k)
@[simp] theorem get_one {α : Type} (o : α) (H : List α) (n : Nat) : (o :: H)[1 + n]? = H[n]? := by
  rw [Nat.add_comm]
  rfl
@[simp] theorem get_oneA {α : Type} (o : α) (H : List α) (n m : Nat) : (o :: H)[1 + n + m]? = H[n + m]? := by
  rw [Nat.add_assoc]
  exact get_one o H (n + m)
@[simp] theorem get_skip0 {α : Type} (l H : List α) : (l ++ H)[l.length]? = H[0]? := get_skip l H 0
@[simp] theorem set_skip {α : Type} (l H : List α) (n : Nat) (x : α) : (l ++ H).set (l.length + n) x = l ++ H.set n x := by
  rw [List.set_append_right _ _ (by omega)]
  congr 2
  omega
@[simp] theorem set_skipA {α : Type} (l H : List α) (m n : Nat) (x : α) : (l ++ H).set (l.length + m + n) x = l ++ H.set (m + n) x := by
  rw [Nat.add_assoc]
  exact set_skip l H (m + n) x
@[simp] theorem set_skipB {α : Type} (l H : List α) (m n k : Nat) (x : α) : (l ++ H).set (l.length + m + n + k) x = l ++ H.set (m + n + k) x := by
  rw [Nat.add_assoc, Nat.add_assoc, ← Nat.add_assoc m]
  exact set_skip l H (m + n + k) x
@[simp] theorem set_one {α : Type} (o : α) (H : List α) (n : Nat) (x : α) : (o :: H).set (1 + n) x = o :: H.set n x := by
  rw [Nat.add_comm]
  rfl
@[simp] theorem set_oneA {α : Type} (o : α) (H : List α) (n m : Nat) (x : α) : (o :: H).set (1 + n + m) x = o :: H.set (n + m) x := by
  rw [Nat.add_assoc]
  exact set_one o H (n + m) x
@[simp] theorem set_skip0 {α : Type} (l H : List α) (x : α) : (l ++ H).set l.length x = l ++ H.set 0 x := set_skip l H 0 x
structure Pt (A : Type) where
  tab : List A
  i : Nat
def Pt.enc {A : Type} [Row A] (p : Pt A) : AV := .fptr (Row.w A) (p.tab.map Row.cells) p.i 0
def Pt.dec {A : Type} [Row A] : AV → Option (Pt A)
  | .fptr k rows i 0 => if k = Row.w A then match kBb (Row.uncells (A := A)) rows with
    | some l => some ⟨l, i⟩
    | none => none else none
  | _ => none
instance {A : Type} [Row A] : Cod (Pt A) where
  enc := Pt.enc
  dec := Pt.dec
  de p := by simp [Pt.enc, Pt.dec, omap_un]
  ed x p h := by
    unfold Pt.dec at h
    split at h
    · split at h
      · split at h
        · rename_i l hl
          cases h
          rename_i hk _
          subst hk
          rw [omap_nu _ _ hl]
          rfl
        · cases h
      · cases h
    · cases h
@[simp] theorem enc_pt {A : Type} [Row A] (p : Pt A) : Cod.enc p = .fptr (Row.w A) (p.tab.map Row.cells) p.i 0 := rfl
@[simp] theorem snapD_fptr {A : Type} [Row A] (h : kA4) (k i : Nat) (l : List A) (hk : k = Row.w A) : snapD h (.fptr k (l.map Row.cells) i 0) = some (⟨l, i⟩ : Pt A) := by
  subst hk
  exact Cod.de (⟨l, i⟩ : Pt A)
theorem load_fptr {A : Type} [Row A] (g : Bool) (n k i j : Nat) (l : List A) (h : kA4) : kAc g n (.fptr k (l.map Row.cells) i j) h = kA0 l[i]? fun a => cut g n ((Row.cells a).drop j) := by
  simp only [kAc, List.getElem?_map]
  cases l[i]? <;> rfl
structure Ref (A : Type) where
  val : A
def Ref.enc {A : Type} [Row A] (p : Ref A) : AV := .fptr (Row.w A) [Row.cells p.val] 0 0
def Ref.dec {A : Type} [Row A] : AV → Option (Ref A)
  | .fptr k [row] 0 0 => if k = Row.w A then match Row.uncells row with
    | some a => some ⟨a⟩
    | none => none else none
  | _ => none
instance {A : Type} [Row A] : Cod (Ref A) where
  enc := Ref.enc
  dec := Ref.dec
  de p := by simp [Ref.enc, Ref.dec, Row.un]
  ed x p h := by
    unfold Ref.dec at h
    split at h
    · split at h
      · split at h
        · rename_i l hl
          cases h
          rename_i hk _
          subst hk
          rw [Row.nu _ _ hl]
          rfl
        · cases h
      · cases h
    · cases h
@[simp] theorem enc_ref {A : Type} [Row A] (p : Ref A) : Cod.enc p = .fptr (Row.w A) [Row.cells p.val] 0 0 := rfl
@[simp] theorem nil_fptr (k : Nat) (rows : List (List AV)) (i j : Nat) : kBy (.fptr k rows i j) = some (.fptr k rows i j) := rfl
@[simp] theorem nil_ptr (k o i j : Nat) : kBy (.ptr k o i j) = some (.ptr k o i j) := rfl
structure Ix {A : Type} (l : List A) (i : Nat) : Prop where
  lt : i < l.length
  idx : Eng.idx (iv (i : Int)) l.length = some i
  wr : wr ((i : Int) + 1) = (i : Int) + 1
  ltI : (i : Int) < (l.length : Nat)
structure Clo0 (g : Nat) where
instance (g : Nat) : Cod (Clo0 g) where
  enc _ := .fn g []
  dec
    | .fn g' [] => if g' = g then some ⟨⟩ else none
    | _ => none
  de _ := by simp
  ed x a h := by
    split at h
    · split at h
      · rename_i e; rw [e]
      · cases h
    · cases h
structure Clo (g : Nat) (C : Type) where
  val : C
instance (g : Nat) (C : Type) [Cod C] : Cod (Clo g C) where
  enc c := .fn g [enc c.val]
  dec
    | .fn g' [x] => if g' = g then (match (dec x : Option C) with | some c => some ⟨c⟩ | none => none) else none
    | _ => none
  de c := by simp [Cod.de]
  ed x a h := by
    split at h
    · split at h
      · split at h
        · rename_i e _ c hc
          cases h
          rw [e, Cod.ed _ _ hc]
        · cases h
      · cases h
    · cases h
@[simp] theorem enc_clo0 (g : Nat) (c : Clo0 g) : enc c = .fn g [] := rfl
@[simp] theorem enc_clo (g : Nat) (C : Type) [Cod C] (c : Clo g C) : enc c = .fn g [enc c.val] := rfl
@[simp] theorem snapD_clo0 (h : kA4) (g : Nat) : snapD h (.fn g []) = some (⟨⟩ : Clo0 g) := by
  have : snap h depth (.fn g []) = some (.fn g []) := rfl
  unfold snapD
  rw [this]
  exact Cod.de (⟨⟩ : Clo0 g)
@[simp] theorem nv_box (b : Box) : Elem.nv b = nag b := rfl
@[simp] theorem nv_spot (b : Spot) : Elem.nv b = nag b := rfl
@[simp] theorem nv_frac (b : Frac) : Elem.nv b = nag b := rfl
class Same (A : Type) [Row A] [Tre A] [Wt A] : Prop where
  wn : ∀ a : A, Wt.wt (Tre.norm a) = Wt.wt a
instance : Same Int := ⟨fun _ => rfl⟩
instance : Same Bool := ⟨fun _ => rfl⟩
instance : Same ByteArray := ⟨fun _ => rfl⟩
instance : Same Box := ⟨fun _ => rfl⟩
instance : Same Spot := ⟨fun _ => rfl⟩
instance : Same Frac := ⟨fun _ => rfl⟩
instance {A : Type} [Row A] [Tre A] [Wt A] [Same A] : Same (Sl A) := ⟨fun q => by
  rw [norm_sl, wt_sl, wt_sl]
  simp only [Option.getD_some, List.length_map, List.map_map]
  congr 2
  exact List.map_congr_left fun a _ => Same.wn a⟩
instance : Same Point := ⟨fun _ => rfl⟩
instance : Same Note := ⟨fun _ => rfl⟩
instance : Same Pair := ⟨fun _ => rfl⟩
instance : Same Symbol := ⟨fun _ => rfl⟩
instance : Same Stroke := ⟨fun a => by simp [norm_Stroke, wt_Stroke, Same.wn]⟩
instance : Same Line := ⟨fun a => by simp [norm_Line, wt_Line, Same.wn]⟩
end Go.Eng
