/-
  THE ENGINE, PART 24: typed contracts. Printed by a program of mine (cod.py).
-/
import Derived.Test.YtbamachgomdjkaaDoorEngSimp
namespace Go.Eng
set_option linter.unusedVariables false
set_option linter.unusedSimpArgs false

/-- A type whose values are told as abstract values. -/
class Cod (A : Type) where
  enc : A → AV
  dec : AV → Option A
  de : ∀ a, dec (enc a) = some a
  ed : ∀ x a, dec x = some a → x = enc a
open Cod (enc dec)

/-- .. that a function may hand out: without memory. -/
class CodR (A : Type) extends Cod A where
  plain : ∀ a : A, plainR (enc a) = true

instance : CodR Int where
  enc := iv
  dec | .sc (.int .i64 n) => some n | _ => none
  de _ := rfl
  ed x a h := by
    split at h
    · cases h; rfl
    · cases h
  plain _ := rfl
instance : CodR Bool where
  enc := bv
  dec | .sc (.bool b) => some b | _ => none
  de _ := rfl
  ed x a h := by
    split at h
    · cases h; rfl
    · cases h
  plain _ := rfl
instance : CodR ByteArray where
  enc := sv
  dec | .sc (.string b) => some b | _ => none
  de _ := rfl
  ed x a h := by
    split at h
    · cases h; rfl
    · cases h
  plain _ := rfl
@[simp] theorem enc_int (n : Int) : enc n = iv n := rfl
@[simp] theorem enc_bool (n : Bool) : enc n = bv n := rfl
@[simp] theorem enc_str (n : ByteArray) : enc n = sv n := rfl

/-- What a value is behind a snapshot. -/
def snapD {A : Type} [Cod A] (h : Heap) (x : AV) : Option A := obind (snap h depth x) dec
@[simp] theorem snapD_int (h : Heap) (n : Int) : snapD h (iv n) = some n := rfl
@[simp] theorem snapD_bool (h : Heap) (n : Bool) : snapD h (bv n) = some n := rfl
@[simp] theorem snapD_str (h : Heap) (n : ByteArray) : snapD h (sv n) = some n := rfl

theorem omap_cons {α β : Type} (f : α → Option β) (a : α) (l : List α) : omap f (a :: l) = obind (f a) fun b => obind (omap f l) fun bs => some (b :: bs) := by
  simp only [omap]
  cases f a with
  | none => rfl
  | some b => cases omap f l <;> rfl

theorem obind_assoc {α β γ : Type} (x : Option α) (f : α → Option β) (g : β → Option γ) : obind (obind x f) g = obind x fun a => obind (f a) g := by cases x <;> rfl
theorem obind_zz {α β : Type} (x : Option α) : obind x (fun _ => (none : Option β)) = none := by cases x <;> rfl

/-- What a call hands back. -/
def hand (r : AV) (ok : Bool) (h : Heap) : Option (AV × Heap) := if (noF depth r || ok) = true then some ((mat depth r h.length).1, h ++ (mat depth r h.length).2) else none

theorem hand_plain {r : AV} (hr : plainR r = true) (ok : Bool) (h : Heap) : hand r ok h = some (r, h) := by
  obtain ⟨h2, h3⟩ := mat_plain hr h.length
  unfold hand
  simp only [h3, Bool.true_or, if_true, h2, List.append_nil]

theorem aCallPure_eq (f : List AV → Option AV) (args : List AV) (h : Heap) : aCallPure f args h = obind (omap (snap h depth) args) fun ds => obind (f ds) fun r => hand r (args.all (noRef depth)) h := by
  unfold aCallPure hand
  cases omap (snap h depth) args with
  | none => rfl
  | some ds => simp only [obind]; cases f ds <;> rfl

/-- The contract of a function of 0 arguments. -/
def R0   (f : Option AV) : List AV → Option AV
  | [] => f
  | _ => none
theorem pureR0 {P : Program} {env : Nat → Contract} (henv : EnvOK P env) (hm : P.follows .mixedOrders = true) {g : Nat} (hb : HasBody P g)   {f : Option AV}
    (hF : ∀  r, f = some r → ∃ r' h', denFn P env g [] [] = some (r', h') ∧ release h' depth r' = some r) : PureOK P g (R0 f) :=
  pure_of_den henv hm hb (by
    intro ds r hr
    unfold R0 at hr
    split at hr
    · skip
      exact hF  r hr
    · cases hr)
def T0  {Z : Type}  [CodR Z] (f : Z) : List AV → Option AV := R0 (some (enc (f)))
theorem pureT0 {P : Program} {env : Nat → Contract} (henv : EnvOK P env) (hm : P.follows .mixedOrders = true) {g : Nat} (hb : HasBody P g)  {Z : Type}  [CodR Z] {f : Z}
    (hF : (denFn P env g [] []).map Prod.fst = some (enc (f))) : PureOK P g (T0 f) :=
  pureR0 henv hm hb fun r hr => by
    obtain ⟨⟨r', h'⟩, e, e2⟩ := Option.map_eq_some_iff.1 (hF )
    cases hr
    simp only at e2
    subst e2
    exact ⟨_, h', e, release_plain (CodR.plain _) h'⟩
theorem R0_enc   (f : Option AV) : R0 f [] = f := by simp [R0]
theorem T0_enc  {Z : Type}  [CodR Z] (f : Z) : T0 f [] = some (enc (f)) := R0_enc _ 
@[simp] theorem callR0   (f : Option AV) (h : Heap) : aCallPure (R0 f) [] h = obind (f) fun r => hand r ([].all (noRef depth)) h := by
  rw [aCallPure_eq]
  rfl
@[simp] theorem callT0  {Z : Type}  [CodR Z] (f : Z) (h : Heap) : aCallPure (T0 f) [] h = some (enc (f), h) := by
  unfold T0
  rw [callR0]
  exact hand_plain (CodR.plain _) _ _
/-- The contract of a function of 1 arguments. -/
def R1 {A : Type} [Cod A] (f : A → Option AV) : List AV → Option AV
  | [x0] => obind (dec x0) fun a0 => f a0
  | _ => none
theorem pureR1 {P : Program} {env : Nat → Contract} (henv : EnvOK P env) (hm : P.follows .mixedOrders = true) {g : Nat} (hb : HasBody P g) {A : Type} [Cod A] {f : A → Option AV}
    (hF : ∀ (a0 : A) r, f a0 = some r → ∃ r' h', denFn P env g [enc a0] [] = some (r', h') ∧ release h' depth r' = some r) : PureOK P g (R1 f) :=
  pure_of_den henv hm hb (by
    intro ds r hr
    unfold R1 at hr
    split at hr
    · rename_i x0
      cases e_x0 : (dec x0 : Option A) with
      | none => rw [e_x0] at hr; cases hr
      | some a0 =>
        rw [e_x0] at hr
        have q_x0 := Cod.ed x0 a0 e_x0
        subst q_x0
        exact hF a0 r hr
    · cases hr)
def T1 {A : Type} {Z : Type} [Cod A] [CodR Z] (f : A → Z) : List AV → Option AV := R1 (fun a0 => some (enc (f a0)))
theorem pureT1 {P : Program} {env : Nat → Contract} (henv : EnvOK P env) (hm : P.follows .mixedOrders = true) {g : Nat} (hb : HasBody P g) {A : Type} {Z : Type} [Cod A] [CodR Z] {f : A → Z}
    (hF : ∀ (a0 : A), (denFn P env g [enc a0] []).map Prod.fst = some (enc (f a0))) : PureOK P g (T1 f) :=
  pureR1 henv hm hb fun a0 r hr => by
    obtain ⟨⟨r', h'⟩, e, e2⟩ := Option.map_eq_some_iff.1 (hF a0)
    cases hr
    simp only at e2
    subst e2
    exact ⟨_, h', e, release_plain (CodR.plain _) h'⟩
theorem R1_enc {A : Type} [Cod A] (f : A → Option AV) (a0 : A) : R1 f [enc a0] = f a0 := by simp [R1, Cod.de]
theorem T1_enc {A : Type} {Z : Type} [Cod A] [CodR Z] (f : A → Z) (a0 : A) : T1 f [enc a0] = some (enc (f a0)) := R1_enc _ _
@[simp] theorem callR1 {A : Type} [Cod A] (f : A → Option AV) (x0 : AV) (h : Heap) : aCallPure (R1 f) [x0] h = obind (snapD h x0) fun a0 => obind (f a0) fun r => hand r ([x0].all (noRef depth)) h := by
  rw [aCallPure_eq]
  simp only [omap_cons, snapD, show ∀ f : AV → Option AV, omap f [] = some [] from fun _ => rfl]
  cases snap h depth x0 with
  | none => first | rfl | simp only [obind_sm, obind_none, obind_zz]
  | some s_x0 =>
  simp only [obind_sm, R1, obind_assoc]
@[simp] theorem callT1 {A : Type} {Z : Type} [Cod A] [CodR Z] (f : A → Z) (x0 : AV) (h : Heap) : aCallPure (T1 f) [x0] h = obind (snapD h x0) fun a0 => some (enc (f a0), h) := by
  unfold T1
  rw [callR1]
  simp only [obind_sm, hand_plain (CodR.plain _)]
/-- The contract of a function of 2 arguments. -/
def R2 {A : Type} {B : Type} [Cod A] [Cod B] (f : A → B → Option AV) : List AV → Option AV
  | [x0, x1] => obind (dec x0) fun a0 => obind (dec x1) fun a1 => f a0 a1
  | _ => none
theorem pureR2 {P : Program} {env : Nat → Contract} (henv : EnvOK P env) (hm : P.follows .mixedOrders = true) {g : Nat} (hb : HasBody P g) {A : Type} {B : Type} [Cod A] [Cod B] {f : A → B → Option AV}
    (hF : ∀ (a0 : A) (a1 : B) r, f a0 a1 = some r → ∃ r' h', denFn P env g [enc a0, enc a1] [] = some (r', h') ∧ release h' depth r' = some r) : PureOK P g (R2 f) :=
  pure_of_den henv hm hb (by
    intro ds r hr
    unfold R2 at hr
    split at hr
    · rename_i x0 x1
      cases e_x0 : (dec x0 : Option A) with
      | none => rw [e_x0] at hr; cases hr
      | some a0 =>
        rw [e_x0] at hr
        have q_x0 := Cod.ed x0 a0 e_x0
        cases e_x1 : (dec x1 : Option B) with
        | none => rw [e_x1] at hr; cases hr
        | some a1 =>
          rw [e_x1] at hr
          have q_x1 := Cod.ed x1 a1 e_x1
          subst q_x0 q_x1
          exact hF a0 a1 r hr
    · cases hr)
def T2 {A : Type} {B : Type} {Z : Type} [Cod A] [Cod B] [CodR Z] (f : A → B → Z) : List AV → Option AV := R2 (fun a0 a1 => some (enc (f a0 a1)))
theorem pureT2 {P : Program} {env : Nat → Contract} (henv : EnvOK P env) (hm : P.follows .mixedOrders = true) {g : Nat} (hb : HasBody P g) {A : Type} {B : Type} {Z : Type} [Cod A] [Cod B] [CodR Z] {f : A → B → Z}
    (hF : ∀ (a0 : A) (a1 : B), (denFn P env g [enc a0, enc a1] []).map Prod.fst = some (enc (f a0 a1))) : PureOK P g (T2 f) :=
  pureR2 henv hm hb fun a0 a1 r hr => by
    obtain ⟨⟨r', h'⟩, e, e2⟩ := Option.map_eq_some_iff.1 (hF a0 a1)
    cases hr
    simp only at e2
    subst e2
    exact ⟨_, h', e, release_plain (CodR.plain _) h'⟩
theorem R2_enc {A : Type} {B : Type} [Cod A] [Cod B] (f : A → B → Option AV) (a0 : A) (a1 : B) : R2 f [enc a0, enc a1] = f a0 a1 := by simp [R2, Cod.de]
theorem T2_enc {A : Type} {B : Type} {Z : Type} [Cod A] [Cod B] [CodR Z] (f : A → B → Z) (a0 : A) (a1 : B) : T2 f [enc a0, enc a1] = some (enc (f a0 a1)) := R2_enc _ _ _
@[simp] theorem callR2 {A : Type} {B : Type} [Cod A] [Cod B] (f : A → B → Option AV) (x0 x1 : AV) (h : Heap) : aCallPure (R2 f) [x0, x1] h = obind (snapD h x0) fun a0 => obind (snapD h x1) fun a1 => obind (f a0 a1) fun r => hand r ([x0, x1].all (noRef depth)) h := by
  rw [aCallPure_eq]
  simp only [omap_cons, snapD, show ∀ f : AV → Option AV, omap f [] = some [] from fun _ => rfl]
  cases snap h depth x0 with
  | none => first | rfl | simp only [obind_sm, obind_none, obind_zz]
  | some s_x0 =>
  cases snap h depth x1 with
  | none => first | rfl | simp only [obind_sm, obind_none, obind_zz]
  | some s_x1 =>
  simp only [obind_sm, R2, obind_assoc]
@[simp] theorem callT2 {A : Type} {B : Type} {Z : Type} [Cod A] [Cod B] [CodR Z] (f : A → B → Z) (x0 x1 : AV) (h : Heap) : aCallPure (T2 f) [x0, x1] h = obind (snapD h x0) fun a0 => obind (snapD h x1) fun a1 => some (enc (f a0 a1), h) := by
  unfold T2
  rw [callR2]
  simp only [obind_sm, hand_plain (CodR.plain _)]
/-- The contract of a function of 3 arguments. -/
def R3 {A : Type} {B : Type} {C : Type} [Cod A] [Cod B] [Cod C] (f : A → B → C → Option AV) : List AV → Option AV
  | [x0, x1, x2] => obind (dec x0) fun a0 => obind (dec x1) fun a1 => obind (dec x2) fun a2 => f a0 a1 a2
  | _ => none
theorem pureR3 {P : Program} {env : Nat → Contract} (henv : EnvOK P env) (hm : P.follows .mixedOrders = true) {g : Nat} (hb : HasBody P g) {A : Type} {B : Type} {C : Type} [Cod A] [Cod B] [Cod C] {f : A → B → C → Option AV}
    (hF : ∀ (a0 : A) (a1 : B) (a2 : C) r, f a0 a1 a2 = some r → ∃ r' h', denFn P env g [enc a0, enc a1, enc a2] [] = some (r', h') ∧ release h' depth r' = some r) : PureOK P g (R3 f) :=
  pure_of_den henv hm hb (by
    intro ds r hr
    unfold R3 at hr
    split at hr
    · rename_i x0 x1 x2
      cases e_x0 : (dec x0 : Option A) with
      | none => rw [e_x0] at hr; cases hr
      | some a0 =>
        rw [e_x0] at hr
        have q_x0 := Cod.ed x0 a0 e_x0
        cases e_x1 : (dec x1 : Option B) with
        | none => rw [e_x1] at hr; cases hr
        | some a1 =>
          rw [e_x1] at hr
          have q_x1 := Cod.ed x1 a1 e_x1
          cases e_x2 : (dec x2 : Option C) with
          | none => rw [e_x2] at hr; cases hr
          | some a2 =>
            rw [e_x2] at hr
            have q_x2 := Cod.ed x2 a2 e_x2
            subst q_x0 q_x1 q_x2
            exact hF a0 a1 a2 r hr
    · cases hr)
def T3 {A : Type} {B : Type} {C : Type} {Z : Type} [Cod A] [Cod B] [Cod C] [CodR Z] (f : A → B → C → Z) : List AV → Option AV := R3 (fun a0 a1 a2 => some (enc (f a0 a1 a2)))
theorem pureT3 {P : Program} {env : Nat → Contract} (henv : EnvOK P env) (hm : P.follows .mixedOrders = true) {g : Nat} (hb : HasBody P g) {A : Type} {B : Type} {C : Type} {Z : Type} [Cod A] [Cod B] [Cod C] [CodR Z] {f : A → B → C → Z}
    (hF : ∀ (a0 : A) (a1 : B) (a2 : C), (denFn P env g [enc a0, enc a1, enc a2] []).map Prod.fst = some (enc (f a0 a1 a2))) : PureOK P g (T3 f) :=
  pureR3 henv hm hb fun a0 a1 a2 r hr => by
    obtain ⟨⟨r', h'⟩, e, e2⟩ := Option.map_eq_some_iff.1 (hF a0 a1 a2)
    cases hr
    simp only at e2
    subst e2
    exact ⟨_, h', e, release_plain (CodR.plain _) h'⟩
theorem R3_enc {A : Type} {B : Type} {C : Type} [Cod A] [Cod B] [Cod C] (f : A → B → C → Option AV) (a0 : A) (a1 : B) (a2 : C) : R3 f [enc a0, enc a1, enc a2] = f a0 a1 a2 := by simp [R3, Cod.de]
theorem T3_enc {A : Type} {B : Type} {C : Type} {Z : Type} [Cod A] [Cod B] [Cod C] [CodR Z] (f : A → B → C → Z) (a0 : A) (a1 : B) (a2 : C) : T3 f [enc a0, enc a1, enc a2] = some (enc (f a0 a1 a2)) := R3_enc _ _ _ _
@[simp] theorem callR3 {A : Type} {B : Type} {C : Type} [Cod A] [Cod B] [Cod C] (f : A → B → C → Option AV) (x0 x1 x2 : AV) (h : Heap) : aCallPure (R3 f) [x0, x1, x2] h = obind (snapD h x0) fun a0 => obind (snapD h x1) fun a1 => obind (snapD h x2) fun a2 => obind (f a0 a1 a2) fun r => hand r ([x0, x1, x2].all (noRef depth)) h := by
  rw [aCallPure_eq]
  simp only [omap_cons, snapD, show ∀ f : AV → Option AV, omap f [] = some [] from fun _ => rfl]
  cases snap h depth x0 with
  | none => first | rfl | simp only [obind_sm, obind_none, obind_zz]
  | some s_x0 =>
  cases snap h depth x1 with
  | none => first | rfl | simp only [obind_sm, obind_none, obind_zz]
  | some s_x1 =>
  cases snap h depth x2 with
  | none => first | rfl | simp only [obind_sm, obind_none, obind_zz]
  | some s_x2 =>
  simp only [obind_sm, R3, obind_assoc]
@[simp] theorem callT3 {A : Type} {B : Type} {C : Type} {Z : Type} [Cod A] [Cod B] [Cod C] [CodR Z] (f : A → B → C → Z) (x0 x1 x2 : AV) (h : Heap) : aCallPure (T3 f) [x0, x1, x2] h = obind (snapD h x0) fun a0 => obind (snapD h x1) fun a1 => obind (snapD h x2) fun a2 => some (enc (f a0 a1 a2), h) := by
  unfold T3
  rw [callR3]
  simp only [obind_sm, hand_plain (CodR.plain _)]
/-- The contract of a function of 4 arguments. -/
def R4 {A : Type} {B : Type} {C : Type} {D : Type} [Cod A] [Cod B] [Cod C] [Cod D] (f : A → B → C → D → Option AV) : List AV → Option AV
  | [x0, x1, x2, x3] => obind (dec x0) fun a0 => obind (dec x1) fun a1 => obind (dec x2) fun a2 => obind (dec x3) fun a3 => f a0 a1 a2 a3
  | _ => none
theorem pureR4 {P : Program} {env : Nat → Contract} (henv : EnvOK P env) (hm : P.follows .mixedOrders = true) {g : Nat} (hb : HasBody P g) {A : Type} {B : Type} {C : Type} {D : Type} [Cod A] [Cod B] [Cod C] [Cod D] {f : A → B → C → D → Option AV}
    (hF : ∀ (a0 : A) (a1 : B) (a2 : C) (a3 : D) r, f a0 a1 a2 a3 = some r → ∃ r' h', denFn P env g [enc a0, enc a1, enc a2, enc a3] [] = some (r', h') ∧ release h' depth r' = some r) : PureOK P g (R4 f) :=
  pure_of_den henv hm hb (by
    intro ds r hr
    unfold R4 at hr
    split at hr
    · rename_i x0 x1 x2 x3
      cases e_x0 : (dec x0 : Option A) with
      | none => rw [e_x0] at hr; cases hr
      | some a0 =>
        rw [e_x0] at hr
        have q_x0 := Cod.ed x0 a0 e_x0
        cases e_x1 : (dec x1 : Option B) with
        | none => rw [e_x1] at hr; cases hr
        | some a1 =>
          rw [e_x1] at hr
          have q_x1 := Cod.ed x1 a1 e_x1
          cases e_x2 : (dec x2 : Option C) with
          | none => rw [e_x2] at hr; cases hr
          | some a2 =>
            rw [e_x2] at hr
            have q_x2 := Cod.ed x2 a2 e_x2
            cases e_x3 : (dec x3 : Option D) with
            | none => rw [e_x3] at hr; cases hr
            | some a3 =>
              rw [e_x3] at hr
              have q_x3 := Cod.ed x3 a3 e_x3
              subst q_x0 q_x1 q_x2 q_x3
              exact hF a0 a1 a2 a3 r hr
    · cases hr)
def T4 {A : Type} {B : Type} {C : Type} {D : Type} {Z : Type} [Cod A] [Cod B] [Cod C] [Cod D] [CodR Z] (f : A → B → C → D → Z) : List AV → Option AV := R4 (fun a0 a1 a2 a3 => some (enc (f a0 a1 a2 a3)))
theorem pureT4 {P : Program} {env : Nat → Contract} (henv : EnvOK P env) (hm : P.follows .mixedOrders = true) {g : Nat} (hb : HasBody P g) {A : Type} {B : Type} {C : Type} {D : Type} {Z : Type} [Cod A] [Cod B] [Cod C] [Cod D] [CodR Z] {f : A → B → C → D → Z}
    (hF : ∀ (a0 : A) (a1 : B) (a2 : C) (a3 : D), (denFn P env g [enc a0, enc a1, enc a2, enc a3] []).map Prod.fst = some (enc (f a0 a1 a2 a3))) : PureOK P g (T4 f) :=
  pureR4 henv hm hb fun a0 a1 a2 a3 r hr => by
    obtain ⟨⟨r', h'⟩, e, e2⟩ := Option.map_eq_some_iff.1 (hF a0 a1 a2 a3)
    cases hr
    simp only at e2
    subst e2
    exact ⟨_, h', e, release_plain (CodR.plain _) h'⟩
theorem R4_enc {A : Type} {B : Type} {C : Type} {D : Type} [Cod A] [Cod B] [Cod C] [Cod D] (f : A → B → C → D → Option AV) (a0 : A) (a1 : B) (a2 : C) (a3 : D) : R4 f [enc a0, enc a1, enc a2, enc a3] = f a0 a1 a2 a3 := by simp [R4, Cod.de]
theorem T4_enc {A : Type} {B : Type} {C : Type} {D : Type} {Z : Type} [Cod A] [Cod B] [Cod C] [Cod D] [CodR Z] (f : A → B → C → D → Z) (a0 : A) (a1 : B) (a2 : C) (a3 : D) : T4 f [enc a0, enc a1, enc a2, enc a3] = some (enc (f a0 a1 a2 a3)) := R4_enc _ _ _ _ _
@[simp] theorem callR4 {A : Type} {B : Type} {C : Type} {D : Type} [Cod A] [Cod B] [Cod C] [Cod D] (f : A → B → C → D → Option AV) (x0 x1 x2 x3 : AV) (h : Heap) : aCallPure (R4 f) [x0, x1, x2, x3] h = obind (snapD h x0) fun a0 => obind (snapD h x1) fun a1 => obind (snapD h x2) fun a2 => obind (snapD h x3) fun a3 => obind (f a0 a1 a2 a3) fun r => hand r ([x0, x1, x2, x3].all (noRef depth)) h := by
  rw [aCallPure_eq]
  simp only [omap_cons, snapD, show ∀ f : AV → Option AV, omap f [] = some [] from fun _ => rfl]
  cases snap h depth x0 with
  | none => first | rfl | simp only [obind_sm, obind_none, obind_zz]
  | some s_x0 =>
  cases snap h depth x1 with
  | none => first | rfl | simp only [obind_sm, obind_none, obind_zz]
  | some s_x1 =>
  cases snap h depth x2 with
  | none => first | rfl | simp only [obind_sm, obind_none, obind_zz]
  | some s_x2 =>
  cases snap h depth x3 with
  | none => first | rfl | simp only [obind_sm, obind_none, obind_zz]
  | some s_x3 =>
  simp only [obind_sm, R4, obind_assoc]
@[simp] theorem callT4 {A : Type} {B : Type} {C : Type} {D : Type} {Z : Type} [Cod A] [Cod B] [Cod C] [Cod D] [CodR Z] (f : A → B → C → D → Z) (x0 x1 x2 x3 : AV) (h : Heap) : aCallPure (T4 f) [x0, x1, x2, x3] h = obind (snapD h x0) fun a0 => obind (snapD h x1) fun a1 => obind (snapD h x2) fun a2 => obind (snapD h x3) fun a3 => some (enc (f a0 a1 a2 a3), h) := by
  unfold T4
  rw [callR4]
  simp only [obind_sm, hand_plain (CodR.plain _)]
/-- The contract of a function of 5 arguments. -/
def R5 {A : Type} {B : Type} {C : Type} {D : Type} {E : Type} [Cod A] [Cod B] [Cod C] [Cod D] [Cod E] (f : A → B → C → D → E → Option AV) : List AV → Option AV
  | [x0, x1, x2, x3, x4] => obind (dec x0) fun a0 => obind (dec x1) fun a1 => obind (dec x2) fun a2 => obind (dec x3) fun a3 => obind (dec x4) fun a4 => f a0 a1 a2 a3 a4
  | _ => none
theorem pureR5 {P : Program} {env : Nat → Contract} (henv : EnvOK P env) (hm : P.follows .mixedOrders = true) {g : Nat} (hb : HasBody P g) {A : Type} {B : Type} {C : Type} {D : Type} {E : Type} [Cod A] [Cod B] [Cod C] [Cod D] [Cod E] {f : A → B → C → D → E → Option AV}
    (hF : ∀ (a0 : A) (a1 : B) (a2 : C) (a3 : D) (a4 : E) r, f a0 a1 a2 a3 a4 = some r → ∃ r' h', denFn P env g [enc a0, enc a1, enc a2, enc a3, enc a4] [] = some (r', h') ∧ release h' depth r' = some r) : PureOK P g (R5 f) :=
  pure_of_den henv hm hb (by
    intro ds r hr
    unfold R5 at hr
    split at hr
    · rename_i x0 x1 x2 x3 x4
      cases e_x0 : (dec x0 : Option A) with
      | none => rw [e_x0] at hr; cases hr
      | some a0 =>
        rw [e_x0] at hr
        have q_x0 := Cod.ed x0 a0 e_x0
        cases e_x1 : (dec x1 : Option B) with
        | none => rw [e_x1] at hr; cases hr
        | some a1 =>
          rw [e_x1] at hr
          have q_x1 := Cod.ed x1 a1 e_x1
          cases e_x2 : (dec x2 : Option C) with
          | none => rw [e_x2] at hr; cases hr
          | some a2 =>
            rw [e_x2] at hr
            have q_x2 := Cod.ed x2 a2 e_x2
            cases e_x3 : (dec x3 : Option D) with
            | none => rw [e_x3] at hr; cases hr
            | some a3 =>
              rw [e_x3] at hr
              have q_x3 := Cod.ed x3 a3 e_x3
              cases e_x4 : (dec x4 : Option E) with
              | none => rw [e_x4] at hr; cases hr
              | some a4 =>
                rw [e_x4] at hr
                have q_x4 := Cod.ed x4 a4 e_x4
                subst q_x0 q_x1 q_x2 q_x3 q_x4
                exact hF a0 a1 a2 a3 a4 r hr
    · cases hr)
def T5 {A : Type} {B : Type} {C : Type} {D : Type} {E : Type} {Z : Type} [Cod A] [Cod B] [Cod C] [Cod D] [Cod E] [CodR Z] (f : A → B → C → D → E → Z) : List AV → Option AV := R5 (fun a0 a1 a2 a3 a4 => some (enc (f a0 a1 a2 a3 a4)))
theorem pureT5 {P : Program} {env : Nat → Contract} (henv : EnvOK P env) (hm : P.follows .mixedOrders = true) {g : Nat} (hb : HasBody P g) {A : Type} {B : Type} {C : Type} {D : Type} {E : Type} {Z : Type} [Cod A] [Cod B] [Cod C] [Cod D] [Cod E] [CodR Z] {f : A → B → C → D → E → Z}
    (hF : ∀ (a0 : A) (a1 : B) (a2 : C) (a3 : D) (a4 : E), (denFn P env g [enc a0, enc a1, enc a2, enc a3, enc a4] []).map Prod.fst = some (enc (f a0 a1 a2 a3 a4))) : PureOK P g (T5 f) :=
  pureR5 henv hm hb fun a0 a1 a2 a3 a4 r hr => by
    obtain ⟨⟨r', h'⟩, e, e2⟩ := Option.map_eq_some_iff.1 (hF a0 a1 a2 a3 a4)
    cases hr
    simp only at e2
    subst e2
    exact ⟨_, h', e, release_plain (CodR.plain _) h'⟩
theorem R5_enc {A : Type} {B : Type} {C : Type} {D : Type} {E : Type} [Cod A] [Cod B] [Cod C] [Cod D] [Cod E] (f : A → B → C → D → E → Option AV) (a0 : A) (a1 : B) (a2 : C) (a3 : D) (a4 : E) : R5 f [enc a0, enc a1, enc a2, enc a3, enc a4] = f a0 a1 a2 a3 a4 := by simp [R5, Cod.de]
theorem T5_enc {A : Type} {B : Type} {C : Type} {D : Type} {E : Type} {Z : Type} [Cod A] [Cod B] [Cod C] [Cod D] [Cod E] [CodR Z] (f : A → B → C → D → E → Z) (a0 : A) (a1 : B) (a2 : C) (a3 : D) (a4 : E) : T5 f [enc a0, enc a1, enc a2, enc a3, enc a4] = some (enc (f a0 a1 a2 a3 a4)) := R5_enc _ _ _ _ _ _
@[simp] theorem callR5 {A : Type} {B : Type} {C : Type} {D : Type} {E : Type} [Cod A] [Cod B] [Cod C] [Cod D] [Cod E] (f : A → B → C → D → E → Option AV) (x0 x1 x2 x3 x4 : AV) (h : Heap) : aCallPure (R5 f) [x0, x1, x2, x3, x4] h = obind (snapD h x0) fun a0 => obind (snapD h x1) fun a1 => obind (snapD h x2) fun a2 => obind (snapD h x3) fun a3 => obind (snapD h x4) fun a4 => obind (f a0 a1 a2 a3 a4) fun r => hand r ([x0, x1, x2, x3, x4].all (noRef depth)) h := by
  rw [aCallPure_eq]
  simp only [omap_cons, snapD, show ∀ f : AV → Option AV, omap f [] = some [] from fun _ => rfl]
  cases snap h depth x0 with
  | none => first | rfl | simp only [obind_sm, obind_none, obind_zz]
  | some s_x0 =>
  cases snap h depth x1 with
  | none => first | rfl | simp only [obind_sm, obind_none, obind_zz]
  | some s_x1 =>
  cases snap h depth x2 with
  | none => first | rfl | simp only [obind_sm, obind_none, obind_zz]
  | some s_x2 =>
  cases snap h depth x3 with
  | none => first | rfl | simp only [obind_sm, obind_none, obind_zz]
  | some s_x3 =>
  cases snap h depth x4 with
  | none => first | rfl | simp only [obind_sm, obind_none, obind_zz]
  | some s_x4 =>
  simp only [obind_sm, R5, obind_assoc]
@[simp] theorem callT5 {A : Type} {B : Type} {C : Type} {D : Type} {E : Type} {Z : Type} [Cod A] [Cod B] [Cod C] [Cod D] [Cod E] [CodR Z] (f : A → B → C → D → E → Z) (x0 x1 x2 x3 x4 : AV) (h : Heap) : aCallPure (T5 f) [x0, x1, x2, x3, x4] h = obind (snapD h x0) fun a0 => obind (snapD h x1) fun a1 => obind (snapD h x2) fun a2 => obind (snapD h x3) fun a3 => obind (snapD h x4) fun a4 => some (enc (f a0 a1 a2 a3 a4), h) := by
  unfold T5
  rw [callR5]
  simp only [obind_sm, hand_plain (CodR.plain _)]
/-- The contract of a function of 6 arguments. -/
def R6 {A : Type} {B : Type} {C : Type} {D : Type} {E : Type} {F : Type} [Cod A] [Cod B] [Cod C] [Cod D] [Cod E] [Cod F] (f : A → B → C → D → E → F → Option AV) : List AV → Option AV
  | [x0, x1, x2, x3, x4, x5] => obind (dec x0) fun a0 => obind (dec x1) fun a1 => obind (dec x2) fun a2 => obind (dec x3) fun a3 => obind (dec x4) fun a4 => obind (dec x5) fun a5 => f a0 a1 a2 a3 a4 a5
  | _ => none
theorem pureR6 {P : Program} {env : Nat → Contract} (henv : EnvOK P env) (hm : P.follows .mixedOrders = true) {g : Nat} (hb : HasBody P g) {A : Type} {B : Type} {C : Type} {D : Type} {E : Type} {F : Type} [Cod A] [Cod B] [Cod C] [Cod D] [Cod E] [Cod F] {f : A → B → C → D → E → F → Option AV}
    (hF : ∀ (a0 : A) (a1 : B) (a2 : C) (a3 : D) (a4 : E) (a5 : F) r, f a0 a1 a2 a3 a4 a5 = some r → ∃ r' h', denFn P env g [enc a0, enc a1, enc a2, enc a3, enc a4, enc a5] [] = some (r', h') ∧ release h' depth r' = some r) : PureOK P g (R6 f) :=
  pure_of_den henv hm hb (by
    intro ds r hr
    unfold R6 at hr
    split at hr
    · rename_i x0 x1 x2 x3 x4 x5
      cases e_x0 : (dec x0 : Option A) with
      | none => rw [e_x0] at hr; cases hr
      | some a0 =>
        rw [e_x0] at hr
        have q_x0 := Cod.ed x0 a0 e_x0
        cases e_x1 : (dec x1 : Option B) with
        | none => rw [e_x1] at hr; cases hr
        | some a1 =>
          rw [e_x1] at hr
          have q_x1 := Cod.ed x1 a1 e_x1
          cases e_x2 : (dec x2 : Option C) with
          | none => rw [e_x2] at hr; cases hr
          | some a2 =>
            rw [e_x2] at hr
            have q_x2 := Cod.ed x2 a2 e_x2
            cases e_x3 : (dec x3 : Option D) with
            | none => rw [e_x3] at hr; cases hr
            | some a3 =>
              rw [e_x3] at hr
              have q_x3 := Cod.ed x3 a3 e_x3
              cases e_x4 : (dec x4 : Option E) with
              | none => rw [e_x4] at hr; cases hr
              | some a4 =>
                rw [e_x4] at hr
                have q_x4 := Cod.ed x4 a4 e_x4
                cases e_x5 : (dec x5 : Option F) with
                | none => rw [e_x5] at hr; cases hr
                | some a5 =>
                  rw [e_x5] at hr
                  have q_x5 := Cod.ed x5 a5 e_x5
                  subst q_x0 q_x1 q_x2 q_x3 q_x4 q_x5
                  exact hF a0 a1 a2 a3 a4 a5 r hr
    · cases hr)
def T6 {A : Type} {B : Type} {C : Type} {D : Type} {E : Type} {F : Type} {Z : Type} [Cod A] [Cod B] [Cod C] [Cod D] [Cod E] [Cod F] [CodR Z] (f : A → B → C → D → E → F → Z) : List AV → Option AV := R6 (fun a0 a1 a2 a3 a4 a5 => some (enc (f a0 a1 a2 a3 a4 a5)))
theorem pureT6 {P : Program} {env : Nat → Contract} (henv : EnvOK P env) (hm : P.follows .mixedOrders = true) {g : Nat} (hb : HasBody P g) {A : Type} {B : Type} {C : Type} {D : Type} {E : Type} {F : Type} {Z : Type} [Cod A] [Cod B] [Cod C] [Cod D] [Cod E] [Cod F] [CodR Z] {f : A → B → C → D → E → F → Z}
    (hF : ∀ (a0 : A) (a1 : B) (a2 : C) (a3 : D) (a4 : E) (a5 : F), (denFn P env g [enc a0, enc a1, enc a2, enc a3, enc a4, enc a5] []).map Prod.fst = some (enc (f a0 a1 a2 a3 a4 a5))) : PureOK P g (T6 f) :=
  pureR6 henv hm hb fun a0 a1 a2 a3 a4 a5 r hr => by
    obtain ⟨⟨r', h'⟩, e, e2⟩ := Option.map_eq_some_iff.1 (hF a0 a1 a2 a3 a4 a5)
    cases hr
    simp only at e2
    subst e2
    exact ⟨_, h', e, release_plain (CodR.plain _) h'⟩
theorem R6_enc {A : Type} {B : Type} {C : Type} {D : Type} {E : Type} {F : Type} [Cod A] [Cod B] [Cod C] [Cod D] [Cod E] [Cod F] (f : A → B → C → D → E → F → Option AV) (a0 : A) (a1 : B) (a2 : C) (a3 : D) (a4 : E) (a5 : F) : R6 f [enc a0, enc a1, enc a2, enc a3, enc a4, enc a5] = f a0 a1 a2 a3 a4 a5 := by simp [R6, Cod.de]
theorem T6_enc {A : Type} {B : Type} {C : Type} {D : Type} {E : Type} {F : Type} {Z : Type} [Cod A] [Cod B] [Cod C] [Cod D] [Cod E] [Cod F] [CodR Z] (f : A → B → C → D → E → F → Z) (a0 : A) (a1 : B) (a2 : C) (a3 : D) (a4 : E) (a5 : F) : T6 f [enc a0, enc a1, enc a2, enc a3, enc a4, enc a5] = some (enc (f a0 a1 a2 a3 a4 a5)) := R6_enc _ _ _ _ _ _ _
@[simp] theorem callR6 {A : Type} {B : Type} {C : Type} {D : Type} {E : Type} {F : Type} [Cod A] [Cod B] [Cod C] [Cod D] [Cod E] [Cod F] (f : A → B → C → D → E → F → Option AV) (x0 x1 x2 x3 x4 x5 : AV) (h : Heap) : aCallPure (R6 f) [x0, x1, x2, x3, x4, x5] h = obind (snapD h x0) fun a0 => obind (snapD h x1) fun a1 => obind (snapD h x2) fun a2 => obind (snapD h x3) fun a3 => obind (snapD h x4) fun a4 => obind (snapD h x5) fun a5 => obind (f a0 a1 a2 a3 a4 a5) fun r => hand r ([x0, x1, x2, x3, x4, x5].all (noRef depth)) h := by
  rw [aCallPure_eq]
  simp only [omap_cons, snapD, show ∀ f : AV → Option AV, omap f [] = some [] from fun _ => rfl]
  cases snap h depth x0 with
  | none => first | rfl | simp only [obind_sm, obind_none, obind_zz]
  | some s_x0 =>
  cases snap h depth x1 with
  | none => first | rfl | simp only [obind_sm, obind_none, obind_zz]
  | some s_x1 =>
  cases snap h depth x2 with
  | none => first | rfl | simp only [obind_sm, obind_none, obind_zz]
  | some s_x2 =>
  cases snap h depth x3 with
  | none => first | rfl | simp only [obind_sm, obind_none, obind_zz]
  | some s_x3 =>
  cases snap h depth x4 with
  | none => first | rfl | simp only [obind_sm, obind_none, obind_zz]
  | some s_x4 =>
  cases snap h depth x5 with
  | none => first | rfl | simp only [obind_sm, obind_none, obind_zz]
  | some s_x5 =>
  simp only [obind_sm, R6, obind_assoc]
@[simp] theorem callT6 {A : Type} {B : Type} {C : Type} {D : Type} {E : Type} {F : Type} {Z : Type} [Cod A] [Cod B] [Cod C] [Cod D] [Cod E] [Cod F] [CodR Z] (f : A → B → C → D → E → F → Z) (x0 x1 x2 x3 x4 x5 : AV) (h : Heap) : aCallPure (T6 f) [x0, x1, x2, x3, x4, x5] h = obind (snapD h x0) fun a0 => obind (snapD h x1) fun a1 => obind (snapD h x2) fun a2 => obind (snapD h x3) fun a3 => obind (snapD h x4) fun a4 => obind (snapD h x5) fun a5 => some (enc (f a0 a1 a2 a3 a4 a5), h) := by
  unfold T6
  rw [callR6]
  simp only [obind_sm, hand_plain (CodR.plain _)]
/-- The contract of a function of 7 arguments. -/
def R7 {A : Type} {B : Type} {C : Type} {D : Type} {E : Type} {F : Type} {G : Type} [Cod A] [Cod B] [Cod C] [Cod D] [Cod E] [Cod F] [Cod G] (f : A → B → C → D → E → F → G → Option AV) : List AV → Option AV
  | [x0, x1, x2, x3, x4, x5, x6] => obind (dec x0) fun a0 => obind (dec x1) fun a1 => obind (dec x2) fun a2 => obind (dec x3) fun a3 => obind (dec x4) fun a4 => obind (dec x5) fun a5 => obind (dec x6) fun a6 => f a0 a1 a2 a3 a4 a5 a6
  | _ => none
theorem pureR7 {P : Program} {env : Nat → Contract} (henv : EnvOK P env) (hm : P.follows .mixedOrders = true) {g : Nat} (hb : HasBody P g) {A : Type} {B : Type} {C : Type} {D : Type} {E : Type} {F : Type} {G : Type} [Cod A] [Cod B] [Cod C] [Cod D] [Cod E] [Cod F] [Cod G] {f : A → B → C → D → E → F → G → Option AV}
    (hF : ∀ (a0 : A) (a1 : B) (a2 : C) (a3 : D) (a4 : E) (a5 : F) (a6 : G) r, f a0 a1 a2 a3 a4 a5 a6 = some r → ∃ r' h', denFn P env g [enc a0, enc a1, enc a2, enc a3, enc a4, enc a5, enc a6] [] = some (r', h') ∧ release h' depth r' = some r) : PureOK P g (R7 f) :=
  pure_of_den henv hm hb (by
    intro ds r hr
    unfold R7 at hr
    split at hr
    · rename_i x0 x1 x2 x3 x4 x5 x6
      cases e_x0 : (dec x0 : Option A) with
      | none => rw [e_x0] at hr; cases hr
      | some a0 =>
        rw [e_x0] at hr
        have q_x0 := Cod.ed x0 a0 e_x0
        cases e_x1 : (dec x1 : Option B) with
        | none => rw [e_x1] at hr; cases hr
        | some a1 =>
          rw [e_x1] at hr
          have q_x1 := Cod.ed x1 a1 e_x1
          cases e_x2 : (dec x2 : Option C) with
          | none => rw [e_x2] at hr; cases hr
          | some a2 =>
            rw [e_x2] at hr
            have q_x2 := Cod.ed x2 a2 e_x2
            cases e_x3 : (dec x3 : Option D) with
            | none => rw [e_x3] at hr; cases hr
            | some a3 =>
              rw [e_x3] at hr
              have q_x3 := Cod.ed x3 a3 e_x3
              cases e_x4 : (dec x4 : Option E) with
              | none => rw [e_x4] at hr; cases hr
              | some a4 =>
                rw [e_x4] at hr
                have q_x4 := Cod.ed x4 a4 e_x4
                cases e_x5 : (dec x5 : Option F) with
                | none => rw [e_x5] at hr; cases hr
                | some a5 =>
                  rw [e_x5] at hr
                  have q_x5 := Cod.ed x5 a5 e_x5
                  cases e_x6 : (dec x6 : Option G) with
                  | none => rw [e_x6] at hr; cases hr
                  | some a6 =>
                    rw [e_x6] at hr
                    have q_x6 := Cod.ed x6 a6 e_x6
                    subst q_x0 q_x1 q_x2 q_x3 q_x4 q_x5 q_x6
                    exact hF a0 a1 a2 a3 a4 a5 a6 r hr
    · cases hr)
def T7 {A : Type} {B : Type} {C : Type} {D : Type} {E : Type} {F : Type} {G : Type} {Z : Type} [Cod A] [Cod B] [Cod C] [Cod D] [Cod E] [Cod F] [Cod G] [CodR Z] (f : A → B → C → D → E → F → G → Z) : List AV → Option AV := R7 (fun a0 a1 a2 a3 a4 a5 a6 => some (enc (f a0 a1 a2 a3 a4 a5 a6)))
theorem pureT7 {P : Program} {env : Nat → Contract} (henv : EnvOK P env) (hm : P.follows .mixedOrders = true) {g : Nat} (hb : HasBody P g) {A : Type} {B : Type} {C : Type} {D : Type} {E : Type} {F : Type} {G : Type} {Z : Type} [Cod A] [Cod B] [Cod C] [Cod D] [Cod E] [Cod F] [Cod G] [CodR Z] {f : A → B → C → D → E → F → G → Z}
    (hF : ∀ (a0 : A) (a1 : B) (a2 : C) (a3 : D) (a4 : E) (a5 : F) (a6 : G), (denFn P env g [enc a0, enc a1, enc a2, enc a3, enc a4, enc a5, enc a6] []).map Prod.fst = some (enc (f a0 a1 a2 a3 a4 a5 a6))) : PureOK P g (T7 f) :=
  pureR7 henv hm hb fun a0 a1 a2 a3 a4 a5 a6 r hr => by
    obtain ⟨⟨r', h'⟩, e, e2⟩ := Option.map_eq_some_iff.1 (hF a0 a1 a2 a3 a4 a5 a6)
    cases hr
    simp only at e2
    subst e2
    exact ⟨_, h', e, release_plain (CodR.plain _) h'⟩
theorem R7_enc {A : Type} {B : Type} {C : Type} {D : Type} {E : Type} {F : Type} {G : Type} [Cod A] [Cod B] [Cod C] [Cod D] [Cod E] [Cod F] [Cod G] (f : A → B → C → D → E → F → G → Option AV) (a0 : A) (a1 : B) (a2 : C) (a3 : D) (a4 : E) (a5 : F) (a6 : G) : R7 f [enc a0, enc a1, enc a2, enc a3, enc a4, enc a5, enc a6] = f a0 a1 a2 a3 a4 a5 a6 := by simp [R7, Cod.de]
theorem T7_enc {A : Type} {B : Type} {C : Type} {D : Type} {E : Type} {F : Type} {G : Type} {Z : Type} [Cod A] [Cod B] [Cod C] [Cod D] [Cod E] [Cod F] [Cod G] [CodR Z] (f : A → B → C → D → E → F → G → Z) (a0 : A) (a1 : B) (a2 : C) (a3 : D) (a4 : E) (a5 : F) (a6 : G) : T7 f [enc a0, enc a1, enc a2, enc a3, enc a4, enc a5, enc a6] = some (enc (f a0 a1 a2 a3 a4 a5 a6)) := R7_enc _ _ _ _ _ _ _ _
@[simp] theorem callR7 {A : Type} {B : Type} {C : Type} {D : Type} {E : Type} {F : Type} {G : Type} [Cod A] [Cod B] [Cod C] [Cod D] [Cod E] [Cod F] [Cod G] (f : A → B → C → D → E → F → G → Option AV) (x0 x1 x2 x3 x4 x5 x6 : AV) (h : Heap) : aCallPure (R7 f) [x0, x1, x2, x3, x4, x5, x6] h = obind (snapD h x0) fun a0 => obind (snapD h x1) fun a1 => obind (snapD h x2) fun a2 => obind (snapD h x3) fun a3 => obind (snapD h x4) fun a4 => obind (snapD h x5) fun a5 => obind (snapD h x6) fun a6 => obind (f a0 a1 a2 a3 a4 a5 a6) fun r => hand r ([x0, x1, x2, x3, x4, x5, x6].all (noRef depth)) h := by
  rw [aCallPure_eq]
  simp only [omap_cons, snapD, show ∀ f : AV → Option AV, omap f [] = some [] from fun _ => rfl]
  cases snap h depth x0 with
  | none => first | rfl | simp only [obind_sm, obind_none, obind_zz]
  | some s_x0 =>
  cases snap h depth x1 with
  | none => first | rfl | simp only [obind_sm, obind_none, obind_zz]
  | some s_x1 =>
  cases snap h depth x2 with
  | none => first | rfl | simp only [obind_sm, obind_none, obind_zz]
  | some s_x2 =>
  cases snap h depth x3 with
  | none => first | rfl | simp only [obind_sm, obind_none, obind_zz]
  | some s_x3 =>
  cases snap h depth x4 with
  | none => first | rfl | simp only [obind_sm, obind_none, obind_zz]
  | some s_x4 =>
  cases snap h depth x5 with
  | none => first | rfl | simp only [obind_sm, obind_none, obind_zz]
  | some s_x5 =>
  cases snap h depth x6 with
  | none => first | rfl | simp only [obind_sm, obind_none, obind_zz]
  | some s_x6 =>
  simp only [obind_sm, R7, obind_assoc]
@[simp] theorem callT7 {A : Type} {B : Type} {C : Type} {D : Type} {E : Type} {F : Type} {G : Type} {Z : Type} [Cod A] [Cod B] [Cod C] [Cod D] [Cod E] [Cod F] [Cod G] [CodR Z] (f : A → B → C → D → E → F → G → Z) (x0 x1 x2 x3 x4 x5 x6 : AV) (h : Heap) : aCallPure (T7 f) [x0, x1, x2, x3, x4, x5, x6] h = obind (snapD h x0) fun a0 => obind (snapD h x1) fun a1 => obind (snapD h x2) fun a2 => obind (snapD h x3) fun a3 => obind (snapD h x4) fun a4 => obind (snapD h x5) fun a5 => obind (snapD h x6) fun a6 => some (enc (f a0 a1 a2 a3 a4 a5 a6), h) := by
  unfold T7
  rw [callR7]
  simp only [obind_sm, hand_plain (CodR.plain _)]
/-- The contract of a function of 8 arguments. -/
def R8 {A : Type} {B : Type} {C : Type} {D : Type} {E : Type} {F : Type} {G : Type} {H : Type} [Cod A] [Cod B] [Cod C] [Cod D] [Cod E] [Cod F] [Cod G] [Cod H] (f : A → B → C → D → E → F → G → H → Option AV) : List AV → Option AV
  | [x0, x1, x2, x3, x4, x5, x6, x7] => obind (dec x0) fun a0 => obind (dec x1) fun a1 => obind (dec x2) fun a2 => obind (dec x3) fun a3 => obind (dec x4) fun a4 => obind (dec x5) fun a5 => obind (dec x6) fun a6 => obind (dec x7) fun a7 => f a0 a1 a2 a3 a4 a5 a6 a7
  | _ => none
theorem pureR8 {P : Program} {env : Nat → Contract} (henv : EnvOK P env) (hm : P.follows .mixedOrders = true) {g : Nat} (hb : HasBody P g) {A : Type} {B : Type} {C : Type} {D : Type} {E : Type} {F : Type} {G : Type} {H : Type} [Cod A] [Cod B] [Cod C] [Cod D] [Cod E] [Cod F] [Cod G] [Cod H] {f : A → B → C → D → E → F → G → H → Option AV}
    (hF : ∀ (a0 : A) (a1 : B) (a2 : C) (a3 : D) (a4 : E) (a5 : F) (a6 : G) (a7 : H) r, f a0 a1 a2 a3 a4 a5 a6 a7 = some r → ∃ r' h', denFn P env g [enc a0, enc a1, enc a2, enc a3, enc a4, enc a5, enc a6, enc a7] [] = some (r', h') ∧ release h' depth r' = some r) : PureOK P g (R8 f) :=
  pure_of_den henv hm hb (by
    intro ds r hr
    unfold R8 at hr
    split at hr
    · rename_i x0 x1 x2 x3 x4 x5 x6 x7
      cases e_x0 : (dec x0 : Option A) with
      | none => rw [e_x0] at hr; cases hr
      | some a0 =>
        rw [e_x0] at hr
        have q_x0 := Cod.ed x0 a0 e_x0
        cases e_x1 : (dec x1 : Option B) with
        | none => rw [e_x1] at hr; cases hr
        | some a1 =>
          rw [e_x1] at hr
          have q_x1 := Cod.ed x1 a1 e_x1
          cases e_x2 : (dec x2 : Option C) with
          | none => rw [e_x2] at hr; cases hr
          | some a2 =>
            rw [e_x2] at hr
            have q_x2 := Cod.ed x2 a2 e_x2
            cases e_x3 : (dec x3 : Option D) with
            | none => rw [e_x3] at hr; cases hr
            | some a3 =>
              rw [e_x3] at hr
              have q_x3 := Cod.ed x3 a3 e_x3
              cases e_x4 : (dec x4 : Option E) with
              | none => rw [e_x4] at hr; cases hr
              | some a4 =>
                rw [e_x4] at hr
                have q_x4 := Cod.ed x4 a4 e_x4
                cases e_x5 : (dec x5 : Option F) with
                | none => rw [e_x5] at hr; cases hr
                | some a5 =>
                  rw [e_x5] at hr
                  have q_x5 := Cod.ed x5 a5 e_x5
                  cases e_x6 : (dec x6 : Option G) with
                  | none => rw [e_x6] at hr; cases hr
                  | some a6 =>
                    rw [e_x6] at hr
                    have q_x6 := Cod.ed x6 a6 e_x6
                    cases e_x7 : (dec x7 : Option H) with
                    | none => rw [e_x7] at hr; cases hr
                    | some a7 =>
                      rw [e_x7] at hr
                      have q_x7 := Cod.ed x7 a7 e_x7
                      subst q_x0 q_x1 q_x2 q_x3 q_x4 q_x5 q_x6 q_x7
                      exact hF a0 a1 a2 a3 a4 a5 a6 a7 r hr
    · cases hr)
def T8 {A : Type} {B : Type} {C : Type} {D : Type} {E : Type} {F : Type} {G : Type} {H : Type} {Z : Type} [Cod A] [Cod B] [Cod C] [Cod D] [Cod E] [Cod F] [Cod G] [Cod H] [CodR Z] (f : A → B → C → D → E → F → G → H → Z) : List AV → Option AV := R8 (fun a0 a1 a2 a3 a4 a5 a6 a7 => some (enc (f a0 a1 a2 a3 a4 a5 a6 a7)))
theorem pureT8 {P : Program} {env : Nat → Contract} (henv : EnvOK P env) (hm : P.follows .mixedOrders = true) {g : Nat} (hb : HasBody P g) {A : Type} {B : Type} {C : Type} {D : Type} {E : Type} {F : Type} {G : Type} {H : Type} {Z : Type} [Cod A] [Cod B] [Cod C] [Cod D] [Cod E] [Cod F] [Cod G] [Cod H] [CodR Z] {f : A → B → C → D → E → F → G → H → Z}
    (hF : ∀ (a0 : A) (a1 : B) (a2 : C) (a3 : D) (a4 : E) (a5 : F) (a6 : G) (a7 : H), (denFn P env g [enc a0, enc a1, enc a2, enc a3, enc a4, enc a5, enc a6, enc a7] []).map Prod.fst = some (enc (f a0 a1 a2 a3 a4 a5 a6 a7))) : PureOK P g (T8 f) :=
  pureR8 henv hm hb fun a0 a1 a2 a3 a4 a5 a6 a7 r hr => by
    obtain ⟨⟨r', h'⟩, e, e2⟩ := Option.map_eq_some_iff.1 (hF a0 a1 a2 a3 a4 a5 a6 a7)
    cases hr
    simp only at e2
    subst e2
    exact ⟨_, h', e, release_plain (CodR.plain _) h'⟩
theorem R8_enc {A : Type} {B : Type} {C : Type} {D : Type} {E : Type} {F : Type} {G : Type} {H : Type} [Cod A] [Cod B] [Cod C] [Cod D] [Cod E] [Cod F] [Cod G] [Cod H] (f : A → B → C → D → E → F → G → H → Option AV) (a0 : A) (a1 : B) (a2 : C) (a3 : D) (a4 : E) (a5 : F) (a6 : G) (a7 : H) : R8 f [enc a0, enc a1, enc a2, enc a3, enc a4, enc a5, enc a6, enc a7] = f a0 a1 a2 a3 a4 a5 a6 a7 := by simp [R8, Cod.de]
theorem T8_enc {A : Type} {B : Type} {C : Type} {D : Type} {E : Type} {F : Type} {G : Type} {H : Type} {Z : Type} [Cod A] [Cod B] [Cod C] [Cod D] [Cod E] [Cod F] [Cod G] [Cod H] [CodR Z] (f : A → B → C → D → E → F → G → H → Z) (a0 : A) (a1 : B) (a2 : C) (a3 : D) (a4 : E) (a5 : F) (a6 : G) (a7 : H) : T8 f [enc a0, enc a1, enc a2, enc a3, enc a4, enc a5, enc a6, enc a7] = some (enc (f a0 a1 a2 a3 a4 a5 a6 a7)) := R8_enc _ _ _ _ _ _ _ _ _
@[simp] theorem callR8 {A : Type} {B : Type} {C : Type} {D : Type} {E : Type} {F : Type} {G : Type} {H : Type} [Cod A] [Cod B] [Cod C] [Cod D] [Cod E] [Cod F] [Cod G] [Cod H] (f : A → B → C → D → E → F → G → H → Option AV) (x0 x1 x2 x3 x4 x5 x6 x7 : AV) (h : Heap) : aCallPure (R8 f) [x0, x1, x2, x3, x4, x5, x6, x7] h = obind (snapD h x0) fun a0 => obind (snapD h x1) fun a1 => obind (snapD h x2) fun a2 => obind (snapD h x3) fun a3 => obind (snapD h x4) fun a4 => obind (snapD h x5) fun a5 => obind (snapD h x6) fun a6 => obind (snapD h x7) fun a7 => obind (f a0 a1 a2 a3 a4 a5 a6 a7) fun r => hand r ([x0, x1, x2, x3, x4, x5, x6, x7].all (noRef depth)) h := by
  rw [aCallPure_eq]
  simp only [omap_cons, snapD, show ∀ f : AV → Option AV, omap f [] = some [] from fun _ => rfl]
  cases snap h depth x0 with
  | none => first | rfl | simp only [obind_sm, obind_none, obind_zz]
  | some s_x0 =>
  cases snap h depth x1 with
  | none => first | rfl | simp only [obind_sm, obind_none, obind_zz]
  | some s_x1 =>
  cases snap h depth x2 with
  | none => first | rfl | simp only [obind_sm, obind_none, obind_zz]
  | some s_x2 =>
  cases snap h depth x3 with
  | none => first | rfl | simp only [obind_sm, obind_none, obind_zz]
  | some s_x3 =>
  cases snap h depth x4 with
  | none => first | rfl | simp only [obind_sm, obind_none, obind_zz]
  | some s_x4 =>
  cases snap h depth x5 with
  | none => first | rfl | simp only [obind_sm, obind_none, obind_zz]
  | some s_x5 =>
  cases snap h depth x6 with
  | none => first | rfl | simp only [obind_sm, obind_none, obind_zz]
  | some s_x6 =>
  cases snap h depth x7 with
  | none => first | rfl | simp only [obind_sm, obind_none, obind_zz]
  | some s_x7 =>
  simp only [obind_sm, R8, obind_assoc]
@[simp] theorem callT8 {A : Type} {B : Type} {C : Type} {D : Type} {E : Type} {F : Type} {G : Type} {H : Type} {Z : Type} [Cod A] [Cod B] [Cod C] [Cod D] [Cod E] [Cod F] [Cod G] [Cod H] [CodR Z] (f : A → B → C → D → E → F → G → H → Z) (x0 x1 x2 x3 x4 x5 x6 x7 : AV) (h : Heap) : aCallPure (T8 f) [x0, x1, x2, x3, x4, x5, x6, x7] h = obind (snapD h x0) fun a0 => obind (snapD h x1) fun a1 => obind (snapD h x2) fun a2 => obind (snapD h x3) fun a3 => obind (snapD h x4) fun a4 => obind (snapD h x5) fun a5 => obind (snapD h x6) fun a6 => obind (snapD h x7) fun a7 => some (enc (f a0 a1 a2 a3 a4 a5 a6 a7), h) := by
  unfold T8
  rw [callR8]
  simp only [obind_sm, hand_plain (CodR.plain _)]

end Go.Eng
