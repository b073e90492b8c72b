import Derived.Test.YtfhffgfbnlikjaaEngSimp
namespace Go.Eng
set_option linter.unusedVariables false
set_option linter.unusedSimpArgs false
class Cod (A : Type) where
  enc : A → AV
  dec : AV → Option A
  de : ∀ a, dec (enc a) = some a
  ed : ∀ x a, dec x = some a → x = enc a
open Cod (enc dec)
class CodR (A : Type) extends Cod A where
  plain : ∀ a : A, kIc (enc a) = true
instance : CodR Int where
  enc := iv
  dec | .sc (.int .i64 n) => some n | _ => none
  de _ := rfl
  ed x a h := by
    split at h
    · cases h; rfl
    · cases h
  plain _ := rfl
instance : CodR Bool where
  enc := bv
  dec | .sc (.bool b) => some b | _ => none
  de _ := rfl
  ed x a h := by
    split at h
    · cases h; rfl
    · cases h
  plain _ := rfl
instance : CodR ByteArray where
  enc := sv
  dec | .sc (.string b) => some b | _ => none
  de _ := rfl
  ed x a h := by
    split at h
    · cases h; rfl
    · cases h
  plain _ := rfl
@[simp] theorem enc_int (n : Int) : enc n = iv n := rfl
@[simp] theorem enc_bool (n : Bool) : enc n = bv n := rfl
@[simp] theorem enc_str (n : ByteArray) : enc n = sv n := rfl
def snapD {A : Type} [Cod A] (h : kA4) (x : AV) : Option A := kA0 (snap h depth x) dec
@[simp] theorem kAj (h : kA4) (n : Int) : snapD h (iv n) = some n := rfl
@[simp] theorem snapD_bool (h : kA4) (n : Bool) : snapD h (bv n) = some n := rfl
@[simp] theorem snapD_str (h : kA4) (n : ByteArray) : snapD h (sv n) = some n := rfl
theorem kCh {α β : Type} (f : α → Option β) (a : α) (l : List α) : kBb f (a :: l) = kA0 (f a) fun b => kA0 (kBb f l) fun bs => some (b :: bs) := by
  simp only [kBb]
  cases f a with
  | none => rfl
  | some b => cases kBb f l <;> rfl
theorem kCo {α β γ : Type} (x : Option α) (f : α → Option β) (g : β → Option γ) : kA0 (kA0 x f) g = kA0 x fun a => kA0 (f a) g := by cases x <;> rfl
theorem kAz {α β : Type} (x : Option α) : kA0 x (fun _ => (none : Option β)) = none := by cases x <;> rfl
def kEe (r : AV) (ok : Bool) (h : kA4) : Option (AV × kA4) := if (noF depth r || ok) = true then some ((mat depth r h.length).1, h ++ (mat depth r h.length).2) else none
theorem kAk {r : AV} (hr : kIc r = true) (ok : Bool) (h : kA4) : kEe r ok h = some (r, h) := by
  obtain ⟨h2, h3⟩ := mat_plain hr h.length
  unfold kEe
  simp only [h3, Bool.true_or, if_true, h2, List.append_nil]
theorem kC5 (f : List AV → Option AV) (args : List AV) (h : kA4) : kAb f args h = kA0 (kBb (snap h depth) args) fun ds => kA0 (f ds) fun r => kEe r (args.all (kD0 depth)) h := by
  unfold kAb kEe
  cases kBb (snap h depth) args with
  | none => rfl
  | some ds => simp only [kA0]; cases f ds <;> rfl
def R0   (f : Option AV) : List AV → Option AV
  | [] => f
  | _ => none
def T0  {Z : Type}  [CodR Z] (f : Z) : List AV → Option AV := R0 (some (enc (f)))
@[simp] theorem callR0   (f : Option AV) (h : kA4) : kAb (R0 f) [] h = kA0 (f) fun r => kEe r ([].all (kD0 depth)) h := by
  rw [kC5]
  rfl
@[simp] theorem callT0  {Z : Type}  [CodR Z] (f : Z) (h : kA4) : kAb (T0 f) [] h = some (enc (f), h) := by
  unfold T0
  rw [callR0]
  exact kAk (CodR.plain _) _ _
def R1 {A : Type} [Cod A] (f : A → Option AV) : List AV → Option AV
  | [x0] => kA0 (dec x0) fun a0 => f a0
  | _ => none
theorem pureR1 {P : Program} {env : Nat → Contract} (henv : kBr P env) (hm : P.follows .mixedOrders = true) {g : Nat} (hb : kAh P g) {A : Type} [Cod A] {f : A → Option AV}
    (hF : ∀ (a0 : A) r, f a0 = some r → ∃ r' h', kAo P env g [enc a0] [] = some (r', h') ∧ release h' depth r' = some r) : kAs P g (R1 f) :=
  kFs henv hm hb (by
    intro ds r hr
    unfold R1 at hr
    split at hr
    · rename_i x0
      cases e_x0 : (dec x0 : Option A) with
      | none => rw [e_x0] at hr; cases hr
      | some a0 =>
        rw [e_x0] at hr
        have q_x0 := Cod.ed x0 a0 e_x0
        subst q_x0
        exact hF a0 r hr
    · cases hr)
def T1 {A : Type} {Z : Type} [Cod A] [CodR Z] (f : A → Z) : List AV → Option AV := R1 (fun a0 => some (enc (f a0)))
theorem pureT1 {P : Program} {env : Nat → Contract} (henv : kBr P env) (hm : P.follows .mixedOrders = true) {g : Nat} (hb : kAh P g) {A : Type} {Z : Type} [Cod A] [CodR Z] {f : A → Z}
    (hF : ∀ (a0 : A), (kAo P env g [enc a0] []).map Prod.fst = some (enc (f a0))) : kAs P g (T1 f) :=
  pureR1 henv hm hb fun a0 r hr => by
    obtain ⟨⟨r', h'⟩, e, e2⟩ := Option.map_eq_some_iff.1 (hF a0)
    cases hr
    simp only at e2
    subst e2
    exact ⟨_, h', e, kA8 (CodR.plain _) h'⟩
@[simp] theorem callR1 {A : Type} [Cod A] (f : A → Option AV) (x0 : AV) (h : kA4) : kAb (R1 f) [x0] h = kA0 (snapD h x0) fun a0 => kA0 (f a0) fun r => kEe r ([x0].all (kD0 depth)) h := by
  rw [kC5]
  simp only [kCh, snapD, show ∀ f : AV → Option AV, kBb f [] = some [] from fun _ => rfl]
  cases snap h depth x0 with
  | none => first | rfl | simp only [kA2, kAn, kAz]
  | some s_x0 =>
  simp only [kA2, R1, kCo]
@[simp] theorem callT1 {A : Type} {Z : Type} [Cod A] [CodR Z] (f : A → Z) (x0 : AV) (h : kA4) : kAb (T1 f) [x0] h = kA0 (snapD h x0) fun a0 => some (enc (f a0), h) := by
  unfold T1
  rw [callR1]
  simp only [kA2, kAk (CodR.plain _)]
def R2 {A : Type} {B : Type} [Cod A] [Cod B] (f : A → B → Option AV) : List AV → Option AV
  | [x0, x1] => kA0 (dec x0) fun a0 => kA0 (dec x1) fun a1 => f a0 a1
  | _ => none
theorem pureR2 {P : Program} {env : Nat → Contract} (henv : kBr P env) (hm : P.follows .mixedOrders = true) {g : Nat} (hb : kAh P g) {A : Type} {B : Type} [Cod A] [Cod B] {f : A → B → Option AV}
    (hF : ∀ (a0 : A) (a1 : B) r, f a0 a1 = some r → ∃ r' h', kAo P env g [enc a0, enc a1] [] = some (r', h') ∧ release h' depth r' = some r) : kAs P g (R2 f) :=
  kFs henv hm hb (by
    intro ds r hr
    unfold R2 at hr
    split at hr
    · rename_i x0 x1
      cases e_x0 : (dec x0 : Option A) with
      | none => rw [e_x0] at hr; cases hr
      | some a0 =>
        rw [e_x0] at hr
        have q_x0 := Cod.ed x0 a0 e_x0
        cases e_x1 : (dec x1 : Option B) with
        | none => rw [e_x1] at hr; cases hr
        | some a1 =>
          rw [e_x1] at hr
          have q_x1 := Cod.ed x1 a1 e_x1
          subst q_x0 q_x1
          exact hF a0 a1 r hr
    · cases hr)
def T2 {A : Type} {B : Type} {Z : Type} [Cod A] [Cod B] [CodR Z] (f : A → B → Z) : List AV → Option AV := R2 (fun a0 a1 => some (enc (f a0 a1)))
theorem pureT2 {P : Program} {env : Nat → Contract} (henv : kBr P env) (hm : P.follows .mixedOrders = true) {g : Nat} (hb : kAh P g) {A : Type} {B : Type} {Z : Type} [Cod A] [Cod B] [CodR Z] {f : A → B → Z}
    (hF : ∀ (a0 : A) (a1 : B), (kAo P env g [enc a0, enc a1] []).map Prod.fst = some (enc (f a0 a1))) : kAs P g (T2 f) :=
  pureR2 henv hm hb fun a0 a1 r hr => by
    obtain ⟨⟨r', h'⟩, e, e2⟩ := Option.map_eq_some_iff.1 (hF a0 a1)
    cases hr
    simp only at e2
    subst e2
    exact ⟨_, h', e, kA8 (CodR.plain _) h'⟩
@[simp] theorem callR2 {A : Type} {B : Type} [Cod A] [Cod B] (f : A → B → Option AV) (x0 x1 : AV) (h : kA4) : kAb (R2 f) [x0, x1] h = kA0 (snapD h x0) fun a0 => kA0 (snapD h x1) fun a1 => kA0 (f a0 a1) fun r => kEe r ([x0, x1].all (kD0 depth)) h := by
  rw [kC5]
  simp only [kCh, snapD, show ∀ f : AV → Option AV, kBb f [] = some [] from fun _ => rfl]
  cases snap h depth x0 with
  | none => first | rfl | simp only [kA2, kAn, kAz]
  | some s_x0 =>
  cases snap h depth x1 with
  | none => first | rfl | simp only [kA2, kAn, kAz]
  | some s_x1 =>
  simp only [kA2, R2, kCo]
@[simp] theorem callT2 {A : Type} {B : Type} {Z : Type} [Cod A] [Cod B] [CodR Z] (f : A → B → Z) (x0 x1 : AV) (h : kA4) : kAb (T2 f) [x0, x1] h = kA0 (snapD h x0) fun a0 => kA0 (snapD h x1) fun a1 => some (enc (f a0 a1), h) := by
  unfold T2
  rw [callR2]
  simp only [kA2, kAk (CodR.plain _)]
def R3 {A : Type} {B : Type} {C : Type} [Cod A] [Cod B] [Cod C] (f : A → B → C → Option AV) : List AV → Option AV
  | [x0, x1, x2] => kA0 (dec x0) fun a0 => kA0 (dec x1) fun a1 => kA0 (dec x2) fun a2 => f a0 a1 a2
  | _ => none
theorem pureR3 {P : Program} {env : Nat → Contract} (henv : kBr P env) (hm : P.follows .mixedOrders = true) {g : Nat} (hb : kAh P g) {A : Type} {B : Type} {C : Type} [Cod A] [Cod B] [Cod C] {f : A → B → C → Option AV}
    (hF : ∀ (a0 : A) (a1 : B) (a2 : C) r, f a0 a1 a2 = some r → ∃ r' h', kAo P env g [enc a0, enc a1, enc a2] [] = some (r', h') ∧ release h' depth r' = some r) : kAs P g (R3 f) :=
  kFs henv hm hb (by
    intro ds r hr
    unfold R3 at hr
    split at hr
    · rename_i x0 x1 x2
      cases e_x0 : (dec x0 : Option A) with
      | none => rw [e_x0] at hr; cases hr
      | some a0 =>
        rw [e_x0] at hr
        have q_x0 := Cod.ed x0 a0 e_x0
        cases e_x1 : (dec x1 : Option B) with
        | none => rw [e_x1] at hr; cases hr
        | some a1 =>
          rw [e_x1] at hr
          have q_x1 := Cod.ed x1 a1 e_x1
          cases e_x2 : (dec x2 : Option C) with
          | none => rw [e_x2] at hr; cases hr
          | some a2 =>
            rw [e_x2] at hr
            have q_x2 := Cod.ed x2 a2 e_x2
            subst q_x0 q_x1 q_x2
            exact hF a0 a1 a2 r hr
    · cases hr)
def T3 {A : Type} {B : Type} {C : Type} {Z : Type} [Cod A] [Cod B] [Cod C] [CodR Z] (f : A → B → C → Z) : List AV → Option AV := R3 (fun a0 a1 a2 => some (enc (f a0 a1 a2)))
theorem pureT3 {P : Program} {env : Nat → Contract} (henv : kBr P env) (hm : P.follows .mixedOrders = true) {g : Nat} (hb : kAh P g) {A : Type} {B : Type} {C : Type} {Z : Type} [Cod A] [Cod B] [Cod C] [CodR Z] {f : A → B → C → Z}
    (hF : ∀ (a0 : A) (a1 : B) (a2 : C), (kAo P env g [enc a0, enc a1, enc a2] []).map Prod.fst = some (enc (f a0 a1 a2))) : kAs P g (T3 f) :=
  pureR3 henv hm hb fun a0 a1 a2 r hr => by
    obtain ⟨⟨r', h'⟩, e, e2⟩ := Option.map_eq_some_iff.1 (hF a0 a1 a2)
    cases hr
    simp only at e2
    subst e2
    exact ⟨_, h', e, kA8 (CodR.plain _) h'⟩
theorem R3_enc {A : Type} {B : Type} {C : Type} [Cod A] [Cod B] [Cod C] (f : A → B → C → Option AV) (a0 : A) (a1 : B) (a2 : C) : R3 f [enc a0, enc a1, enc a2] = f a0 a1 a2 := by simp [R3, Cod.de]
@[simp] theorem callR3 {A : Type} {B : Type} {C : Type} [Cod A] [Cod B] [Cod C] (f : A → B → C → Option AV) (x0 x1 x2 : AV) (h : kA4) : kAb (R3 f) [x0, x1, x2] h = kA0 (snapD h x0) fun a0 => kA0 (snapD h x1) fun a1 => kA0 (snapD h x2) fun a2 => kA0 (f a0 a1 a2) fun r => kEe r ([x0, x1, x2].all (kD0 depth)) h := by
  rw [kC5]
  simp only [kCh, snapD, show ∀ f : AV → Option AV, kBb f [] = some [] from fun _ => rfl]
  cases snap h depth x0 with
  | none => first | rfl | simp only [kA2, kAn, kAz]
  | some s_x0 =>
  cases snap h depth x1 with
  | none => first | rfl | simp only [kA2, kAn, kAz]
  | some s_x1 =>
  cases snap h depth x2 with
  | none => first | rfl | simp only [kA2, kAn, kAz]
  | some s_x2 =>
  simp only [kA2, R3, kCo]
@[simp] theorem callT3 {A : Type} {B : Type} {C : Type} {Z : Type} [Cod A] [Cod B] [Cod C] [CodR Z] (f : A → B → C → Z) (x0 x1 x2 : AV) (h : kA4) : kAb (T3 f) [x0, x1, x2] h = kA0 (snapD h x0) fun a0 => kA0 (snapD h x1) fun a1 => kA0 (snapD h x2) fun a2 => some (enc (f a0 a1 a2), h) := by
  unfold T3
  rw [callR3]
  simp only [kA2, kAk (CodR.plain _)]
def R4 {A : Type} {B : Type} {C : Type} {D : Type} [Cod A] [Cod B] [Cod C] [Cod D] (f : A → B → C → D → Option AV) : List AV → Option AV
  | [x0, x1, x2, x3] => kA0 (dec x0) fun a0 => kA0 (dec x1) fun a1 => kA0 (dec x2) fun a2 => kA0 (dec x3) fun a3 => f a0 a1 a2 a3
  | _ => none
theorem pureR4 {P : Program} {env : Nat → Contract} (henv : kBr P env) (hm : P.follows .mixedOrders = true) {g : Nat} (hb : kAh P g) {A : Type} {B : Type} {C : Type} {D : Type} [Cod A] [Cod B] [Cod C] [Cod D] {f : A → B → C → D → Option AV}
    (hF : ∀ (a0 : A) (a1 : B) (a2 : C) (a3 : D) r, f a0 a1 a2 a3 = some r → ∃ r' h', kAo P env g [enc a0, enc a1, enc a2, enc a3] [] = some (r', h') ∧ release h' depth r' = some r) : kAs P g (R4 f) :=
  kFs henv hm hb (by
    intro ds r hr
    unfold R4 at hr
    split at hr
    · rename_i x0 x1 x2 x3
      cases e_x0 : (dec x0 : Option A) with
      | none => rw [e_x0] at hr; cases hr
      | some a0 =>
        rw [e_x0] at hr
        have q_x0 := Cod.ed x0 a0 e_x0
        cases e_x1 : (dec x1 : Option B) with
        | none => rw [e_x1] at hr; cases hr
        | some a1 =>
          rw [e_x1] at hr
          have q_x1 := Cod.ed x1 a1 e_x1
          cases e_x2 : (dec x2 : Option C) with
          | none => rw [e_x2] at hr; cases hr
          | some a2 =>
            rw [e_x2] at hr
            have q_x2 := Cod.ed x2 a2 e_x2
            cases e_x3 : (dec x3 : Option D) with
            | none => rw [e_x3] at hr; cases hr
            | some a3 =>
              rw [e_x3] at hr
              have q_x3 := Cod.ed x3 a3 e_x3
              subst q_x0 q_x1 q_x2 q_x3
              exact hF a0 a1 a2 a3 r hr
    · cases hr)
def T4 {A : Type} {B : Type} {C : Type} {D : Type} {Z : Type} [Cod A] [Cod B] [Cod C] [Cod D] [CodR Z] (f : A → B → C → D → Z) : List AV → Option AV := R4 (fun a0 a1 a2 a3 => some (enc (f a0 a1 a2 a3)))
@[simp] theorem callR4 {A : Type} {B : Type} {C : Type} {D : Type} [Cod A] [Cod B] [Cod C] [Cod D] (f : A → B → C → D → Option AV) (x0 x1 x2 x3 : AV) (h : kA4) : kAb (R4 f) [x0, x1, x2, x3] h = kA0 (snapD h x0) fun a0 => kA0 (snapD h x1) fun a1 => kA0 (snapD h x2) fun a2 => kA0 (snapD h x3) fun a3 => kA0 (f a0 a1 a2 a3) fun r => kEe r ([x0, x1, x2, x3].all (kD0 depth)) h := by
  rw [kC5]
  simp only [kCh, snapD, show ∀ f : AV → Option AV, kBb f [] = some [] from fun _ => rfl]
  cases snap h depth x0 with
  | none => first | rfl | simp only [kA2, kAn, kAz]
  | some s_x0 =>
  cases snap h depth x1 with
  | none => first | rfl | simp only [kA2, kAn, kAz]
  | some s_x1 =>
  cases snap h depth x2 with
  | none => first | rfl | simp only [kA2, kAn, kAz]
  | some s_x2 =>
  cases snap h depth x3 with
  | none => first | rfl | simp only [kA2, kAn, kAz]
  | some s_x3 =>
  simp only [kA2, R4, kCo]
@[simp] theorem callT4 {A : Type} {B : Type} {C : Type} {D : Type} {Z : Type} [Cod A] [Cod B] [Cod C] [Cod D] [CodR Z] (f : A → B → C → D → Z) (x0 x1 x2 x3 : AV) (h : kA4) : kAb (T4 f) [x0, x1, x2, x3] h = kA0 (snapD h x0) fun a0 => kA0 (snapD h x1) fun a1 => kA0 (snapD h x2) fun a2 => kA0 (snapD h x3) fun a3 => some (enc (f a0 a1 a2 a3), h) := by
  unfold T4
  rw [callR4]
  simp only [kA2, kAk (CodR.plain _)]
def R5 {A : Type} {B : Type} {C : Type} {D : Type} {E : Type} [Cod A] [Cod B] [Cod C] [Cod D] [Cod E] (f : A → B → C → D → E → Option AV) : List AV → Option AV
  | [x0, x1, x2, x3, x4] => kA0 (dec x0) fun a0 => kA0 (dec x1) fun a1 => kA0 (dec x2) fun a2 => kA0 (dec x3) fun a3 => kA0 (dec x4) fun a4 => f a0 a1 a2 a3 a4
  | _ => none
def T5 {A : Type} {B : Type} {C : Type} {D : Type} {E : Type} {Z : Type} [Cod A] [Cod B] [Cod C] [Cod D] [Cod E] [CodR Z] (f : A → B → C → D → E → Z) : List AV → Option AV := R5 (fun a0 a1 a2 a3 a4 => some (enc (f a0 a1 a2 a3 a4)))
@[simp] theorem callR5 {A : Type} {B : Type} {C : Type} {D : Type} {E : Type} [Cod A] [Cod B] [Cod C] [Cod D] [Cod E] (f : A → B → C → D → E → Option AV) (x0 x1 x2 x3 x4 : AV) (h : kA4) : kAb (R5 f) [x0, x1, x2, x3, x4] h = kA0 (snapD h x0) fun a0 => kA0 (snapD h x1) fun a1 => kA0 (snapD h x2) fun a2 => kA0 (snapD h x3) fun a3 => kA0 (snapD h x4) fun a4 => kA0 (f a0 a1 a2 a3 a4) fun r => kEe r ([x0, x1, x2, x3, x4].all (kD0 depth)) h := by
  rw [kC5]
  simp only [kCh, snapD, show ∀ f : AV → Option AV, kBb f [] = some [] from fun _ => rfl]
  cases snap h depth x0 with
  | none => first | rfl | simp only [kA2, kAn, kAz]
  | some s_x0 =>
  cases snap h depth x1 with
  | none => first | rfl | simp only [kA2, kAn, kAz]
  | some s_x1 =>
  cases snap h depth x2 with
  | none => first | rfl | simp only [kA2, kAn, kAz]
  | some s_x2 =>
  cases snap h depth x3 with
  | none => first | rfl | simp only [kA2, kAn, kAz]
  | some s_x3 =>
  cases snap h depth x4 with
  | none => first | rfl | simp only [kA2, kAn, kAz]
  | some s_x4 =>
  simp only [kA2, R5, kCo]
@[simp] theorem callT5 {A : Type} {B : Type} {C : Type} {D : Type} {E : Type} {Z : Type} [Cod A] [Cod B] [Cod C] [Cod D] [Cod E] [CodR Z] (f : A → B → C → D → E → Z) (x0 x1 x2 x3 x4 : AV) (h : kA4) : kAb (T5 f) [x0, x1, x2, x3, x4] h = kA0 (snapD h x0) fun a0 => kA0 (snapD h x1) fun a1 => kA0 (snapD h x2) fun a2 => kA0 (snapD h x3) fun a3 => kA0 (snapD h x4) fun a4 => some (enc (f a0 a1 a2 a3 a4), h) := by
  unfold T5
  rw [callR5]
  simp only [kA2, kAk (CodR.plain _)]
def R6 {A : Type} {B : Type} {C : Type} {D : Type} {E : Type} {F : Type} [Cod A] [Cod B] [Cod C] [Cod D] [Cod E] [Cod F] (f : A → B → C → D → E → F → Option AV) : List AV → Option AV
  | [x0, x1, x2, x3, x4, x5] => kA0 (dec x0) fun a0 => kA0 (dec x1) fun a1 => kA0 (dec x2) fun a2 => kA0 (dec x3) fun a3 => kA0 (dec x4) fun a4 => kA0 (dec x5) fun a5 => f a0 a1 a2 a3 a4 a5
  | _ => none
def T6 {A : Type} {B : Type} {C : Type} {D : Type} {E : Type} {F : Type} {Z : Type} [Cod A] [Cod B] [Cod C] [Cod D] [Cod E] [Cod F] [CodR Z] (f : A → B → C → D → E → F → Z) : List AV → Option AV := R6 (fun a0 a1 a2 a3 a4 a5 => some (enc (f a0 a1 a2 a3 a4 a5)))
@[simp] theorem callR6 {A : Type} {B : Type} {C : Type} {D : Type} {E : Type} {F : Type} [Cod A] [Cod B] [Cod C] [Cod D] [Cod E] [Cod F] (f : A → B → C → D → E → F → Option AV) (x0 x1 x2 x3 x4 x5 : AV) (h : kA4) : kAb (R6 f) [x0, x1, x2, x3, x4, x5] h = kA0 (snapD h x0) fun a0 => kA0 (snapD h x1) fun a1 => kA0 (snapD h x2) fun a2 => kA0 (snapD h x3) fun a3 => kA0 (snapD h x4) fun a4 => kA0 (snapD h x5) fun a5 => kA0 (f a0 a1 a2 a3 a4 a5) fun r => kEe r ([x0, x1, x2, x3, x4, x5].all (kD0 depth)) h := by
  rw [kC5]
  simp only [kCh, snapD, show ∀ f : AV → Option AV, kBb f [] = some [] from fun _ => rfl]
  cases snap h depth x0 with
  | none => first | rfl | simp only [kA2, kAn, kAz]
  | some s_x0 =>
  cases snap h depth x1 with
  | none => first | rfl | simp only [kA2, kAn, kAz]
  | some s_x1 =>
  cases snap h depth x2 with
  | none => first | rfl | simp only [kA2, kAn, kAz]
  | some s_x2 =>
  cases snap h depth x3 with
  | none => first | rfl | simp only [kA2, kAn, kAz]
  | some s_x3 =>
  cases snap h depth x4 with
  | none => first | rfl | simp only [kA2, kAn, kAz]
  | some s_x4 =>
  cases snap h depth x5 with
  | none => first | rfl | simp only [kA2, kAn, kAz]
  | some s_x5 =>
  simp only [kA2, R6, kCo]
@[simp] theorem callT6 {A : Type} {B : Type} {C : Type} {D : Type} {E : Type} {F : Type} {Z : Type} [Cod A] [Cod B] [Cod C] [Cod D] [Cod E] [Cod F] [CodR Z] (f : A → B → C → D → E → F → Z) (x0 x1 x2 x3 x4 x5 : AV) (h : kA4) : kAb (T6 f) [x0, x1, x2, x3, x4, x5] h = kA0 (snapD h x0) fun a0 => kA0 (snapD h x1) fun a1 => kA0 (snapD h x2) fun a2 => kA0 (snapD h x3) fun a3 => kA0 (snapD h x4) fun a4 => kA0 (snapD h x5) fun a5 => some (enc (f a0 a1 a2 a3 a4 a5), h) := by
  unfold T6
  rw [callR6]
  simp only [kA2, kAk (CodR.plain _)]
def R7 {A : Type} {B : Type} {C : Type} {D : Type} {E : Type} {F : Type} {G : Type} [Cod A] [Cod B] [Cod C] [Cod D] [Cod E] [Cod F] [Cod G] (f : A → B → C → D → E → F → G → Option AV) : List AV → Option AV
  | [x0, x1, x2, x3, x4, x5, x6] => kA0 (dec x0) fun a0 => kA0 (dec x1) fun a1 => kA0 (dec x2) fun a2 => kA0 (dec x3) fun a3 => kA0 (dec x4) fun a4 => kA0 (dec x5) fun a5 => kA0 (dec x6) fun a6 => f a0 a1 a2 a3 a4 a5 a6
  | _ => none
def T7 {A : Type} {B : Type} {C : Type} {D : Type} {E : Type} {F : Type} {G : Type} {Z : Type} [Cod A] [Cod B] [Cod C] [Cod D] [Cod E] [Cod F] [Cod G] [CodR Z] (f : A → B → C → D → E → F → G → Z) : List AV → Option AV := R7 (fun a0 a1 a2 a3 a4 a5 a6 => some (enc (f a0 a1 a2 a3 a4 a5 a6)))
@[simp] theorem callR7 {A : Type} {B : Type} {C : Type} {D : Type} {E : Type} {F : Type} {G : Type} [Cod A] [Cod B] [Cod C] [Cod D] [Cod E] [Cod F] [Cod G] (f : A → B → C → D → E → F → G → Option AV) (x0 x1 x2 x3 x4 x5 x6 : AV) (h : kA4) : kAb (R7 f) [x0, x1, x2, x3, x4, x5, x6] h = kA0 (snapD h x0) fun a0 => kA0 (snapD h x1) fun a1 => kA0 (snapD h x2) fun a2 => kA0 (snapD h x3) fun a3 => kA0 (snapD h x4) fun a4 => kA0 (snapD h x5) fun a5 => kA0 (snapD h x6) fun a6 => kA0 (f a0 a1 a2 a3 a4 a5 a6) fun r => kEe r ([x0, x1, x2, x3, x4, x5, x6].all (kD0 depth)) h := by
  rw [kC5]
  simp only [kCh, snapD, show ∀ f : AV → Option AV, kBb f [] = some [] from fun _ => rfl]
  cases snap h depth x0 with
  | none => first | rfl | simp only [kA2, kAn, kAz]
  | some s_x0 =>
  cases snap h depth x1 with
  | none => first | rfl | simp only [kA2, kAn, kAz]
  | some s_x1 =>
  cases snap h depth x2 with
  | none => first | rfl | simp only [kA2, kAn, kAz]
  | some s_x2 =>
  cases snap h depth x3 with
  | none => first | rfl | simp only [kA2, kAn, kAz]
  | some s_x3 =>
  cases snap h depth x4 with
  | none => first | rfl | simp only [kA2, kAn, kAz]
  | some s_x4 =>
  cases snap h depth x5 with
  | none => first | rfl | simp only [kA2, kAn, kAz]
  | some s_x5 =>
  cases snap h depth x6 with
  | none => first | rfl | simp only [kA2, kAn, kAz]
  | some s_x6 =>
  simp only [kA2, R7, kCo]
@[simp] theorem callT7 {A : Type} {B : Type} {C : Type} {D : Type} {E : Type} {F : Type} {G : Type} {Z : Type} [Cod A] [Cod B] [Cod C] [Cod D] [Cod E] [Cod F] [Cod G] [CodR Z] (f : A → B → C → D → E → F → G → Z) (x0 x1 x2 x3 x4 x5 x6 : AV) (h : kA4) : kAb (T7 f) [x0, x1, x2, x3, x4, x5, x6] h = kA0 (snapD h x0) fun a0 => kA0 (snapD h x1) fun a1 => kA0 (snapD h x2) fun a2 => kA0 (snapD h x3) fun a3 => kA0 (snapD h x4) fun a4 => kA0 (snapD h x5) fun a5 => kA0 (snapD h x6) fun a6 => some (enc (f a0 a1 a2 a3 a4 a5 a6), h) := by
  unfold T7
  rw [callR7]
  simp only [kA2, kAk (CodR.plain _)]
def R8 {A : Type} {B : Type} {C : Type} {D : Type} {E : Type} {F : Type} {G : Type} {H : Type} [Cod A] [Cod B] [Cod C] [Cod D] [Cod E] [Cod F] [Cod G] [Cod H] (f : A → B → C → D → E → F → G → H → Option AV) : List AV → Option AV
  | [x0, x1, x2, x3, x4, x5, x6, x7] => kA0 (dec x0) fun a0 => kA0 (dec x1) fun a1 => kA0 (dec x2) fun a2 => kA0 (dec x3) fun a3 => kA0 (dec x4) fun a4 => kA0 (dec x5) fun a5 => kA0 (dec x6) fun a6 => kA0 (dec x7) fun a7 => f a0 a1 a2 a3 a4 a5 a6 a7
  | _ => none
def T8 {A : Type} {B : Type} {C : Type} {D : Type} {E : Type} {F : Type} {G : Type} {H : Type} {Z : Type} [Cod A] [Cod B] [Cod C] [Cod D] [Cod E] [Cod F] [Cod G] [Cod H] [CodR Z] (f : A → B → C → D → E → F → G → H → Z) : List AV → Option AV := R8 (fun a0 a1 a2 a3 a4 a5 a6 a7 => some (enc (f a0 a1 a2 a3 a4 a5 a6 a7)))
@[simp] theorem callR8 {A : Type} {B : Type} {C : Type} {D : Type} {E : Type} {F : Type} {G : Type} {H : Type} [Cod A] [Cod B] [Cod C] [Cod D] [Cod E] [Cod F] [Cod G] [Cod H] (f : A → B → C → D → E → F → G → H → Option AV) (x0 x1 x2 x3 x4 x5 x6 x7 : AV) (h : kA4) : kAb (R8 f) [x0, x1, x2, x3, x4, x5, x6, x7] h = kA0 (snapD h x0) fun a0 => kA0 (snapD h x1) fun a1 => kA0 (snapD h x2) fun a2 => kA0 (snapD h x3) fun a3 => kA0 (snapD h x4) fun a4 => kA0 (snapD h x5) fun a5 => kA0 (snapD h x6) fun a6 => kA0 (snapD h x7) fun a7 => kA0 (f a0 a1 a2 a3 a4 a5 a6 a7) fun r => kEe r ([x0, x1, x2, x3, x4, x5, x6, x7].all (kD0 depth)) h := by
  rw [kC5]
  simp only [kCh, snapD, show ∀ f : AV → Option AV, kBb f [] = some [] from fun _ => rfl]
  cases snap h depth x0 with
  | none => first | rfl | simp only [kA2, kAn, kAz]
  | some s_x0 =>
  cases snap h depth x1 with
  | none => first | rfl | simp only [kA2, kAn, kAz]
  | some s_x1 =>
  cases snap h depth x2 with
  | none => first | rfl | simp only [kA2, kAn, kAz]
  | some s_x2 =>
  cases snap h depth x3 with
  | none => first | rfl | simp only [kA2, kAn, kAz]
  | some s_x3 =>
  cases snap h depth x4 with
  | none => first | rfl | simp only [kA2, kAn, kAz]
  | some s_x4 =>
  cases snap h depth x5 with
  | none => first | rfl | simp only [kA2, kAn, kAz]
  | some s_x5 =>
  cases snap h depth x6 with
  | none => first | rfl | simp only [kA2, kAn, kAz]
  | some s_x6 =>
  cases snap h depth x7 with
  | none => first | rfl | simp only [kA2, kAn, kAz]
  | some s_x7 =>
  simp only [kA2, R8, kCo]
@[simp] theorem callT8 {A : Type} {B : Type} {C : Type} {D : Type} {E : Type} {F : Type} {G : Type} {H : Type} {Z : Type} [Cod A] [Cod B] [Cod C] [Cod D] [Cod E] [Cod F] [Cod G] [Cod H] [CodR Z] (f : A → B → C → D → E → F → G → H → Z) (x0 x1 x2 x3 x4 x5 x6 x7 : AV) (h : kA4) : kAb (T8 f) [x0, x1, x2, x3, x4, x5, x6, x7] h = kA0 (snapD h x0) fun a0 => kA0 (snapD h x1) fun a1 => kA0 (snapD h x2) fun a2 => kA0 (snapD h x3) fun a3 => kA0 (snapD h x4) fun a4 => kA0 (snapD h x5) fun a5 => kA0 (snapD h x6) fun a6 => kA0 (snapD h x7) fun a7 => some (enc (f a0 a1 a2 a3 a4 a5 a6 a7), h) := by
  unfold T8
  rw [callR8]
  simp only [kA2, kAk (CodR.plain _)]
end Go.Eng
