/-
  THE ENGINE, PART 27: guarded contracts: what a function gives for arguments that fit. Printed by a program of mine (gcod.py).
-/
import Derived.Test.YtbamachgomdjkaaDoorEngTab
namespace Go.Eng
set_option linter.unusedVariables false
set_option linter.unusedSimpArgs false
open Cod (enc dec)

/-- 1 arguments. -/
def G1 {A : Type} [Cod A] (ok : A → Bool) (f : A → AV) : List AV → Option AV := R1 fun a0 => bif ok a0 then some (f a0) else none
theorem pureG1 {P : Program} {env : Nat → Contract} (henv : EnvOK P env) (hm : P.follows .mixedOrders = true) {g : Nat} (hb : HasBody P g) {A : Type} [Cod A] {ok : A → Bool} {f : A → AV}
    (hF : ∀ (a0 : A), ok a0 = true → (obind (denFn P env g [enc a0] []) fun p => release p.2 depth p.1) = some (f a0)) : PureOK P g (G1 ok f) :=
  pureR1 henv hm hb fun a0 r hr => by
    cases e : ok a0 with
    | false => rw [e] at hr; cases hr
    | true =>
      rw [e] at hr
      cases hr
      exact pureG (hF a0 e)
@[simp] theorem callG1 {A : Type} [Cod A] (ok : A → Bool) (f : A → AV) (x0 : AV) (h : Heap) : aCallPure (G1 ok f) [x0] h = obind (snapD h x0) fun a0 => obind (bif ok a0 then some (f a0) else none) fun r => hand r ([x0].all (noRef depth)) h := by
  unfold G1
  rw [callR1]
theorem G1_enc {A : Type} [Cod A] (ok : A → Bool) (f : A → AV) (a0 : A) (h : ok a0 = true) : G1 ok f [enc a0] = some (f a0) := by
  unfold G1
  rw [R1_enc, h]
  rfl

/-- 2 arguments. -/
def G2 {A : Type} {B : Type} [Cod A] [Cod B] (ok : A → B → Bool) (f : A → B → AV) : List AV → Option AV := R2 fun a0 a1 => bif ok a0 a1 then some (f a0 a1) else none
theorem pureG2 {P : Program} {env : Nat → Contract} (henv : EnvOK P env) (hm : P.follows .mixedOrders = true) {g : Nat} (hb : HasBody P g) {A : Type} {B : Type} [Cod A] [Cod B] {ok : A → B → Bool} {f : A → B → AV}
    (hF : ∀ (a0 : A) (a1 : B), ok a0 a1 = true → (obind (denFn P env g [enc a0, enc a1] []) fun p => release p.2 depth p.1) = some (f a0 a1)) : PureOK P g (G2 ok f) :=
  pureR2 henv hm hb fun a0 a1 r hr => by
    cases e : ok a0 a1 with
    | false => rw [e] at hr; cases hr
    | true =>
      rw [e] at hr
      cases hr
      exact pureG (hF a0 a1 e)
@[simp] theorem callG2 {A : Type} {B : Type} [Cod A] [Cod B] (ok : A → B → Bool) (f : A → B → AV) (x0 x1 : AV) (h : Heap) : aCallPure (G2 ok f) [x0, x1] h = obind (snapD h x0) fun a0 => obind (snapD h x1) fun a1 => obind (bif ok a0 a1 then some (f a0 a1) else none) fun r => hand r ([x0, x1].all (noRef depth)) h := by
  unfold G2
  rw [callR2]
theorem G2_enc {A : Type} {B : Type} [Cod A] [Cod B] (ok : A → B → Bool) (f : A → B → AV) (a0 : A) (a1 : B) (h : ok a0 a1 = true) : G2 ok f [enc a0, enc a1] = some (f a0 a1) := by
  unfold G2
  rw [R2_enc, h]
  rfl

/-- 3 arguments. -/
def G3 {A : Type} {B : Type} {C : Type} [Cod A] [Cod B] [Cod C] (ok : A → B → C → Bool) (f : A → B → C → AV) : List AV → Option AV := R3 fun a0 a1 a2 => bif ok a0 a1 a2 then some (f a0 a1 a2) else none
theorem pureG3 {P : Program} {env : Nat → Contract} (henv : EnvOK P env) (hm : P.follows .mixedOrders = true) {g : Nat} (hb : HasBody P g) {A : Type} {B : Type} {C : Type} [Cod A] [Cod B] [Cod C] {ok : A → B → C → Bool} {f : A → B → C → AV}
    (hF : ∀ (a0 : A) (a1 : B) (a2 : C), ok a0 a1 a2 = true → (obind (denFn P env g [enc a0, enc a1, enc a2] []) fun p => release p.2 depth p.1) = some (f a0 a1 a2)) : PureOK P g (G3 ok f) :=
  pureR3 henv hm hb fun a0 a1 a2 r hr => by
    cases e : ok a0 a1 a2 with
    | false => rw [e] at hr; cases hr
    | true =>
      rw [e] at hr
      cases hr
      exact pureG (hF a0 a1 a2 e)
@[simp] theorem callG3 {A : Type} {B : Type} {C : Type} [Cod A] [Cod B] [Cod C] (ok : A → B → C → Bool) (f : A → B → C → AV) (x0 x1 x2 : AV) (h : Heap) : aCallPure (G3 ok f) [x0, x1, x2] h = obind (snapD h x0) fun a0 => obind (snapD h x1) fun a1 => obind (snapD h x2) fun a2 => obind (bif ok a0 a1 a2 then some (f a0 a1 a2) else none) fun r => hand r ([x0, x1, x2].all (noRef depth)) h := by
  unfold G3
  rw [callR3]
theorem G3_enc {A : Type} {B : Type} {C : Type} [Cod A] [Cod B] [Cod C] (ok : A → B → C → Bool) (f : A → B → C → AV) (a0 : A) (a1 : B) (a2 : C) (h : ok a0 a1 a2 = true) : G3 ok f [enc a0, enc a1, enc a2] = some (f a0 a1 a2) := by
  unfold G3
  rw [R3_enc, h]
  rfl

/-- 4 arguments. -/
def G4 {A : Type} {B : Type} {C : Type} {D : Type} [Cod A] [Cod B] [Cod C] [Cod D] (ok : A → B → C → D → Bool) (f : A → B → C → D → AV) : List AV → Option AV := R4 fun a0 a1 a2 a3 => bif ok a0 a1 a2 a3 then some (f a0 a1 a2 a3) else none
theorem pureG4 {P : Program} {env : Nat → Contract} (henv : EnvOK P env) (hm : P.follows .mixedOrders = true) {g : Nat} (hb : HasBody P g) {A : Type} {B : Type} {C : Type} {D : Type} [Cod A] [Cod B] [Cod C] [Cod D] {ok : A → B → C → D → Bool} {f : A → B → C → D → AV}
    (hF : ∀ (a0 : A) (a1 : B) (a2 : C) (a3 : D), ok a0 a1 a2 a3 = true → (obind (denFn P env g [enc a0, enc a1, enc a2, enc a3] []) fun p => release p.2 depth p.1) = some (f a0 a1 a2 a3)) : PureOK P g (G4 ok f) :=
  pureR4 henv hm hb fun a0 a1 a2 a3 r hr => by
    cases e : ok a0 a1 a2 a3 with
    | false => rw [e] at hr; cases hr
    | true =>
      rw [e] at hr
      cases hr
      exact pureG (hF a0 a1 a2 a3 e)
@[simp] theorem callG4 {A : Type} {B : Type} {C : Type} {D : Type} [Cod A] [Cod B] [Cod C] [Cod D] (ok : A → B → C → D → Bool) (f : A → B → C → D → AV) (x0 x1 x2 x3 : AV) (h : Heap) : aCallPure (G4 ok f) [x0, x1, x2, x3] h = obind (snapD h x0) fun a0 => obind (snapD h x1) fun a1 => obind (snapD h x2) fun a2 => obind (snapD h x3) fun a3 => obind (bif ok a0 a1 a2 a3 then some (f a0 a1 a2 a3) else none) fun r => hand r ([x0, x1, x2, x3].all (noRef depth)) h := by
  unfold G4
  rw [callR4]
theorem G4_enc {A : Type} {B : Type} {C : Type} {D : Type} [Cod A] [Cod B] [Cod C] [Cod D] (ok : A → B → C → D → Bool) (f : A → B → C → D → AV) (a0 : A) (a1 : B) (a2 : C) (a3 : D) (h : ok a0 a1 a2 a3 = true) : G4 ok f [enc a0, enc a1, enc a2, enc a3] = some (f a0 a1 a2 a3) := by
  unfold G4
  rw [R4_enc, h]
  rfl

/-- 5 arguments. -/
def G5 {A : Type} {B : Type} {C : Type} {D : Type} {E : Type} [Cod A] [Cod B] [Cod C] [Cod D] [Cod E] (ok : A → B → C → D → E → Bool) (f : A → B → C → D → E → AV) : List AV → Option AV := R5 fun a0 a1 a2 a3 a4 => bif ok a0 a1 a2 a3 a4 then some (f a0 a1 a2 a3 a4) else none
theorem pureG5 {P : Program} {env : Nat → Contract} (henv : EnvOK P env) (hm : P.follows .mixedOrders = true) {g : Nat} (hb : HasBody P g) {A : Type} {B : Type} {C : Type} {D : Type} {E : Type} [Cod A] [Cod B] [Cod C] [Cod D] [Cod E] {ok : A → B → C → D → E → Bool} {f : A → B → C → D → E → AV}
    (hF : ∀ (a0 : A) (a1 : B) (a2 : C) (a3 : D) (a4 : E), ok a0 a1 a2 a3 a4 = true → (obind (denFn P env g [enc a0, enc a1, enc a2, enc a3, enc a4] []) fun p => release p.2 depth p.1) = some (f a0 a1 a2 a3 a4)) : PureOK P g (G5 ok f) :=
  pureR5 henv hm hb fun a0 a1 a2 a3 a4 r hr => by
    cases e : ok a0 a1 a2 a3 a4 with
    | false => rw [e] at hr; cases hr
    | true =>
      rw [e] at hr
      cases hr
      exact pureG (hF a0 a1 a2 a3 a4 e)
@[simp] theorem callG5 {A : Type} {B : Type} {C : Type} {D : Type} {E : Type} [Cod A] [Cod B] [Cod C] [Cod D] [Cod E] (ok : A → B → C → D → E → Bool) (f : A → B → C → D → E → AV) (x0 x1 x2 x3 x4 : AV) (h : Heap) : aCallPure (G5 ok f) [x0, x1, x2, x3, x4] h = obind (snapD h x0) fun a0 => obind (snapD h x1) fun a1 => obind (snapD h x2) fun a2 => obind (snapD h x3) fun a3 => obind (snapD h x4) fun a4 => obind (bif ok a0 a1 a2 a3 a4 then some (f a0 a1 a2 a3 a4) else none) fun r => hand r ([x0, x1, x2, x3, x4].all (noRef depth)) h := by
  unfold G5
  rw [callR5]
theorem G5_enc {A : Type} {B : Type} {C : Type} {D : Type} {E : Type} [Cod A] [Cod B] [Cod C] [Cod D] [Cod E] (ok : A → B → C → D → E → Bool) (f : A → B → C → D → E → AV) (a0 : A) (a1 : B) (a2 : C) (a3 : D) (a4 : E) (h : ok a0 a1 a2 a3 a4 = true) : G5 ok f [enc a0, enc a1, enc a2, enc a3, enc a4] = some (f a0 a1 a2 a3 a4) := by
  unfold G5
  rw [R5_enc, h]
  rfl

/-- 6 arguments. -/
def G6 {A : Type} {B : Type} {C : Type} {D : Type} {E : Type} {F : Type} [Cod A] [Cod B] [Cod C] [Cod D] [Cod E] [Cod F] (ok : A → B → C → D → E → F → Bool) (f : A → B → C → D → E → F → AV) : List AV → Option AV := R6 fun a0 a1 a2 a3 a4 a5 => bif ok a0 a1 a2 a3 a4 a5 then some (f a0 a1 a2 a3 a4 a5) else none
theorem pureG6 {P : Program} {env : Nat → Contract} (henv : EnvOK P env) (hm : P.follows .mixedOrders = true) {g : Nat} (hb : HasBody P g) {A : Type} {B : Type} {C : Type} {D : Type} {E : Type} {F : Type} [Cod A] [Cod B] [Cod C] [Cod D] [Cod E] [Cod F] {ok : A → B → C → D → E → F → Bool} {f : A → B → C → D → E → F → AV}
    (hF : ∀ (a0 : A) (a1 : B) (a2 : C) (a3 : D) (a4 : E) (a5 : F), ok a0 a1 a2 a3 a4 a5 = true → (obind (denFn P env g [enc a0, enc a1, enc a2, enc a3, enc a4, enc a5] []) fun p => release p.2 depth p.1) = some (f a0 a1 a2 a3 a4 a5)) : PureOK P g (G6 ok f) :=
  pureR6 henv hm hb fun a0 a1 a2 a3 a4 a5 r hr => by
    cases e : ok a0 a1 a2 a3 a4 a5 with
    | false => rw [e] at hr; cases hr
    | true =>
      rw [e] at hr
      cases hr
      exact pureG (hF a0 a1 a2 a3 a4 a5 e)
@[simp] theorem callG6 {A : Type} {B : Type} {C : Type} {D : Type} {E : Type} {F : Type} [Cod A] [Cod B] [Cod C] [Cod D] [Cod E] [Cod F] (ok : A → B → C → D → E → F → Bool) (f : A → B → C → D → E → F → AV) (x0 x1 x2 x3 x4 x5 : AV) (h : Heap) : aCallPure (G6 ok f) [x0, x1, x2, x3, x4, x5] h = obind (snapD h x0) fun a0 => obind (snapD h x1) fun a1 => obind (snapD h x2) fun a2 => obind (snapD h x3) fun a3 => obind (snapD h x4) fun a4 => obind (snapD h x5) fun a5 => obind (bif ok a0 a1 a2 a3 a4 a5 then some (f a0 a1 a2 a3 a4 a5) else none) fun r => hand r ([x0, x1, x2, x3, x4, x5].all (noRef depth)) h := by
  unfold G6
  rw [callR6]
theorem G6_enc {A : Type} {B : Type} {C : Type} {D : Type} {E : Type} {F : Type} [Cod A] [Cod B] [Cod C] [Cod D] [Cod E] [Cod F] (ok : A → B → C → D → E → F → Bool) (f : A → B → C → D → E → F → AV) (a0 : A) (a1 : B) (a2 : C) (a3 : D) (a4 : E) (a5 : F) (h : ok a0 a1 a2 a3 a4 a5 = true) : G6 ok f [enc a0, enc a1, enc a2, enc a3, enc a4, enc a5] = some (f a0 a1 a2 a3 a4 a5) := by
  unfold G6
  rw [R6_enc, h]
  rfl

/-- 7 arguments. -/
def G7 {A : Type} {B : Type} {C : Type} {D : Type} {E : Type} {F : Type} {G : Type} [Cod A] [Cod B] [Cod C] [Cod D] [Cod E] [Cod F] [Cod G] (ok : A → B → C → D → E → F → G → Bool) (f : A → B → C → D → E → F → G → AV) : List AV → Option AV := R7 fun a0 a1 a2 a3 a4 a5 a6 => bif ok a0 a1 a2 a3 a4 a5 a6 then some (f a0 a1 a2 a3 a4 a5 a6) else none
theorem pureG7 {P : Program} {env : Nat → Contract} (henv : EnvOK P env) (hm : P.follows .mixedOrders = true) {g : Nat} (hb : HasBody P g) {A : Type} {B : Type} {C : Type} {D : Type} {E : Type} {F : Type} {G : Type} [Cod A] [Cod B] [Cod C] [Cod D] [Cod E] [Cod F] [Cod G] {ok : A → B → C → D → E → F → G → Bool} {f : A → B → C → D → E → F → G → AV}
    (hF : ∀ (a0 : A) (a1 : B) (a2 : C) (a3 : D) (a4 : E) (a5 : F) (a6 : G), ok a0 a1 a2 a3 a4 a5 a6 = true → (obind (denFn P env g [enc a0, enc a1, enc a2, enc a3, enc a4, enc a5, enc a6] []) fun p => release p.2 depth p.1) = some (f a0 a1 a2 a3 a4 a5 a6)) : PureOK P g (G7 ok f) :=
  pureR7 henv hm hb fun a0 a1 a2 a3 a4 a5 a6 r hr => by
    cases e : ok a0 a1 a2 a3 a4 a5 a6 with
    | false => rw [e] at hr; cases hr
    | true =>
      rw [e] at hr
      cases hr
      exact pureG (hF a0 a1 a2 a3 a4 a5 a6 e)
@[simp] theorem callG7 {A : Type} {B : Type} {C : Type} {D : Type} {E : Type} {F : Type} {G : Type} [Cod A] [Cod B] [Cod C] [Cod D] [Cod E] [Cod F] [Cod G] (ok : A → B → C → D → E → F → G → Bool) (f : A → B → C → D → E → F → G → AV) (x0 x1 x2 x3 x4 x5 x6 : AV) (h : Heap) : aCallPure (G7 ok f) [x0, x1, x2, x3, x4, x5, x6] h = obind (snapD h x0) fun a0 => obind (snapD h x1) fun a1 => obind (snapD h x2) fun a2 => obind (snapD h x3) fun a3 => obind (snapD h x4) fun a4 => obind (snapD h x5) fun a5 => obind (snapD h x6) fun a6 => obind (bif ok a0 a1 a2 a3 a4 a5 a6 then some (f a0 a1 a2 a3 a4 a5 a6) else none) fun r => hand r ([x0, x1, x2, x3, x4, x5, x6].all (noRef depth)) h := by
  unfold G7
  rw [callR7]
theorem G7_enc {A : Type} {B : Type} {C : Type} {D : Type} {E : Type} {F : Type} {G : Type} [Cod A] [Cod B] [Cod C] [Cod D] [Cod E] [Cod F] [Cod G] (ok : A → B → C → D → E → F → G → Bool) (f : A → B → C → D → E → F → G → AV) (a0 : A) (a1 : B) (a2 : C) (a3 : D) (a4 : E) (a5 : F) (a6 : G) (h : ok a0 a1 a2 a3 a4 a5 a6 = true) : G7 ok f [enc a0, enc a1, enc a2, enc a3, enc a4, enc a5, enc a6] = some (f a0 a1 a2 a3 a4 a5 a6) := by
  unfold G7
  rw [R7_enc, h]
  rfl

end Go.Eng
