import Derived.Test.YtfhffgfbnlikjaaEngTab
namespace Go.Eng
set_option linter.unusedVariables false
set_option linter.unusedSimpArgs false
open Cod (enc dec)
def G1 {A : Type} [Cod A] (ok : A → Bool) (f : A → AV) : List AV → Option AV := R1 fun a0 => bif ok a0 then some (f a0) else none
@[simp] theorem callG1 {A : Type} [Cod A] (ok : A → Bool) (f : A → AV) (x0 : AV) (h : kA4) : kAb (G1 ok f) [x0] h = kA0 (snapD h x0) fun a0 => kA0 (bif ok a0 then some (f a0) else none) fun r => kEe r ([x0].all (kD0 depth)) h := by
  unfold G1
  rw [callR1]
def G2 {A : Type} {B : Type} [Cod A] [Cod B] (ok : A → B → Bool) (f : A → B → AV) : List AV → Option AV := R2 fun a0 a1 => bif ok a0 a1 then some (f a0 a1) else none
@[simp] theorem callG2 {A : Type} {B : Type} [Cod A] [Cod B] (ok : A → B → Bool) (f : A → B → AV) (x0 x1 : AV) (h : kA4) : kAb (G2 ok f) [x0, x1] h = kA0 (snapD h x0) fun a0 => kA0 (snapD h x1) fun a1 => kA0 (bif ok a0 a1 then some (f a0 a1) else none) fun r => kEe r ([x0, x1].all (kD0 depth)) h := by
  unfold G2
  rw [callR2]
def G3 {A : Type} {B : Type} {C : Type} [Cod A] [Cod B] [Cod C] (ok : A → B → C → Bool) (f : A → B → C → AV) : List AV → Option AV := R3 fun a0 a1 a2 => bif ok a0 a1 a2 then some (f a0 a1 a2) else none
@[simp] theorem callG3 {A : Type} {B : Type} {C : Type} [Cod A] [Cod B] [Cod C] (ok : A → B → C → Bool) (f : A → B → C → AV) (x0 x1 x2 : AV) (h : kA4) : kAb (G3 ok f) [x0, x1, x2] h = kA0 (snapD h x0) fun a0 => kA0 (snapD h x1) fun a1 => kA0 (snapD h x2) fun a2 => kA0 (bif ok a0 a1 a2 then some (f a0 a1 a2) else none) fun r => kEe r ([x0, x1, x2].all (kD0 depth)) h := by
  unfold G3
  rw [callR3]
theorem G3_enc {A : Type} {B : Type} {C : Type} [Cod A] [Cod B] [Cod C] (ok : A → B → C → Bool) (f : A → B → C → AV) (a0 : A) (a1 : B) (a2 : C) (h : ok a0 a1 a2 = true) : G3 ok f [enc a0, enc a1, enc a2] = some (f a0 a1 a2) := by
  unfold G3
  rw [R3_enc, h]
  rfl
def G4 {A : Type} {B : Type} {C : Type} {D : Type} [Cod A] [Cod B] [Cod C] [Cod D] (ok : A → B → C → D → Bool) (f : A → B → C → D → AV) : List AV → Option AV := R4 fun a0 a1 a2 a3 => bif ok a0 a1 a2 a3 then some (f a0 a1 a2 a3) else none
@[simp] theorem callG4 {A : Type} {B : Type} {C : Type} {D : Type} [Cod A] [Cod B] [Cod C] [Cod D] (ok : A → B → C → D → Bool) (f : A → B → C → D → AV) (x0 x1 x2 x3 : AV) (h : kA4) : kAb (G4 ok f) [x0, x1, x2, x3] h = kA0 (snapD h x0) fun a0 => kA0 (snapD h x1) fun a1 => kA0 (snapD h x2) fun a2 => kA0 (snapD h x3) fun a3 => kA0 (bif ok a0 a1 a2 a3 then some (f a0 a1 a2 a3) else none) fun r => kEe r ([x0, x1, x2, x3].all (kD0 depth)) h := by
  unfold G4
  rw [callR4]
def G5 {A : Type} {B : Type} {C : Type} {D : Type} {E : Type} [Cod A] [Cod B] [Cod C] [Cod D] [Cod E] (ok : A → B → C → D → E → Bool) (f : A → B → C → D → E → AV) : List AV → Option AV := R5 fun a0 a1 a2 a3 a4 => bif ok a0 a1 a2 a3 a4 then some (f a0 a1 a2 a3 a4) else none
@[simp] theorem callG5 {A : Type} {B : Type} {C : Type} {D : Type} {E : Type} [Cod A] [Cod B] [Cod C] [Cod D] [Cod E] (ok : A → B → C → D → E → Bool) (f : A → B → C → D → E → AV) (x0 x1 x2 x3 x4 : AV) (h : kA4) : kAb (G5 ok f) [x0, x1, x2, x3, x4] h = kA0 (snapD h x0) fun a0 => kA0 (snapD h x1) fun a1 => kA0 (snapD h x2) fun a2 => kA0 (snapD h x3) fun a3 => kA0 (snapD h x4) fun a4 => kA0 (bif ok a0 a1 a2 a3 a4 then some (f a0 a1 a2 a3 a4) else none) fun r => kEe r ([x0, x1, x2, x3, x4].all (kD0 depth)) h := by
  unfold G5
  rw [callR5]
def G6 {A : Type} {B : Type} {C : Type} {D : Type} {E : Type} {F : Type} [Cod A] [Cod B] [Cod C] [Cod D] [Cod E] [Cod F] (ok : A → B → C → D → E → F → Bool) (f : A → B → C → D → E → F → AV) : List AV → Option AV := R6 fun a0 a1 a2 a3 a4 a5 => bif ok a0 a1 a2 a3 a4 a5 then some (f a0 a1 a2 a3 a4 a5) else none
@[simp] theorem callG6 {A : Type} {B : Type} {C : Type} {D : Type} {E : Type} {F : Type} [Cod A] [Cod B] [Cod C] [Cod D] [Cod E] [Cod F] (ok : A → B → C → D → E → F → Bool) (f : A → B → C → D → E → F → AV) (x0 x1 x2 x3 x4 x5 : AV) (h : kA4) : kAb (G6 ok f) [x0, x1, x2, x3, x4, x5] h = kA0 (snapD h x0) fun a0 => kA0 (snapD h x1) fun a1 => kA0 (snapD h x2) fun a2 => kA0 (snapD h x3) fun a3 => kA0 (snapD h x4) fun a4 => kA0 (snapD h x5) fun a5 => kA0 (bif ok a0 a1 a2 a3 a4 a5 then some (f a0 a1 a2 a3 a4 a5) else none) fun r => kEe r ([x0, x1, x2, x3, x4, x5].all (kD0 depth)) h := by
  unfold G6
  rw [callR6]
def G7 {A : Type} {B : Type} {C : Type} {D : Type} {E : Type} {F : Type} {G : Type} [Cod A] [Cod B] [Cod C] [Cod D] [Cod E] [Cod F] [Cod G] (ok : A → B → C → D → E → F → G → Bool) (f : A → B → C → D → E → F → G → AV) : List AV → Option AV := R7 fun a0 a1 a2 a3 a4 a5 a6 => bif ok a0 a1 a2 a3 a4 a5 a6 then some (f a0 a1 a2 a3 a4 a5 a6) else none
@[simp] theorem callG7 {A : Type} {B : Type} {C : Type} {D : Type} {E : Type} {F : Type} {G : Type} [Cod A] [Cod B] [Cod C] [Cod D] [Cod E] [Cod F] [Cod G] (ok : A → B → C → D → E → F → G → Bool) (f : A → B → C → D → E → F → G → AV) (x0 x1 x2 x3 x4 x5 x6 : AV) (h : kA4) : kAb (G7 ok f) [x0, x1, x2, x3, x4, x5, x6] h = kA0 (snapD h x0) fun a0 => kA0 (snapD h x1) fun a1 => kA0 (snapD h x2) fun a2 => kA0 (snapD h x3) fun a3 => kA0 (snapD h x4) fun a4 => kA0 (snapD h x5) fun a5 => kA0 (snapD h x6) fun a6 => kA0 (bif ok a0 a1 a2 a3 a4 a5 a6 then some (f a0 a1 a2 a3 a4 a5 a6) else none) fun r => kEe r ([x0, x1, x2, x3, x4, x5, x6].all (kD0 depth)) h := by
  unfold G7
  rw [callR7]
end Go.Eng
