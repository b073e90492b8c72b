import Derived.Test.YtfhffgfbnlikjaaEngLaw
import Derived.KernelRfl
namespace Go.Eng
set_option linter.unusedVariables false
set_option linter.unusedSimpArgs false
inductive RS where
  | v (a : AV)
  | c (g : Bool) (s : Nat) (a : AV)
def resL (h : kA4) : List RS → Option (List AV)
  | [] => some []
  | .v a :: r => match resL h r with
    | some l => some (a :: l)
    | none => none
  | .c g s a :: r => match kAc g s a h with
    | some v => match resL h r with
      | some l => some (v :: l)
      | none => none
    | none => none
def retL (rs : List RS) (h : kA4) : Option (AV × kA4) :=
  match resL h rs with
  | some l => some (pack l, h)
  | none => none
def kB3 : Code → Code
  | .seq a _ => a
  | .cond _ a _ => a
  | .block _ c => c
  | .loop c => c
  | c => c
def kAe : Code → Code
  | .seq _ b => b
  | .cond _ _ b => b
  | c => c
noncomputable def kSeqM (W : Bool) (P : Program) (env : Nat → Contract) (named : List Bool) (b : Code) (R : Type) (K : AX → TM → kA4 → Option R) : AX → TM → kA4 → Option R := fun e tm h => match e with
  | .normal => kD1 W P env named b R tm h K
  | .exit i => K (.exit i) tm h
  | .ret => K .ret tm h
noncomputable def kG5 (P : Program) (env : Nat → Contract) (named : List Bool) (b : Code) (R : Type) (K : AX → TM → kA4 → Option R) : AX → TM → kA4 → Option R := kSeqM false P env named b R K
def kBi {R : Type} (id : Nat) (K : AX → TM → kA4 → Option R) : AX → TM → kA4 → Option R := fun e tm h => match e with
  | .normal => K .normal tm h
  | .exit i => cond (Nat.beq i id) (K .normal tm h) (K (.exit i) tm h)
  | .ret => K .ret tm h
def kCa : List (Nat × Contract) → Nat → Contract
  | [], _ => .none
  | (g, c) :: r, x => cond (x == g) c (kCa r x)
theorem envL_ok {P : Program} : ∀ {l : List (Nat × Contract)}, (∀ p ∈ l, ContractOK P p.1 p.2) → kBr P (kCa l)
  | [], _, _ => trivial
  | (g, c) :: r, h, x => by
    unfold kCa
    cases e : x == g with
    | true =>
      have := eq_of_beq e
      subst this
      exact h (x, c) (by simp)
    | false => exact envL_ok (fun p hp => h p (by simp [hp])) x
end Go.Eng
