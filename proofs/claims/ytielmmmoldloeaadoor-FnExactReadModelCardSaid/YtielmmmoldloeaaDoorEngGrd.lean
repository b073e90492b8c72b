/-
  THE ENGINE, PART 34: guarded runs, side by side.
-/
import Derived.Test.YtielmmmoldloeaaDoorEngTy
namespace Go.Eng
set_option linter.unusedVariables false
set_option linter.unusedSimpArgs false
theorem sim_g3F {β γ δ : Type} {Q : δ → γ → Prop} {b : Bool} {h : Heap} {X1 : Option (AV × Heap)} {X2 : AV → Heap → Option (AV × Heap)} {X3 : AV → AV → Heap → Option (AV × Heap)} {Y : Option β} {e : β → AV} {d : β} {F : AV → AV → AV → Heap → Option γ} {G : β → Option δ}
    (h1 : b = false → Sim (obind2 X1 fun v1 g1 => obind2 (X2 v1 g1) fun v2 g2 => X3 v1 v2 g2) Y (fun y r => r = (e y, h))) (K : ∀ v1 v2 c, Sim (F v1 v2 (cond b und (e c)) h) (G c) Q) : Sim (obind2 (guardB (bv b) false X1 (some (und, h))) fun v1 g1 => obind2 (guardB (bv b) false (X2 v1 g1) (some (und, g1))) fun v2 g2 => obind2 (guardB (bv b) false (X3 v1 v2 g2) (some (und, g2))) fun v3 g3 => F v1 v2 v3 g3) (obind (cond b (some d) Y) G) Q := by
  cases b with
  | true => exact K und und d
  | false =>
    intro z hz
    cases Y with
    | none => cases hz
    | some c =>
    obtain ⟨r, hx, hr⟩ := h1 rfl c rfl
    subst hr
    obtain ⟨v1, g1, x1, hx⟩ := obind2_ex hx
    obtain ⟨v2, g2, x2, hx⟩ := obind2_ex hx
    obtain ⟨w, hw, hq⟩ := K v1 v2 c z hz
    refine ⟨w, ?_, hq⟩
    show (obind2 X1 fun v1 g1 => obind2 (X2 v1 g1) fun v2 g2 => obind2 (X3 v1 v2 g2) fun v3 g3 => F v1 v2 v3 g3) = some w
    simp only [x1, x2, obind2_sm, hx]
    exact hw
theorem sim_g9T {β γ δ : Type} {Q : δ → γ → Prop} {b : Bool} {h : Heap} {X1 : Option (AV × Heap)} {X2 : AV → Heap → Option (AV × Heap)} {X3 : AV → AV → Heap → Option (AV × Heap)} {X4 : AV → AV → AV → Heap → Option (AV × Heap)} {X5 : AV → AV → AV → AV → Heap → Option (AV × Heap)} {X6 : AV → AV → AV → AV → AV → Heap → Option (AV × Heap)} {X7 : AV → AV → AV → AV → AV → AV → Heap → Option (AV × Heap)} {X8 : AV → AV → AV → AV → AV → AV → AV → Heap → Option (AV × Heap)} {X9 : AV → AV → AV → AV → AV → AV → AV → AV → Heap → Option (AV × Heap)} {Y : Option β} {e : β → AV} {d : β} {F : AV → AV → AV → AV → AV → AV → AV → AV → AV → Heap → Option γ} {G : β → Option δ}
    (h1 : b = true → Sim (obind2 X1 fun v1 g1 => obind2 (X2 v1 g1) fun v2 g2 => obind2 (X3 v1 v2 g2) fun v3 g3 => obind2 (X4 v1 v2 v3 g3) fun v4 g4 => obind2 (X5 v1 v2 v3 v4 g4) fun v5 g5 => obind2 (X6 v1 v2 v3 v4 v5 g5) fun v6 g6 => obind2 (X7 v1 v2 v3 v4 v5 v6 g6) fun v7 g7 => obind2 (X8 v1 v2 v3 v4 v5 v6 v7 g7) fun v8 g8 => X9 v1 v2 v3 v4 v5 v6 v7 v8 g8) Y (fun y r => r = (e y, h))) (K : ∀ v1 v2 v3 v4 v5 v6 v7 v8 c, Sim (F v1 v2 v3 v4 v5 v6 v7 v8 (cond b (e c) und) h) (G c) Q) : Sim (obind2 (guardB (bv b) true X1 (some (und, h))) fun v1 g1 => obind2 (guardB (bv b) true (X2 v1 g1) (some (und, g1))) fun v2 g2 => obind2 (guardB (bv b) true (X3 v1 v2 g2) (some (und, g2))) fun v3 g3 => obind2 (guardB (bv b) true (X4 v1 v2 v3 g3) (some (und, g3))) fun v4 g4 => obind2 (guardB (bv b) true (X5 v1 v2 v3 v4 g4) (some (und, g4))) fun v5 g5 => obind2 (guardB (bv b) true (X6 v1 v2 v3 v4 v5 g5) (some (und, g5))) fun v6 g6 => obind2 (guardB (bv b) true (X7 v1 v2 v3 v4 v5 v6 g6) (some (und, g6))) fun v7 g7 => obind2 (guardB (bv b) true (X8 v1 v2 v3 v4 v5 v6 v7 g7) (some (und, g7))) fun v8 g8 => obind2 (guardB (bv b) true (X9 v1 v2 v3 v4 v5 v6 v7 v8 g8) (some (und, g8))) fun v9 g9 => F v1 v2 v3 v4 v5 v6 v7 v8 v9 g9) (obind (cond b Y (some d)) G) Q := by
  cases b with
  | false => exact K und und und und und und und und d
  | true =>
    intro z hz
    cases Y with
    | none => cases hz
    | some c =>
    obtain ⟨r, hx, hr⟩ := h1 rfl c rfl
    subst hr
    obtain ⟨v1, g1, x1, hx⟩ := obind2_ex hx
    obtain ⟨v2, g2, x2, hx⟩ := obind2_ex hx
    obtain ⟨v3, g3, x3, hx⟩ := obind2_ex hx
    obtain ⟨v4, g4, x4, hx⟩ := obind2_ex hx
    obtain ⟨v5, g5, x5, hx⟩ := obind2_ex hx
    obtain ⟨v6, g6, x6, hx⟩ := obind2_ex hx
    obtain ⟨v7, g7, x7, hx⟩ := obind2_ex hx
    obtain ⟨v8, g8, x8, hx⟩ := obind2_ex hx
    obtain ⟨w, hw, hq⟩ := K v1 v2 v3 v4 v5 v6 v7 v8 c z hz
    refine ⟨w, ?_, hq⟩
    show (obind2 X1 fun v1 g1 => obind2 (X2 v1 g1) fun v2 g2 => obind2 (X3 v1 v2 g2) fun v3 g3 => obind2 (X4 v1 v2 v3 g3) fun v4 g4 => obind2 (X5 v1 v2 v3 v4 g4) fun v5 g5 => obind2 (X6 v1 v2 v3 v4 v5 g5) fun v6 g6 => obind2 (X7 v1 v2 v3 v4 v5 v6 g6) fun v7 g7 => obind2 (X8 v1 v2 v3 v4 v5 v6 v7 g7) fun v8 g8 => obind2 (X9 v1 v2 v3 v4 v5 v6 v7 v8 g8) fun v9 g9 => F v1 v2 v3 v4 v5 v6 v7 v8 v9 g9) = some w
    simp only [x1, x2, x3, x4, x5, x6, x7, x8, obind2_sm, hx]
    exact hw
theorem sim_g10F {β γ δ : Type} {Q : δ → γ → Prop} {b : Bool} {h : Heap} {X1 : Option (AV × Heap)} {X2 : AV → Heap → Option (AV × Heap)} {X3 : AV → AV → Heap → Option (AV × Heap)} {X4 : AV → AV → AV → Heap → Option (AV × Heap)} {X5 : AV → AV → AV → AV → Heap → Option (AV × Heap)} {X6 : AV → AV → AV → AV → AV → Heap → Option (AV × Heap)} {X7 : AV → AV → AV → AV → AV → AV → Heap → Option (AV × Heap)} {X8 : AV → AV → AV → AV → AV → AV → AV → Heap → Option (AV × Heap)} {X9 : AV → AV → AV → AV → AV → AV → AV → AV → Heap → Option (AV × Heap)} {X10 : AV → AV → AV → AV → AV → AV → AV → AV → AV → Heap → Option (AV × Heap)} {Y : Option β} {e : β → AV} {d : β} {F : AV → AV → AV → AV → AV → AV → AV → AV → AV → AV → Heap → Option γ} {G : β → Option δ}
    (h1 : b = false → Sim (obind2 X1 fun v1 g1 => obind2 (X2 v1 g1) fun v2 g2 => obind2 (X3 v1 v2 g2) fun v3 g3 => obind2 (X4 v1 v2 v3 g3) fun v4 g4 => obind2 (X5 v1 v2 v3 v4 g4) fun v5 g5 => obind2 (X6 v1 v2 v3 v4 v5 g5) fun v6 g6 => obind2 (X7 v1 v2 v3 v4 v5 v6 g6) fun v7 g7 => obind2 (X8 v1 v2 v3 v4 v5 v6 v7 g7) fun v8 g8 => obind2 (X9 v1 v2 v3 v4 v5 v6 v7 v8 g8) fun v9 g9 => X10 v1 v2 v3 v4 v5 v6 v7 v8 v9 g9) Y (fun y r => r = (e y, h))) (K : ∀ v1 v2 v3 v4 v5 v6 v7 v8 v9 c, Sim (F v1 v2 v3 v4 v5 v6 v7 v8 v9 (cond b und (e c)) h) (G c) Q) : Sim (obind2 (guardB (bv b) false X1 (some (und, h))) fun v1 g1 => obind2 (guardB (bv b) false (X2 v1 g1) (some (und, g1))) fun v2 g2 => obind2 (guardB (bv b) false (X3 v1 v2 g2) (some (und, g2))) fun v3 g3 => obind2 (guardB (bv b) false (X4 v1 v2 v3 g3) (some (und, g3))) fun v4 g4 => obind2 (guardB (bv b) false (X5 v1 v2 v3 v4 g4) (some (und, g4))) fun v5 g5 => obind2 (guardB (bv b) false (X6 v1 v2 v3 v4 v5 g5) (some (und, g5))) fun v6 g6 => obind2 (guardB (bv b) false (X7 v1 v2 v3 v4 v5 v6 g6) (some (und, g6))) fun v7 g7 => obind2 (guardB (bv b) false (X8 v1 v2 v3 v4 v5 v6 v7 g7) (some (und, g7))) fun v8 g8 => obind2 (guardB (bv b) false (X9 v1 v2 v3 v4 v5 v6 v7 v8 g8) (some (und, g8))) fun v9 g9 => obind2 (guardB (bv b) false (X10 v1 v2 v3 v4 v5 v6 v7 v8 v9 g9) (some (und, g9))) fun v10 g10 => F v1 v2 v3 v4 v5 v6 v7 v8 v9 v10 g10) (obind (cond b (some d) Y) G) Q := by
  cases b with
  | true => exact K und und und und und und und und und d
  | false =>
    intro z hz
    cases Y with
    | none => cases hz
    | some c =>
    obtain ⟨r, hx, hr⟩ := h1 rfl c rfl
    subst hr
    obtain ⟨v1, g1, x1, hx⟩ := obind2_ex hx
    obtain ⟨v2, g2, x2, hx⟩ := obind2_ex hx
    obtain ⟨v3, g3, x3, hx⟩ := obind2_ex hx
    obtain ⟨v4, g4, x4, hx⟩ := obind2_ex hx
    obtain ⟨v5, g5, x5, hx⟩ := obind2_ex hx
    obtain ⟨v6, g6, x6, hx⟩ := obind2_ex hx
    obtain ⟨v7, g7, x7, hx⟩ := obind2_ex hx
    obtain ⟨v8, g8, x8, hx⟩ := obind2_ex hx
    obtain ⟨v9, g9, x9, hx⟩ := obind2_ex hx
    obtain ⟨w, hw, hq⟩ := K v1 v2 v3 v4 v5 v6 v7 v8 v9 c z hz
    refine ⟨w, ?_, hq⟩
    show (obind2 X1 fun v1 g1 => obind2 (X2 v1 g1) fun v2 g2 => obind2 (X3 v1 v2 g2) fun v3 g3 => obind2 (X4 v1 v2 v3 g3) fun v4 g4 => obind2 (X5 v1 v2 v3 v4 g4) fun v5 g5 => obind2 (X6 v1 v2 v3 v4 v5 g5) fun v6 g6 => obind2 (X7 v1 v2 v3 v4 v5 v6 g6) fun v7 g7 => obind2 (X8 v1 v2 v3 v4 v5 v6 v7 g7) fun v8 g8 => obind2 (X9 v1 v2 v3 v4 v5 v6 v7 v8 g8) fun v9 g9 => obind2 (X10 v1 v2 v3 v4 v5 v6 v7 v8 v9 g9) fun v10 g10 => F v1 v2 v3 v4 v5 v6 v7 v8 v9 v10 g10) = some w
    simp only [x1, x2, x3, x4, x5, x6, x7, x8, x9, obind2_sm, hx]
    exact hw
theorem sim_g15T {β γ δ : Type} {Q : δ → γ → Prop} {b : Bool} {h : Heap} {X1 : Option (AV × Heap)} {X2 : AV → Heap → Option (AV × Heap)} {X3 : AV → AV → Heap → Option (AV × Heap)} {X4 : AV → AV → AV → Heap → Option (AV × Heap)} {X5 : AV → AV → AV → AV → Heap → Option (AV × Heap)} {X6 : AV → AV → AV → AV → AV → Heap → Option (AV × Heap)} {X7 : AV → AV → AV → AV → AV → AV → Heap → Option (AV × Heap)} {X8 : AV → AV → AV → AV → AV → AV → AV → Heap → Option (AV × Heap)} {X9 : AV → AV → AV → AV → AV → AV → AV → AV → Heap → Option (AV × Heap)} {X10 : AV → AV → AV → AV → AV → AV → AV → AV → AV → Heap → Option (AV × Heap)} {X11 : AV → AV → AV → AV → AV → AV → AV → AV → AV → AV → Heap → Option (AV × Heap)} {X12 : AV → AV → AV → AV → AV → AV → AV → AV → AV → AV → AV → Heap → Option (AV × Heap)} {X13 : AV → AV → AV → AV → AV → AV → AV → AV → AV → AV → AV → AV → Heap → Option (AV × Heap)} {X14 : AV → AV → AV → AV → AV → AV → AV → AV → AV → AV → AV → AV → AV → Heap → Option (AV × Heap)} {X15 : AV → AV → AV → AV → AV → AV → AV → AV → AV → AV → AV → AV → AV → AV → Heap → Option (AV × Heap)} {Y : Option β} {e : β → AV} {d : β} {F : AV → AV → AV → AV → AV → AV → AV → AV → AV → AV → AV → AV → AV → AV → AV → Heap → Option γ} {G : β → Option δ}
    (h1 : b = true → Sim (obind2 X1 fun v1 g1 => obind2 (X2 v1 g1) fun v2 g2 => obind2 (X3 v1 v2 g2) fun v3 g3 => obind2 (X4 v1 v2 v3 g3) fun v4 g4 => obind2 (X5 v1 v2 v3 v4 g4) fun v5 g5 => obind2 (X6 v1 v2 v3 v4 v5 g5) fun v6 g6 => obind2 (X7 v1 v2 v3 v4 v5 v6 g6) fun v7 g7 => obind2 (X8 v1 v2 v3 v4 v5 v6 v7 g7) fun v8 g8 => obind2 (X9 v1 v2 v3 v4 v5 v6 v7 v8 g8) fun v9 g9 => obind2 (X10 v1 v2 v3 v4 v5 v6 v7 v8 v9 g9) fun v10 g10 => obind2 (X11 v1 v2 v3 v4 v5 v6 v7 v8 v9 v10 g10) fun v11 g11 => obind2 (X12 v1 v2 v3 v4 v5 v6 v7 v8 v9 v10 v11 g11) fun v12 g12 => obind2 (X13 v1 v2 v3 v4 v5 v6 v7 v8 v9 v10 v11 v12 g12) fun v13 g13 => obind2 (X14 v1 v2 v3 v4 v5 v6 v7 v8 v9 v10 v11 v12 v13 g13) fun v14 g14 => X15 v1 v2 v3 v4 v5 v6 v7 v8 v9 v10 v11 v12 v13 v14 g14) Y (fun y r => r = (e y, h))) (K : ∀ v1 v2 v3 v4 v5 v6 v7 v8 v9 v10 v11 v12 v13 v14 c, Sim (F v1 v2 v3 v4 v5 v6 v7 v8 v9 v10 v11 v12 v13 v14 (cond b (e c) und) h) (G c) Q) : Sim (obind2 (guardB (bv b) true X1 (some (und, h))) fun v1 g1 => obind2 (guardB (bv b) true (X2 v1 g1) (some (und, g1))) fun v2 g2 => obind2 (guardB (bv b) true (X3 v1 v2 g2) (some (und, g2))) fun v3 g3 => obind2 (guardB (bv b) true (X4 v1 v2 v3 g3) (some (und, g3))) fun v4 g4 => obind2 (guardB (bv b) true (X5 v1 v2 v3 v4 g4) (some (und, g4))) fun v5 g5 => obind2 (guardB (bv b) true (X6 v1 v2 v3 v4 v5 g5) (some (und, g5))) fun v6 g6 => obind2 (guardB (bv b) true (X7 v1 v2 v3 v4 v5 v6 g6) (some (und, g6))) fun v7 g7 => obind2 (guardB (bv b) true (X8 v1 v2 v3 v4 v5 v6 v7 g7) (some (und, g7))) fun v8 g8 => obind2 (guardB (bv b) true (X9 v1 v2 v3 v4 v5 v6 v7 v8 g8) (some (und, g8))) fun v9 g9 => obind2 (guardB (bv b) true (X10 v1 v2 v3 v4 v5 v6 v7 v8 v9 g9) (some (und, g9))) fun v10 g10 => obind2 (guardB (bv b) true (X11 v1 v2 v3 v4 v5 v6 v7 v8 v9 v10 g10) (some (und, g10))) fun v11 g11 => obind2 (guardB (bv b) true (X12 v1 v2 v3 v4 v5 v6 v7 v8 v9 v10 v11 g11) (some (und, g11))) fun v12 g12 => obind2 (guardB (bv b) true (X13 v1 v2 v3 v4 v5 v6 v7 v8 v9 v10 v11 v12 g12) (some (und, g12))) fun v13 g13 => obind2 (guardB (bv b) true (X14 v1 v2 v3 v4 v5 v6 v7 v8 v9 v10 v11 v12 v13 g13) (some (und, g13))) fun v14 g14 => obind2 (guardB (bv b) true (X15 v1 v2 v3 v4 v5 v6 v7 v8 v9 v10 v11 v12 v13 v14 g14) (some (und, g14))) fun v15 g15 => F v1 v2 v3 v4 v5 v6 v7 v8 v9 v10 v11 v12 v13 v14 v15 g15) (obind (cond b Y (some d)) G) Q := by
  cases b with
  | false => exact K und und und und und und und und und und und und und und d
  | true =>
    intro z hz
    cases Y with
    | none => cases hz
    | some c =>
    obtain ⟨r, hx, hr⟩ := h1 rfl c rfl
    subst hr
    obtain ⟨v1, g1, x1, hx⟩ := obind2_ex hx
    obtain ⟨v2, g2, x2, hx⟩ := obind2_ex hx
    obtain ⟨v3, g3, x3, hx⟩ := obind2_ex hx
    obtain ⟨v4, g4, x4, hx⟩ := obind2_ex hx
    obtain ⟨v5, g5, x5, hx⟩ := obind2_ex hx
    obtain ⟨v6, g6, x6, hx⟩ := obind2_ex hx
    obtain ⟨v7, g7, x7, hx⟩ := obind2_ex hx
    obtain ⟨v8, g8, x8, hx⟩ := obind2_ex hx
    obtain ⟨v9, g9, x9, hx⟩ := obind2_ex hx
    obtain ⟨v10, g10, x10, hx⟩ := obind2_ex hx
    obtain ⟨v11, g11, x11, hx⟩ := obind2_ex hx
    obtain ⟨v12, g12, x12, hx⟩ := obind2_ex hx
    obtain ⟨v13, g13, x13, hx⟩ := obind2_ex hx
    obtain ⟨v14, g14, x14, hx⟩ := obind2_ex hx
    obtain ⟨w, hw, hq⟩ := K v1 v2 v3 v4 v5 v6 v7 v8 v9 v10 v11 v12 v13 v14 c z hz
    refine ⟨w, ?_, hq⟩
    show (obind2 X1 fun v1 g1 => obind2 (X2 v1 g1) fun v2 g2 => obind2 (X3 v1 v2 g2) fun v3 g3 => obind2 (X4 v1 v2 v3 g3) fun v4 g4 => obind2 (X5 v1 v2 v3 v4 g4) fun v5 g5 => obind2 (X6 v1 v2 v3 v4 v5 g5) fun v6 g6 => obind2 (X7 v1 v2 v3 v4 v5 v6 g6) fun v7 g7 => obind2 (X8 v1 v2 v3 v4 v5 v6 v7 g7) fun v8 g8 => obind2 (X9 v1 v2 v3 v4 v5 v6 v7 v8 g8) fun v9 g9 => obind2 (X10 v1 v2 v3 v4 v5 v6 v7 v8 v9 g9) fun v10 g10 => obind2 (X11 v1 v2 v3 v4 v5 v6 v7 v8 v9 v10 g10) fun v11 g11 => obind2 (X12 v1 v2 v3 v4 v5 v6 v7 v8 v9 v10 v11 g11) fun v12 g12 => obind2 (X13 v1 v2 v3 v4 v5 v6 v7 v8 v9 v10 v11 v12 g12) fun v13 g13 => obind2 (X14 v1 v2 v3 v4 v5 v6 v7 v8 v9 v10 v11 v12 v13 g13) fun v14 g14 => obind2 (X15 v1 v2 v3 v4 v5 v6 v7 v8 v9 v10 v11 v12 v13 v14 g14) fun v15 g15 => F v1 v2 v3 v4 v5 v6 v7 v8 v9 v10 v11 v12 v13 v14 v15 g15) = some w
    simp only [x1, x2, x3, x4, x5, x6, x7, x8, x9, x10, x11, x12, x13, x14, obind2_sm, hx]
    exact hw
end Go.Eng
