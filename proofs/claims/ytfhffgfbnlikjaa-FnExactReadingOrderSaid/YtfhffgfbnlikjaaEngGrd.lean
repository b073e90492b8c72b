import Derived.Test.YtfhffgfbnlikjaaEngTy
namespace Go.Eng
set_option linter.unusedVariables false
set_option linter.unusedSimpArgs false
theorem sim_g10F {β γ δ : Type} {Q : δ → γ → Prop} {b : Bool} {h : kA4} {X1 : Option (AV × kA4)} {X2 : AV → kA4 → Option (AV × kA4)} {X3 : AV → AV → kA4 → Option (AV × kA4)} {X4 : AV → AV → AV → kA4 → Option (AV × kA4)} {X5 : AV → AV → AV → AV → kA4 → Option (AV × kA4)} {X6 : AV → AV → AV → AV → AV → kA4 → Option (AV × kA4)} {X7 : AV → AV → AV → AV → AV → AV → kA4 → Option (AV × kA4)} {X8 : AV → AV → AV → AV → AV → AV → AV → kA4 → Option (AV × kA4)} {X9 : AV → AV → AV → AV → AV → AV → AV → AV → kA4 → Option (AV × kA4)} {X10 : AV → AV → AV → AV → AV → AV → AV → AV → AV → kA4 → Option (AV × kA4)} {Y : Option β} {e : β → AV} {d : β} {F : AV → AV → AV → AV → AV → AV → AV → AV → AV → AV → kA4 → Option γ} {G : β → Option δ}
    (h1 : b = false → Sim (kA3 X1 fun v1 g1 => kA3 (X2 v1 g1) fun v2 g2 => kA3 (X3 v1 v2 g2) fun v3 g3 => kA3 (X4 v1 v2 v3 g3) fun v4 g4 => kA3 (X5 v1 v2 v3 v4 g4) fun v5 g5 => kA3 (X6 v1 v2 v3 v4 v5 g5) fun v6 g6 => kA3 (X7 v1 v2 v3 v4 v5 v6 g6) fun v7 g7 => kA3 (X8 v1 v2 v3 v4 v5 v6 v7 g7) fun v8 g8 => kA3 (X9 v1 v2 v3 v4 v5 v6 v7 v8 g8) fun v9 g9 => X10 v1 v2 v3 v4 v5 v6 v7 v8 v9 g9) Y (fun y r => r = (e y, h))) (K : ∀ v1 v2 v3 v4 v5 v6 v7 v8 v9 c, Sim (F v1 v2 v3 v4 v5 v6 v7 v8 v9 (cond b und (e c)) h) (G c) Q) : Sim (kA3 (kAd (bv b) false X1 (some (und, h))) fun v1 g1 => kA3 (kAd (bv b) false (X2 v1 g1) (some (und, g1))) fun v2 g2 => kA3 (kAd (bv b) false (X3 v1 v2 g2) (some (und, g2))) fun v3 g3 => kA3 (kAd (bv b) false (X4 v1 v2 v3 g3) (some (und, g3))) fun v4 g4 => kA3 (kAd (bv b) false (X5 v1 v2 v3 v4 g4) (some (und, g4))) fun v5 g5 => kA3 (kAd (bv b) false (X6 v1 v2 v3 v4 v5 g5) (some (und, g5))) fun v6 g6 => kA3 (kAd (bv b) false (X7 v1 v2 v3 v4 v5 v6 g6) (some (und, g6))) fun v7 g7 => kA3 (kAd (bv b) false (X8 v1 v2 v3 v4 v5 v6 v7 g7) (some (und, g7))) fun v8 g8 => kA3 (kAd (bv b) false (X9 v1 v2 v3 v4 v5 v6 v7 v8 g8) (some (und, g8))) fun v9 g9 => kA3 (kAd (bv b) false (X10 v1 v2 v3 v4 v5 v6 v7 v8 v9 g9) (some (und, g9))) fun v10 g10 => F v1 v2 v3 v4 v5 v6 v7 v8 v9 v10 g10) (kA0 (cond b (some d) Y) G) Q := by
  cases b with
  | true => exact K und und und und und und und und und d
  | false =>
    intro z hz
    cases Y with
    | none => cases hz
    | some c =>
    obtain ⟨r, hx, hr⟩ := h1 rfl c rfl
    subst hr
    obtain ⟨v1, g1, x1, hx⟩ := kAy hx
    obtain ⟨v2, g2, x2, hx⟩ := kAy hx
    obtain ⟨v3, g3, x3, hx⟩ := kAy hx
    obtain ⟨v4, g4, x4, hx⟩ := kAy hx
    obtain ⟨v5, g5, x5, hx⟩ := kAy hx
    obtain ⟨v6, g6, x6, hx⟩ := kAy hx
    obtain ⟨v7, g7, x7, hx⟩ := kAy hx
    obtain ⟨v8, g8, x8, hx⟩ := kAy hx
    obtain ⟨v9, g9, x9, hx⟩ := kAy hx
    obtain ⟨w, hw, hq⟩ := K v1 v2 v3 v4 v5 v6 v7 v8 v9 c z hz
    refine ⟨w, ?_, hq⟩
    show (kA3 X1 fun v1 g1 => kA3 (X2 v1 g1) fun v2 g2 => kA3 (X3 v1 v2 g2) fun v3 g3 => kA3 (X4 v1 v2 v3 g3) fun v4 g4 => kA3 (X5 v1 v2 v3 v4 g4) fun v5 g5 => kA3 (X6 v1 v2 v3 v4 v5 g5) fun v6 g6 => kA3 (X7 v1 v2 v3 v4 v5 v6 g6) fun v7 g7 => kA3 (X8 v1 v2 v3 v4 v5 v6 v7 g7) fun v8 g8 => kA3 (X9 v1 v2 v3 v4 v5 v6 v7 v8 g8) fun v9 g9 => kA3 (X10 v1 v2 v3 v4 v5 v6 v7 v8 v9 g9) fun v10 g10 => F v1 v2 v3 v4 v5 v6 v7 v8 v9 v10 g10) = some w
    simp only [x1, x2, x3, x4, x5, x6, x7, x8, x9, kBs, hx]
    exact hw
theorem sim_g11F {β γ δ : Type} {Q : δ → γ → Prop} {b : Bool} {h : kA4} {X1 : Option (AV × kA4)} {X2 : AV → kA4 → Option (AV × kA4)} {X3 : AV → AV → kA4 → Option (AV × kA4)} {X4 : AV → AV → AV → kA4 → Option (AV × kA4)} {X5 : AV → AV → AV → AV → kA4 → Option (AV × kA4)} {X6 : AV → AV → AV → AV → AV → kA4 → Option (AV × kA4)} {X7 : AV → AV → AV → AV → AV → AV → kA4 → Option (AV × kA4)} {X8 : AV → AV → AV → AV → AV → AV → AV → kA4 → Option (AV × kA4)} {X9 : AV → AV → AV → AV → AV → AV → AV → AV → kA4 → Option (AV × kA4)} {X10 : AV → AV → AV → AV → AV → AV → AV → AV → AV → kA4 → Option (AV × kA4)} {X11 : AV → AV → AV → AV → AV → AV → AV → AV → AV → AV → kA4 → Option (AV × kA4)} {Y : Option β} {e : β → AV} {d : β} {F : AV → AV → AV → AV → AV → AV → AV → AV → AV → AV → AV → kA4 → Option γ} {G : β → Option δ}
    (h1 : b = false → Sim (kA3 X1 fun v1 g1 => kA3 (X2 v1 g1) fun v2 g2 => kA3 (X3 v1 v2 g2) fun v3 g3 => kA3 (X4 v1 v2 v3 g3) fun v4 g4 => kA3 (X5 v1 v2 v3 v4 g4) fun v5 g5 => kA3 (X6 v1 v2 v3 v4 v5 g5) fun v6 g6 => kA3 (X7 v1 v2 v3 v4 v5 v6 g6) fun v7 g7 => kA3 (X8 v1 v2 v3 v4 v5 v6 v7 g7) fun v8 g8 => kA3 (X9 v1 v2 v3 v4 v5 v6 v7 v8 g8) fun v9 g9 => kA3 (X10 v1 v2 v3 v4 v5 v6 v7 v8 v9 g9) fun v10 g10 => X11 v1 v2 v3 v4 v5 v6 v7 v8 v9 v10 g10) Y (fun y r => r = (e y, h))) (K : ∀ v1 v2 v3 v4 v5 v6 v7 v8 v9 v10 c, Sim (F v1 v2 v3 v4 v5 v6 v7 v8 v9 v10 (cond b und (e c)) h) (G c) Q) : Sim (kA3 (kAd (bv b) false X1 (some (und, h))) fun v1 g1 => kA3 (kAd (bv b) false (X2 v1 g1) (some (und, g1))) fun v2 g2 => kA3 (kAd (bv b) false (X3 v1 v2 g2) (some (und, g2))) fun v3 g3 => kA3 (kAd (bv b) false (X4 v1 v2 v3 g3) (some (und, g3))) fun v4 g4 => kA3 (kAd (bv b) false (X5 v1 v2 v3 v4 g4) (some (und, g4))) fun v5 g5 => kA3 (kAd (bv b) false (X6 v1 v2 v3 v4 v5 g5) (some (und, g5))) fun v6 g6 => kA3 (kAd (bv b) false (X7 v1 v2 v3 v4 v5 v6 g6) (some (und, g6))) fun v7 g7 => kA3 (kAd (bv b) false (X8 v1 v2 v3 v4 v5 v6 v7 g7) (some (und, g7))) fun v8 g8 => kA3 (kAd (bv b) false (X9 v1 v2 v3 v4 v5 v6 v7 v8 g8) (some (und, g8))) fun v9 g9 => kA3 (kAd (bv b) false (X10 v1 v2 v3 v4 v5 v6 v7 v8 v9 g9) (some (und, g9))) fun v10 g10 => kA3 (kAd (bv b) false (X11 v1 v2 v3 v4 v5 v6 v7 v8 v9 v10 g10) (some (und, g10))) fun v11 g11 => F v1 v2 v3 v4 v5 v6 v7 v8 v9 v10 v11 g11) (kA0 (cond b (some d) Y) G) Q := by
  cases b with
  | true => exact K und und und und und und und und und und d
  | false =>
    intro z hz
    cases Y with
    | none => cases hz
    | some c =>
    obtain ⟨r, hx, hr⟩ := h1 rfl c rfl
    subst hr
    obtain ⟨v1, g1, x1, hx⟩ := kAy hx
    obtain ⟨v2, g2, x2, hx⟩ := kAy hx
    obtain ⟨v3, g3, x3, hx⟩ := kAy hx
    obtain ⟨v4, g4, x4, hx⟩ := kAy hx
    obtain ⟨v5, g5, x5, hx⟩ := kAy hx
    obtain ⟨v6, g6, x6, hx⟩ := kAy hx
    obtain ⟨v7, g7, x7, hx⟩ := kAy hx
    obtain ⟨v8, g8, x8, hx⟩ := kAy hx
    obtain ⟨v9, g9, x9, hx⟩ := kAy hx
    obtain ⟨v10, g10, x10, hx⟩ := kAy hx
    obtain ⟨w, hw, hq⟩ := K v1 v2 v3 v4 v5 v6 v7 v8 v9 v10 c z hz
    refine ⟨w, ?_, hq⟩
    show (kA3 X1 fun v1 g1 => kA3 (X2 v1 g1) fun v2 g2 => kA3 (X3 v1 v2 g2) fun v3 g3 => kA3 (X4 v1 v2 v3 g3) fun v4 g4 => kA3 (X5 v1 v2 v3 v4 g4) fun v5 g5 => kA3 (X6 v1 v2 v3 v4 v5 g5) fun v6 g6 => kA3 (X7 v1 v2 v3 v4 v5 v6 g6) fun v7 g7 => kA3 (X8 v1 v2 v3 v4 v5 v6 v7 g7) fun v8 g8 => kA3 (X9 v1 v2 v3 v4 v5 v6 v7 v8 g8) fun v9 g9 => kA3 (X10 v1 v2 v3 v4 v5 v6 v7 v8 v9 g9) fun v10 g10 => kA3 (X11 v1 v2 v3 v4 v5 v6 v7 v8 v9 v10 g10) fun v11 g11 => F v1 v2 v3 v4 v5 v6 v7 v8 v9 v10 v11 g11) = some w
    simp only [x1, x2, x3, x4, x5, x6, x7, x8, x9, x10, kBs, hx]
    exact hw
theorem sim_g12T {β γ δ : Type} {Q : δ → γ → Prop} {b : Bool} {h : kA4} {X1 : Option (AV × kA4)} {X2 : AV → kA4 → Option (AV × kA4)} {X3 : AV → AV → kA4 → Option (AV × kA4)} {X4 : AV → AV → AV → kA4 → Option (AV × kA4)} {X5 : AV → AV → AV → AV → kA4 → Option (AV × kA4)} {X6 : AV → AV → AV → AV → AV → kA4 → Option (AV × kA4)} {X7 : AV → AV → AV → AV → AV → AV → kA4 → Option (AV × kA4)} {X8 : AV → AV → AV → AV → AV → AV → AV → kA4 → Option (AV × kA4)} {X9 : AV → AV → AV → AV → AV → AV → AV → AV → kA4 → Option (AV × kA4)} {X10 : AV → AV → AV → AV → AV → AV → AV → AV → AV → kA4 → Option (AV × kA4)} {X11 : AV → AV → AV → AV → AV → AV → AV → AV → AV → AV → kA4 → Option (AV × kA4)} {X12 : AV → AV → AV → AV → AV → AV → AV → AV → AV → AV → AV → kA4 → Option (AV × kA4)} {Y : Option β} {e : β → AV} {d : β} {F : AV → AV → AV → AV → AV → AV → AV → AV → AV → AV → AV → AV → kA4 → Option γ} {G : β → Option δ}
    (h1 : b = true → Sim (kA3 X1 fun v1 g1 => kA3 (X2 v1 g1) fun v2 g2 => kA3 (X3 v1 v2 g2) fun v3 g3 => kA3 (X4 v1 v2 v3 g3) fun v4 g4 => kA3 (X5 v1 v2 v3 v4 g4) fun v5 g5 => kA3 (X6 v1 v2 v3 v4 v5 g5) fun v6 g6 => kA3 (X7 v1 v2 v3 v4 v5 v6 g6) fun v7 g7 => kA3 (X8 v1 v2 v3 v4 v5 v6 v7 g7) fun v8 g8 => kA3 (X9 v1 v2 v3 v4 v5 v6 v7 v8 g8) fun v9 g9 => kA3 (X10 v1 v2 v3 v4 v5 v6 v7 v8 v9 g9) fun v10 g10 => kA3 (X11 v1 v2 v3 v4 v5 v6 v7 v8 v9 v10 g10) fun v11 g11 => X12 v1 v2 v3 v4 v5 v6 v7 v8 v9 v10 v11 g11) Y (fun y r => r = (e y, h))) (K : ∀ v1 v2 v3 v4 v5 v6 v7 v8 v9 v10 v11 c, Sim (F v1 v2 v3 v4 v5 v6 v7 v8 v9 v10 v11 (cond b (e c) und) h) (G c) Q) : Sim (kA3 (kAd (bv b) true X1 (some (und, h))) fun v1 g1 => kA3 (kAd (bv b) true (X2 v1 g1) (some (und, g1))) fun v2 g2 => kA3 (kAd (bv b) true (X3 v1 v2 g2) (some (und, g2))) fun v3 g3 => kA3 (kAd (bv b) true (X4 v1 v2 v3 g3) (some (und, g3))) fun v4 g4 => kA3 (kAd (bv b) true (X5 v1 v2 v3 v4 g4) (some (und, g4))) fun v5 g5 => kA3 (kAd (bv b) true (X6 v1 v2 v3 v4 v5 g5) (some (und, g5))) fun v6 g6 => kA3 (kAd (bv b) true (X7 v1 v2 v3 v4 v5 v6 g6) (some (und, g6))) fun v7 g7 => kA3 (kAd (bv b) true (X8 v1 v2 v3 v4 v5 v6 v7 g7) (some (und, g7))) fun v8 g8 => kA3 (kAd (bv b) true (X9 v1 v2 v3 v4 v5 v6 v7 v8 g8) (some (und, g8))) fun v9 g9 => kA3 (kAd (bv b) true (X10 v1 v2 v3 v4 v5 v6 v7 v8 v9 g9) (some (und, g9))) fun v10 g10 => kA3 (kAd (bv b) true (X11 v1 v2 v3 v4 v5 v6 v7 v8 v9 v10 g10) (some (und, g10))) fun v11 g11 => kA3 (kAd (bv b) true (X12 v1 v2 v3 v4 v5 v6 v7 v8 v9 v10 v11 g11) (some (und, g11))) fun v12 g12 => F v1 v2 v3 v4 v5 v6 v7 v8 v9 v10 v11 v12 g12) (kA0 (cond b Y (some d)) G) Q := by
  cases b with
  | false => exact K und und und und und und und und und und und d
  | true =>
    intro z hz
    cases Y with
    | none => cases hz
    | some c =>
    obtain ⟨r, hx, hr⟩ := h1 rfl c rfl
    subst hr
    obtain ⟨v1, g1, x1, hx⟩ := kAy hx
    obtain ⟨v2, g2, x2, hx⟩ := kAy hx
    obtain ⟨v3, g3, x3, hx⟩ := kAy hx
    obtain ⟨v4, g4, x4, hx⟩ := kAy hx
    obtain ⟨v5, g5, x5, hx⟩ := kAy hx
    obtain ⟨v6, g6, x6, hx⟩ := kAy hx
    obtain ⟨v7, g7, x7, hx⟩ := kAy hx
    obtain ⟨v8, g8, x8, hx⟩ := kAy hx
    obtain ⟨v9, g9, x9, hx⟩ := kAy hx
    obtain ⟨v10, g10, x10, hx⟩ := kAy hx
    obtain ⟨v11, g11, x11, hx⟩ := kAy hx
    obtain ⟨w, hw, hq⟩ := K v1 v2 v3 v4 v5 v6 v7 v8 v9 v10 v11 c z hz
    refine ⟨w, ?_, hq⟩
    show (kA3 X1 fun v1 g1 => kA3 (X2 v1 g1) fun v2 g2 => kA3 (X3 v1 v2 g2) fun v3 g3 => kA3 (X4 v1 v2 v3 g3) fun v4 g4 => kA3 (X5 v1 v2 v3 v4 g4) fun v5 g5 => kA3 (X6 v1 v2 v3 v4 v5 g5) fun v6 g6 => kA3 (X7 v1 v2 v3 v4 v5 v6 g6) fun v7 g7 => kA3 (X8 v1 v2 v3 v4 v5 v6 v7 g7) fun v8 g8 => kA3 (X9 v1 v2 v3 v4 v5 v6 v7 v8 g8) fun v9 g9 => kA3 (X10 v1 v2 v3 v4 v5 v6 v7 v8 v9 g9) fun v10 g10 => kA3 (X11 v1 v2 v3 v4 v5 v6 v7 v8 v9 v10 g10) fun v11 g11 => kA3 (X12 v1 v2 v3 v4 v5 v6 v7 v8 v9 v10 v11 g11) fun v12 g12 => F v1 v2 v3 v4 v5 v6 v7 v8 v9 v10 v11 v12 g12) = some w
    simp only [x1, x2, x3, x4, x5, x6, x7, x8, x9, x10, x11, kBs, hx]
    exact hw
end Go.Eng
