import Derived.Test.YtjlbidpdiblmaaaEngTy
namespace Go.Eng
set_option linter.unusedVariables false
set_option linter.unusedSimpArgs false
theorem sim_g5T {β γ δ:Type} {Q:δ→γ→Prop} {b:Bool} {h:kA7} {X1:Option (AV×kA7)} {X2:AV→kA7→Option (AV×kA7)} {X3:AV→AV→kA7→Option (AV×kA7)} {X4:AV→AV→AV→kA7→Option (AV×kA7)} {X5:AV→AV→AV→AV→kA7→Option (AV×kA7)} {Y:Option β} {e:β→AV} {d:β} {F:AV→AV→AV→AV→AV→kA7→Option γ} {G:β→Option δ}
  (h1:b=true→Sim (kA2 X1 fun v1 g1=>kA2 (X2 v1 g1) fun v2 g2=>kA2 (X3 v1 v2 g2) fun v3 g3=>kA2 (X4 v1 v2 v3 g3) fun v4 g4=>X5 v1 v2 v3 v4 g4) Y (fun y r=>r=(e y,h))) (K:∀ v1 v2 v3 v4 c,Sim (F v1 v2 v3 v4 (cond b (e c) und) h) (G c) Q):Sim (kA2 (kAc (bv b) true X1 (some (und,h))) fun v1 g1=>kA2 (kAc (bv b) true (X2 v1 g1) (some (und,g1))) fun v2 g2=>kA2 (kAc (bv b) true (X3 v1 v2 g2) (some (und,g2))) fun v3 g3=>kA2 (kAc (bv b) true (X4 v1 v2 v3 g3) (some (und,g3))) fun v4 g4=>kA2 (kAc (bv b) true (X5 v1 v2 v3 v4 g4) (some (und,g4))) fun v5 g5=>F v1 v2 v3 v4 v5 g5) (kA0 (cond b Y (some d)) G) Q:=by
 cases b with
 | false=>exact K und und und und d
 | true =>
  intro z hz
  cases Y with
  | none=>cases hz
  | some c =>
  obtain ⟨r,hx,hr⟩:=h1 rfl c rfl
  subst hr
  obtain ⟨v1,g1,x1,hx⟩:=kBq hx
  obtain ⟨v2,g2,x2,hx⟩:=kBq hx
  obtain ⟨v3,g3,x3,hx⟩:=kBq hx
  obtain ⟨v4,g4,x4,hx⟩:=kBq hx
  obtain ⟨w,hw,hq⟩:=K v1 v2 v3 v4 c z hz
  refine ⟨w,?_,hq⟩
  show (kA2 X1 fun v1 g1=>kA2 (X2 v1 g1) fun v2 g2=>kA2 (X3 v1 v2 g2) fun v3 g3=>kA2 (X4 v1 v2 v3 g3) fun v4 g4=>kA2 (X5 v1 v2 v3 v4 g4) fun v5 g5=>F v1 v2 v3 v4 v5 g5)=some w
  simp only [x1,x2,x3,x4,kFl,hx]
  exact hw
theorem sim_g9T {β γ δ:Type} {Q:δ→γ→Prop} {b:Bool} {h:kA7} {X1:Option (AV×kA7)} {X2:AV→kA7→Option (AV×kA7)} {X3:AV→AV→kA7→Option (AV×kA7)} {X4:AV→AV→AV→kA7→Option (AV×kA7)} {X5:AV→AV→AV→AV→kA7→Option (AV×kA7)} {X6:AV→AV→AV→AV→AV→kA7→Option (AV×kA7)} {X7:AV→AV→AV→AV→AV→AV→kA7→Option (AV×kA7)} {X8:AV→AV→AV→AV→AV→AV→AV→kA7→Option (AV×kA7)} {X9:AV→AV→AV→AV→AV→AV→AV→AV→kA7→Option (AV×kA7)} {Y:Option β} {e:β→AV} {d:β} {F:AV→AV→AV→AV→AV→AV→AV→AV→AV→kA7→Option γ} {G:β→Option δ}
  (h1:b=true→Sim (kA2 X1 fun v1 g1=>kA2 (X2 v1 g1) fun v2 g2=>kA2 (X3 v1 v2 g2) fun v3 g3=>kA2 (X4 v1 v2 v3 g3) fun v4 g4=>kA2 (X5 v1 v2 v3 v4 g4) fun v5 g5=>kA2 (X6 v1 v2 v3 v4 v5 g5) fun v6 g6=>kA2 (X7 v1 v2 v3 v4 v5 v6 g6) fun v7 g7=>kA2 (X8 v1 v2 v3 v4 v5 v6 v7 g7) fun v8 g8=>X9 v1 v2 v3 v4 v5 v6 v7 v8 g8) Y (fun y r=>r=(e y,h))) (K:∀ v1 v2 v3 v4 v5 v6 v7 v8 c,Sim (F v1 v2 v3 v4 v5 v6 v7 v8 (cond b (e c) und) h) (G c) Q):Sim (kA2 (kAc (bv b) true X1 (some (und,h))) fun v1 g1=>kA2 (kAc (bv b) true (X2 v1 g1) (some (und,g1))) fun v2 g2=>kA2 (kAc (bv b) true (X3 v1 v2 g2) (some (und,g2))) fun v3 g3=>kA2 (kAc (bv b) true (X4 v1 v2 v3 g3) (some (und,g3))) fun v4 g4=>kA2 (kAc (bv b) true (X5 v1 v2 v3 v4 g4) (some (und,g4))) fun v5 g5=>kA2 (kAc (bv b) true (X6 v1 v2 v3 v4 v5 g5) (some (und,g5))) fun v6 g6=>kA2 (kAc (bv b) true (X7 v1 v2 v3 v4 v5 v6 g6) (some (und,g6))) fun v7 g7=>kA2 (kAc (bv b) true (X8 v1 v2 v3 v4 v5 v6 v7 g7) (some (und,g7))) fun v8 g8=>kA2 (kAc (bv b) true (X9 v1 v2 v3 v4 v5 v6 v7 v8 g8) (some (und,g8))) fun v9 g9=>F v1 v2 v3 v4 v5 v6 v7 v8 v9 g9) (kA0 (cond b Y (some d)) G) Q:=by
 cases b with
 | false=>exact K und und und und und und und und d
 | true =>
  intro z hz
  cases Y with
  | none=>cases hz
  | some c =>
  obtain ⟨r,hx,hr⟩:=h1 rfl c rfl
  subst hr
  obtain ⟨v1,g1,x1,hx⟩:=kBq hx
  obtain ⟨v2,g2,x2,hx⟩:=kBq hx
  obtain ⟨v3,g3,x3,hx⟩:=kBq hx
  obtain ⟨v4,g4,x4,hx⟩:=kBq hx
  obtain ⟨v5,g5,x5,hx⟩:=kBq hx
  obtain ⟨v6,g6,x6,hx⟩:=kBq hx
  obtain ⟨v7,g7,x7,hx⟩:=kBq hx
  obtain ⟨v8,g8,x8,hx⟩:=kBq hx
  obtain ⟨w,hw,hq⟩:=K v1 v2 v3 v4 v5 v6 v7 v8 c z hz
  refine ⟨w,?_,hq⟩
  show (kA2 X1 fun v1 g1=>kA2 (X2 v1 g1) fun v2 g2=>kA2 (X3 v1 v2 g2) fun v3 g3=>kA2 (X4 v1 v2 v3 g3) fun v4 g4=>kA2 (X5 v1 v2 v3 v4 g4) fun v5 g5=>kA2 (X6 v1 v2 v3 v4 v5 g5) fun v6 g6=>kA2 (X7 v1 v2 v3 v4 v5 v6 g6) fun v7 g7=>kA2 (X8 v1 v2 v3 v4 v5 v6 v7 g7) fun v8 g8=>kA2 (X9 v1 v2 v3 v4 v5 v6 v7 v8 g8) fun v9 g9=>F v1 v2 v3 v4 v5 v6 v7 v8 v9 g9)=some w
  simp only [x1,x2,x3,x4,x5,x6,x7,x8,kFl,hx]
  exact hw
theorem sim_g10T {β γ δ:Type} {Q:δ→γ→Prop} {b:Bool} {h:kA7} {X1:Option (AV×kA7)} {X2:AV→kA7→Option (AV×kA7)} {X3:AV→AV→kA7→Option (AV×kA7)} {X4:AV→AV→AV→kA7→Option (AV×kA7)} {X5:AV→AV→AV→AV→kA7→Option (AV×kA7)} {X6:AV→AV→AV→AV→AV→kA7→Option (AV×kA7)} {X7:AV→AV→AV→AV→AV→AV→kA7→Option (AV×kA7)} {X8:AV→AV→AV→AV→AV→AV→AV→kA7→Option (AV×kA7)} {X9:AV→AV→AV→AV→AV→AV→AV→AV→kA7→Option (AV×kA7)} {X10:AV→AV→AV→AV→AV→AV→AV→AV→AV→kA7→Option (AV×kA7)} {Y:Option β} {e:β→AV} {d:β} {F:AV→AV→AV→AV→AV→AV→AV→AV→AV→AV→kA7→Option γ} {G:β→Option δ}
  (h1:b=true→Sim (kA2 X1 fun v1 g1=>kA2 (X2 v1 g1) fun v2 g2=>kA2 (X3 v1 v2 g2) fun v3 g3=>kA2 (X4 v1 v2 v3 g3) fun v4 g4=>kA2 (X5 v1 v2 v3 v4 g4) fun v5 g5=>kA2 (X6 v1 v2 v3 v4 v5 g5) fun v6 g6=>kA2 (X7 v1 v2 v3 v4 v5 v6 g6) fun v7 g7=>kA2 (X8 v1 v2 v3 v4 v5 v6 v7 g7) fun v8 g8=>kA2 (X9 v1 v2 v3 v4 v5 v6 v7 v8 g8) fun v9 g9=>X10 v1 v2 v3 v4 v5 v6 v7 v8 v9 g9) Y (fun y r=>r=(e y,h))) (K:∀ v1 v2 v3 v4 v5 v6 v7 v8 v9 c,Sim (F v1 v2 v3 v4 v5 v6 v7 v8 v9 (cond b (e c) und) h) (G c) Q):Sim (kA2 (kAc (bv b) true X1 (some (und,h))) fun v1 g1=>kA2 (kAc (bv b) true (X2 v1 g1) (some (und,g1))) fun v2 g2=>kA2 (kAc (bv b) true (X3 v1 v2 g2) (some (und,g2))) fun v3 g3=>kA2 (kAc (bv b) true (X4 v1 v2 v3 g3) (some (und,g3))) fun v4 g4=>kA2 (kAc (bv b) true (X5 v1 v2 v3 v4 g4) (some (und,g4))) fun v5 g5=>kA2 (kAc (bv b) true (X6 v1 v2 v3 v4 v5 g5) (some (und,g5))) fun v6 g6=>kA2 (kAc (bv b) true (X7 v1 v2 v3 v4 v5 v6 g6) (some (und,g6))) fun v7 g7=>kA2 (kAc (bv b) true (X8 v1 v2 v3 v4 v5 v6 v7 g7) (some (und,g7))) fun v8 g8=>kA2 (kAc (bv b) true (X9 v1 v2 v3 v4 v5 v6 v7 v8 g8) (some (und,g8))) fun v9 g9=>kA2 (kAc (bv b) true (X10 v1 v2 v3 v4 v5 v6 v7 v8 v9 g9) (some (und,g9))) fun v10 g10=>F v1 v2 v3 v4 v5 v6 v7 v8 v9 v10 g10) (kA0 (cond b Y (some d)) G) Q:=by
 cases b with
 | false=>exact K und und und und und und und und und d
 | true =>
  intro z hz
  cases Y with
  | none=>cases hz
  | some c =>
  obtain ⟨r,hx,hr⟩:=h1 rfl c rfl
  subst hr
  obtain ⟨v1,g1,x1,hx⟩:=kBq hx
  obtain ⟨v2,g2,x2,hx⟩:=kBq hx
  obtain ⟨v3,g3,x3,hx⟩:=kBq hx
  obtain ⟨v4,g4,x4,hx⟩:=kBq hx
  obtain ⟨v5,g5,x5,hx⟩:=kBq hx
  obtain ⟨v6,g6,x6,hx⟩:=kBq hx
  obtain ⟨v7,g7,x7,hx⟩:=kBq hx
  obtain ⟨v8,g8,x8,hx⟩:=kBq hx
  obtain ⟨v9,g9,x9,hx⟩:=kBq hx
  obtain ⟨w,hw,hq⟩:=K v1 v2 v3 v4 v5 v6 v7 v8 v9 c z hz
  refine ⟨w,?_,hq⟩
  show (kA2 X1 fun v1 g1=>kA2 (X2 v1 g1) fun v2 g2=>kA2 (X3 v1 v2 g2) fun v3 g3=>kA2 (X4 v1 v2 v3 g3) fun v4 g4=>kA2 (X5 v1 v2 v3 v4 g4) fun v5 g5=>kA2 (X6 v1 v2 v3 v4 v5 g5) fun v6 g6=>kA2 (X7 v1 v2 v3 v4 v5 v6 g6) fun v7 g7=>kA2 (X8 v1 v2 v3 v4 v5 v6 v7 g7) fun v8 g8=>kA2 (X9 v1 v2 v3 v4 v5 v6 v7 v8 g8) fun v9 g9=>kA2 (X10 v1 v2 v3 v4 v5 v6 v7 v8 v9 g9) fun v10 g10=>F v1 v2 v3 v4 v5 v6 v7 v8 v9 v10 g10)=some w
  simp only [x1,x2,x3,x4,x5,x6,x7,x8,x9,kFl,hx]
  exact hw
end Go.Eng
