import Derived.Test.YtfhffgfbnlikjaaFnExactReadingOrderPartA
namespace Go.Proofs.Ytfhffgfbnlikjaa
open Go Go.Eng Go.Eng.Cod
set_option maxRecDepth 100000
set_option linter.unusedVariables false
set_option linter.unusedSimpArgs false
def s0_q33 (p_ : Int → Int → Option Int) (m_ : Int) : ((Sl Int) × Int × Int) → Option (Sum ((Sl Int) × Int × Int) ((Sl Int) × Int)) := fun (w1, w4, w5) =>
  bif !decide (w4 = w5) then
    bif decide (w5 < w4) then
      kA0 (t_q35 p_ w1 (wr (m_ - w4)) m_ w5) fun w18 =>
      some (.inl (w18, wr (w4 - w5), w5))
    else
      kA0 (t_q35 p_ w1 (wr (m_ - w4)) (wr ((wr (m_ + w5)) - w4)) w4) fun w24 =>
      some (.inl (w24, w4, wr (w5 - w4)))
  else
    some (.inr (w1, w4))
def kHv (p_ : Int → Int → Option Int) (data_ : Sl Int) (a_ : Int) (m_ : Int) (b_ : Int) : Option (Sl Int) :=
  kA0 (kBa (s0_q33 p_ m_) (data_, wr (m_ - a_), wr (b_ - m_))) fun (q8, q9) =>
  kA0 (t_q35 p_ q8 (wr (m_ - q9)) m_ q9) fun w11 =>
  some w11
theorem tl0_q33 (env : Nat → Contract) {B : Base} {g : Nat} {f_ : List AV → Option AV} {P : Int → Int → Option Int} {o_ : Nat} {cv_ : AV} (he_g : env g = .pure f_) (hp : ∀ a b h, h[o_]? = some ⟨1, [[cv_]]⟩ → Sim (kAb f_ [iv a, iv b, AV.ptr o_ 1 0 0] h) (P a b) fun c r => r = (iv c, h)) {F_slices_swapRangeCmpFunc_int64 : List AV → kA4 → Option (AV × kA4)} (he_q35 : env n_q35 = .gen F_slices_swapRangeCmpFunc_int64) (S_slices_swapRangeCmpFunc_int64 : ∀ {B : Base} {h : kA4} {x : AV} (d : Sl Int) (a0 a1 a2 : Int), Hold B h [(x, obS (d : Sl Int)), pZ9 o_ 1 [cv_]] → Sim (F_slices_swapRangeCmpFunc_int64 [x, iv a0, iv a1, iv a2, AV.fn g [AV.ptr o_ 1 0 0]] h) (t_q35 P d a0 a1 a2) fun c p => p.1 = AV.tup [] ∧ Hold B p.2 [(x, obS (c : Sl Int)), pZ9 o_ 1 [cv_]]) (xd_ : AV) (a_ : Int) (m_ : Int) (b_ : Int)  : kG7 (fun (st : (Sl Int) × Int × Int) tm h2 => match st with | (w1, w4, w5) => tm = (xd_ :: (iv a_) :: (iv m_) :: (iv b_) :: (AV.fn g [AV.ptr o_ 1 0 0]) :: und :: und :: und :: und :: und :: (iv w4) :: (iv w5) :: (iv m_) :: (iv a_) :: (iv (wr (m_ - a_))) :: (iv b_) :: (iv m_) :: (iv (wr (b_ - m_))) :: tZ9 32 [und, und, und, und, und, und, und, und]) ∧ Hold B h2 [(xd_, obS (w1 : Sl Int)), pZ9 o_ 1 [cv_]]) hm0_q33 xm0_q33 (lb0_q33 env) (s0_q33 P m_) (fun (q : (Sl Int) × Int) (r : Res) => match q with | (q8, q9) => ∃ (q10 : Int) (h6 : kA4), r = (.exit 0, (xd_ :: (iv a_) :: (iv m_) :: (iv b_) :: (AV.fn g [AV.ptr o_ 1 0 0]) :: und :: und :: und :: und :: und :: (iv q9) :: (iv q10) :: (iv m_) :: (iv a_) :: (iv (wr (m_ - a_))) :: (iv b_) :: (iv m_) :: (iv (wr (b_ - m_))) :: tZ9 32 [und, und, und, und, und, und, und, und]), h6) ∧ Hold B h6 [(xd_, obS (q8 : Sl Int)), pZ9 o_ 1 [cv_]]) := by
  refine @kGi _ _ _ _ _ _ _ _ (fun st tm h2 R => ?_)
  obtain ⟨w1, w4, w5⟩ := st
  obtain ⟨rfl, O3⟩ := R
  rw [e_lb0_q33]
  unfold s0_q33
  dsimp only
  refine kA1 (kDe _ _) ?_
  refine kA9 (fun c16 => ?_) (fun c16 => ?_)
  · refine kA1 (kE4 _ _) ?_
    refine kA9 (fun c17 => ?_) (fun c17 => ?_)
    · refine kA1 (kAp _ _) ?_
      refine kBx he_q35 (S_slices_swapRangeCmpFunc_int64 w1 (wr (m_ - w4)) m_ w5 O3) (fun w18 v19 h20 hq21 => ?_)
      obtain ⟨e_v19, O22⟩ := hq21
      dsimp only at e_v19
      subst v19
      replace O22 : Hold B h20 [(xd_, obS (w18 : Sl Int)), pZ9 o_ 1 [cv_]] := O22
      refine kA1 (kAp _ _) ?_
      exact kA6 ⟨rfl, rfl, O22⟩
    · refine kA1 (kAp _ _) ?_
      refine kA1 (kAi _ _) ?_
      refine kA1 (kAp _ _) ?_
      refine kBx he_q35 (S_slices_swapRangeCmpFunc_int64 w1 (wr (m_ - w4)) (wr ((wr (m_ + w5)) - w4)) w4 O3) (fun w24 v25 h26 hq27 => ?_)
      obtain ⟨e_v25, O28⟩ := hq27
      dsimp only at e_v25
      subst v25
      replace O28 : Hold B h26 [(xd_, obS (w24 : Sl Int)), pZ9 o_ 1 [cv_]] := O28
      refine kA1 (kAp _ _) ?_
      exact kA6 ⟨rfl, rfl, O28⟩
  · exact kA6 ⟨nofun, _, _, rfl, O3⟩
theorem ts_q33 (env : Nat → Contract) {g : Nat} {f_ : List AV → Option AV} {P : Int → Int → Option Int} {o_ : Nat} {cv_ : AV} (he_g : env g = .pure f_) (hp : ∀ a b h, h[o_]? = some ⟨1, [[cv_]]⟩ → Sim (kAb f_ [iv a, iv b, AV.ptr o_ 1 0 0] h) (P a b) fun c r => r = (iv c, h)) {F_slices_swapRangeCmpFunc_int64 : List AV → kA4 → Option (AV × kA4)} (he_q35 : env n_q35 = .gen F_slices_swapRangeCmpFunc_int64) (S_slices_swapRangeCmpFunc_int64 : ∀ {B : Base} {h : kA4} {x : AV} (d : Sl Int) (a0 a1 a2 : Int), Hold B h [(x, obS (d : Sl Int)), pZ9 o_ 1 [cv_]] → Sim (F_slices_swapRangeCmpFunc_int64 [x, iv a0, iv a1, iv a2, AV.fn g [AV.ptr o_ 1 0 0]] h) (t_q35 P d a0 a1 a2) fun c p => p.1 = AV.tup [] ∧ Hold B p.2 [(x, obS (c : Sl Int)), pZ9 o_ 1 [cv_]]) {B : Base} {h : kA4} {xd_ : AV} (data_ : Sl Int) (a_ : Int) (m_ : Int) (b_ : Int) (O : Hold B h [(xd_, obS (data_ : Sl Int)), pZ9 o_ 1 [cv_]]) : Sim (kAo Try.prog env kHa [xd_, iv a_, iv m_, iv b_, AV.fn g [AV.ptr o_ 1 0 0]] h) (kHv P data_ a_ m_ b_) fun c p => p.1 = AV.tup [] ∧ Hold B p.2 [(xd_, obS (c : Sl Int)), pZ9 o_ 1 [cv_]] := by
  rw [e_q33]
  unfold kHv
  refine kA1 (kAp _ _) ?_
  refine kA1 (kAp _ _) ?_
  refine kB2 ((tl0_q33 env he_g hp he_q35 S_slices_swapRangeCmpFunc_int64 xd_ a_ m_ b_) ⟨rfl, O⟩) (fun qq32 r hq => ?_)
  obtain ⟨q8, q9⟩ := qq32
  obtain ⟨q10, h6, rfl, O7⟩ := hq
  rw [e_lk0x0_q33]
  refine kA1 (kAp _ _) ?_
  refine kBx he_q35 (S_slices_swapRangeCmpFunc_int64 q8 (wr (m_ - q9)) m_ q9 O7) (fun w11 v12 h13 hq14 => ?_)
  obtain ⟨e_v12, O15⟩ := hq14
  dsimp only at e_v12
  subst v12
  replace O15 : Hold B h13 [(xd_, obS (w11 : Sl Int)), pZ9 o_ 1 [cv_]] := O15
  exact kA6 ⟨rfl, O15⟩
def s4_q36 (p_ : Int → Int → Option Int) (q8 : Int) : ((Sl Int) × Int) → Option (Sum ((Sl Int) × Int) (Sl Int)) := fun (w11, w14) =>
  bif decide (w14 < (wr (q8 - 1))) then
    kA0 (kBp (w11.getD []) (wr (w14 + 1))) fun a20 =>
    kA0 (kBp (w11.getD []) w14) fun a24 =>
    kA0 (kBp (w11.getD []) w14) fun a28 =>
    kA0 (kBp ((kC9 w11 w14 a20).getD []) (wr (w14 + 1))) fun a34 =>
    some (.inl ((kC9 (kC9 w11 w14 a20) (wr (w14 + 1)) a24), wr (w14 + 1)))
  else
    some (.inr w11)
def s0_q36 (p_ : Int → Int → Option Int) (data_ : Sl Int) (a_ : Int) : (Int × Int) → Option (Sum (Int × Int) Int) := fun (w4, w5) =>
  bif decide (w4 < w5) then
    kA0 (kBp (data_.getD []) (wr (Int.fdiv (IntKind.u64.wrap (wr (w4 + w5))) (2 ^ 1)))) fun a45 =>
    kA0 (kBp (data_.getD []) a_) fun a49 =>
    kA0 (p_ a45 a49) fun c53 =>
    bif decide (c53 < 0) then
      some (.inl (wr ((wr (Int.fdiv (IntKind.u64.wrap (wr (w4 + w5))) (2 ^ 1))) + 1), w5))
    else
      some (.inl (w4, wr (Int.fdiv (IntKind.u64.wrap (wr (w4 + w5))) (2 ^ 1))))
  else
    some (.inr w4)
def s5_q36 (p_ : Int → Int → Option Int) (q67 : Int) : ((Sl Int) × Int) → Option (Sum ((Sl Int) × Int) (Sl Int)) := fun (w70, w73) =>
  bif decide (q67 < w73) then
    kA0 (kBp (w70.getD []) (wr (w73 - 1))) fun a79 =>
    kA0 (kBp (w70.getD []) w73) fun a83 =>
    kA0 (kBp (w70.getD []) w73) fun a87 =>
    kA0 (kBp ((kC9 w70 w73 a79).getD []) (wr (w73 - 1))) fun a93 =>
    some (.inl ((kC9 (kC9 w70 w73 a79) (wr (w73 - 1)) a83), wr (w73 - 1)))
  else
    some (.inr w70)
def s1_q36 (p_ : Int → Int → Option Int) (data_ : Sl Int) (m_ : Int) : (Int × Int) → Option (Sum (Int × Int) Int) := fun (w63, w64) =>
  bif decide (w63 < w64) then
    kA0 (kBp (data_.getD []) m_) fun a104 =>
    kA0 (kBp (data_.getD []) (wr (Int.fdiv (IntKind.u64.wrap (wr (w63 + w64))) (2 ^ 1)))) fun a108 =>
    kA0 (p_ a104 a108) fun c112 =>
    bif !(decide (c112 < 0)) then
      some (.inl (wr ((wr (Int.fdiv (IntKind.u64.wrap (wr (w63 + w64))) (2 ^ 1))) + 1), w64))
    else
      some (.inl (w63, wr (Int.fdiv (IntKind.u64.wrap (wr (w63 + w64))) (2 ^ 1))))
  else
    some (.inr w63)
def s2_q36 (p_ : Int → Int → Option Int) (data_ : Sl Int) (a_ : Int) (m_ : Int) (b_ : Int) : (Int × Int) → Option (Sum (Int × Int) Int) := fun (w122, w123) =>
  bif decide (w122 < w123) then
    kA0 (kBp (data_.getD []) (wr ((wr ((wr ((wr (Int.fdiv (IntKind.u64.wrap (wr (a_ + b_))) (2 ^ 1))) + m_)) - 1)) - (wr (Int.fdiv (IntKind.u64.wrap (wr (w122 + w123))) (2 ^ 1)))))) fun a186 =>
    kA0 (kBp (data_.getD []) (wr (Int.fdiv (IntKind.u64.wrap (wr (w122 + w123))) (2 ^ 1)))) fun a190 =>
    kA0 (p_ a186 a190) fun c194 =>
    bif !(decide (c194 < 0)) then
      some (.inl (wr ((wr (Int.fdiv (IntKind.u64.wrap (wr (w122 + w123))) (2 ^ 1))) + 1), w123))
    else
      some (.inl (w122, wr (Int.fdiv (IntKind.u64.wrap (wr (w122 + w123))) (2 ^ 1))))
  else
    some (.inr w122)
def s3_q36 (p_ : Int → Int → Option Int) (data_ : Sl Int) (a_ : Int) (m_ : Int) (b_ : Int) : (Int × Int) → Option (Sum (Int × Int) Int) := fun (w203, w204) =>
  bif decide (w203 < w204) then
    kA0 (kBp (data_.getD []) (wr ((wr ((wr ((wr (Int.fdiv (IntKind.u64.wrap (wr (a_ + b_))) (2 ^ 1))) + m_)) - 1)) - (wr (Int.fdiv (IntKind.u64.wrap (wr (w203 + w204))) (2 ^ 1)))))) fun a267 =>
    kA0 (kBp (data_.getD []) (wr (Int.fdiv (IntKind.u64.wrap (wr (w203 + w204))) (2 ^ 1)))) fun a271 =>
    kA0 (p_ a267 a271) fun c275 =>
    bif !(decide (c275 < 0)) then
      some (.inl (wr ((wr (Int.fdiv (IntKind.u64.wrap (wr (w203 + w204))) (2 ^ 1))) + 1), w204))
    else
      some (.inl (w203, wr (Int.fdiv (IntKind.u64.wrap (wr (w203 + w204))) (2 ^ 1))))
  else
    some (.inr w203)
def kB8 (p_ : Int → Int → Option Int) (rec_ : Sl Int → Int → Int → Int → Option (Sl Int)) (data_ : Sl Int) (a_ : Int) (m_ : Int) (b_ : Int) : Option (Sl Int) :=
  bif decide (wr (m_ - a_) = 1) then
    kA0 (kBa (s0_q36 p_ data_ a_) (m_, b_)) fun q8 =>
    kA0 (kBa (s4_q36 p_ q8) (data_, a_)) fun q17 =>
    some q17
  else
    bif decide (wr (b_ - m_) = 1) then
      kA0 (kBa (s1_q36 p_ data_ m_) (a_, m_)) fun q67 =>
      kA0 (kBa (s5_q36 p_ q67) (data_, m_)) fun q76 =>
      some q76
    else
      bif decide ((wr (Int.fdiv (IntKind.u64.wrap (wr (a_ + b_))) (2 ^ 1))) < m_) then
        kA0 (kBa (s2_q36 p_ data_ a_ m_ b_) (wr ((wr ((wr (Int.fdiv (IntKind.u64.wrap (wr (a_ + b_))) (2 ^ 1))) + m_)) - b_), wr (Int.fdiv (IntKind.u64.wrap (wr (a_ + b_))) (2 ^ 1)))) fun q126 =>
        kA0 (bif decide (q126 < m_) then (some (decide (m_ < (wr ((wr ((wr (Int.fdiv (IntKind.u64.wrap (wr (a_ + b_))) (2 ^ 1))) + m_)) - q126))))) else some false) fun c130 =>
        bif (bif decide (q126 < m_) then c130 else false) then
          kA0 (kHv p_ data_ q126 m_ (wr ((wr ((wr (Int.fdiv (IntKind.u64.wrap (wr (a_ + b_))) (2 ^ 1))) + m_)) - q126))) fun w132 =>
          kA0 (bif decide (a_ < q126) then (some (decide (q126 < (wr (Int.fdiv (IntKind.u64.wrap (wr (a_ + b_))) (2 ^ 1)))))) else some false) fun c138 =>
          bif (bif decide (a_ < q126) then c138 else false) then
            kA0 (rec_ w132 a_ q126 (wr (Int.fdiv (IntKind.u64.wrap (wr (a_ + b_))) (2 ^ 1)))) fun w140 =>
            kA0 (bif decide ((wr (Int.fdiv (IntKind.u64.wrap (wr (a_ + b_))) (2 ^ 1))) < (wr ((wr ((wr (Int.fdiv (IntKind.u64.wrap (wr (a_ + b_))) (2 ^ 1))) + m_)) - q126))) then (some (decide ((wr ((wr ((wr (Int.fdiv (IntKind.u64.wrap (wr (a_ + b_))) (2 ^ 1))) + m_)) - q126)) < b_))) else some false) fun c146 =>
            bif (bif decide ((wr (Int.fdiv (IntKind.u64.wrap (wr (a_ + b_))) (2 ^ 1))) < (wr ((wr ((wr (Int.fdiv (IntKind.u64.wrap (wr (a_ + b_))) (2 ^ 1))) + m_)) - q126))) then c146 else false) then
              kA0 (rec_ w140 (wr (Int.fdiv (IntKind.u64.wrap (wr (a_ + b_))) (2 ^ 1))) (wr ((wr ((wr (Int.fdiv (IntKind.u64.wrap (wr (a_ + b_))) (2 ^ 1))) + m_)) - q126)) b_) fun w148 =>
              some w148
            else
              some w140
          else
            kA0 (bif decide ((wr (Int.fdiv (IntKind.u64.wrap (wr (a_ + b_))) (2 ^ 1))) < (wr ((wr ((wr (Int.fdiv (IntKind.u64.wrap (wr (a_ + b_))) (2 ^ 1))) + m_)) - q126))) then (some (decide ((wr ((wr ((wr (Int.fdiv (IntKind.u64.wrap (wr (a_ + b_))) (2 ^ 1))) + m_)) - q126)) < b_))) else some false) fun c154 =>
            bif (bif decide ((wr (Int.fdiv (IntKind.u64.wrap (wr (a_ + b_))) (2 ^ 1))) < (wr ((wr ((wr (Int.fdiv (IntKind.u64.wrap (wr (a_ + b_))) (2 ^ 1))) + m_)) - q126))) then c154 else false) then
              kA0 (rec_ w132 (wr (Int.fdiv (IntKind.u64.wrap (wr (a_ + b_))) (2 ^ 1))) (wr ((wr ((wr (Int.fdiv (IntKind.u64.wrap (wr (a_ + b_))) (2 ^ 1))) + m_)) - q126)) b_) fun w156 =>
              some w156
            else
              some w132
        else
          kA0 (bif decide (a_ < q126) then (some (decide (q126 < (wr (Int.fdiv (IntKind.u64.wrap (wr (a_ + b_))) (2 ^ 1)))))) else some false) fun c162 =>
          bif (bif decide (a_ < q126) then c162 else false) then
            kA0 (rec_ data_ a_ q126 (wr (Int.fdiv (IntKind.u64.wrap (wr (a_ + b_))) (2 ^ 1)))) fun w164 =>
            kA0 (bif decide ((wr (Int.fdiv (IntKind.u64.wrap (wr (a_ + b_))) (2 ^ 1))) < (wr ((wr ((wr (Int.fdiv (IntKind.u64.wrap (wr (a_ + b_))) (2 ^ 1))) + m_)) - q126))) then (some (decide ((wr ((wr ((wr (Int.fdiv (IntKind.u64.wrap (wr (a_ + b_))) (2 ^ 1))) + m_)) - q126)) < b_))) else some false) fun c170 =>
            bif (bif decide ((wr (Int.fdiv (IntKind.u64.wrap (wr (a_ + b_))) (2 ^ 1))) < (wr ((wr ((wr (Int.fdiv (IntKind.u64.wrap (wr (a_ + b_))) (2 ^ 1))) + m_)) - q126))) then c170 else false) then
              kA0 (rec_ w164 (wr (Int.fdiv (IntKind.u64.wrap (wr (a_ + b_))) (2 ^ 1))) (wr ((wr ((wr (Int.fdiv (IntKind.u64.wrap (wr (a_ + b_))) (2 ^ 1))) + m_)) - q126)) b_) fun w172 =>
              some w172
            else
              some w164
          else
            kA0 (bif decide ((wr (Int.fdiv (IntKind.u64.wrap (wr (a_ + b_))) (2 ^ 1))) < (wr ((wr ((wr (Int.fdiv (IntKind.u64.wrap (wr (a_ + b_))) (2 ^ 1))) + m_)) - q126))) then (some (decide ((wr ((wr ((wr (Int.fdiv (IntKind.u64.wrap (wr (a_ + b_))) (2 ^ 1))) + m_)) - q126)) < b_))) else some false) fun c178 =>
            bif (bif decide ((wr (Int.fdiv (IntKind.u64.wrap (wr (a_ + b_))) (2 ^ 1))) < (wr ((wr ((wr (Int.fdiv (IntKind.u64.wrap (wr (a_ + b_))) (2 ^ 1))) + m_)) - q126))) then c178 else false) then
              kA0 (rec_ data_ (wr (Int.fdiv (IntKind.u64.wrap (wr (a_ + b_))) (2 ^ 1))) (wr ((wr ((wr (Int.fdiv (IntKind.u64.wrap (wr (a_ + b_))) (2 ^ 1))) + m_)) - q126)) b_) fun w180 =>
              some w180
            else
              some data_
      else
        kA0 (kBa (s3_q36 p_ data_ a_ m_ b_) (a_, m_)) fun q207 =>
        kA0 (bif decide (q207 < m_) then (some (decide (m_ < (wr ((wr ((wr (Int.fdiv (IntKind.u64.wrap (wr (a_ + b_))) (2 ^ 1))) + m_)) - q207))))) else some false) fun c211 =>
        bif (bif decide (q207 < m_) then c211 else false) then
          kA0 (kHv p_ data_ q207 m_ (wr ((wr ((wr (Int.fdiv (IntKind.u64.wrap (wr (a_ + b_))) (2 ^ 1))) + m_)) - q207))) fun w213 =>
          kA0 (bif decide (a_ < q207) then (some (decide (q207 < (wr (Int.fdiv (IntKind.u64.wrap (wr (a_ + b_))) (2 ^ 1)))))) else some false) fun c219 =>
          bif (bif decide (a_ < q207) then c219 else false) then
            kA0 (rec_ w213 a_ q207 (wr (Int.fdiv (IntKind.u64.wrap (wr (a_ + b_))) (2 ^ 1)))) fun w221 =>
            kA0 (bif decide ((wr (Int.fdiv (IntKind.u64.wrap (wr (a_ + b_))) (2 ^ 1))) < (wr ((wr ((wr (Int.fdiv (IntKind.u64.wrap (wr (a_ + b_))) (2 ^ 1))) + m_)) - q207))) then (some (decide ((wr ((wr ((wr (Int.fdiv (IntKind.u64.wrap (wr (a_ + b_))) (2 ^ 1))) + m_)) - q207)) < b_))) else some false) fun c227 =>
            bif (bif decide ((wr (Int.fdiv (IntKind.u64.wrap (wr (a_ + b_))) (2 ^ 1))) < (wr ((wr ((wr (Int.fdiv (IntKind.u64.wrap (wr (a_ + b_))) (2 ^ 1))) + m_)) - q207))) then c227 else false) then
              kA0 (rec_ w221 (wr (Int.fdiv (IntKind.u64.wrap (wr (a_ + b_))) (2 ^ 1))) (wr ((wr ((wr (Int.fdiv (IntKind.u64.wrap (wr (a_ + b_))) (2 ^ 1))) + m_)) - q207)) b_) fun w229 =>
              some w229
            else
              some w221
          else
            kA0 (bif decide ((wr (Int.fdiv (IntKind.u64.wrap (wr (a_ + b_))) (2 ^ 1))) < (wr ((wr ((wr (Int.fdiv (IntKind.u64.wrap (wr (a_ + b_))) (2 ^ 1))) + m_)) - q207))) then (some (decide ((wr ((wr ((wr (Int.fdiv (IntKind.u64.wrap (wr (a_ + b_))) (2 ^ 1))) + m_)) - q207)) < b_))) else some false) fun c235 =>
            bif (bif decide ((wr (Int.fdiv (IntKind.u64.wrap (wr (a_ + b_))) (2 ^ 1))) < (wr ((wr ((wr (Int.fdiv (IntKind.u64.wrap (wr (a_ + b_))) (2 ^ 1))) + m_)) - q207))) then c235 else false) then
              kA0 (rec_ w213 (wr (Int.fdiv (IntKind.u64.wrap (wr (a_ + b_))) (2 ^ 1))) (wr ((wr ((wr (Int.fdiv (IntKind.u64.wrap (wr (a_ + b_))) (2 ^ 1))) + m_)) - q207)) b_) fun w237 =>
              some w237
            else
              some w213
        else
          kA0 (bif decide (a_ < q207) then (some (decide (q207 < (wr (Int.fdiv (IntKind.u64.wrap (wr (a_ + b_))) (2 ^ 1)))))) else some false) fun c243 =>
          bif (bif decide (a_ < q207) then c243 else false) then
            kA0 (rec_ data_ a_ q207 (wr (Int.fdiv (IntKind.u64.wrap (wr (a_ + b_))) (2 ^ 1)))) fun w245 =>
            kA0 (bif decide ((wr (Int.fdiv (IntKind.u64.wrap (wr (a_ + b_))) (2 ^ 1))) < (wr ((wr ((wr (Int.fdiv (IntKind.u64.wrap (wr (a_ + b_))) (2 ^ 1))) + m_)) - q207))) then (some (decide ((wr ((wr ((wr (Int.fdiv (IntKind.u64.wrap (wr (a_ + b_))) (2 ^ 1))) + m_)) - q207)) < b_))) else some false) fun c251 =>
            bif (bif decide ((wr (Int.fdiv (IntKind.u64.wrap (wr (a_ + b_))) (2 ^ 1))) < (wr ((wr ((wr (Int.fdiv (IntKind.u64.wrap (wr (a_ + b_))) (2 ^ 1))) + m_)) - q207))) then c251 else false) then
              kA0 (rec_ w245 (wr (Int.fdiv (IntKind.u64.wrap (wr (a_ + b_))) (2 ^ 1))) (wr ((wr ((wr (Int.fdiv (IntKind.u64.wrap (wr (a_ + b_))) (2 ^ 1))) + m_)) - q207)) b_) fun w253 =>
              some w253
            else
              some w245
          else
            kA0 (bif decide ((wr (Int.fdiv (IntKind.u64.wrap (wr (a_ + b_))) (2 ^ 1))) < (wr ((wr ((wr (Int.fdiv (IntKind.u64.wrap (wr (a_ + b_))) (2 ^ 1))) + m_)) - q207))) then (some (decide ((wr ((wr ((wr (Int.fdiv (IntKind.u64.wrap (wr (a_ + b_))) (2 ^ 1))) + m_)) - q207)) < b_))) else some false) fun c259 =>
            bif (bif decide ((wr (Int.fdiv (IntKind.u64.wrap (wr (a_ + b_))) (2 ^ 1))) < (wr ((wr ((wr (Int.fdiv (IntKind.u64.wrap (wr (a_ + b_))) (2 ^ 1))) + m_)) - q207))) then c259 else false) then
              kA0 (rec_ data_ (wr (Int.fdiv (IntKind.u64.wrap (wr (a_ + b_))) (2 ^ 1))) (wr ((wr ((wr (Int.fdiv (IntKind.u64.wrap (wr (a_ + b_))) (2 ^ 1))) + m_)) - q207)) b_) fun w261 =>
              some w261
            else
              some data_
def kF0 (p_ : Int → Int → Option Int) : Nat → Sl Int → Int → Int → Int → Option (Sl Int)
  | 0 => fun _ _ _ _ => none
  | k + 1 => kB8 p_ (kF0 p_ k)
theorem tl4_q36 (env : Nat → Contract) {B : Base} {g : Nat} {f_ : List AV → Option AV} {P : Int → Int → Option Int} {o_ : Nat} {cv_ : AV} (he_g : env g = .pure f_) (hp : ∀ a b h, h[o_]? = some ⟨1, [[cv_]]⟩ → Sim (kAb f_ [iv a, iv b, AV.ptr o_ 1 0 0] h) (P a b) fun c r => r = (iv c, h)) {rec_ : Sl Int → Int → Int → Int → Option (Sl Int)} {F_slices_rotateCmpFunc_int64 : List AV → kA4 → Option (AV × kA4)} (he_q33 : env kHa = .gen F_slices_rotateCmpFunc_int64) (S_slices_rotateCmpFunc_int64 : ∀ {B : Base} {h : kA4} {x : AV} (d : Sl Int) (a0 a1 a2 : Int), Hold B h [(x, obS (d : Sl Int)), pZ9 o_ 1 [cv_]] → Sim (F_slices_rotateCmpFunc_int64 [x, iv a0, iv a1, iv a2, AV.fn g [AV.ptr o_ 1 0 0]] h) (kHv P d a0 a1 a2) fun c p => p.1 = AV.tup [] ∧ Hold B p.2 [(x, obS (c : Sl Int)), pZ9 o_ 1 [cv_]]) {F_slices_symMergeCmpFunc_int64 : List AV → kA4 → Option (AV × kA4)} (he_q36 : env kD9 = .gen F_slices_symMergeCmpFunc_int64) (S_slices_symMergeCmpFunc_int64 : ∀ {B : Base} {h : kA4} {x : AV} (d : Sl Int) (a0 a1 a2 : Int), Hold B h [(x, obS (d : Sl Int)), pZ9 o_ 1 [cv_]] → Sim (F_slices_symMergeCmpFunc_int64 [x, iv a0, iv a1, iv a2, AV.fn g [AV.ptr o_ 1 0 0]] h) (rec_ d a0 a1 a2) fun c p => p.1 = AV.tup [] ∧ Hold B p.2 [(x, obS (c : Sl Int)), pZ9 o_ 1 [cv_]]) (xd_ : AV) (a_ : Int) (m_ : Int) (b_ : Int) (q8 : Int) (q9 : Int) (z10 : AV)  : kG7 (fun (st : (Sl Int) × Int) tm h12 => match st with | (w11, w14) => tm = (xd_ :: (iv a_) :: (iv m_) :: (iv b_) :: (AV.fn g [AV.ptr o_ 1 0 0]) :: und :: und :: und :: und :: und :: (iv q8) :: (iv q9) :: z10 :: (iv w14) :: und :: und :: und :: und :: und :: und :: und :: und :: und :: und :: und :: (iv m_) :: (iv a_) :: (iv (wr (m_ - a_))) :: (bv (decide (wr (m_ - a_) = 1))) :: (iv m_) :: (iv b_) :: .top :: .top :: .top :: .top :: .top :: .top :: .top :: .top :: .top :: .top :: .top :: .top :: .top :: .top :: .top :: .top :: .top :: .top :: .top :: .top :: .top :: .top :: .top :: (iv a_) :: tZ9 22 [und, und, und, und, und, und, und, und, und, und, und, und, und, und, und, und, und, und, und, und, und, und, und, und, und, und, und, und, und, und, und, und, und, und, und, und, und, und, und, und, und, und, und, und, und, und, und, und, und, und, und, und, und, und, und, und, und, und, und, und, und, und, und, und, und, und, und, und, und, und, und, und, und, und, und, und, und, und, und, und, und, und, und, und, und, und, und, und, und, und, und, und, und, und, und, und, und, und, und, und, und, und, und, und, und, und, und, und, und, und, und, und, und, und, und, und, und, und, und, und, und, und, und, und, und, und, und, und, und, und, und, und, und, und, und, und, und, und, und, und, und, und, und]) ∧ Hold B h12 [(xd_, obS (w11 : Sl Int)), pZ9 o_ 1 [cv_]]) hm4_q36 xm4_q36 (lb4_q36 env) (s4_q36 P q8) (fun (q : Sl Int) (r : Res) => match q with | q17 => ∃ (q18 : Int) (h15 : kA4), r = (.exit 2, (xd_ :: (iv a_) :: (iv m_) :: (iv b_) :: (AV.fn g [AV.ptr o_ 1 0 0]) :: und :: und :: und :: und :: und :: (iv q8) :: (iv q9) :: z10 :: (iv q18) :: und :: und :: und :: und :: und :: und :: und :: und :: und :: und :: und :: (iv m_) :: (iv a_) :: (iv (wr (m_ - a_))) :: (bv (decide (wr (m_ - a_) = 1))) :: (iv m_) :: (iv b_) :: .top :: .top :: .top :: .top :: .top :: .top :: .top :: .top :: .top :: .top :: .top :: .top :: .top :: .top :: .top :: .top :: .top :: .top :: .top :: .top :: .top :: .top :: .top :: (iv a_) :: tZ9 22 [und, und, und, und, und, und, und, und, und, und, und, und, und, und, und, und, und, und, und, und, und, und, und, und, und, und, und, und, und, und, und, und, und, und, und, und, und, und, und, und, und, und, und, und, und, und, und, und, und, und, und, und, und, und, und, und, und, und, und, und, und, und, und, und, und, und, und, und, und, und, und, und, und, und, und, und, und, und, und, und, und, und, und, und, und, und, und, und, und, und, und, und, und, und, und, und, und, und, und, und, und, und, und, und, und, und, und, und, und, und, und, und, und, und, und, und, und, und, und, und, und, und, und, und, und, und, und, und, und, und, und, und, und, und, und, und, und, und, und, und, und, und, und]), h15) ∧ Hold B h15 [(xd_, obS (q17 : Sl Int)), pZ9 o_ 1 [cv_]]) := by
  refine @kGi _ _ _ _ _ _ _ _ (fun st tm h12 R => ?_)
  obtain ⟨w11, w14⟩ := st
  obtain ⟨rfl, O13⟩ := R
  rw [e_lb4_q36]
  unfold s4_q36
  dsimp only
  refine kA1 (kAp _ _) ?_
  refine kA1 (kAa _ _) ?_
  refine kA9 (fun c19 => ?_) (fun c19 => ?_)
  · refine kA1 (kAi _ _) ?_
    refine kA1 (kAi _ _) ?_
    refine kAg (O13.tab (A := Int) (s := w11) 0 rfl) (fun m21 a20 hi22 hm23 => ?_)
    refine kA1 (v := iv a20) ((O13.tab (A := Int) (s := w11) 0 rfl).ld hm23 false 1 0) ?_
    refine kAg (O13.tab (A := Int) (s := w11) 0 rfl) (fun m25 a24 hi26 hm27 => ?_)
    refine kA1 (v := iv a24) ((O13.tab (A := Int) (s := w11) 0 rfl).ld hm27 false 1 0) ?_
    refine kAg (O13.tab (A := Int) (s := w11) 0 rfl) (fun m29 a28 hi30 hm31 => ?_)
    refine kFr (A := Int) O13 0 a20 rfl hi30 hm31 rfl (by first | (simp; done) | exact Nat.le_of_ble_eq_true rfl) (by first | rfl | simp) (by first | rfl | simp [kBe]) (fun h32 O33 => ?_)
    replace O33 : Hold B h32 [(xd_, obS ((kC9 w11 w14 a20) : Sl Int)), pZ9 o_ 1 [cv_]] := O33
    refine kAg (O33.tab (A := Int) (s := (kC9 w11 w14 a20)) 0 rfl) (fun m35 a34 hi36 hm37 => ?_)
    refine kFr (A := Int) O33 0 a24 rfl hi36 hm37 rfl (by first | (simp; done) | exact Nat.le_of_ble_eq_true rfl) (by first | rfl | simp) (by first | rfl | simp [kBe]) (fun h38 O39 => ?_)
    replace O39 : Hold B h38 [(xd_, obS ((kC9 (kC9 w11 w14 a20) (wr (w14 + 1)) a24) : Sl Int)), pZ9 o_ 1 [cv_]] := O39
    refine kA1 (kAi _ _) ?_
    exact kA6 ⟨rfl, rfl, O39⟩
  · exact kA6 ⟨nofun, _, _, rfl, O13⟩
theorem tl0_q36 (env : Nat → Contract) {B : Base} {g : Nat} {f_ : List AV → Option AV} {P : Int → Int → Option Int} {o_ : Nat} {cv_ : AV} (he_g : env g = .pure f_) (hp : ∀ a b h, h[o_]? = some ⟨1, [[cv_]]⟩ → Sim (kAb f_ [iv a, iv b, AV.ptr o_ 1 0 0] h) (P a b) fun c r => r = (iv c, h)) {rec_ : Sl Int → Int → Int → Int → Option (Sl Int)} {F_slices_rotateCmpFunc_int64 : List AV → kA4 → Option (AV × kA4)} (he_q33 : env kHa = .gen F_slices_rotateCmpFunc_int64) (S_slices_rotateCmpFunc_int64 : ∀ {B : Base} {h : kA4} {x : AV} (d : Sl Int) (a0 a1 a2 : Int), Hold B h [(x, obS (d : Sl Int)), pZ9 o_ 1 [cv_]] → Sim (F_slices_rotateCmpFunc_int64 [x, iv a0, iv a1, iv a2, AV.fn g [AV.ptr o_ 1 0 0]] h) (kHv P d a0 a1 a2) fun c p => p.1 = AV.tup [] ∧ Hold B p.2 [(x, obS (c : Sl Int)), pZ9 o_ 1 [cv_]]) {F_slices_symMergeCmpFunc_int64 : List AV → kA4 → Option (AV × kA4)} (he_q36 : env kD9 = .gen F_slices_symMergeCmpFunc_int64) (S_slices_symMergeCmpFunc_int64 : ∀ {B : Base} {h : kA4} {x : AV} (d : Sl Int) (a0 a1 a2 : Int), Hold B h [(x, obS (d : Sl Int)), pZ9 o_ 1 [cv_]] → Sim (F_slices_symMergeCmpFunc_int64 [x, iv a0, iv a1, iv a2, AV.fn g [AV.ptr o_ 1 0 0]] h) (rec_ d a0 a1 a2) fun c p => p.1 = AV.tup [] ∧ Hold B p.2 [(x, obS (c : Sl Int)), pZ9 o_ 1 [cv_]]) (data_ : Sl Int) (xd_ : AV) (a_ : Int) (m_ : Int) (b_ : Int)  : kG7 (fun (st : Int × Int) tm h2 => match st with | (w4, w5) => tm = (xd_ :: (iv a_) :: (iv m_) :: (iv b_) :: (AV.fn g [AV.ptr o_ 1 0 0]) :: und :: und :: und :: und :: und :: (iv w4) :: (iv w5) :: .top :: und :: und :: und :: und :: und :: und :: und :: und :: und :: und :: und :: und :: (iv m_) :: (iv a_) :: (iv (wr (m_ - a_))) :: (bv (decide (wr (m_ - a_) = 1))) :: (iv m_) :: (iv b_) :: tZ9 23 [und, und, und, und, und, und, und, und, und, und, und, und, und, und, und, und, und, und, und, und, und, und, und, und, und, und, und, und, und, und, und, und, und, und, und, und, und, und, und, und, und, und, und, und, und, und, und, und, und, und, und, und, und, und, und, und, und, und, und, und, und, und, und, und, und, und, und, und, und, und, und, und, und, und, und, und, und, und, und, und, und, und, und, und, und, und, und, und, und, und, und, und, und, und, und, und, und, und, und, und, und, und, und, und, und, und, und, und, und, und, und, und, und, und, und, und, und, und, und, und, und, und, und, und, und, und, und, und, und, und, und, und, und, und, und, und, und, und, und, und, und, und, und, und, und, und, und, und, und, und, und, und, und, und, und, und, und, und, und, und, und, und, und, und, und, und]) ∧ Hold B h2 [(xd_, obS (data_ : Sl Int)), pZ9 o_ 1 [cv_]]) hm0_q36 xm0_q36 (lb0_q36 env) (s0_q36 P data_ a_) (fun (q : Int) (r : Res) => match q with | q8 => ∃ (q9 : Int) (z10 : AV) (h6 : kA4), r = (.exit 0, (xd_ :: (iv a_) :: (iv m_) :: (iv b_) :: (AV.fn g [AV.ptr o_ 1 0 0]) :: und :: und :: und :: und :: und :: (iv q8) :: (iv q9) :: z10 :: und :: und :: und :: und :: und :: und :: und :: und :: und :: und :: und :: und :: (iv m_) :: (iv a_) :: (iv (wr (m_ - a_))) :: (bv (decide (wr (m_ - a_) = 1))) :: (iv m_) :: (iv b_) :: tZ9 23 [und, und, und, und, und, und, und, und, und, und, und, und, und, und, und, und, und, und, und, und, und, und, und, und, und, und, und, und, und, und, und, und, und, und, und, und, und, und, und, und, und, und, und, und, und, und, und, und, und, und, und, und, und, und, und, und, und, und, und, und, und, und, und, und, und, und, und, und, und, und, und, und, und, und, und, und, und, und, und, und, und, und, und, und, und, und, und, und, und, und, und, und, und, und, und, und, und, und, und, und, und, und, und, und, und, und, und, und, und, und, und, und, und, und, und, und, und, und, und, und, und, und, und, und, und, und, und, und, und, und, und, und, und, und, und, und, und, und, und, und, und, und, und, und, und, und, und, und, und, und, und, und, und, und, und, und, und, und, und, und, und, und, und, und, und, und]), h6) ∧ Hold B h6 [(xd_, obS (data_ : Sl Int)), pZ9 o_ 1 [cv_]]) := by
  refine @kGi _ _ _ _ _ _ _ _ (fun st tm h2 R => ?_)
  obtain ⟨w4, w5⟩ := st
  obtain ⟨rfl, O3⟩ := R
  rw [e_lb0_q36]
  unfold s0_q36
  dsimp only
  refine kA1 (kAa _ _) ?_
  refine kA9 (fun c44 => ?_) (fun c44 => ?_)
  · refine kA1 (kAi _ _) ?_
    refine kA1 (v := AV.sc (.int .u64 (IntKind.u64.wrap (wr (w4 + w5))))) rfl ?_
    refine kA1 (v := AV.sc (.int .u64 (Int.fdiv (IntKind.u64.wrap (wr (w4 + w5))) (2 ^ 1)))) rfl ?_
    refine kA1 (v := iv (wr (Int.fdiv (IntKind.u64.wrap (wr (w4 + w5))) (2 ^ 1)))) rfl ?_
    refine kAg (O3.tab (A := Int) (s := data_) 0 rfl) (fun m46 a45 hi47 hm48 => ?_)
    refine kA1 (v := iv a45) ((O3.tab (A := Int) (s := data_) 0 rfl).ld hm48 false 1 0) ?_
    refine kAg (O3.tab (A := Int) (s := data_) 0 rfl) (fun m50 a49 hi51 hm52 => ?_)
    refine kA1 (v := iv a49) ((O3.tab (A := Int) (s := data_) 0 rfl).ld hm52 false 1 0) ?_
    refine kFj he_g (hp a45 a49 _ (O3.ptr (i := 1) rfl)) (fun c53 => ?_)
    refine kA1 (kAa _ _) ?_
    refine kA9 (fun c54 => ?_) (fun c54 => ?_)
    · refine kA1 (kAi _ _) ?_
      exact kA6 ⟨rfl, rfl, O3⟩
    · exact kA6 ⟨rfl, rfl, O3⟩
  · exact kA6 ⟨nofun, _, _, _, rfl, O3⟩
theorem tl5_q36 (env : Nat → Contract) {B : Base} {g : Nat} {f_ : List AV → Option AV} {P : Int → Int → Option Int} {o_ : Nat} {cv_ : AV} (he_g : env g = .pure f_) (hp : ∀ a b h, h[o_]? = some ⟨1, [[cv_]]⟩ → Sim (kAb f_ [iv a, iv b, AV.ptr o_ 1 0 0] h) (P a b) fun c r => r = (iv c, h)) {rec_ : Sl Int → Int → Int → Int → Option (Sl Int)} {F_slices_rotateCmpFunc_int64 : List AV → kA4 → Option (AV × kA4)} (he_q33 : env kHa = .gen F_slices_rotateCmpFunc_int64) (S_slices_rotateCmpFunc_int64 : ∀ {B : Base} {h : kA4} {x : AV} (d : Sl Int) (a0 a1 a2 : Int), Hold B h [(x, obS (d : Sl Int)), pZ9 o_ 1 [cv_]] → Sim (F_slices_rotateCmpFunc_int64 [x, iv a0, iv a1, iv a2, AV.fn g [AV.ptr o_ 1 0 0]] h) (kHv P d a0 a1 a2) fun c p => p.1 = AV.tup [] ∧ Hold B p.2 [(x, obS (c : Sl Int)), pZ9 o_ 1 [cv_]]) {F_slices_symMergeCmpFunc_int64 : List AV → kA4 → Option (AV × kA4)} (he_q36 : env kD9 = .gen F_slices_symMergeCmpFunc_int64) (S_slices_symMergeCmpFunc_int64 : ∀ {B : Base} {h : kA4} {x : AV} (d : Sl Int) (a0 a1 a2 : Int), Hold B h [(x, obS (d : Sl Int)), pZ9 o_ 1 [cv_]] → Sim (F_slices_symMergeCmpFunc_int64 [x, iv a0, iv a1, iv a2, AV.fn g [AV.ptr o_ 1 0 0]] h) (rec_ d a0 a1 a2) fun c p => p.1 = AV.tup [] ∧ Hold B p.2 [(x, obS (c : Sl Int)), pZ9 o_ 1 [cv_]]) (xd_ : AV) (a_ : Int) (m_ : Int) (b_ : Int) (q67 : Int) (q68 : Int) (z69 : AV)  : kG7 (fun (st : (Sl Int) × Int) tm h71 => match st with | (w70, w73) => tm = (xd_ :: (iv a_) :: (iv m_) :: (iv b_) :: (AV.fn g [AV.ptr o_ 1 0 0]) :: und :: und :: und :: und :: und :: und :: und :: und :: und :: (iv q67) :: (iv q68) :: z69 :: (iv w73) :: und :: und :: und :: und :: und :: und :: und :: (iv m_) :: (iv a_) :: (iv (wr (m_ - a_))) :: (bv (decide (wr (m_ - a_) = 1))) :: und :: und :: und :: und :: und :: und :: und :: und :: und :: und :: und :: und :: und :: und :: und :: und :: und :: und :: und :: und :: und :: und :: und :: und :: und :: und :: und :: und :: und :: und :: und :: und :: und :: und :: und :: und :: und :: und :: und :: und :: und :: und :: und :: und :: und :: und :: und :: und :: (iv b_) :: (iv m_) :: (iv (wr (b_ - m_))) :: (bv (decide (wr (b_ - m_) = 1))) :: (iv a_) :: (iv m_) :: .top :: .top :: .top :: .top :: .top :: .top :: .top :: .top :: .top :: .top :: .top :: .top :: .top :: .top :: .top :: .top :: .top :: .top :: .top :: .top :: .top :: .top :: .top :: .top :: (iv m_) :: tZ9 21 [und, und, und, und, und, und, und, und, und, und, und, und, und, und, und, und, und, und, und, und, und, und, und, und, und, und, und, und, und, und, und, und, und, und, und, und, und, und, und, und, und, und, und, und, und, und, und, und, und, und, und, und, und, und, und, und, und, und, und, und, und, und, und, und, und, und, und, und, und, und, und, und, und, und, und, und, und, und, und, und, und, und, und, und, und, und, und, und, und, und, und]) ∧ Hold B h71 [(xd_, obS (w70 : Sl Int)), pZ9 o_ 1 [cv_]]) hm5_q36 xm5_q36 (lb5_q36 env) (s5_q36 P q67) (fun (q : Sl Int) (r : Res) => match q with | q76 => ∃ (q77 : Int) (h74 : kA4), r = (.exit 6, (xd_ :: (iv a_) :: (iv m_) :: (iv b_) :: (AV.fn g [AV.ptr o_ 1 0 0]) :: und :: und :: und :: und :: und :: und :: und :: und :: und :: (iv q67) :: (iv q68) :: z69 :: (iv q77) :: und :: und :: und :: und :: und :: und :: und :: (iv m_) :: (iv a_) :: (iv (wr (m_ - a_))) :: (bv (decide (wr (m_ - a_) = 1))) :: und :: und :: und :: und :: und :: und :: und :: und :: und :: und :: und :: und :: und :: und :: und :: und :: und :: und :: und :: und :: und :: und :: und :: und :: und :: und :: und :: und :: und :: und :: und :: und :: und :: und :: und :: und :: und :: und :: und :: und :: und :: und :: und :: und :: und :: und :: und :: und :: (iv b_) :: (iv m_) :: (iv (wr (b_ - m_))) :: (bv (decide (wr (b_ - m_) = 1))) :: (iv a_) :: (iv m_) :: .top :: .top :: .top :: .top :: .top :: .top :: .top :: .top :: .top :: .top :: .top :: .top :: .top :: .top :: .top :: .top :: .top :: .top :: .top :: .top :: .top :: .top :: .top :: .top :: (iv m_) :: tZ9 21 [und, und, und, und, und, und, und, und, und, und, und, und, und, und, und, und, und, und, und, und, und, und, und, und, und, und, und, und, und, und, und, und, und, und, und, und, und, und, und, und, und, und, und, und, und, und, und, und, und, und, und, und, und, und, und, und, und, und, und, und, und, und, und, und, und, und, und, und, und, und, und, und, und, und, und, und, und, und, und, und, und, und, und, und, und, und, und, und, und, und, und]), h74) ∧ Hold B h74 [(xd_, obS (q76 : Sl Int)), pZ9 o_ 1 [cv_]]) := by
  refine @kGi _ _ _ _ _ _ _ _ (fun st tm h71 R => ?_)
  obtain ⟨w70, w73⟩ := st
  obtain ⟨rfl, O72⟩ := R
  rw [e_lb5_q36]
  unfold s5_q36
  dsimp only
  refine kA1 (kE4 _ _) ?_
  refine kA9 (fun c78 => ?_) (fun c78 => ?_)
  · refine kA1 (kAp _ _) ?_
    refine kA1 (kAp _ _) ?_
    refine kAg (O72.tab (A := Int) (s := w70) 0 rfl) (fun m80 a79 hi81 hm82 => ?_)
    refine kA1 (v := iv a79) ((O72.tab (A := Int) (s := w70) 0 rfl).ld hm82 false 1 0) ?_
    refine kAg (O72.tab (A := Int) (s := w70) 0 rfl) (fun m84 a83 hi85 hm86 => ?_)
    refine kA1 (v := iv a83) ((O72.tab (A := Int) (s := w70) 0 rfl).ld hm86 false 1 0) ?_
    refine kAg (O72.tab (A := Int) (s := w70) 0 rfl) (fun m88 a87 hi89 hm90 => ?_)
    refine kFr (A := Int) O72 0 a79 rfl hi89 hm90 rfl (by first | (simp; done) | exact Nat.le_of_ble_eq_true rfl) (by first | rfl | simp) (by first | rfl | simp [kBe]) (fun h91 O92 => ?_)
    replace O92 : Hold B h91 [(xd_, obS ((kC9 w70 w73 a79) : Sl Int)), pZ9 o_ 1 [cv_]] := O92
    refine kAg (O92.tab (A := Int) (s := (kC9 w70 w73 a79)) 0 rfl) (fun m94 a93 hi95 hm96 => ?_)
    refine kFr (A := Int) O92 0 a83 rfl hi95 hm96 rfl (by first | (simp; done) | exact Nat.le_of_ble_eq_true rfl) (by first | rfl | simp) (by first | rfl | simp [kBe]) (fun h97 O98 => ?_)
    replace O98 : Hold B h97 [(xd_, obS ((kC9 (kC9 w70 w73 a79) (wr (w73 - 1)) a83) : Sl Int)), pZ9 o_ 1 [cv_]] := O98
    refine kA1 (kAp _ _) ?_
    exact kA6 ⟨rfl, rfl, O98⟩
  · exact kA6 ⟨nofun, _, _, rfl, O72⟩
theorem tl1_q36 (env : Nat → Contract) {B : Base} {g : Nat} {f_ : List AV → Option AV} {P : Int → Int → Option Int} {o_ : Nat} {cv_ : AV} (he_g : env g = .pure f_) (hp : ∀ a b h, h[o_]? = some ⟨1, [[cv_]]⟩ → Sim (kAb f_ [iv a, iv b, AV.ptr o_ 1 0 0] h) (P a b) fun c r => r = (iv c, h)) {rec_ : Sl Int → Int → Int → Int → Option (Sl Int)} {F_slices_rotateCmpFunc_int64 : List AV → kA4 → Option (AV × kA4)} (he_q33 : env kHa = .gen F_slices_rotateCmpFunc_int64) (S_slices_rotateCmpFunc_int64 : ∀ {B : Base} {h : kA4} {x : AV} (d : Sl Int) (a0 a1 a2 : Int), Hold B h [(x, obS (d : Sl Int)), pZ9 o_ 1 [cv_]] → Sim (F_slices_rotateCmpFunc_int64 [x, iv a0, iv a1, iv a2, AV.fn g [AV.ptr o_ 1 0 0]] h) (kHv P d a0 a1 a2) fun c p => p.1 = AV.tup [] ∧ Hold B p.2 [(x, obS (c : Sl Int)), pZ9 o_ 1 [cv_]]) {F_slices_symMergeCmpFunc_int64 : List AV → kA4 → Option (AV × kA4)} (he_q36 : env kD9 = .gen F_slices_symMergeCmpFunc_int64) (S_slices_symMergeCmpFunc_int64 : ∀ {B : Base} {h : kA4} {x : AV} (d : Sl Int) (a0 a1 a2 : Int), Hold B h [(x, obS (d : Sl Int)), pZ9 o_ 1 [cv_]] → Sim (F_slices_symMergeCmpFunc_int64 [x, iv a0, iv a1, iv a2, AV.fn g [AV.ptr o_ 1 0 0]] h) (rec_ d a0 a1 a2) fun c p => p.1 = AV.tup [] ∧ Hold B p.2 [(x, obS (c : Sl Int)), pZ9 o_ 1 [cv_]]) (data_ : Sl Int) (xd_ : AV) (a_ : Int) (m_ : Int) (b_ : Int)  : kG7 (fun (st : Int × Int) tm h61 => match st with | (w63, w64) => tm = (xd_ :: (iv a_) :: (iv m_) :: (iv b_) :: (AV.fn g [AV.ptr o_ 1 0 0]) :: und :: und :: und :: und :: und :: und :: und :: und :: und :: (iv w63) :: (iv w64) :: .top :: und :: und :: und :: und :: und :: und :: und :: und :: (iv m_) :: (iv a_) :: (iv (wr (m_ - a_))) :: (bv (decide (wr (m_ - a_) = 1))) :: und :: und :: und :: und :: und :: und :: und :: und :: und :: und :: und :: und :: und :: und :: und :: und :: und :: und :: und :: und :: und :: und :: und :: und :: und :: und :: und :: und :: und :: und :: und :: und :: und :: und :: und :: und :: und :: und :: und :: und :: und :: und :: und :: und :: und :: und :: und :: und :: (iv b_) :: (iv m_) :: (iv (wr (b_ - m_))) :: (bv (decide (wr (b_ - m_) = 1))) :: (iv a_) :: (iv m_) :: tZ9 24 [und, und, und, und, und, und, und, und, und, und, und, und, und, und, und, und, und, und, und, und, und, und, und, und, und, und, und, und, und, und, und, und, und, und, und, und, und, und, und, und, und, und, und, und, und, und, und, und, und, und, und, und, und, und, und, und, und, und, und, und, und, und, und, und, und, und, und, und, und, und, und, und, und, und, und, und, und, und, und, und, und, und, und, und, und, und, und, und, und, und, und, und, und, und, und, und, und, und, und, und, und, und, und, und, und, und, und, und, und, und, und, und, und]) ∧ Hold B h61 [(xd_, obS (data_ : Sl Int)), pZ9 o_ 1 [cv_]]) hm1_q36 xm1_q36 (lb1_q36 env) (s1_q36 P data_ m_) (fun (q : Int) (r : Res) => match q with | q67 => ∃ (q68 : Int) (z69 : AV) (h65 : kA4), r = (.exit 4, (xd_ :: (iv a_) :: (iv m_) :: (iv b_) :: (AV.fn g [AV.ptr o_ 1 0 0]) :: und :: und :: und :: und :: und :: und :: und :: und :: und :: (iv q67) :: (iv q68) :: z69 :: und :: und :: und :: und :: und :: und :: und :: und :: (iv m_) :: (iv a_) :: (iv (wr (m_ - a_))) :: (bv (decide (wr (m_ - a_) = 1))) :: und :: und :: und :: und :: und :: und :: und :: und :: und :: und :: und :: und :: und :: und :: und :: und :: und :: und :: und :: und :: und :: und :: und :: und :: und :: und :: und :: und :: und :: und :: und :: und :: und :: und :: und :: und :: und :: und :: und :: und :: und :: und :: und :: und :: und :: und :: und :: und :: (iv b_) :: (iv m_) :: (iv (wr (b_ - m_))) :: (bv (decide (wr (b_ - m_) = 1))) :: (iv a_) :: (iv m_) :: tZ9 24 [und, und, und, und, und, und, und, und, und, und, und, und, und, und, und, und, und, und, und, und, und, und, und, und, und, und, und, und, und, und, und, und, und, und, und, und, und, und, und, und, und, und, und, und, und, und, und, und, und, und, und, und, und, und, und, und, und, und, und, und, und, und, und, und, und, und, und, und, und, und, und, und, und, und, und, und, und, und, und, und, und, und, und, und, und, und, und, und, und, und, und, und, und, und, und, und, und, und, und, und, und, und, und, und, und, und, und, und, und, und, und, und, und]), h65) ∧ Hold B h65 [(xd_, obS (data_ : Sl Int)), pZ9 o_ 1 [cv_]]) := by
  refine @kGi _ _ _ _ _ _ _ _ (fun st tm h61 R => ?_)
  obtain ⟨w63, w64⟩ := st
  obtain ⟨rfl, O62⟩ := R
  rw [e_lb1_q36]
  unfold s1_q36
  dsimp only
  refine kA1 (kAa _ _) ?_
  refine kA9 (fun c103 => ?_) (fun c103 => ?_)
  · refine kA1 (kAi _ _) ?_
    refine kA1 (v := AV.sc (.int .u64 (IntKind.u64.wrap (wr (w63 + w64))))) rfl ?_
    refine kA1 (v := AV.sc (.int .u64 (Int.fdiv (IntKind.u64.wrap (wr (w63 + w64))) (2 ^ 1)))) rfl ?_
    refine kA1 (v := iv (wr (Int.fdiv (IntKind.u64.wrap (wr (w63 + w64))) (2 ^ 1)))) rfl ?_
    refine kAg (O62.tab (A := Int) (s := data_) 0 rfl) (fun m105 a104 hi106 hm107 => ?_)
    refine kA1 (v := iv a104) ((O62.tab (A := Int) (s := data_) 0 rfl).ld hm107 false 1 0) ?_
    refine kAg (O62.tab (A := Int) (s := data_) 0 rfl) (fun m109 a108 hi110 hm111 => ?_)
    refine kA1 (v := iv a108) ((O62.tab (A := Int) (s := data_) 0 rfl).ld hm111 false 1 0) ?_
    refine kFj he_g (hp a104 a108 _ (O62.ptr (i := 1) rfl)) (fun c112 => ?_)
    refine kA1 (kAa _ _) ?_
    refine kA1 (v := bv (!(decide (c112 < 0)))) (kCg _) ?_
    refine kA9 (fun c113 => ?_) (fun c113 => ?_)
    · refine kA1 (kAi _ _) ?_
      exact kA6 ⟨rfl, rfl, O62⟩
    · exact kA6 ⟨rfl, rfl, O62⟩
  · exact kA6 ⟨nofun, _, _, _, rfl, O62⟩
theorem tl2_q36 (env : Nat → Contract) {B : Base} {g : Nat} {f_ : List AV → Option AV} {P : Int → Int → Option Int} {o_ : Nat} {cv_ : AV} (he_g : env g = .pure f_) (hp : ∀ a b h, h[o_]? = some ⟨1, [[cv_]]⟩ → Sim (kAb f_ [iv a, iv b, AV.ptr o_ 1 0 0] h) (P a b) fun c r => r = (iv c, h)) {rec_ : Sl Int → Int → Int → Int → Option (Sl Int)} {F_slices_rotateCmpFunc_int64 : List AV → kA4 → Option (AV × kA4)} (he_q33 : env kHa = .gen F_slices_rotateCmpFunc_int64) (S_slices_rotateCmpFunc_int64 : ∀ {B : Base} {h : kA4} {x : AV} (d : Sl Int) (a0 a1 a2 : Int), Hold B h [(x, obS (d : Sl Int)), pZ9 o_ 1 [cv_]] → Sim (F_slices_rotateCmpFunc_int64 [x, iv a0, iv a1, iv a2, AV.fn g [AV.ptr o_ 1 0 0]] h) (kHv P d a0 a1 a2) fun c p => p.1 = AV.tup [] ∧ Hold B p.2 [(x, obS (c : Sl Int)), pZ9 o_ 1 [cv_]]) {F_slices_symMergeCmpFunc_int64 : List AV → kA4 → Option (AV × kA4)} (he_q36 : env kD9 = .gen F_slices_symMergeCmpFunc_int64) (S_slices_symMergeCmpFunc_int64 : ∀ {B : Base} {h : kA4} {x : AV} (d : Sl Int) (a0 a1 a2 : Int), Hold B h [(x, obS (d : Sl Int)), pZ9 o_ 1 [cv_]] → Sim (F_slices_symMergeCmpFunc_int64 [x, iv a0, iv a1, iv a2, AV.fn g [AV.ptr o_ 1 0 0]] h) (rec_ d a0 a1 a2) fun c p => p.1 = AV.tup [] ∧ Hold B p.2 [(x, obS (c : Sl Int)), pZ9 o_ 1 [cv_]]) (data_ : Sl Int) (xd_ : AV) (a_ : Int) (m_ : Int) (b_ : Int)  : kG7 (fun (st : Int × Int) tm h120 => match st with | (w122, w123) => tm = (xd_ :: (iv a_) :: (iv m_) :: (iv b_) :: (AV.fn g [AV.ptr o_ 1 0 0]) :: und :: und :: und :: und :: und :: und :: und :: und :: und :: und :: und :: und :: und :: (iv (wr (Int.fdiv (IntKind.u64.wrap (wr (a_ + b_))) (2 ^ 1)))) :: (iv (wr ((wr (Int.fdiv (IntKind.u64.wrap (wr (a_ + b_))) (2 ^ 1))) + m_))) :: (iv w122) :: (iv w123) :: (iv (wr ((wr ((wr (Int.fdiv (IntKind.u64.wrap (wr (a_ + b_))) (2 ^ 1))) + m_)) - 1))) :: .top :: und :: (iv m_) :: (iv a_) :: (iv (wr (m_ - a_))) :: (bv (decide (wr (m_ - a_) = 1))) :: und :: und :: und :: und :: und :: und :: und :: und :: und :: und :: und :: und :: und :: und :: und :: und :: und :: und :: und :: und :: und :: und :: und :: und :: und :: und :: und :: und :: und :: und :: und :: und :: und :: und :: und :: und :: und :: und :: und :: und :: und :: und :: und :: und :: und :: und :: und :: und :: (iv b_) :: (iv m_) :: (iv (wr (b_ - m_))) :: (bv (decide (wr (b_ - m_) = 1))) :: und :: und :: und :: und :: und :: und :: und :: und :: und :: und :: und :: und :: und :: und :: und :: und :: und :: und :: und :: und :: und :: und :: und :: und :: und :: und :: und :: und :: und :: und :: und :: und :: und :: und :: und :: und :: und :: und :: und :: und :: und :: und :: und :: und :: und :: und :: und :: und :: (iv a_) :: (iv b_) :: (iv (wr (a_ + b_))) :: (AV.sc (.int .u64 (IntKind.u64.wrap (wr (a_ + b_))))) :: (AV.sc (.int .u64 (Int.fdiv (IntKind.u64.wrap (wr (a_ + b_))) (2 ^ 1)))) :: (iv (wr (Int.fdiv (IntKind.u64.wrap (wr (a_ + b_))) (2 ^ 1)))) :: (iv (wr (Int.fdiv (IntKind.u64.wrap (wr (a_ + b_))) (2 ^ 1)))) :: (iv m_) :: (iv (wr ((wr (Int.fdiv (IntKind.u64.wrap (wr (a_ + b_))) (2 ^ 1))) + m_))) :: (iv m_) :: (iv (wr (Int.fdiv (IntKind.u64.wrap (wr (a_ + b_))) (2 ^ 1)))) :: (bv (decide ((wr (Int.fdiv (IntKind.u64.wrap (wr (a_ + b_))) (2 ^ 1))) < m_))) :: (iv (wr ((wr (Int.fdiv (IntKind.u64.wrap (wr (a_ + b_))) (2 ^ 1))) + m_))) :: (iv b_) :: (iv (wr ((wr ((wr (Int.fdiv (IntKind.u64.wrap (wr (a_ + b_))) (2 ^ 1))) + m_)) - b_))) :: (iv (wr (Int.fdiv (IntKind.u64.wrap (wr (a_ + b_))) (2 ^ 1)))) :: und :: und :: (iv (wr ((wr (Int.fdiv (IntKind.u64.wrap (wr (a_ + b_))) (2 ^ 1))) + m_))) :: (iv (wr ((wr ((wr (Int.fdiv (IntKind.u64.wrap (wr (a_ + b_))) (2 ^ 1))) + m_)) - 1))) :: tZ9 26 [und, und, und, und, und, und, und, und, und, und, und, und, und, und, und, und, und, und, und, und, und, und, und, und, und, und, und, und, und, und, und, und, und, und, und, und, und, und, und, und, und, und, und, und, und]) ∧ Hold B h120 [(xd_, obS (data_ : Sl Int)), pZ9 o_ 1 [cv_]]) hm2_q36 xm2_q36 (lb2_q36 env) (s2_q36 P data_ a_ m_ b_) (fun (q : Int) (r : Res) => match q with | q126 => ∃ (q127 : Int) (z128 : AV) (h124 : kA4), r = (.exit 8, (xd_ :: (iv a_) :: (iv m_) :: (iv b_) :: (AV.fn g [AV.ptr o_ 1 0 0]) :: und :: und :: und :: und :: und :: und :: und :: und :: und :: und :: und :: und :: und :: (iv (wr (Int.fdiv (IntKind.u64.wrap (wr (a_ + b_))) (2 ^ 1)))) :: (iv (wr ((wr (Int.fdiv (IntKind.u64.wrap (wr (a_ + b_))) (2 ^ 1))) + m_))) :: (iv q126) :: (iv q127) :: (iv (wr ((wr ((wr (Int.fdiv (IntKind.u64.wrap (wr (a_ + b_))) (2 ^ 1))) + m_)) - 1))) :: z128 :: und :: (iv m_) :: (iv a_) :: (iv (wr (m_ - a_))) :: (bv (decide (wr (m_ - a_) = 1))) :: und :: und :: und :: und :: und :: und :: und :: und :: und :: und :: und :: und :: und :: und :: und :: und :: und :: und :: und :: und :: und :: und :: und :: und :: und :: und :: und :: und :: und :: und :: und :: und :: und :: und :: und :: und :: und :: und :: und :: und :: und :: und :: und :: und :: und :: und :: und :: und :: (iv b_) :: (iv m_) :: (iv (wr (b_ - m_))) :: (bv (decide (wr (b_ - m_) = 1))) :: und :: und :: und :: und :: und :: und :: und :: und :: und :: und :: und :: und :: und :: und :: und :: und :: und :: und :: und :: und :: und :: und :: und :: und :: und :: und :: und :: und :: und :: und :: und :: und :: und :: und :: und :: und :: und :: und :: und :: und :: und :: und :: und :: und :: und :: und :: und :: und :: (iv a_) :: (iv b_) :: (iv (wr (a_ + b_))) :: (AV.sc (.int .u64 (IntKind.u64.wrap (wr (a_ + b_))))) :: (AV.sc (.int .u64 (Int.fdiv (IntKind.u64.wrap (wr (a_ + b_))) (2 ^ 1)))) :: (iv (wr (Int.fdiv (IntKind.u64.wrap (wr (a_ + b_))) (2 ^ 1)))) :: (iv (wr (Int.fdiv (IntKind.u64.wrap (wr (a_ + b_))) (2 ^ 1)))) :: (iv m_) :: (iv (wr ((wr (Int.fdiv (IntKind.u64.wrap (wr (a_ + b_))) (2 ^ 1))) + m_))) :: (iv m_) :: (iv (wr (Int.fdiv (IntKind.u64.wrap (wr (a_ + b_))) (2 ^ 1)))) :: (bv (decide ((wr (Int.fdiv (IntKind.u64.wrap (wr (a_ + b_))) (2 ^ 1))) < m_))) :: (iv (wr ((wr (Int.fdiv (IntKind.u64.wrap (wr (a_ + b_))) (2 ^ 1))) + m_))) :: (iv b_) :: (iv (wr ((wr ((wr (Int.fdiv (IntKind.u64.wrap (wr (a_ + b_))) (2 ^ 1))) + m_)) - b_))) :: (iv (wr (Int.fdiv (IntKind.u64.wrap (wr (a_ + b_))) (2 ^ 1)))) :: und :: und :: (iv (wr ((wr (Int.fdiv (IntKind.u64.wrap (wr (a_ + b_))) (2 ^ 1))) + m_))) :: (iv (wr ((wr ((wr (Int.fdiv (IntKind.u64.wrap (wr (a_ + b_))) (2 ^ 1))) + m_)) - 1))) :: tZ9 26 [und, und, und, und, und, und, und, und, und, und, und, und, und, und, und, und, und, und, und, und, und, und, und, und, und, und, und, und, und, und, und, und, und, und, und, und, und, und, und, und, und, und, und, und, und]), h124) ∧ Hold B h124 [(xd_, obS (data_ : Sl Int)), pZ9 o_ 1 [cv_]]) := by
  refine @kGi _ _ _ _ _ _ _ _ (fun st tm h120 R => ?_)
  obtain ⟨w122, w123⟩ := st
  obtain ⟨rfl, O121⟩ := R
  rw [e_lb2_q36]
  unfold s2_q36
  dsimp only
  refine kA1 (kAa _ _) ?_
  refine kA9 (fun c185 => ?_) (fun c185 => ?_)
  · refine kA1 (kAi _ _) ?_
    refine kA1 (v := AV.sc (.int .u64 (IntKind.u64.wrap (wr (w122 + w123))))) rfl ?_
    refine kA1 (v := AV.sc (.int .u64 (Int.fdiv (IntKind.u64.wrap (wr (w122 + w123))) (2 ^ 1)))) rfl ?_
    refine kA1 (v := iv (wr (Int.fdiv (IntKind.u64.wrap (wr (w122 + w123))) (2 ^ 1)))) rfl ?_
    refine kA1 (kAp _ _) ?_
    refine kAg (O121.tab (A := Int) (s := data_) 0 rfl) (fun m187 a186 hi188 hm189 => ?_)
    refine kA1 (v := iv a186) ((O121.tab (A := Int) (s := data_) 0 rfl).ld hm189 false 1 0) ?_
    refine kAg (O121.tab (A := Int) (s := data_) 0 rfl) (fun m191 a190 hi192 hm193 => ?_)
    refine kA1 (v := iv a190) ((O121.tab (A := Int) (s := data_) 0 rfl).ld hm193 false 1 0) ?_
    refine kFj he_g (hp a186 a190 _ (O121.ptr (i := 1) rfl)) (fun c194 => ?_)
    refine kA1 (kAa _ _) ?_
    refine kA1 (v := bv (!(decide (c194 < 0)))) (kCg _) ?_
    refine kA9 (fun c195 => ?_) (fun c195 => ?_)
    · refine kA1 (kAi _ _) ?_
      exact kA6 ⟨rfl, rfl, O121⟩
    · exact kA6 ⟨rfl, rfl, O121⟩
  · exact kA6 ⟨nofun, _, _, _, rfl, O121⟩
theorem tl3_q36 (env : Nat → Contract) {B : Base} {g : Nat} {f_ : List AV → Option AV} {P : Int → Int → Option Int} {o_ : Nat} {cv_ : AV} (he_g : env g = .pure f_) (hp : ∀ a b h, h[o_]? = some ⟨1, [[cv_]]⟩ → Sim (kAb f_ [iv a, iv b, AV.ptr o_ 1 0 0] h) (P a b) fun c r => r = (iv c, h)) {rec_ : Sl Int → Int → Int → Int → Option (Sl Int)} {F_slices_rotateCmpFunc_int64 : List AV → kA4 → Option (AV × kA4)} (he_q33 : env kHa = .gen F_slices_rotateCmpFunc_int64) (S_slices_rotateCmpFunc_int64 : ∀ {B : Base} {h : kA4} {x : AV} (d : Sl Int) (a0 a1 a2 : Int), Hold B h [(x, obS (d : Sl Int)), pZ9 o_ 1 [cv_]] → Sim (F_slices_rotateCmpFunc_int64 [x, iv a0, iv a1, iv a2, AV.fn g [AV.ptr o_ 1 0 0]] h) (kHv P d a0 a1 a2) fun c p => p.1 = AV.tup [] ∧ Hold B p.2 [(x, obS (c : Sl Int)), pZ9 o_ 1 [cv_]]) {F_slices_symMergeCmpFunc_int64 : List AV → kA4 → Option (AV × kA4)} (he_q36 : env kD9 = .gen F_slices_symMergeCmpFunc_int64) (S_slices_symMergeCmpFunc_int64 : ∀ {B : Base} {h : kA4} {x : AV} (d : Sl Int) (a0 a1 a2 : Int), Hold B h [(x, obS (d : Sl Int)), pZ9 o_ 1 [cv_]] → Sim (F_slices_symMergeCmpFunc_int64 [x, iv a0, iv a1, iv a2, AV.fn g [AV.ptr o_ 1 0 0]] h) (rec_ d a0 a1 a2) fun c p => p.1 = AV.tup [] ∧ Hold B p.2 [(x, obS (c : Sl Int)), pZ9 o_ 1 [cv_]]) (data_ : Sl Int) (xd_ : AV) (a_ : Int) (m_ : Int) (b_ : Int)  : kG7 (fun (st : Int × Int) tm h201 => match st with | (w203, w204) => tm = (xd_ :: (iv a_) :: (iv m_) :: (iv b_) :: (AV.fn g [AV.ptr o_ 1 0 0]) :: und :: und :: und :: und :: und :: und :: und :: und :: und :: und :: und :: und :: und :: (iv (wr (Int.fdiv (IntKind.u64.wrap (wr (a_ + b_))) (2 ^ 1)))) :: (iv (wr ((wr (Int.fdiv (IntKind.u64.wrap (wr (a_ + b_))) (2 ^ 1))) + m_))) :: (iv w203) :: (iv w204) :: (iv (wr ((wr ((wr (Int.fdiv (IntKind.u64.wrap (wr (a_ + b_))) (2 ^ 1))) + m_)) - 1))) :: .top :: und :: (iv m_) :: (iv a_) :: (iv (wr (m_ - a_))) :: (bv (decide (wr (m_ - a_) = 1))) :: und :: und :: und :: und :: und :: und :: und :: und :: und :: und :: und :: und :: und :: und :: und :: und :: und :: und :: und :: und :: und :: und :: und :: und :: und :: und :: und :: und :: und :: und :: und :: und :: und :: und :: und :: und :: und :: und :: und :: und :: und :: und :: und :: und :: und :: und :: und :: und :: (iv b_) :: (iv m_) :: (iv (wr (b_ - m_))) :: (bv (decide (wr (b_ - m_) = 1))) :: und :: und :: und :: und :: und :: und :: und :: und :: und :: und :: und :: und :: und :: und :: und :: und :: und :: und :: und :: und :: und :: und :: und :: und :: und :: und :: und :: und :: und :: und :: und :: und :: und :: und :: und :: und :: und :: und :: und :: und :: und :: und :: und :: und :: und :: und :: und :: und :: (iv a_) :: (iv b_) :: (iv (wr (a_ + b_))) :: (AV.sc (.int .u64 (IntKind.u64.wrap (wr (a_ + b_))))) :: (AV.sc (.int .u64 (Int.fdiv (IntKind.u64.wrap (wr (a_ + b_))) (2 ^ 1)))) :: (iv (wr (Int.fdiv (IntKind.u64.wrap (wr (a_ + b_))) (2 ^ 1)))) :: (iv (wr (Int.fdiv (IntKind.u64.wrap (wr (a_ + b_))) (2 ^ 1)))) :: (iv m_) :: (iv (wr ((wr (Int.fdiv (IntKind.u64.wrap (wr (a_ + b_))) (2 ^ 1))) + m_))) :: (iv m_) :: (iv (wr (Int.fdiv (IntKind.u64.wrap (wr (a_ + b_))) (2 ^ 1)))) :: (bv (decide ((wr (Int.fdiv (IntKind.u64.wrap (wr (a_ + b_))) (2 ^ 1))) < m_))) :: und :: und :: und :: und :: (iv a_) :: (iv m_) :: (iv (wr ((wr (Int.fdiv (IntKind.u64.wrap (wr (a_ + b_))) (2 ^ 1))) + m_))) :: (iv (wr ((wr ((wr (Int.fdiv (IntKind.u64.wrap (wr (a_ + b_))) (2 ^ 1))) + m_)) - 1))) :: tZ9 26 [und, und, und, und, und, und, und, und, und, und, und, und, und, und, und, und, und, und, und, und, und, und, und, und, und, und, und, und, und, und, und, und, und, und, und, und, und, und, und, und, und, und, und, und, und]) ∧ Hold B h201 [(xd_, obS (data_ : Sl Int)), pZ9 o_ 1 [cv_]]) hm3_q36 xm3_q36 (lb3_q36 env) (s3_q36 P data_ a_ m_ b_) (fun (q : Int) (r : Res) => match q with | q207 => ∃ (q208 : Int) (z209 : AV) (h205 : kA4), r = (.exit 8, (xd_ :: (iv a_) :: (iv m_) :: (iv b_) :: (AV.fn g [AV.ptr o_ 1 0 0]) :: und :: und :: und :: und :: und :: und :: und :: und :: und :: und :: und :: und :: und :: (iv (wr (Int.fdiv (IntKind.u64.wrap (wr (a_ + b_))) (2 ^ 1)))) :: (iv (wr ((wr (Int.fdiv (IntKind.u64.wrap (wr (a_ + b_))) (2 ^ 1))) + m_))) :: (iv q207) :: (iv q208) :: (iv (wr ((wr ((wr (Int.fdiv (IntKind.u64.wrap (wr (a_ + b_))) (2 ^ 1))) + m_)) - 1))) :: z209 :: und :: (iv m_) :: (iv a_) :: (iv (wr (m_ - a_))) :: (bv (decide (wr (m_ - a_) = 1))) :: und :: und :: und :: und :: und :: und :: und :: und :: und :: und :: und :: und :: und :: und :: und :: und :: und :: und :: und :: und :: und :: und :: und :: und :: und :: und :: und :: und :: und :: und :: und :: und :: und :: und :: und :: und :: und :: und :: und :: und :: und :: und :: und :: und :: und :: und :: und :: und :: (iv b_) :: (iv m_) :: (iv (wr (b_ - m_))) :: (bv (decide (wr (b_ - m_) = 1))) :: und :: und :: und :: und :: und :: und :: und :: und :: und :: und :: und :: und :: und :: und :: und :: und :: und :: und :: und :: und :: und :: und :: und :: und :: und :: und :: und :: und :: und :: und :: und :: und :: und :: und :: und :: und :: und :: und :: und :: und :: und :: und :: und :: und :: und :: und :: und :: und :: (iv a_) :: (iv b_) :: (iv (wr (a_ + b_))) :: (AV.sc (.int .u64 (IntKind.u64.wrap (wr (a_ + b_))))) :: (AV.sc (.int .u64 (Int.fdiv (IntKind.u64.wrap (wr (a_ + b_))) (2 ^ 1)))) :: (iv (wr (Int.fdiv (IntKind.u64.wrap (wr (a_ + b_))) (2 ^ 1)))) :: (iv (wr (Int.fdiv (IntKind.u64.wrap (wr (a_ + b_))) (2 ^ 1)))) :: (iv m_) :: (iv (wr ((wr (Int.fdiv (IntKind.u64.wrap (wr (a_ + b_))) (2 ^ 1))) + m_))) :: (iv m_) :: (iv (wr (Int.fdiv (IntKind.u64.wrap (wr (a_ + b_))) (2 ^ 1)))) :: (bv (decide ((wr (Int.fdiv (IntKind.u64.wrap (wr (a_ + b_))) (2 ^ 1))) < m_))) :: und :: und :: und :: und :: (iv a_) :: (iv m_) :: (iv (wr ((wr (Int.fdiv (IntKind.u64.wrap (wr (a_ + b_))) (2 ^ 1))) + m_))) :: (iv (wr ((wr ((wr (Int.fdiv (IntKind.u64.wrap (wr (a_ + b_))) (2 ^ 1))) + m_)) - 1))) :: tZ9 26 [und, und, und, und, und, und, und, und, und, und, und, und, und, und, und, und, und, und, und, und, und, und, und, und, und, und, und, und, und, und, und, und, und, und, und, und, und, und, und, und, und, und, und, und, und]), h205) ∧ Hold B h205 [(xd_, obS (data_ : Sl Int)), pZ9 o_ 1 [cv_]]) := by
  refine @kGi _ _ _ _ _ _ _ _ (fun st tm h201 R => ?_)
  obtain ⟨w203, w204⟩ := st
  obtain ⟨rfl, O202⟩ := R
  rw [e_lb3_q36]
  unfold s3_q36
  dsimp only
  refine kA1 (kAa _ _) ?_
  refine kA9 (fun c266 => ?_) (fun c266 => ?_)
  · refine kA1 (kAi _ _) ?_
    refine kA1 (v := AV.sc (.int .u64 (IntKind.u64.wrap (wr (w203 + w204))))) rfl ?_
    refine kA1 (v := AV.sc (.int .u64 (Int.fdiv (IntKind.u64.wrap (wr (w203 + w204))) (2 ^ 1)))) rfl ?_
    refine kA1 (v := iv (wr (Int.fdiv (IntKind.u64.wrap (wr (w203 + w204))) (2 ^ 1)))) rfl ?_
    refine kA1 (kAp _ _) ?_
    refine kAg (O202.tab (A := Int) (s := data_) 0 rfl) (fun m268 a267 hi269 hm270 => ?_)
    refine kA1 (v := iv a267) ((O202.tab (A := Int) (s := data_) 0 rfl).ld hm270 false 1 0) ?_
    refine kAg (O202.tab (A := Int) (s := data_) 0 rfl) (fun m272 a271 hi273 hm274 => ?_)
    refine kA1 (v := iv a271) ((O202.tab (A := Int) (s := data_) 0 rfl).ld hm274 false 1 0) ?_
    refine kFj he_g (hp a267 a271 _ (O202.ptr (i := 1) rfl)) (fun c275 => ?_)
    refine kA1 (kAa _ _) ?_
    refine kA1 (v := bv (!(decide (c275 < 0)))) (kCg _) ?_
    refine kA9 (fun c276 => ?_) (fun c276 => ?_)
    · refine kA1 (kAi _ _) ?_
      exact kA6 ⟨rfl, rfl, O202⟩
    · exact kA6 ⟨rfl, rfl, O202⟩
  · exact kA6 ⟨nofun, _, _, _, rfl, O202⟩
theorem ts_q36 (env : Nat → Contract) {g : Nat} {f_ : List AV → Option AV} {P : Int → Int → Option Int} {o_ : Nat} {cv_ : AV} (he_g : env g = .pure f_) (hp : ∀ a b h, h[o_]? = some ⟨1, [[cv_]]⟩ → Sim (kAb f_ [iv a, iv b, AV.ptr o_ 1 0 0] h) (P a b) fun c r => r = (iv c, h)) {rec_ : Sl Int → Int → Int → Int → Option (Sl Int)} {F_slices_rotateCmpFunc_int64 : List AV → kA4 → Option (AV × kA4)} (he_q33 : env kHa = .gen F_slices_rotateCmpFunc_int64) (S_slices_rotateCmpFunc_int64 : ∀ {B : Base} {h : kA4} {x : AV} (d : Sl Int) (a0 a1 a2 : Int), Hold B h [(x, obS (d : Sl Int)), pZ9 o_ 1 [cv_]] → Sim (F_slices_rotateCmpFunc_int64 [x, iv a0, iv a1, iv a2, AV.fn g [AV.ptr o_ 1 0 0]] h) (kHv P d a0 a1 a2) fun c p => p.1 = AV.tup [] ∧ Hold B p.2 [(x, obS (c : Sl Int)), pZ9 o_ 1 [cv_]]) {F_slices_symMergeCmpFunc_int64 : List AV → kA4 → Option (AV × kA4)} (he_q36 : env kD9 = .gen F_slices_symMergeCmpFunc_int64) (S_slices_symMergeCmpFunc_int64 : ∀ {B : Base} {h : kA4} {x : AV} (d : Sl Int) (a0 a1 a2 : Int), Hold B h [(x, obS (d : Sl Int)), pZ9 o_ 1 [cv_]] → Sim (F_slices_symMergeCmpFunc_int64 [x, iv a0, iv a1, iv a2, AV.fn g [AV.ptr o_ 1 0 0]] h) (rec_ d a0 a1 a2) fun c p => p.1 = AV.tup [] ∧ Hold B p.2 [(x, obS (c : Sl Int)), pZ9 o_ 1 [cv_]]) {B : Base} {h : kA4} {xd_ : AV} (data_ : Sl Int) (a_ : Int) (m_ : Int) (b_ : Int) (O : Hold B h [(xd_, obS (data_ : Sl Int)), pZ9 o_ 1 [cv_]]) : Sim (kAo Try.prog env kD9 [xd_, iv a_, iv m_, iv b_, AV.fn g [AV.ptr o_ 1 0 0]] h) (kB8 P rec_ data_ a_ m_ b_) fun c p => p.1 = AV.tup [] ∧ Hold B p.2 [(xd_, obS (c : Sl Int)), pZ9 o_ 1 [cv_]] := by
  rw [e_q36]
  unfold kB8
  refine kA1 (kAp _ _) ?_
  refine kA1 (aCmp_eq _ _) ?_
  refine kA9 (fun c1 => ?_) (fun c1 => ?_)
  · refine kB2 ((tl0_q36 env he_g hp he_q33 S_slices_rotateCmpFunc_int64 he_q36 S_slices_symMergeCmpFunc_int64 data_ xd_ a_ m_ b_) ⟨rfl, O⟩) (fun qq59 r hq => ?_)
    revert hq
    revert qq59
    intro q8 hq
    obtain ⟨q9, z10, h6, rfl, O7⟩ := hq
    rw [e_lk0x0_q36]
    refine kB2 ((tl4_q36 env he_g hp he_q33 S_slices_rotateCmpFunc_int64 he_q36 S_slices_symMergeCmpFunc_int64 xd_ a_ m_ b_ q8 q9 z10) ⟨rfl, O7⟩) (fun qq43 r hq => ?_)
    revert hq
    revert qq43
    intro q17 hq
    obtain ⟨q18, h15, rfl, O16⟩ := hq
    rw [e_lk4x2_q36]
    exact kA6 ⟨rfl, O16⟩
  · refine kA1 (kAp _ _) ?_
    refine kA1 (aCmp_eq _ _) ?_
    refine kA9 (fun c60 => ?_) (fun c60 => ?_)
    · refine kB2 ((tl1_q36 env he_g hp he_q33 S_slices_rotateCmpFunc_int64 he_q36 S_slices_symMergeCmpFunc_int64 data_ xd_ a_ m_ b_) ⟨rfl, O⟩) (fun qq118 r hq => ?_)
      revert hq
      revert qq118
      intro q67 hq
      obtain ⟨q68, z69, h65, rfl, O66⟩ := hq
      rw [e_lk1x4_q36]
      refine kB2 ((tl5_q36 env he_g hp he_q33 S_slices_rotateCmpFunc_int64 he_q36 S_slices_symMergeCmpFunc_int64 xd_ a_ m_ b_ q67 q68 z69) ⟨rfl, O66⟩) (fun qq102 r hq => ?_)
      revert hq
      revert qq102
      intro q76 hq
      obtain ⟨q77, h74, rfl, O75⟩ := hq
      rw [e_lk5x6_q36]
      exact kA6 ⟨rfl, O75⟩
    · refine kA1 (kAi _ _) ?_
      refine kA1 (v := AV.sc (.int .u64 (IntKind.u64.wrap (wr (a_ + b_))))) rfl ?_
      refine kA1 (v := AV.sc (.int .u64 (Int.fdiv (IntKind.u64.wrap (wr (a_ + b_))) (2 ^ 1)))) rfl ?_
      refine kA1 (v := iv (wr (Int.fdiv (IntKind.u64.wrap (wr (a_ + b_))) (2 ^ 1)))) rfl ?_
      refine kA1 (kAi _ _) ?_
      refine kA1 (kE4 _ _) ?_
      refine kA9 (fun c119 => ?_) (fun c119 => ?_)
      · refine kA1 (kAp _ _) ?_
        refine kA1 (kAp _ _) ?_
        refine kB2 ((tl2_q36 env he_g hp he_q33 S_slices_rotateCmpFunc_int64 he_q36 S_slices_symMergeCmpFunc_int64 data_ xd_ a_ m_ b_) ⟨rfl, O⟩) (fun qq200 r hq => ?_)
        revert hq
        revert qq200
        intro q126 hq
        obtain ⟨q127, z128, h124, rfl, O125⟩ := hq
        rw [e_lk2x8_q36]
        refine kA1 (kAp _ _) ?_
        refine kA1 (kAa _ _) ?_
        refine kBo (e := bv) (fun hb129 => ?_) (fun c130 => ?_)
        · refine kA1 (kAa _ _) ?_
          exact kA6 rfl
        · refine kA1 (v := bv (bif decide (q126 < m_) then c130 else false)) (kEg _ _ _) ?_
          refine kA9 (fun c131 => ?_) (fun c131 => ?_)
          · refine kBx he_q33 (S_slices_rotateCmpFunc_int64 data_ q126 m_ (wr ((wr ((wr (Int.fdiv (IntKind.u64.wrap (wr (a_ + b_))) (2 ^ 1))) + m_)) - q126)) O125) (fun w132 v133 h134 hq135 => ?_)
            obtain ⟨e_v133, O136⟩ := hq135
            dsimp only at e_v133
            subst v133
            replace O136 : Hold B h134 [(xd_, obS (w132 : Sl Int)), pZ9 o_ 1 [cv_]] := O136
            refine kA1 (kAa _ _) ?_
            refine kBo (e := bv) (fun hb137 => ?_) (fun c138 => ?_)
            · refine kA1 (kAa _ _) ?_
              exact kA6 rfl
            · refine kA1 (v := bv (bif decide (a_ < q126) then c138 else false)) (kEg _ _ _) ?_
              refine kA9 (fun c139 => ?_) (fun c139 => ?_)
              · refine kBx he_q36 (S_slices_symMergeCmpFunc_int64 w132 a_ q126 (wr (Int.fdiv (IntKind.u64.wrap (wr (a_ + b_))) (2 ^ 1))) O136) (fun w140 v141 h142 hq143 => ?_)
                obtain ⟨e_v141, O144⟩ := hq143
                dsimp only at e_v141
                subst v141
                replace O144 : Hold B h142 [(xd_, obS (w140 : Sl Int)), pZ9 o_ 1 [cv_]] := O144
                refine kA1 (kAa _ _) ?_
                refine kBo (e := bv) (fun hb145 => ?_) (fun c146 => ?_)
                · refine kA1 (kAa _ _) ?_
                  exact kA6 rfl
                · refine kA1 (v := bv (bif decide ((wr (Int.fdiv (IntKind.u64.wrap (wr (a_ + b_))) (2 ^ 1))) < (wr ((wr ((wr (Int.fdiv (IntKind.u64.wrap (wr (a_ + b_))) (2 ^ 1))) + m_)) - q126))) then c146 else false)) (kEg _ _ _) ?_
                  refine kA9 (fun c147 => ?_) (fun c147 => ?_)
                  · refine kBx he_q36 (S_slices_symMergeCmpFunc_int64 w140 (wr (Int.fdiv (IntKind.u64.wrap (wr (a_ + b_))) (2 ^ 1))) (wr ((wr ((wr (Int.fdiv (IntKind.u64.wrap (wr (a_ + b_))) (2 ^ 1))) + m_)) - q126)) b_ O144) (fun w148 v149 h150 hq151 => ?_)
                    obtain ⟨e_v149, O152⟩ := hq151
                    dsimp only at e_v149
                    subst v149
                    replace O152 : Hold B h150 [(xd_, obS (w148 : Sl Int)), pZ9 o_ 1 [cv_]] := O152
                    exact kA6 ⟨rfl, O152⟩
                  · exact kA6 ⟨rfl, O144⟩
              · refine kA1 (kAa _ _) ?_
                refine kBo (e := bv) (fun hb153 => ?_) (fun c154 => ?_)
                · refine kA1 (kAa _ _) ?_
                  exact kA6 rfl
                · refine kA1 (v := bv (bif decide ((wr (Int.fdiv (IntKind.u64.wrap (wr (a_ + b_))) (2 ^ 1))) < (wr ((wr ((wr (Int.fdiv (IntKind.u64.wrap (wr (a_ + b_))) (2 ^ 1))) + m_)) - q126))) then c154 else false)) (kEg _ _ _) ?_
                  refine kA9 (fun c155 => ?_) (fun c155 => ?_)
                  · refine kBx he_q36 (S_slices_symMergeCmpFunc_int64 w132 (wr (Int.fdiv (IntKind.u64.wrap (wr (a_ + b_))) (2 ^ 1))) (wr ((wr ((wr (Int.fdiv (IntKind.u64.wrap (wr (a_ + b_))) (2 ^ 1))) + m_)) - q126)) b_ O136) (fun w156 v157 h158 hq159 => ?_)
                    obtain ⟨e_v157, O160⟩ := hq159
                    dsimp only at e_v157
                    subst v157
                    replace O160 : Hold B h158 [(xd_, obS (w156 : Sl Int)), pZ9 o_ 1 [cv_]] := O160
                    exact kA6 ⟨rfl, O160⟩
                  · exact kA6 ⟨rfl, O136⟩
          · refine kA1 (kAa _ _) ?_
            refine kBo (e := bv) (fun hb161 => ?_) (fun c162 => ?_)
            · refine kA1 (kAa _ _) ?_
              exact kA6 rfl
            · refine kA1 (v := bv (bif decide (a_ < q126) then c162 else false)) (kEg _ _ _) ?_
              refine kA9 (fun c163 => ?_) (fun c163 => ?_)
              · refine kBx he_q36 (S_slices_symMergeCmpFunc_int64 data_ a_ q126 (wr (Int.fdiv (IntKind.u64.wrap (wr (a_ + b_))) (2 ^ 1))) O125) (fun w164 v165 h166 hq167 => ?_)
                obtain ⟨e_v165, O168⟩ := hq167
                dsimp only at e_v165
                subst v165
                replace O168 : Hold B h166 [(xd_, obS (w164 : Sl Int)), pZ9 o_ 1 [cv_]] := O168
                refine kA1 (kAa _ _) ?_
                refine kBo (e := bv) (fun hb169 => ?_) (fun c170 => ?_)
                · refine kA1 (kAa _ _) ?_
                  exact kA6 rfl
                · refine kA1 (v := bv (bif decide ((wr (Int.fdiv (IntKind.u64.wrap (wr (a_ + b_))) (2 ^ 1))) < (wr ((wr ((wr (Int.fdiv (IntKind.u64.wrap (wr (a_ + b_))) (2 ^ 1))) + m_)) - q126))) then c170 else false)) (kEg _ _ _) ?_
                  refine kA9 (fun c171 => ?_) (fun c171 => ?_)
                  · refine kBx he_q36 (S_slices_symMergeCmpFunc_int64 w164 (wr (Int.fdiv (IntKind.u64.wrap (wr (a_ + b_))) (2 ^ 1))) (wr ((wr ((wr (Int.fdiv (IntKind.u64.wrap (wr (a_ + b_))) (2 ^ 1))) + m_)) - q126)) b_ O168) (fun w172 v173 h174 hq175 => ?_)
                    obtain ⟨e_v173, O176⟩ := hq175
                    dsimp only at e_v173
                    subst v173
                    replace O176 : Hold B h174 [(xd_, obS (w172 : Sl Int)), pZ9 o_ 1 [cv_]] := O176
                    exact kA6 ⟨rfl, O176⟩
                  · exact kA6 ⟨rfl, O168⟩
              · refine kA1 (kAa _ _) ?_
                refine kBo (e := bv) (fun hb177 => ?_) (fun c178 => ?_)
                · refine kA1 (kAa _ _) ?_
                  exact kA6 rfl
                · refine kA1 (v := bv (bif decide ((wr (Int.fdiv (IntKind.u64.wrap (wr (a_ + b_))) (2 ^ 1))) < (wr ((wr ((wr (Int.fdiv (IntKind.u64.wrap (wr (a_ + b_))) (2 ^ 1))) + m_)) - q126))) then c178 else false)) (kEg _ _ _) ?_
                  refine kA9 (fun c179 => ?_) (fun c179 => ?_)
                  · refine kBx he_q36 (S_slices_symMergeCmpFunc_int64 data_ (wr (Int.fdiv (IntKind.u64.wrap (wr (a_ + b_))) (2 ^ 1))) (wr ((wr ((wr (Int.fdiv (IntKind.u64.wrap (wr (a_ + b_))) (2 ^ 1))) + m_)) - q126)) b_ O125) (fun w180 v181 h182 hq183 => ?_)
                    obtain ⟨e_v181, O184⟩ := hq183
                    dsimp only at e_v181
                    subst v181
                    replace O184 : Hold B h182 [(xd_, obS (w180 : Sl Int)), pZ9 o_ 1 [cv_]] := O184
                    exact kA6 ⟨rfl, O184⟩
                  · exact kA6 ⟨rfl, O125⟩
      · refine kA1 (kAp _ _) ?_
        refine kB2 ((tl3_q36 env he_g hp he_q33 S_slices_rotateCmpFunc_int64 he_q36 S_slices_symMergeCmpFunc_int64 data_ xd_ a_ m_ b_) ⟨rfl, O⟩) (fun qq281 r hq => ?_)
        revert hq
        revert qq281
        intro q207 hq
        obtain ⟨q208, z209, h205, rfl, O206⟩ := hq
        rw [e_lk3x8_q36]
        refine kA1 (kAp _ _) ?_
        refine kA1 (kAa _ _) ?_
        refine kBo (e := bv) (fun hb210 => ?_) (fun c211 => ?_)
        · refine kA1 (kAa _ _) ?_
          exact kA6 rfl
        · refine kA1 (v := bv (bif decide (q207 < m_) then c211 else false)) (kEg _ _ _) ?_
          refine kA9 (fun c212 => ?_) (fun c212 => ?_)
          · refine kBx he_q33 (S_slices_rotateCmpFunc_int64 data_ q207 m_ (wr ((wr ((wr (Int.fdiv (IntKind.u64.wrap (wr (a_ + b_))) (2 ^ 1))) + m_)) - q207)) O206) (fun w213 v214 h215 hq216 => ?_)
            obtain ⟨e_v214, O217⟩ := hq216
            dsimp only at e_v214
            subst v214
            replace O217 : Hold B h215 [(xd_, obS (w213 : Sl Int)), pZ9 o_ 1 [cv_]] := O217
            refine kA1 (kAa _ _) ?_
            refine kBo (e := bv) (fun hb218 => ?_) (fun c219 => ?_)
            · refine kA1 (kAa _ _) ?_
              exact kA6 rfl
            · refine kA1 (v := bv (bif decide (a_ < q207) then c219 else false)) (kEg _ _ _) ?_
              refine kA9 (fun c220 => ?_) (fun c220 => ?_)
              · refine kBx he_q36 (S_slices_symMergeCmpFunc_int64 w213 a_ q207 (wr (Int.fdiv (IntKind.u64.wrap (wr (a_ + b_))) (2 ^ 1))) O217) (fun w221 v222 h223 hq224 => ?_)
                obtain ⟨e_v222, O225⟩ := hq224
                dsimp only at e_v222
                subst v222
                replace O225 : Hold B h223 [(xd_, obS (w221 : Sl Int)), pZ9 o_ 1 [cv_]] := O225
                refine kA1 (kAa _ _) ?_
                refine kBo (e := bv) (fun hb226 => ?_) (fun c227 => ?_)
                · refine kA1 (kAa _ _) ?_
                  exact kA6 rfl
                · refine kA1 (v := bv (bif decide ((wr (Int.fdiv (IntKind.u64.wrap (wr (a_ + b_))) (2 ^ 1))) < (wr ((wr ((wr (Int.fdiv (IntKind.u64.wrap (wr (a_ + b_))) (2 ^ 1))) + m_)) - q207))) then c227 else false)) (kEg _ _ _) ?_
                  refine kA9 (fun c228 => ?_) (fun c228 => ?_)
                  · refine kBx he_q36 (S_slices_symMergeCmpFunc_int64 w221 (wr (Int.fdiv (IntKind.u64.wrap (wr (a_ + b_))) (2 ^ 1))) (wr ((wr ((wr (Int.fdiv (IntKind.u64.wrap (wr (a_ + b_))) (2 ^ 1))) + m_)) - q207)) b_ O225) (fun w229 v230 h231 hq232 => ?_)
                    obtain ⟨e_v230, O233⟩ := hq232
                    dsimp only at e_v230
                    subst v230
                    replace O233 : Hold B h231 [(xd_, obS (w229 : Sl Int)), pZ9 o_ 1 [cv_]] := O233
                    exact kA6 ⟨rfl, O233⟩
                  · exact kA6 ⟨rfl, O225⟩
              · refine kA1 (kAa _ _) ?_
                refine kBo (e := bv) (fun hb234 => ?_) (fun c235 => ?_)
                · refine kA1 (kAa _ _) ?_
                  exact kA6 rfl
                · refine kA1 (v := bv (bif decide ((wr (Int.fdiv (IntKind.u64.wrap (wr (a_ + b_))) (2 ^ 1))) < (wr ((wr ((wr (Int.fdiv (IntKind.u64.wrap (wr (a_ + b_))) (2 ^ 1))) + m_)) - q207))) then c235 else false)) (kEg _ _ _) ?_
                  refine kA9 (fun c236 => ?_) (fun c236 => ?_)
                  · refine kBx he_q36 (S_slices_symMergeCmpFunc_int64 w213 (wr (Int.fdiv (IntKind.u64.wrap (wr (a_ + b_))) (2 ^ 1))) (wr ((wr ((wr (Int.fdiv (IntKind.u64.wrap (wr (a_ + b_))) (2 ^ 1))) + m_)) - q207)) b_ O217) (fun w237 v238 h239 hq240 => ?_)
                    obtain ⟨e_v238, O241⟩ := hq240
                    dsimp only at e_v238
                    subst v238
                    replace O241 : Hold B h239 [(xd_, obS (w237 : Sl Int)), pZ9 o_ 1 [cv_]] := O241
                    exact kA6 ⟨rfl, O241⟩
                  · exact kA6 ⟨rfl, O217⟩
          · refine kA1 (kAa _ _) ?_
            refine kBo (e := bv) (fun hb242 => ?_) (fun c243 => ?_)
            · refine kA1 (kAa _ _) ?_
              exact kA6 rfl
            · refine kA1 (v := bv (bif decide (a_ < q207) then c243 else false)) (kEg _ _ _) ?_
              refine kA9 (fun c244 => ?_) (fun c244 => ?_)
              · refine kBx he_q36 (S_slices_symMergeCmpFunc_int64 data_ a_ q207 (wr (Int.fdiv (IntKind.u64.wrap (wr (a_ + b_))) (2 ^ 1))) O206) (fun w245 v246 h247 hq248 => ?_)
                obtain ⟨e_v246, O249⟩ := hq248
                dsimp only at e_v246
                subst v246
                replace O249 : Hold B h247 [(xd_, obS (w245 : Sl Int)), pZ9 o_ 1 [cv_]] := O249
                refine kA1 (kAa _ _) ?_
                refine kBo (e := bv) (fun hb250 => ?_) (fun c251 => ?_)
                · refine kA1 (kAa _ _) ?_
                  exact kA6 rfl
                · refine kA1 (v := bv (bif decide ((wr (Int.fdiv (IntKind.u64.wrap (wr (a_ + b_))) (2 ^ 1))) < (wr ((wr ((wr (Int.fdiv (IntKind.u64.wrap (wr (a_ + b_))) (2 ^ 1))) + m_)) - q207))) then c251 else false)) (kEg _ _ _) ?_
                  refine kA9 (fun c252 => ?_) (fun c252 => ?_)
                  · refine kBx he_q36 (S_slices_symMergeCmpFunc_int64 w245 (wr (Int.fdiv (IntKind.u64.wrap (wr (a_ + b_))) (2 ^ 1))) (wr ((wr ((wr (Int.fdiv (IntKind.u64.wrap (wr (a_ + b_))) (2 ^ 1))) + m_)) - q207)) b_ O249) (fun w253 v254 h255 hq256 => ?_)
                    obtain ⟨e_v254, O257⟩ := hq256
                    dsimp only at e_v254
                    subst v254
                    replace O257 : Hold B h255 [(xd_, obS (w253 : Sl Int)), pZ9 o_ 1 [cv_]] := O257
                    exact kA6 ⟨rfl, O257⟩
                  · exact kA6 ⟨rfl, O249⟩
              · refine kA1 (kAa _ _) ?_
                refine kBo (e := bv) (fun hb258 => ?_) (fun c259 => ?_)
                · refine kA1 (kAa _ _) ?_
                  exact kA6 rfl
                · refine kA1 (v := bv (bif decide ((wr (Int.fdiv (IntKind.u64.wrap (wr (a_ + b_))) (2 ^ 1))) < (wr ((wr ((wr (Int.fdiv (IntKind.u64.wrap (wr (a_ + b_))) (2 ^ 1))) + m_)) - q207))) then c259 else false)) (kEg _ _ _) ?_
                  refine kA9 (fun c260 => ?_) (fun c260 => ?_)
                  · refine kBx he_q36 (S_slices_symMergeCmpFunc_int64 data_ (wr (Int.fdiv (IntKind.u64.wrap (wr (a_ + b_))) (2 ^ 1))) (wr ((wr ((wr (Int.fdiv (IntKind.u64.wrap (wr (a_ + b_))) (2 ^ 1))) + m_)) - q207)) b_ O206) (fun w261 v262 h263 hq264 => ?_)
                    obtain ⟨e_v262, O265⟩ := hq264
                    dsimp only at e_v262
                    subst v262
                    replace O265 : Hold B h263 [(xd_, obS (w261 : Sl Int)), pZ9 o_ 1 [cv_]] := O265
                    exact kA6 ⟨rfl, O265⟩
                  · exact kA6 ⟨rfl, O206⟩
def kIj (p_ : Int → Int → Option Int) (n_ : Int) (w19 : Int) : ((Sl Int) × Int × Int) → Option (Sum ((Sl Int) × Int × Int) ((Sl Int) × Int)) := fun (w28, w31, w32) =>
  bif decide (w32 ≤ n_) then
    kA0 (kF0 p_ 100000 w28 w31 (wr (w31 + w19)) w32) fun w47 =>
    some (.inl (w47, w32, wr (w32 + (wr (2 * w19)))))
  else
    some (.inr (w28, w31))
def kHg (p_ : Int → Int → Option Int) (n_ : Int) : ((Sl Int) × Int) → Option (Sum ((Sl Int) × Int) (Sl Int)) := fun (w16, w19) =>
  bif decide (w19 < n_) then
    kA0 (kBa (kIj p_ n_ w19) (w16, 0, wr (2 * w19))) fun (q35, q36) =>
    bif decide ((wr (q36 + w19)) < n_) then
      kA0 (kF0 p_ 100000 q35 q36 (wr (q36 + w19)) n_) fun w39 =>
      some (.inl (w39, wr (w19 * 2)))
    else
      some (.inl (q35, wr (w19 * 2)))
  else
    some (.inr w16)
def kHh (p_ : Int → Int → Option Int) (n_ : Int) : ((Sl Int) × Int × Int) → Option (Sum ((Sl Int) × Int × Int) ((Sl Int) × Int)) := fun (w1, w4, w5) =>
  bif decide (w5 ≤ n_) then
    kA0 (t_q32 p_ w1 w4 w5) fun w60 =>
    some (.inl (w60, w5, wr (w5 + 20)))
  else
    some (.inr (w1, w4))
def t_q34 (p_ : Int → Int → Option Int) (data_ : Sl Int) (n_ : Int) : Option (Sl Int) :=
  kA0 (kBa (kHh p_ n_) (data_, 0, 20)) fun (q8, q9) =>
  kA0 (t_q32 p_ q8 q9 n_) fun w11 =>
  kA0 (kBa (kHg p_ n_) (w11, 20)) fun q22 =>
  some q22
theorem tl2_q34 (env : Nat → Contract) {B : Base} {g : Nat} {f_ : List AV → Option AV} {P : Int → Int → Option Int} {o_ : Nat} {cv_ : AV} (he_g : env g = .pure f_) (hp : ∀ a b h, h[o_]? = some ⟨1, [[cv_]]⟩ → Sim (kAb f_ [iv a, iv b, AV.ptr o_ 1 0 0] h) (P a b) fun c r => r = (iv c, h)) {F_slices_insertionSortCmpFunc_int64 : List AV → kA4 → Option (AV × kA4)} (he_q32 : env n_q32 = .gen F_slices_insertionSortCmpFunc_int64) (S_slices_insertionSortCmpFunc_int64 : ∀ {B : Base} {h : kA4} {x : AV} (d : Sl Int) (a0 a1 : Int), Hold B h [(x, obS (d : Sl Int)), pZ9 o_ 1 [cv_]] → Sim (F_slices_insertionSortCmpFunc_int64 [x, iv a0, iv a1, AV.fn g [AV.ptr o_ 1 0 0]] h) (t_q32 P d a0 a1) fun c p => p.1 = AV.tup [] ∧ Hold B p.2 [(x, obS (c : Sl Int)), pZ9 o_ 1 [cv_]]) {F_slices_symMergeCmpFunc_int64 : List AV → kA4 → Option (AV × kA4)} (he_q36 : env kD9 = .gen F_slices_symMergeCmpFunc_int64) (S_slices_symMergeCmpFunc_int64 : ∀ {B : Base} {h : kA4} {x : AV} (d : Sl Int) (a0 a1 a2 : Int), Hold B h [(x, obS (d : Sl Int)), pZ9 o_ 1 [cv_]] → Sim (F_slices_symMergeCmpFunc_int64 [x, iv a0, iv a1, iv a2, AV.fn g [AV.ptr o_ 1 0 0]] h) (kF0 P 100000 d a0 a1 a2) fun c p => p.1 = AV.tup [] ∧ Hold B p.2 [(x, obS (c : Sl Int)), pZ9 o_ 1 [cv_]]) (xd_ : AV) (n_ : Int) (q9 : Int) (w19 : Int)  : kG7 (fun (st : (Sl Int) × Int × Int) tm h29 => match st with | (w28, w31, w32) => tm = (xd_ :: (iv n_) :: (AV.fn g [AV.ptr o_ 1 0 0]) :: und :: und :: und :: (iv w19) :: (iv w31) :: (iv w32) :: .top :: (iv 20) :: .top :: .top :: .top :: .top :: .top :: .top :: .top :: .top :: .top :: .top :: .top :: .top :: xd_ :: (iv q9) :: (iv n_) :: (AV.fn g [AV.ptr o_ 1 0 0]) :: (AV.tup []) :: (iv w19) :: (iv n_) :: (bv (decide (w19 < n_))) :: (iv w19) :: (iv (wr (2 * w19))) :: tZ9 16 [.top, .top, .top, .top, .top, .top, .top, .top, .top, .top, .top, .top, .top, .top]) ∧ Hold B h29 [(xd_, obS (w28 : Sl Int)), pZ9 o_ 1 [cv_]]) hm2_q34 xm2_q34 (lb2_q34 env) (kIj P n_ w19) (fun (q : (Sl Int) × Int) (r : Res) => match q with | (q35, q36) => ∃ (q37 : Int) (h33 : kA4), r = (.exit 4, (xd_ :: (iv n_) :: (AV.fn g [AV.ptr o_ 1 0 0]) :: und :: und :: und :: (iv w19) :: (iv q36) :: (iv q37) :: .top :: (iv 20) :: .top :: .top :: .top :: .top :: .top :: .top :: .top :: .top :: .top :: .top :: .top :: .top :: xd_ :: (iv q9) :: (iv n_) :: (AV.fn g [AV.ptr o_ 1 0 0]) :: (AV.tup []) :: (iv w19) :: (iv n_) :: (bv (decide (w19 < n_))) :: (iv w19) :: (iv (wr (2 * w19))) :: tZ9 16 [.top, .top, .top, .top, .top, .top, .top, .top, .top, .top, .top, .top, .top, .top]), h33) ∧ Hold B h33 [(xd_, obS (q35 : Sl Int)), pZ9 o_ 1 [cv_]]) := by
  refine @kGi _ _ _ _ _ _ _ _ (fun st tm h29 R => ?_)
  obtain ⟨w28, w31, w32⟩ := st
  obtain ⟨rfl, O30⟩ := R
  rw [e_lb2_q34]
  unfold kIj
  dsimp only
  refine kA1 (aBin_leq _ _) ?_
  refine kA9 (fun c46 => ?_) (fun c46 => ?_)
  · refine kA1 (kAi _ _) ?_
    refine kBx he_q36 (S_slices_symMergeCmpFunc_int64 w28 w31 (wr (w31 + w19)) w32 O30) (fun w47 v48 h49 hq50 => ?_)
    obtain ⟨e_v48, O51⟩ := hq50
    dsimp only at e_v48
    subst v48
    replace O51 : Hold B h49 [(xd_, obS (w47 : Sl Int)), pZ9 o_ 1 [cv_]] := O51
    refine kA1 (aBin_mul _ _) ?_
    refine kA1 (kAi _ _) ?_
    exact kA6 ⟨rfl, rfl, O51⟩
  · exact kA6 ⟨nofun, _, _, rfl, O30⟩
theorem tl1_q34 (env : Nat → Contract) {B : Base} {g : Nat} {f_ : List AV → Option AV} {P : Int → Int → Option Int} {o_ : Nat} {cv_ : AV} (he_g : env g = .pure f_) (hp : ∀ a b h, h[o_]? = some ⟨1, [[cv_]]⟩ → Sim (kAb f_ [iv a, iv b, AV.ptr o_ 1 0 0] h) (P a b) fun c r => r = (iv c, h)) {F_slices_insertionSortCmpFunc_int64 : List AV → kA4 → Option (AV × kA4)} (he_q32 : env n_q32 = .gen F_slices_insertionSortCmpFunc_int64) (S_slices_insertionSortCmpFunc_int64 : ∀ {B : Base} {h : kA4} {x : AV} (d : Sl Int) (a0 a1 : Int), Hold B h [(x, obS (d : Sl Int)), pZ9 o_ 1 [cv_]] → Sim (F_slices_insertionSortCmpFunc_int64 [x, iv a0, iv a1, AV.fn g [AV.ptr o_ 1 0 0]] h) (t_q32 P d a0 a1) fun c p => p.1 = AV.tup [] ∧ Hold B p.2 [(x, obS (c : Sl Int)), pZ9 o_ 1 [cv_]]) {F_slices_symMergeCmpFunc_int64 : List AV → kA4 → Option (AV × kA4)} (he_q36 : env kD9 = .gen F_slices_symMergeCmpFunc_int64) (S_slices_symMergeCmpFunc_int64 : ∀ {B : Base} {h : kA4} {x : AV} (d : Sl Int) (a0 a1 a2 : Int), Hold B h [(x, obS (d : Sl Int)), pZ9 o_ 1 [cv_]] → Sim (F_slices_symMergeCmpFunc_int64 [x, iv a0, iv a1, iv a2, AV.fn g [AV.ptr o_ 1 0 0]] h) (kF0 P 100000 d a0 a1 a2) fun c p => p.1 = AV.tup [] ∧ Hold B p.2 [(x, obS (c : Sl Int)), pZ9 o_ 1 [cv_]]) (xd_ : AV) (n_ : Int) (q9 : Int)  : kG7 (fun (st : (Sl Int) × Int) tm h17 => match st with | (w16, w19) => tm = (xd_ :: (iv n_) :: (AV.fn g [AV.ptr o_ 1 0 0]) :: und :: und :: und :: (iv w19) :: .top :: .top :: .top :: (iv 20) :: .top :: .top :: .top :: .top :: .top :: .top :: .top :: .top :: .top :: .top :: .top :: .top :: xd_ :: (iv q9) :: (iv n_) :: (AV.fn g [AV.ptr o_ 1 0 0]) :: (AV.tup []) :: tZ9 35 []) ∧ Hold B h17 [(xd_, obS (w16 : Sl Int)), pZ9 o_ 1 [cv_]]) hm1_q34 xm1_q34 (lb1_q34 env) (kHg P n_) (fun (q : Sl Int) (r : Res) => match q with | q22 => ∃ (q23 : Int) (z24 : AV) (z25 : AV) (z26 : AV) (h20 : kA4), r = (.exit 2, (xd_ :: (iv n_) :: (AV.fn g [AV.ptr o_ 1 0 0]) :: und :: und :: und :: (iv q23) :: z24 :: z25 :: z26 :: (iv 20) :: .top :: .top :: .top :: .top :: .top :: .top :: .top :: .top :: .top :: .top :: .top :: .top :: xd_ :: (iv q9) :: (iv n_) :: (AV.fn g [AV.ptr o_ 1 0 0]) :: (AV.tup []) :: tZ9 35 []), h20) ∧ Hold B h20 [(xd_, obS (q22 : Sl Int)), pZ9 o_ 1 [cv_]]) := by
  refine @kGi _ _ _ _ _ _ _ _ (fun st tm h17 R => ?_)
  obtain ⟨w16, w19⟩ := st
  obtain ⟨rfl, O18⟩ := R
  rw [e_lb1_q34]
  unfold kHg
  dsimp only
  refine kA1 (kAa _ _) ?_
  refine kA9 (fun c27 => ?_) (fun c27 => ?_)
  · refine kA1 (aBin_mul _ _) ?_
    refine kB2 ((tl2_q34 env he_g hp he_q32 S_slices_insertionSortCmpFunc_int64 he_q36 S_slices_symMergeCmpFunc_int64 xd_ n_ q9 w19) ⟨rfl, O18⟩) (fun qq55 r hq => ?_)
    obtain ⟨q35, q36⟩ := qq55
    obtain ⟨q37, h33, rfl, O34⟩ := hq
    rw [e_lk2x4_q34]
    refine kA1 (kAi _ _) ?_
    refine kA1 (kAa _ _) ?_
    refine kA9 (fun c38 => ?_) (fun c38 => ?_)
    · refine kBx he_q36 (S_slices_symMergeCmpFunc_int64 q35 q36 (wr (q36 + w19)) n_ O34) (fun w39 v40 h41 hq42 => ?_)
      obtain ⟨e_v40, O43⟩ := hq42
      dsimp only at e_v40
      subst v40
      replace O43 : Hold B h41 [(xd_, obS (w39 : Sl Int)), pZ9 o_ 1 [cv_]] := O43
      refine kA1 (aBin_mul _ _) ?_
      exact kA6 ⟨rfl, rfl, O43⟩
    · refine kA1 (aBin_mul _ _) ?_
      exact kA6 ⟨rfl, rfl, O34⟩
  · exact kA6 ⟨nofun, _, _, _, _, _, rfl, O18⟩
theorem tl0_q34 (env : Nat → Contract) {B : Base} {g : Nat} {f_ : List AV → Option AV} {P : Int → Int → Option Int} {o_ : Nat} {cv_ : AV} (he_g : env g = .pure f_) (hp : ∀ a b h, h[o_]? = some ⟨1, [[cv_]]⟩ → Sim (kAb f_ [iv a, iv b, AV.ptr o_ 1 0 0] h) (P a b) fun c r => r = (iv c, h)) {F_slices_insertionSortCmpFunc_int64 : List AV → kA4 → Option (AV × kA4)} (he_q32 : env n_q32 = .gen F_slices_insertionSortCmpFunc_int64) (S_slices_insertionSortCmpFunc_int64 : ∀ {B : Base} {h : kA4} {x : AV} (d : Sl Int) (a0 a1 : Int), Hold B h [(x, obS (d : Sl Int)), pZ9 o_ 1 [cv_]] → Sim (F_slices_insertionSortCmpFunc_int64 [x, iv a0, iv a1, AV.fn g [AV.ptr o_ 1 0 0]] h) (t_q32 P d a0 a1) fun c p => p.1 = AV.tup [] ∧ Hold B p.2 [(x, obS (c : Sl Int)), pZ9 o_ 1 [cv_]]) {F_slices_symMergeCmpFunc_int64 : List AV → kA4 → Option (AV × kA4)} (he_q36 : env kD9 = .gen F_slices_symMergeCmpFunc_int64) (S_slices_symMergeCmpFunc_int64 : ∀ {B : Base} {h : kA4} {x : AV} (d : Sl Int) (a0 a1 a2 : Int), Hold B h [(x, obS (d : Sl Int)), pZ9 o_ 1 [cv_]] → Sim (F_slices_symMergeCmpFunc_int64 [x, iv a0, iv a1, iv a2, AV.fn g [AV.ptr o_ 1 0 0]] h) (kF0 P 100000 d a0 a1 a2) fun c p => p.1 = AV.tup [] ∧ Hold B p.2 [(x, obS (c : Sl Int)), pZ9 o_ 1 [cv_]]) (xd_ : AV) (n_ : Int)  : kG7 (fun (st : (Sl Int) × Int × Int) tm h2 => match st with | (w1, w4, w5) => tm = (xd_ :: (iv n_) :: (AV.fn g [AV.ptr o_ 1 0 0]) :: und :: und :: und :: (iv 20) :: (iv w4) :: (iv w5) :: und :: (iv 20) :: tZ9 12 [und, und, und, und, und, und, und, und, und, und, und, und, und, und, und, und, und, und, und, und, und, und, und, und, und, und, und, und, und, und, und, und, und, und, und, und, und, und, und, und]) ∧ Hold B h2 [(xd_, obS (w1 : Sl Int)), pZ9 o_ 1 [cv_]]) hm0_q34 xm0_q34 (lb0_q34 env) (kHh P n_) (fun (q : (Sl Int) × Int) (r : Res) => match q with | (q8, q9) => ∃ (q10 : Int) (h6 : kA4), r = (.exit 0, (xd_ :: (iv n_) :: (AV.fn g [AV.ptr o_ 1 0 0]) :: und :: und :: und :: (iv 20) :: (iv q9) :: (iv q10) :: und :: (iv 20) :: tZ9 12 [und, und, und, und, und, und, und, und, und, und, und, und, und, und, und, und, und, und, und, und, und, und, und, und, und, und, und, und, und, und, und, und, und, und, und, und, und, und, und, und]), h6) ∧ Hold B h6 [(xd_, obS (q8 : Sl Int)), pZ9 o_ 1 [cv_]]) := by
  refine @kGi _ _ _ _ _ _ _ _ (fun st tm h2 R => ?_)
  obtain ⟨w1, w4, w5⟩ := st
  obtain ⟨rfl, O3⟩ := R
  rw [e_lb0_q34]
  unfold kHh
  dsimp only
  refine kA1 (aBin_leq _ _) ?_
  refine kA9 (fun c59 => ?_) (fun c59 => ?_)
  · refine kBx he_q32 (S_slices_insertionSortCmpFunc_int64 w1 w4 w5 O3) (fun w60 v61 h62 hq63 => ?_)
    obtain ⟨e_v61, O64⟩ := hq63
    dsimp only at e_v61
    subst v61
    replace O64 : Hold B h62 [(xd_, obS (w60 : Sl Int)), pZ9 o_ 1 [cv_]] := O64
    refine kA1 (kAi _ _) ?_
    exact kA6 ⟨rfl, rfl, O64⟩
  · exact kA6 ⟨nofun, _, _, rfl, O3⟩
theorem ts_q34 (env : Nat → Contract) {g : Nat} {f_ : List AV → Option AV} {P : Int → Int → Option Int} {o_ : Nat} {cv_ : AV} (he_g : env g = .pure f_) (hp : ∀ a b h, h[o_]? = some ⟨1, [[cv_]]⟩ → Sim (kAb f_ [iv a, iv b, AV.ptr o_ 1 0 0] h) (P a b) fun c r => r = (iv c, h)) {F_slices_insertionSortCmpFunc_int64 : List AV → kA4 → Option (AV × kA4)} (he_q32 : env n_q32 = .gen F_slices_insertionSortCmpFunc_int64) (S_slices_insertionSortCmpFunc_int64 : ∀ {B : Base} {h : kA4} {x : AV} (d : Sl Int) (a0 a1 : Int), Hold B h [(x, obS (d : Sl Int)), pZ9 o_ 1 [cv_]] → Sim (F_slices_insertionSortCmpFunc_int64 [x, iv a0, iv a1, AV.fn g [AV.ptr o_ 1 0 0]] h) (t_q32 P d a0 a1) fun c p => p.1 = AV.tup [] ∧ Hold B p.2 [(x, obS (c : Sl Int)), pZ9 o_ 1 [cv_]]) {F_slices_symMergeCmpFunc_int64 : List AV → kA4 → Option (AV × kA4)} (he_q36 : env kD9 = .gen F_slices_symMergeCmpFunc_int64) (S_slices_symMergeCmpFunc_int64 : ∀ {B : Base} {h : kA4} {x : AV} (d : Sl Int) (a0 a1 a2 : Int), Hold B h [(x, obS (d : Sl Int)), pZ9 o_ 1 [cv_]] → Sim (F_slices_symMergeCmpFunc_int64 [x, iv a0, iv a1, iv a2, AV.fn g [AV.ptr o_ 1 0 0]] h) (kF0 P 100000 d a0 a1 a2) fun c p => p.1 = AV.tup [] ∧ Hold B p.2 [(x, obS (c : Sl Int)), pZ9 o_ 1 [cv_]]) {B : Base} {h : kA4} {xd_ : AV} (data_ : Sl Int) (n_ : Int) (O : Hold B h [(xd_, obS (data_ : Sl Int)), pZ9 o_ 1 [cv_]]) : Sim (kAo Try.prog env n_q34 [xd_, iv n_, AV.fn g [AV.ptr o_ 1 0 0]] h) (t_q34 P data_ n_) fun c p => p.1 = AV.tup [] ∧ Hold B p.2 [(xd_, obS (c : Sl Int)), pZ9 o_ 1 [cv_]] := by
  rw [e_q34]
  unfold t_q34
  refine kB2 ((tl0_q34 env he_g hp he_q32 S_slices_insertionSortCmpFunc_int64 he_q36 S_slices_symMergeCmpFunc_int64 xd_ n_) ⟨rfl, O⟩) (fun qq68 r hq => ?_)
  obtain ⟨q8, q9⟩ := qq68
  obtain ⟨q10, h6, rfl, O7⟩ := hq
  rw [e_lk0x0_q34]
  refine kBx he_q32 (S_slices_insertionSortCmpFunc_int64 q8 q9 n_ O7) (fun w11 v12 h13 hq14 => ?_)
  obtain ⟨e_v12, O15⟩ := hq14
  dsimp only at e_v12
  subst v12
  replace O15 : Hold B h13 [(xd_, obS (w11 : Sl Int)), pZ9 o_ 1 [cv_]] := O15
  refine kB2 ((tl1_q34 env he_g hp he_q32 S_slices_insertionSortCmpFunc_int64 he_q36 S_slices_symMergeCmpFunc_int64 xd_ n_ q9) ⟨rfl, O15⟩) (fun qq58 r hq => ?_)
  revert hq
  revert qq58
  intro q22 hq
  obtain ⟨q23, z24, z25, z26, h20, rfl, O21⟩ := hq
  rw [e_lk1x2_q34]
  exact kA6 ⟨rfl, O21⟩
def t_q31 (p_ : Int → Int → Option Int) (x_ : Sl Int) : Option (Sl Int) :=
  kA0 (t_q34 p_ x_ (((x_.getD []).length : Nat) : Int)) fun w1 =>
  some w1
theorem ts_q31 (env : Nat → Contract) {g : Nat} {f_ : List AV → Option AV} {P : Int → Int → Option Int} {o_ : Nat} {cv_ : AV} (he_g : env g = .pure f_) (hp : ∀ a b h, h[o_]? = some ⟨1, [[cv_]]⟩ → Sim (kAb f_ [iv a, iv b, AV.ptr o_ 1 0 0] h) (P a b) fun c r => r = (iv c, h)) {F_slices_stableCmpFunc_int64 : List AV → kA4 → Option (AV × kA4)} (he_q34 : env n_q34 = .gen F_slices_stableCmpFunc_int64) (S_slices_stableCmpFunc_int64 : ∀ {B : Base} {h : kA4} {x : AV} (d : Sl Int) (a0 : Int), Hold B h [(x, obS (d : Sl Int)), pZ9 o_ 1 [cv_]] → Sim (F_slices_stableCmpFunc_int64 [x, iv a0, AV.fn g [AV.ptr o_ 1 0 0]] h) (t_q34 P d a0) fun c p => p.1 = AV.tup [] ∧ Hold B p.2 [(x, obS (c : Sl Int)), pZ9 o_ 1 [cv_]]) {B : Base} {h : kA4} {xd_ : AV} (x_ : Sl Int) (O : Hold B h [(xd_, obS (x_ : Sl Int)), pZ9 o_ 1 [cv_]]) : Sim (kAo Try.prog env kH8 [xd_, AV.fn g [AV.ptr o_ 1 0 0]] h) (t_q31 P x_) fun c p => p.1 = AV.tup [] ∧ Hold B p.2 [(xd_, obS (c : Sl Int)), pZ9 o_ 1 [cv_]] := by
  rw [e_q31]
  unfold t_q31
  refine kA1 (v := iv (((x_.getD []).length : Nat) : Int)) (O.tab (A := Int) (s := x_) 0 rfl).len ?_
  refine kBx he_q34 (S_slices_stableCmpFunc_int64 x_ (((x_.getD []).length : Nat) : Int) O) (fun w1 v2 h3 hq4 => ?_)
  obtain ⟨e_v2, O5⟩ := hq4
  dsimp only at e_v2
  subst v2
  replace O5 : Hold B h3 [(xd_, obS (w1 : Sl Int)), pZ9 o_ 1 [cv_]] := O5
  exact kA6 ⟨rfl, O5⟩
def fStb : List AV → Option AV := C3 (fun c : Int => enc c) tp_q12
theorem hpStb {o : Nat} (boxes : Sl Box) : ∀ a b h, h[o]? = some ⟨1, [[Sl.enc boxes]]⟩ → Sim (kAb fStb [iv a, iv b, AV.ptr o 1 0 0] h) (kEb a b boxes) fun c r => r = (iv c, h) := fun a b h ho => by
  have s2 : snapD h (.ptr o 1 0 0) = some (⟨[boxes], 0⟩ : Pt (Sl Box)) := by
    have e : snap h depth (.ptr o 1 0 0) = some (enc (⟨[boxes], 0⟩ : Pt (Sl Box))) := by
      show (match h[o]? with | some ob => if ob.rows.length = 1 then (match kBb (kBb (snap h 7)) ob.rows with | some rows => some (AV.fptr ob.k rows 0 0) | none => none) else none | none => none) = _
      rw [ho]
      cases boxes <;> rfl
    unfold snapD
    rw [e]
    exact Cod.de (⟨[boxes], 0⟩ : Pt (Sl Box))
  unfold fStb C3
  rw [callR3, kAj, kA2, kAj, kA2, s2, kA2]
  rw [show tp_q12 a b (⟨[boxes], 0⟩ : Pt (Sl Box)) = kEb a b boxes from rfl]
  cases kEb a b boxes with
  | none => exact kD5
  | some c =>
    rw [kA2, kA2, kAk (by rfl)]
    exact kA6 rfl
def PostStb (B : Base) (x : AV) (o : Nat) (boxes : Sl Box) (c : Sl Int) (p : AV × kA4) : Prop := p.1 = AV.tup [] ∧ Hold B p.2 [(x, obS (c : Sl Int)), pZ9 o 1 [Sl.enc boxes]]
noncomputable def ev_q35 : Nat → Contract := kCa [(kDp, .pure fStb)]
theorem kDs : kBr Try.prog ev_q35 := (kC3 tt_q12 E0)
theorem tg_q35 {B : Base} {h : kA4} {x : AV} {o : Nat} (boxes : Sl Box) (d : Sl Int) (a0 a1 a2 : Int) (O : Hold B h [(x, obS (d : Sl Int)), pZ9 o 1 [Sl.enc boxes]]) : Sim (kAo Try.prog ev_q35 n_q35 [x, iv a0, iv a1, iv a2, AV.fn kDp [AV.ptr o 1 0 0]] h) (t_q35 (fun a b => kEb a b boxes) d a0 a1 a2) (PostStb B x o boxes) :=
  ts_q35 ev_q35 (g := kDp) (P := fun a b => kEb a b boxes) (by simp [ev_q35, kCa]) (hpStb boxes) d a0 a1 a2 O
noncomputable def ev_q33 : Nat → Contract := kCa [(kDp, .pure fStb), (n_q35, .gen (kAo Try.prog ev_q35 n_q35))]
theorem kEa : kBr Try.prog ev_q33 := (kC3 tt_q12 (kGg (kD3 kDs mixed hb_q35) E0))
theorem tg_q33 {B : Base} {h : kA4} {x : AV} {o : Nat} (boxes : Sl Box) (d : Sl Int) (a0 a1 a2 : Int) (O : Hold B h [(x, obS (d : Sl Int)), pZ9 o 1 [Sl.enc boxes]]) : Sim (kAo Try.prog ev_q33 kHa [x, iv a0, iv a1, iv a2, AV.fn kDp [AV.ptr o 1 0 0]] h) (kHv (fun a b => kEb a b boxes) d a0 a1 a2) (PostStb B x o boxes) :=
  ts_q33 ev_q33 (g := kDp) (P := fun a b => kEb a b boxes) (by simp [ev_q33, kCa]) (hpStb boxes) (F_slices_swapRangeCmpFunc_int64 := kAo Try.prog ev_q35 n_q35) (by simp [ev_q33, kCa]) (fun d a0 a1 a2 O => tg_q35 boxes d a0 a1 a2 O) d a0 a1 a2 O
noncomputable def kE1 : Nat → List AV → kA4 → Option (AV × kA4)
  | 0 => fun _ _ => none
  | k + 1 => kAo Try.prog (kCa [(kDp, .pure fStb), (kHa, .gen (kAo Try.prog ev_q33 kHa)), (kD9, .gen (kE1 k))]) kD9
theorem gen_none {P : Program} {g : Nat} : GenOK P g (fun _ _ => none) := fun _ _ _ _ h => by cases h
theorem kHl : ∀ k, GenOK Try.prog kD9 (kE1 k)
  | 0 => gen_none
  | k + 1 => kD3 (kC3 tt_q12 (kGg (kD3 kEa mixed hb_q33) (kGg (kHl k) E0))) mixed hb_q36
theorem kGp {o : Nat} (boxes : Sl Box) : ∀ (k : Nat) {B : Base} {h : kA4} {x : AV} (d : Sl Int) (a0 a1 a2 : Int), Hold B h [(x, obS (d : Sl Int)), pZ9 o 1 [Sl.enc boxes]] → Sim (kE1 k [x, iv a0, iv a1, iv a2, AV.fn kDp [AV.ptr o 1 0 0]] h) (kF0 (fun a b => kEb a b boxes) k d a0 a1 a2) (PostStb B x o boxes)
  | 0, _, _, _, _, _, _, _, _ => kD5
  | k + 1, B, h, x, d, a0, a1, a2, O =>
    ts_q36 _ (g := kDp) (P := fun a b => kEb a b boxes) (by simp [kCa]) (hpStb boxes) (rec_ := kF0 (fun a b => kEb a b boxes) k) (F_slices_rotateCmpFunc_int64 := kAo Try.prog ev_q33 kHa) (by simp [kCa]) (fun d a0 a1 a2 O => tg_q33 boxes d a0 a1 a2 O) (F_slices_symMergeCmpFunc_int64 := kE1 k) (by simp [kCa]) (fun d a0 a1 a2 O => kGp boxes k d a0 a1 a2 O) d a0 a1 a2 O
noncomputable def ev_q32 : Nat → Contract := kCa [(kDp, .pure fStb)]
theorem kD8 : kBr Try.prog ev_q32 := (kC3 tt_q12 E0)
theorem tg_q32 {B : Base} {h : kA4} {x : AV} {o : Nat} (boxes : Sl Box) (d : Sl Int) (a0 a1 : Int) (O : Hold B h [(x, obS (d : Sl Int)), pZ9 o 1 [Sl.enc boxes]]) : Sim (kAo Try.prog ev_q32 n_q32 [x, iv a0, iv a1, AV.fn kDp [AV.ptr o 1 0 0]] h) (t_q32 (fun a b => kEb a b boxes) d a0 a1) (PostStb B x o boxes) :=
  ts_q32 ev_q32 (g := kDp) (P := fun a b => kEb a b boxes) (by simp [ev_q32, kCa]) (hpStb boxes) d a0 a1 O
noncomputable def ev_q34 : Nat → Contract := kCa [(n_q32, .gen (kAo Try.prog ev_q32 n_q32)), (kD9, .gen (kE1 100000)), (kDp, .pure fStb)]
theorem kEc : kBr Try.prog ev_q34 := (kGg (kD3 kD8 mixed hb_q32) (kGg (kHl 100000) (kC3 tt_q12 E0)))
theorem tg_q34 {B : Base} {h : kA4} {x : AV} {o : Nat} (boxes : Sl Box) (d : Sl Int) (a0 : Int) (O : Hold B h [(x, obS (d : Sl Int)), pZ9 o 1 [Sl.enc boxes]]) : Sim (kAo Try.prog ev_q34 n_q34 [x, iv a0, AV.fn kDp [AV.ptr o 1 0 0]] h) (t_q34 (fun a b => kEb a b boxes) d a0) (PostStb B x o boxes) :=
  ts_q34 ev_q34 (g := kDp) (P := fun a b => kEb a b boxes) (by simp [ev_q34, kCa]) (hpStb boxes) (F_slices_insertionSortCmpFunc_int64 := kAo Try.prog ev_q32 n_q32) (by simp [ev_q34, kCa]) (fun d a0 a1 O => tg_q32 boxes d a0 a1 O) (F_slices_symMergeCmpFunc_int64 := kE1 100000) (by simp [ev_q34, kCa]) (fun d a0 a1 a2 O => kGp boxes 100000 d a0 a1 a2 O) d a0 O
noncomputable def kHf : Nat → Contract := kCa [(n_q34, .gen (kAo Try.prog ev_q34 n_q34)), (kDp, .pure fStb)]
theorem kDa : kBr Try.prog kHf := (kGg (kD3 kEc mixed hb_q34) (kC3 tt_q12 E0))
theorem tg_q31 {B : Base} {h : kA4} {x : AV} {o : Nat} (boxes : Sl Box) (d : Sl Int) (O : Hold B h [(x, obS (d : Sl Int)), pZ9 o 1 [Sl.enc boxes]]) : Sim (kAo Try.prog kHf kH8 [x, AV.fn kDp [AV.ptr o 1 0 0]] h) (t_q31 (fun a b => kEb a b boxes) d) (PostStb B x o boxes) :=
  ts_q31 kHf (g := kDp) (P := fun a b => kEb a b boxes) (by simp [kHf, kCa]) (hpStb boxes) (F_slices_stableCmpFunc_int64 := kAo Try.prog ev_q34 n_q34) (by simp [kHf, kCa]) (fun d a0 O => tg_q34 boxes d a0 O) d O
structure SK (s : l00Src) (k : Int) : Prop where
  lo : 0 ≤ s.pos
  hi : s.pos ≤ k
theorem SK.mono {s : l00Src} {k k' : Int} (h : SK s k) (hk : k ≤ k') : SK s k' := ⟨h.lo, by have := h.hi; omega⟩
theorem kC7 {k n : Nat} (h : k < n) (hn : n ≤ 4294967296) : wr ((k : Int) + 1) = ((k + 1 : Nat) : Int) := by
  rw [kBj (by omega) (by omega)]
  omega
theorem kFk {A : Type} {l : List A} {k : Nat} {a : A} (h : l[k]? = some a) : k < l.length := (List.getElem?_eq_some_iff.1 h).1
structure PtV (p : Point) : Prop where
  x0 : 0 ≤ p.x
  x1 : p.x ≤ 4095
  y0 : 0 ≤ p.y
  y1 : p.y ≤ 4095
  t0 : 0 ≤ p.t
  t1 : p.t ≤ 3600000
structure StV (l : List Point) : Prop where
  pts : ∀ p ∈ l, PtV p
  inc : ∀ (k : Nat) p q, l[k]? = some p → l[k + 1]? = some q → p.t < q.t
  n1 : 1 ≤ l.length
  n2 : l.length ≤ 60
structure PtB (p : Point) : Prop where
  x0 : -10000000 ≤ p.x
  x1 : p.x ≤ 10000000
  y0 : -10000000 ≤ p.y
  y1 : p.y ≤ 10000000
  t0 : -10000000 ≤ p.t
  t1 : p.t ≤ 10000000
structure StB (s : Stroke) : Prop where
  n : (s.points.getD []).length ≤ 100
  pts : ∀ p ∈ s.points.getD [], PtB p
theorem PtV.b {p : Point} (h : PtV p) : PtB p := by
  obtain ⟨h1, h2, h3, h4, h5, h6⟩ := h
  exact ⟨by omega, by omega, by omega, by omega, by omega, by omega⟩
theorem StV.b {l : List Point} (h : StV l) : StB ⟨some l⟩ := ⟨Nat.le_trans h.n2 (by omega), fun p hp => (h.pts p hp).b⟩
theorem appS_cons {A : Type} (s : Sl A) (a : A) (l : List A) : kBn s (a :: l) = some (s.getD [] ++ a :: l) := by cases s <;> rfl
structure InkV (L : List Stroke) : Prop where
  st : ∀ s ∈ L, ∃ l, s = ⟨some l⟩ ∧ StV l
  inc : ∀ (k : Nat) l l', L[k]? = some ⟨some l⟩ → L[k + 1]? = some ⟨some l'⟩ → ∀ p ∈ l, ∀ q ∈ l', p.t < q.t
  n : L.length ≤ 16
theorem InkV.b {L : List Stroke} (h : InkV L) : ∀ x ∈ L, StB x := fun x hx => by
  obtain ⟨l, rfl, hl⟩ := h.st x hx
  exact hl.b
theorem firstL_no {A R : Type} {f : Nat → A → Option R} : ∀ {l : List A} {k : Nat}, kD7 f l k = none → ∀ i a, l[i]? = some a → f (k + i) a = none
  | [], _, _, i, a, ha => by simp at ha
  | b :: l, k, h, i, a, ha => by
    unfold kD7 at h
    cases e : f k b with
    | some r => rw [e] at h; cases h
    | none =>
      rw [e] at h
      cases i with
      | zero =>
        simp only [List.getElem?_cons_zero, Option.some.injEq] at ha
        subst ha
        exact e
      | succ i =>
        have := firstL_no h i a (by simpa using ha)
        rw [← this]
        congr 1
        omega
theorem firstL_so {A R : Type} {f : Nat → A → Option R} : ∀ {l : List A} {k : Nat} {r : R}, kD7 f l k = some r → ∃ i a, f i a = some r
  | [], _, _, h => by cases h
  | b :: l, k, r, h => by
    unfold kD7 at h
    cases e : f k b with
    | some r' => rw [e] at h; cases h; exact ⟨k, b, e⟩
    | none => rw [e] at h; exact firstL_so h
theorem StB.le {s : Stroke} (h : StB s) : (s.points.getD []).length ≤ 4294967296 := Nat.le_trans h.n (by omega)
def pt (l : List Point) (i : Nat) : Point := l.getD i ⟨0, 0, 0⟩
def Pre (p q i j : Nat) : Prop := (i = p + 1 ∧ j = q + 1) ∨ (i = p + 1 ∧ j = q) ∨ (i = p ∧ j = q + 1)
inductive Pth (C : Nat → Nat → Int) (R : Nat → Nat → Prop) : Nat → Nat → Int → Prop
  | start : R 0 0 → Pth C R 0 0 (C 0 0)
  | step {p q i j : Nat} {c : Int} : Pth C R p q c → Pre p q i j → R i j → Pth C R i j (c + C i j)
def Opt (B : Int) (C : Nat → Nat → Int) (R : Nat → Nat → Prop) (i j : Nat) (v : Int) : Prop :=
  (v = B ∧ ∀ c, ¬ Pth C R i j c) ∨ (v < B ∧ Pth C R i j v ∧ ∀ c, Pth C R i j c → v ≤ c)
theorem Opt.le {B : Int} {C : Nat → Nat → Int} {R : Nat → Nat → Prop} {i j : Nat} {v : Int} (h : Opt B C R i j v) : v ≤ B := by
  rcases h with ⟨h, _⟩ | ⟨h, _⟩ <;> omega
theorem Pth.mono {C D : Nat → Nat → Int} {R S : Nat → Nat → Prop} {i j : Nat} {c : Int} (h : Pth C R i j c) (hR : ∀ p q, p ≤ i → q ≤ j → R p q → S p q) (hC : ∀ p q, p ≤ i → q ≤ j → C p q = D p q) : Pth D S i j c := by
  induction h with
  | start h =>
    rw [hC 0 0 (Nat.le_refl _) (Nat.le_refl _)]
    exact .start (hR 0 0 (Nat.le_refl _) (Nat.le_refl _) h)
  | @step p q i j c h1 h2 h3 ih =>
    have hle : p ≤ i ∧ q ≤ j := by rcases h2 with h | h | h <;> omega
    rw [hC i j (Nat.le_refl _) (Nat.le_refl _)]
    exact .step (ih (fun a b h4 h5 => hR a b (by omega) (by omega)) (fun a b h4 h5 => hC a b (by omega) (by omega))) h2 (hR i j (Nat.le_refl _) (Nat.le_refl _) h3)
theorem Pth.swap {C : Nat → Nat → Int} {R : Nat → Nat → Prop} {i j : Nat} {c : Int} (h : Pth C R i j c) : Pth (fun a b => C b a) (fun a b => R b a) j i c := by
  induction h with
  | start h => exact .start (C := fun a b => C b a) (R := fun a b => R b a) h
  | @step p q i j c h1 h2 h3 ih =>
    exact .step (C := fun a b => C b a) (R := fun a b => R b a) (i := j) (j := i) ih (by unfold Pre at *; omega) h3
def Val (T : List (Sl Int)) (p q : Nat) (v : Int) : Prop := ∃ row, T[p]? = some (some row) ∧ row[q]? = some v
theorem Val.set {T : List (Sl Int)} {i j p q : Nat} {row : List Int} {v w : Int} (hr : T[i]? = some (some row)) (hj : j < row.length) :
    Val (T.set i (some (row.set j w))) p q v ↔ (p = i ∧ q = j ∧ v = w) ∨ (¬ (p = i ∧ q = j) ∧ Val T p q v) := by
  have hi := kFk hr
  unfold Val
  constructor
  · rintro ⟨r, h1, h2⟩
    by_cases c : i = p
    · subst c
      rw [List.getElem?_set_self hi] at h1
      cases h1
      by_cases d : j = q
      · subst d
        rw [List.getElem?_set_self hj] at h2
        cases h2
        exact .inl ⟨rfl, rfl, rfl⟩
      · rw [List.getElem?_set_ne d] at h2
        exact .inr ⟨fun h => d h.2.symm, row, hr, h2⟩
    · rw [List.getElem?_set_ne c] at h1
      exact .inr ⟨fun h => c h.1.symm, r, h1, h2⟩
  · rintro (⟨rfl, rfl, rfl⟩ | ⟨hne, r, h1, h2⟩)
    · exact ⟨_, List.getElem?_set_self hi, List.getElem?_set_self hj⟩
    · by_cases c : i = p
      · subst c
        rw [hr] at h1
        cases h1
        have d : j ≠ q := fun h => hne ⟨rfl, h.symm⟩
        exact ⟨_, List.getElem?_set_self hi, by rw [List.getElem?_set_ne d]; exact h2⟩
      · exact ⟨r, by rw [List.getElem?_set_ne c]; exact h1, h2⟩
inductive Tr (C : Nat → Nat → Int) (R : Nat → Nat → Prop) : Nat → Nat → Int → List Pair → Prop
  | start : R 0 0 → Tr C R 0 0 (C 0 0) [⟨0, 0⟩]
  | step {p q i j : Nat} {c : Int} {L : List Pair} : Tr C R p q c L → Pre p q i j → R i j → Tr C R i j (c + C i j) (⟨(i : Int), (j : Int)⟩ :: L)
theorem Tr.head {C : Nat → Nat → Int} {R : Nat → Nat → Prop} {i j : Nat} {c : Int} {L : List Pair} (h : Tr C R i j c L) : ∃ L', L = ⟨(i : Int), (j : Int)⟩ :: L' := by
  cases h with
  | start h => exact ⟨[], rfl⟩
  | step h1 h2 h3 => exact ⟨_, rfl⟩
def PVal (T : List (Sl Part)) (p q : Nat) (v : Part) : Prop := ∃ row, T[p]? = some (some row) ∧ row[q]? = some v
theorem PVal.set {T : List (Sl Part)} {i j p q : Nat} {row : List Part} {v w : Part} (hr : T[i]? = some (some row)) (hj : j < row.length) :
    PVal (T.set i (some (row.set j w))) p q v ↔ (p = i ∧ q = j ∧ v = w) ∨ (¬ (p = i ∧ q = j) ∧ PVal T p q v) := by
  have hi := kFk hr
  unfold PVal
  constructor
  · rintro ⟨r, h1, h2⟩
    by_cases c : i = p
    · subst c
      rw [List.getElem?_set_self hi] at h1
      cases h1
      by_cases d : j = q
      · subst d
        rw [List.getElem?_set_self hj] at h2
        cases h2
        exact .inl ⟨rfl, rfl, rfl⟩
      · rw [List.getElem?_set_ne d] at h2
        exact .inr ⟨fun h => d h.2.symm, row, hr, h2⟩
    · rw [List.getElem?_set_ne c] at h1
      exact .inr ⟨fun h => c h.1.symm, r, h1, h2⟩
  · rintro (⟨rfl, rfl, rfl⟩ | ⟨hne, r, h1, h2⟩)
    · exact ⟨_, List.getElem?_set_self hi, List.getElem?_set_self hj⟩
    · by_cases c : i = p
      · subst c
        rw [hr] at h1
        cases h1
        have d : j ≠ q := fun h => hne ⟨rfl, h.symm⟩
        exact ⟨_, List.getElem?_set_self hi, by rw [List.getElem?_set_ne d]; exact h2⟩
      · exact ⟨r, by rw [List.getElem?_set_ne c]; exact h1, h2⟩
def d2 (a b : Point) : Int := (a.x - b.x) * (a.x - b.x) + (a.y - b.y) * (a.y - b.y)
def pbox (p : Point) : Box := ⟨p.x, p.y, p.x, p.y⟩
structure InB (a b : Box) : Prop where
  x1 : b.x1 ≤ a.x1
  y1 : b.y1 ≤ a.y1
  x2 : a.x2 ≤ b.x2
  y2 : a.y2 ≤ b.y2
theorem InB.refl (a : Box) : InB a a := ⟨Int.le_refl _, Int.le_refl _, Int.le_refl _, Int.le_refl _⟩
theorem InB.trans {a b c : Box} (h : InB a b) (g : InB b c) : InB a c := ⟨Int.le_trans g.x1 h.x1, Int.le_trans g.y1 h.y1, Int.le_trans h.x2 g.x2, Int.le_trans h.y2 g.y2⟩
theorem PtV.box {p : Point} (h : PtV p) : InB (pbox p) ⟨0, 0, 4095, 4095⟩ := ⟨h.x0, h.y0, h.x1, h.y1⟩
structure BxV (b : Box) : Prop where
  v1 : 0 ≤ b.x1
  v2 : b.x1 ≤ b.x2
  v3 : b.x2 ≤ 4095
  v4 : 0 ≤ b.y1
  v5 : b.y1 ≤ b.y2
  v6 : b.y2 ≤ 4095
theorem validBox_iff {b : Box} : kB6 b = true ↔ BxV b := by
  unfold kB6 kDv
  simp only [Bool.and_eq_true, decide_eq_true_eq]
  constructor
  · rintro ⟨⟨⟨⟨h1, h2⟩, h3, h4⟩, h5⟩, h6⟩
    exact ⟨h1, h2, h5, h3, h4, h6⟩
  · rintro ⟨h1, h2, h3, h4, h5, h6⟩
    exact ⟨⟨⟨⟨h1, h2⟩, h4, h5⟩, h3⟩, h6⟩
theorem copyLoop {A : Type} (d : A) (l : List A) (hl : l.length ≤ 4294967296) (step : ((Sl A) × Int) → Option (Sum ((Sl A) × Int) (Sl A)))
    (next : ∀ (M : List A) (k : Nat) (a : A), M.length = l.length → l[k]? = some a → step (some M, (k : Int)) = some (.inl (some (M.set k a), wr ((k : Int) + 1))))
    (fin : ∀ w : Sl A, step (w, ((l.length : Nat) : Int)) = some (.inr w)) : kBa step (some (List.replicate l.length d), 0) = some (some l) := by
  obtain ⟨r, h1, h2⟩ := kEl (step := step) (fun k t => ∃ M, t = (some M, (k : Int)) ∧ M.length = l.length ∧ ∀ j, j < k → M[j]? = l[j]?) l.length (fun r => r = some l)
    (fun k t hk ht => by
      obtain ⟨M, rfl, m1, m2⟩ := ht
      obtain ⟨a, ha⟩ : ∃ a, l[k]? = some a := ⟨l[k], List.getElem?_eq_getElem hk⟩
      have e := next M k a m1 ha
      rw [kC7 hk hl] at e
      refine .inl ⟨_, e, _, rfl, by rw [List.length_set, m1], fun j hj => ?_⟩
      by_cases c : j = k
      · subst c
        rw [List.getElem?_set_self (by omega), ha]
      · rw [List.getElem?_set_ne (fun h => c h.symm)]
        exact m2 j (by omega))
    (fun t ht => by
      obtain ⟨M, rfl, m1, m2⟩ := ht
      refine ⟨_, fin _, ?_⟩
      congr 1
      apply List.ext_getElem?
      intro j
      by_cases c : j < l.length
      · exact m2 j c
      · rw [List.getElem?_eq_none (by omega), List.getElem?_eq_none (by omega)])
    (s := (some (List.replicate l.length d), 0)) ⟨_, rfl, by simp, fun j hj => by omega⟩
  rw [h1, h2]
theorem toBoxS_ok (a : Sl Box) (hl : (a.getD []).length ≤ 4294967296) : t_q27 a = some (some (a.getD [])) := by
  have mk : makeO (⟨0, 0, 0, 0⟩ : Box) (((a.getD []).length : Nat) : Int) = some (List.replicate (a.getD []).length ⟨0, 0, 0, 0⟩) := by
    unfold makeO
    rw [if_pos ⟨by omega, by omega⟩, Int.toNat_natCast]
  have lp := copyLoop (⟨0, 0, 0, 0⟩ : Box) (a.getD []) hl (s0_q27 a) (fun M k x hM hx => by
    have hk := kFk hx
    have c : (k : Int) < (((a.getD []).length : Nat) : Int) := by omega
    obtain ⟨y, hy⟩ : ∃ y, M[k]? = some y := ⟨M[k]'(by omega), List.getElem?_eq_getElem _⟩
    unfold s0_q27
    simp only [c, decide_true, cond_true, kAv hx, kA2, Option.getD_some, kAv hy, kC9, Option.map_some, Int.toNat_natCast]) (fun w => by
    unfold s0_q27
    simp only [Int.lt_irrefl, decide_false, cond_false])
  unfold t_q27
  rw [mk, kA2, lp, kA2]
theorem eqI_ok {a b : Sl Int} (h : a.getD [] = b.getD []) (hl : (a.getD []).length ≤ 4294967296) : t_q18 a b = some true := by
  have lp := kEs (step := s0_q18 a b) (a.getD []) (fun _ _ => (none : Option Bool)) (.inl ()) .inr
    (fun k x hx => by
      have hk := kFk hx
      have c : (k : Int) < ((a.getD []).length : Nat) := by omega
      unfold s0_q18
      simp only [c, decide_true, cond_true, kAv hx, ← h, kA2, Bool.not_true, cond_false, kC7 hk hl])
    (by
      unfold s0_q18
      simp only [Int.lt_irrefl, decide_false, cond_false])
  rw [kFv (fun _ _ _ => rfl)] at lp
  unfold t_q18
  rw [lp, ← h]
  simp
theorem eqB_ok {a b : Sl Box} (h : a.getD [] = b.getD []) (hl : (a.getD []).length ≤ 4294967296) : t_q17 a b = some true := by
  have lp := kEs (step := s0_q17 a b) (a.getD []) (fun _ _ => (none : Option Bool)) (.inl ()) .inr
    (fun k x hx => by
      have hk := kFk hx
      have c : (k : Int) < ((a.getD []).length : Nat) := by omega
      unfold s0_q17
      simp only [c, decide_true, cond_true, kAv hx, ← h, kA2, Bool.not_true, cond_false, kC7 hk hl])
    (by
      unfold s0_q17
      simp only [Int.lt_irrefl, decide_false, cond_false])
  rw [kFv (fun _ _ _ => rfl)] at lp
  unfold t_q17
  rw [lp, ← h]
  simp
theorem mkI_get : ∀ (n : Nat) (k : Int) (i : Nat), i < n → (mkI k n)[i]? = some (k + i)
  | 0, _, _, h => by omega
  | n + 1, k, 0, _ => by simp [mkI]
  | n + 1, k, i + 1, h => by
    have := mkI_get n (k + 1) i (by omega)
    simp only [mkI, List.getElem?_cons_succ, this]
    congr 1
    omega
def fVB (_ : Nat) (b : Box) : Option Bool := bif !kB6 b then some false else none
def pageB (l : List Box) : Bool := match kD7 fVB l 0 with
  | none => decide (l.length ≤ 60)
  | some r => r
theorem l19Boxes_ok (s : Sl Box) (hl : (s.getD []).length ≤ 4294967296) : t_q42 s = some (pageB (s.getD [])) := by
  have lp := kEs (step := s0_q42 s) (s.getD []) fVB (.inl ()) .inr
    (fun k x hx => by
      have hk := kFk hx
      have c : (k : Int) < (((s.getD []).length : Nat) : Int) := by omega
      unfold s0_q42 fVB
      simp only [c, decide_true, cond_true, kAv hx, kA2, kC7 hk hl]
      cases kB6 x <;> rfl)
    (by
      unfold s0_q42
      simp only [Int.lt_irrefl, decide_false, cond_false])
  have d : decide ((((s.getD []).length : Nat) : Int) ≤ 60) = decide ((s.getD []).length ≤ 60) := decide_eq_decide.2 (by omega)
  unfold t_q42 pageB
  rw [lp]
  cases kD7 fVB (s.getD []) 0 with
  | none => simp only [kA2, d]
  | some r => rfl
theorem fVB_some {l : List Box} {r : Bool} {k : Nat} (h : kD7 fVB l k = some r) : r = false := by
  obtain ⟨i, a, hf⟩ := firstL_so h
  unfold fVB at hf
  cases h2 : kB6 a <;> rw [h2] at hf <;> cases hf
  rfl
theorem isPage_ok (s : Sl Box) (hl : (s.getD []).length ≤ 4294967296) : t_q7 s = some (pageB (s.getD [])) := by
  have lp := kEs (step := s0_q29 (fun a => some ((fun b : Box => !kB6 b) a)) s) (s.getD []) (fun k a => bif !kB6 a then some (k : Int) else none) (.inl ()) .inr
    (fun k a ha => by
      have hk := kFk ha
      have c : (k : Int) < (((s.getD []).length : Nat) : Int) := by omega
      unfold s0_q29
      simp only [c, decide_true, cond_true, kAv ha, kA2, kC7 hk hl]
      cases kB6 a <;> rfl)
    (by
      unfold s0_q29
      simp only [Int.lt_irrefl, decide_false, cond_false])
  have key : ∀ (l : List Box) (k : Nat), (kD7 (fun (k : Nat) a => bif !kB6 a then some (k : Int) else none) l k = none ∧ kD7 fVB l k = none) ∨ ∃ r, kD7 (fun (k : Nat) a => bif !kB6 a then some (k : Int) else none) l k = some r ∧ 0 ≤ r ∧ kD7 fVB l k = some false := by
    intro l
    induction l with
    | nil => intro k; exact .inl ⟨rfl, rfl⟩
    | cons a l ih =>
      intro k
      unfold kD7 fVB
      cases e : kB6 a with
      | true =>
        simp only [Bool.not_true, cond_false]
        exact ih (k + 1)
      | false => exact .inr ⟨(k : Int), rfl, by omega, rfl⟩
  have cf : t_q28 (fun a => some ((fun b : Box => !kB6 b) a)) s = some (kD7 fVB (s.getD []) 0).isSome := by
    unfold t_q28 t_q29
    rw [lp]
    rcases key (s.getD []) 0 with ⟨h1, h2⟩ | ⟨r, h1, h2, h3⟩
    · rw [h1, h2]
      simp
    · rw [h1, h3]
      simp [h2]
  have d : decide ((((s.getD []).length : Nat) : Int) ≤ 60) = decide ((s.getD []).length ≤ 60) := decide_eq_decide.2 (by omega)
  unfold t_q7 pageB
  rw [cf, d]
  cases h : kD7 fVB (s.getD []) 0 with
  | none => cases decide ((s.getD []).length ≤ 60) <;> rfl
  | some r =>
    have := fVB_some h
    subst this
    cases decide ((s.getD []).length ≤ 60) <;> rfl
theorem pageB_true {l : List Box} (h : pageB l = true) : l.length ≤ 60 ∧ ∀ b ∈ l, kB6 b = true := by
  unfold pageB at h
  cases e : kD7 fVB l 0 with
  | some r =>
    rw [e] at h
    simp only at h
    rw [fVB_some e] at h
    cases h
  | none =>
    rw [e] at h
    refine ⟨of_decide_eq_true h, fun b hb => ?_⟩
    obtain ⟨k, hk⟩ := List.mem_iff_getElem?.1 hb
    have := firstL_no e k b hk
    unfold fVB at this
    cases h2 : kB6 b with
    | true => rfl
    | false => rw [h2] at this; cases this
theorem kIq {A : Type} (s : Sl A) (a : A) (h : (s.getD []).length ≤ 2000000) : kF5 s [a] = some (some (s.getD [] ++ [a])) := by
  rw [kDb (by simp; omega), appS_cons]
theorem buildLoopB {A : Type} (l : List A) {n : Nat} (hn : l.length = n) (h1 : n ≤ 2000000) (i0 : Nat) (s0 : Sl A) (hs0 : s0.getD [] = []) (step : ((Sl A) × Int) → Option (Sum ((Sl A) × Int) (Sl A)))
    (next : ∀ (w : Sl A) (k : Nat) a, l[k]? = some a → step (w, ((k + i0 : Nat) : Int)) = kA0 (kF5 w [a]) fun _ => some (.inl (kBn w [a], wr (((k + i0 : Nat) : Int) + 1))))
    (hi0 : i0 ≤ 1000) (fin : ∀ (w : Sl A), step (w, ((n + i0 : Nat) : Int)) = some (.inr w)) : ∃ q, kBa step (s0, (i0 : Int)) = some q ∧ q.getD [] = l := by
  have h := kEl (step := step) (fun k t => t.1.getD [] = l.take k ∧ t.2 = ((k + i0 : Nat) : Int)) n (fun q => q.getD [] = l)
    (fun k ⟨w, i⟩ hk ⟨g1, g2⟩ => by
      simp only at g1 g2
      subst g2
      obtain ⟨a, ha⟩ : ∃ a, l[k]? = some a := ⟨l[k]'(by omega), List.getElem?_eq_getElem _⟩
      have e := next w k a ha
      have ws : wr (((k + i0 : Nat) : Int) + 1) = ((k + 1 + i0 : Nat) : Int) := by rw [kBj (by omega) (by omega)]; omega
      rw [ws, kIq w a (by rw [g1, List.length_take]; omega), kA2, appS_cons] at e
      refine .inl ⟨_, e, ?_, rfl⟩
      show w.getD [] ++ [a] = _
      rw [g1, List.take_add_one, ha]
      rfl)
    (fun ⟨w, i⟩ ⟨g1, g2⟩ => by
      simp only at g1 g2
      subst g2
      refine ⟨w, fin w, ?_⟩
      rw [g1, List.take_of_length_le (by omega)])
    (s := (s0, (i0 : Int))) ⟨by rw [hs0, List.take_zero], by simp⟩
  exact h
def bxAt (B : List Box) (i : Int) : Box := B.getD i.toNat ⟨0, 0, 0, 0⟩
def itAt (I : List Int) (k : Nat) : Int := I.getD k 0
theorem kDm {I : List Int} {k : Nat} (h : k < I.length) : I[k]? = some (itAt I k) := by
  unfold itAt
  rw [List.getD_eq_getElem?_getD, List.getElem?_eq_getElem h]
  rfl
theorem bxAt_get {B : List Box} {i : Int} (h : isIdx ((B.length : Nat) : Int) i = true) (hv : ∀ b ∈ B, kB6 b = true) : kBp B i = some (bxAt B i) ∧ BxV (bxAt B i) := by
  unfold isIdx kDv at h
  simp only [Bool.and_eq_true, decide_eq_true_eq] at h
  obtain ⟨m, rfl⟩ := Int.eq_ofNat_of_zero_le h.1
  have hm : m < B.length := by omega
  have e : B[m]? = some (bxAt B m) := by
    unfold bxAt
    rw [Int.toNat_natCast, List.getD_eq_getElem?_getD, List.getElem?_eq_getElem hm]
    rfl
  exact ⟨kAv e, validBox_iff.1 (hv _ (List.mem_of_getElem? e))⟩
def mxN (B : List Box) (I : List Int) : Nat → Int
  | 0 => 0
  | k + 1 => max (mxN B I k) (bxAt B (itAt I k)).x2
def gapL (B : List Box) (I : List Int) (k : Nat) : Int := max 0 ((bxAt B (itAt I (k + 1))).x1 - mxN B I (k + 1))
def kC8 (B : List Box) (I : List Int) : List Int := (List.range (I.length - 1)).map (gapL B I)
theorem gapsL_get {B : List Box} {I : List Int} {k : Nat} {a : Int} (h : (kC8 B I)[k]? = some a) : k + 1 < I.length ∧ a = gapL B I k := by
  have hk := kFk h
  unfold kC8 at hk h
  rw [List.length_map, List.length_range] at hk
  rw [List.getElem?_map, List.getElem?_range hk] at h
  exact ⟨by omega, (Option.some.inj h).symm⟩
theorem mxN_le {B : List Box} {I : List Int} (hv : ∀ b ∈ B, kB6 b = true) (hi : ∀ i ∈ I, isIdx ((B.length : Nat) : Int) i = true) : ∀ {k : Nat}, k ≤ I.length → 0 ≤ mxN B I k ∧ mxN B I k ≤ 4095
  | 0, _ => by simp [mxN]
  | k + 1, hk => by
    have ih := mxN_le hv hi (k := k) (by omega)
    obtain ⟨b1, b2, b3, b4, b5, b6⟩ := (bxAt_get (hi _ (List.mem_of_getElem? (kDm (I := I) (k := k) (by omega)))) hv).2
    show 0 ≤ max (mxN B I k) _ ∧ max (mxN B I k) _ ≤ 4095
    omega
theorem implGaps_ok {B : List Box} {I : List Int} (hv : ∀ b ∈ B, kB6 b = true) (hi : ∀ i ∈ I, isIdx ((B.length : Nat) : Int) i = true) (hl : I.length ≤ 2000000) : ∃ q, t_q5 (some B) (some I) = some q ∧ q.getD [] = kC8 B I := by
  have gl : (kC8 B I).length = I.length - 1 := by simp [kC8]
  obtain ⟨q, e, h⟩ := kEl (step := s0_q5 (some B) (some I)) (fun k t => t.1.getD [] = (kC8 B I).take (k - 1) ∧ t.2.1 = mxN B I k ∧ t.2.2 = (k : Int)) I.length (fun q => q.getD [] = kC8 B I)
    (fun k ⟨w, m, i⟩ hk ⟨g1, g2, g3⟩ => by
      simp only at g1 g2 g3
      subst g2 g3
      have c : (k : Int) < ((I.length : Nat) : Int) := by omega
      have gi := kAv (kDm hk)
      obtain ⟨gb, bv⟩ := bxAt_get (hi _ (List.mem_of_getElem? (kDm hk))) hv
      obtain ⟨b1, b2, b3, b4, b5, b6⟩ := bv
      have mb := mxN_le hv hi (k := k) (by omega)
      by_cases k0 : 0 < k
      · have d : (0 : Int) < (k : Int) := by omega
        have w1 : wr ((bxAt B (itAt I k)).x1 - mxN B I k) = (bxAt B (itAt I k)).x1 - mxN B I k := kBj (by omega) (by omega)
        obtain ⟨j, rfl⟩ : ∃ j, k = j + 1 := ⟨k - 1, by omega⟩
        have ap := kIq w (max 0 ((bxAt B (itAt I (j + 1))).x1 - mxN B I (j + 1))) (by rw [g1, List.length_take]; omega)
        refine .inl ⟨(some (w.getD [] ++ [gapL B I j]), mxN B I (j + 1 + 1), ((j + 1 + 1 : Nat) : Int)), ?_, ?_, rfl, rfl⟩
        · unfold s0_q5
          simp only [Option.getD_some, c, decide_true, cond_true, gi, gb, kA2, d, w1, ap, appS_cons, kC7 hk (show I.length ≤ 4294967296 by omega)]
          rfl
        · show w.getD [] ++ [gapL B I j] = _
          have e : (kC8 B I)[j]? = some (gapL B I j) := by
            unfold kC8
            rw [List.getElem?_map, List.getElem?_range (by omega)]
            rfl
          rw [g1, Nat.add_sub_cancel, Nat.add_sub_cancel, List.take_add_one, e]
          rfl
      · have k00 : k = 0 := by omega
        subst k00
        refine .inl ⟨(w, mxN B I (0 + 1), ((0 + 1 : Nat) : Int)), ?_, by simpa using g1, rfl, rfl⟩
        have d : ¬ (0 : Int) < ((0 : Nat) : Int) := by omega
        unfold s0_q5
        simp only [Option.getD_some, c, decide_true, cond_true, gi, gb, kA2, d, decide_false, cond_false, kC7 hk (show I.length ≤ 4294967296 by omega)]
        rfl)
    (fun ⟨w, m, i⟩ ⟨g1, g2, g3⟩ => by
      simp only at g1 g2 g3
      subst g2 g3
      refine ⟨w, ?_, ?_⟩
      · unfold s0_q5
        simp only [Option.getD_some, Int.lt_irrefl, decide_false, cond_false]
      · rw [g1, List.take_of_length_le (by omega)])
    (s := (none, 0, 0)) ⟨by simp, rfl, rfl⟩
  refine ⟨q, ?_, h⟩
  unfold t_q5
  rw [e, kA2]
theorem specGaps_ok {B : List Box} {I : List Int} (hv : ∀ b ∈ B, kB6 b = true) (hi : ∀ i ∈ I, isIdx ((B.length : Nat) : Int) i = true) (hl : I.length ≤ 2000000) : ∃ q, t_q44 (some B) (some I) = some q ∧ q.getD [] = kC8 B I := by
  have gl : (kC8 B I).length = I.length - 1 := by simp [kC8]
  have inner : ∀ n, n ≤ I.length → kBa (s1_q44 (some B) (some I) (n : Int)) (0, 0) = some (mxN B I n) := fun n hn => by
    have lp := kGy (step := s1_q44 (some B) (some I) (n : Int)) n (fun k => (mxN B I k, (k : Int))) (mxN B I n)
      (fun k hk => by
        have c : (k : Int) < (n : Int) := by omega
        have gi := kAv (kDm (I := I) (k := k) (by omega))
        obtain ⟨gb, _⟩ := bxAt_get (hi _ (List.mem_of_getElem? (kDm (I := I) (k := k) (by omega)))) hv
        unfold s1_q44
        simp only [Option.getD_some, c, decide_true, cond_true, gi, gb, kA2, kC7 hk (show n ≤ 4294967296 by omega)]
        rfl)
      (by
        unfold s1_q44
        simp only [Int.lt_irrefl, decide_false, cond_false])
      0 (Nat.zero_le _)
    exact lp
  obtain ⟨q, e, hq⟩ := buildLoopB (kC8 B I) (n := I.length - 1) gl (by omega) 1 (some []) rfl (s0_q44 (some B) (some I)) (fun w k a ha => by
    obtain ⟨hk, rfl⟩ := gapsL_get ha
    have c : ((k + 1 : Nat) : Int) < ((I.length : Nat) : Int) := by omega
    have gi := kAv (kDm hk)
    obtain ⟨gb, bv⟩ := bxAt_get (hi _ (List.mem_of_getElem? (kDm hk))) hv
    obtain ⟨b1, b2, b3, b4, b5, b6⟩ := bv
    have mb := mxN_le hv hi (k := k + 1) (by omega)
    have w1 : wr ((bxAt B (itAt I (k + 1))).x1 - mxN B I (k + 1)) = (bxAt B (itAt I (k + 1))).x1 - mxN B I (k + 1) := kBj (by omega) (by omega)
    unfold s0_q44
    simp only [Option.getD_some, c, decide_true, cond_true, inner (k + 1) (by omega), gi, gb, kA2, w1]
    rfl) (by omega) (fun w => by
    unfold s0_q44
    by_cases z : I.length = 0
    · have c : ¬ ((I.length - 1 + 1 : Nat) : Int) < ((I.length : Nat) : Int) := by omega
      simp only [Option.getD_some, c, decide_false, cond_false]
    · have c : ¬ ((I.length - 1 + 1 : Nat) : Int) < ((I.length : Nat) : Int) := by omega
      simp only [Option.getD_some, c, decide_false, cond_false])
  have e' : kBa (s0_q44 (some B) (some I)) (some [], 1) = some q := e
  refine ⟨q, ?_, hq⟩
  unfold t_q44
  rw [e', kA2]
def kBw (s : Sl (Sl Int)) : List (List Int) := (s.getD []).map fun a => a.getD []
theorem kDn (s : Sl (Sl Int)) : (kBw s).length = (s.getD []).length := by simp [kBw]
theorem rowsL_get {s : Sl (Sl Int)} {k : Nat} {r : List Int} (h : (kBw s)[k]? = some r) : ∃ a, (s.getD [])[k]? = some a ∧ a.getD [] = r := by
  unfold kBw at h
  rw [List.getElem?_map] at h
  cases e : (s.getD [])[k]? with
  | none => rw [e] at h; cases h
  | some a => rw [e] at h; exact ⟨a, rfl, Option.some.inj h⟩
theorem eqSS_ok {a b : Sl (Sl Int)} (h : kBw a = kBw b) (hl : (kBw a).length ≤ 4294967296) (hr : ∀ r ∈ kBw a, r.length ≤ 4294967296) : t_q19 a b = some true := by
  have ll : (a.getD []).length = (b.getD []).length := by rw [← kDn, ← kDn, h]
  rw [kDn] at hl
  have lp := kEs (step := s0_q19 a b) (a.getD []) (fun _ _ => (none : Option Bool)) (.inl ()) .inr
    (fun k x hx => by
      have hk := kFk hx
      have c : (k : Int) < ((a.getD []).length : Nat) := by omega
      have hR : (kBw a)[k]? = some (x.getD []) := by
        unfold kBw
        rw [List.getElem?_map, hx]
        rfl
      obtain ⟨y, hy, e⟩ := rowsL_get (h ▸ hR)
      have q := eqI_ok (a := x) (b := y) e.symm (hr _ (List.mem_of_getElem? hR))
      unfold s0_q19
      simp only [c, decide_true, cond_true, kAv hx, kAv hy, kA2, q, Bool.not_true, cond_false, kC7 hk hl])
    (by
      unfold s0_q19
      simp only [Int.lt_irrefl, decide_false, cond_false])
  rw [kFv (fun _ _ _ => rfl)] at lp
  unfold t_q19
  rw [lp, ← ll]
  simp
theorem held_k {s : Sl Int} {n : Nat} {k : Int} (h0 : 0 ≤ k) (hs : s.getD [] = mkI k n) (hn : k + n ≤ 1000000000) : t_q20 s k = some (k + (n : Int)) := by
  have lp := kGy (step := s0_q20 s) n (fun j => (k + (j : Int), (j : Int))) (.inl (k + (n : Int)))
    (fun j hk => by
      have c : (j : Int) < (((mkI k n).length : Nat) : Int) := by rw [mkI_len]; omega
      have ws := kC7 hk (show n ≤ 4294967296 by omega)
      have w2 : wr (k + (j : Int) + 1) = k + ((j + 1 : Nat) : Int) := by rw [kBj (by omega) (by omega)]; omega
      unfold s0_q20
      simp only [hs, c, decide_true, cond_true, kAv (mkI_get n k j hk), kA2, Bool.not_true, cond_false, ws, w2])
    (by
      have c : ¬ (n : Int) < (((mkI k n).length : Nat) : Int) := by rw [mkI_len]; omega
      unfold s0_q20
      simp only [hs, c, decide_false, cond_false])
    0 (Nat.zero_le _)
  have lp' : kBa (s0_q20 s) (k, 0) = some (.inl (k + (n : Int))) := by
    simpa using lp
  unfold t_q20
  rw [lp', kA2]
def totL (l : List (Sl Int)) : Nat := (l.map fun a => (a.getD []).length).sum
theorem mkL_ok : ∀ (l : List (Sl Int)) (k : Int), 0 ≤ k → k + totL l ≤ 1000000000 → ∃ l', mkL l k = some (k + totL l, l') ∧ l'.length = l.length ∧ ∀ (i : Nat) (k' : Int) , k' = k + totL (l.take i) → i < l.length → ∃ a, l'[i]? = some a ∧ t_q20 a k' = some (k + totL (l.take (i + 1)))
  | [], k, _, _ => ⟨[], by simp [mkL, totL], rfl, fun i _ _ h => by simp at h⟩
  | a :: l, k, h0, h1 => by
    have e : totL (a :: l) = (a.getD []).length + totL l := by simp [totL]
    rw [e] at h1
    have m1 : t_q23 a k = some (k + 1 * (((a.getD []).length : Nat) : Int), a.map fun l => mkI k l.length) := by
      unfold t_q23
      have d1 : decide ((0 : Int) ≤ k) = true := decide_eq_true h0
      have d2 : decide (k + 1 * (((a.getD []).length : Nat) : Int) ≤ 1000000000) = true := decide_eq_true (by omega)
      rw [d1, d2]
      rfl
    have hv : (a.map fun l => mkI k l.length).getD [] = mkI k (a.getD []).length := by cases a <;> rfl
    have hh := held_k h0 hv (by omega)
    obtain ⟨l', g1, g2, g3⟩ := mkL_ok l (k + 1 * (((a.getD []).length : Nat) : Int)) (by omega) (by omega)
    refine ⟨(a.map fun l => mkI k l.length) :: l', ?_, by simp [g2], fun i k' hk hi => ?_⟩
    · simp only [mkL, m1, kA2, g1]
      rw [e]
      congr 2
      omega
    · cases i with
      | zero =>
        refine ⟨_, rfl, ?_⟩
        have : k' = k := by simpa [totL] using hk
        rw [this, hh]
        simp [totL]
      | succ i =>
        have t1 : ∀ j, totL ((a :: l).take (j + 1)) = (a.getD []).length + totL (l.take j) := fun j => by simp [totL]
        obtain ⟨y, y1, y2⟩ := g3 i k' (by rw [hk, t1]; omega) (by simpa using hi)
        refine ⟨y, by simpa using y1, ?_⟩
        rw [y2, t1]
        congr 1
        omega
theorem marksSS (g : Sl (Sl Int)) (hl : (g.getD []).length ≤ 4294967296) (ht : totL (g.getD []) ≤ 900000000) : ∃ v r, t_q24 g 1 = some (r, v) ∧ t_q21 v 1 = some r ∧ 0 ≤ r := by
  obtain ⟨l', g1, g2, g3⟩ := mkL_ok (g.getD []) 1 (by omega) (by omega)
  have hm : ∃ v, t_q24 g 1 = some (1 + (totL (g.getD []) : Int), v) ∧ v.getD [] = l' := by
    unfold t_q24
    have d : decide ((g.getD []).length ≤ 4294967296) = true := decide_eq_true hl
    rw [d]
    cases g with
    | none =>
      refine ⟨none, rfl, ?_⟩
      cases g1
      rfl
    | some l =>
      have g1' : mkL l 1 = some (1 + (totL l : Int), l') := g1
      refine ⟨some l', ?_, rfl⟩
      simp only [cond_true, g1', kA2]
      rfl
  obtain ⟨v, m1, m2⟩ := hm
  refine ⟨v, _, m1, ?_, by omega⟩
  have lp := kGy (step := s0_q21 v) (g.getD []).length (fun j => (1 + (totL ((g.getD []).take j) : Int), (j : Int))) (.inl (1 + (totL (g.getD []) : Int)))
    (fun j hk => by
      obtain ⟨y, y1, y2⟩ := g3 j _ rfl hk
      have c : (j : Int) < (((v.getD []).length : Nat) : Int) := by rw [m2, g2]; omega
      have c2 : decide (1 + (totL ((g.getD []).take (j + 1)) : Int) < 0) = false := decide_eq_false (by omega)
      rw [← m2] at y1
      unfold s0_q21
      simp only [c, decide_true, cond_true, kAv y1, kA2, y2, c2, cond_false, kC7 hk hl])
    (by
      have c : ¬ (((g.getD []).length : Nat) : Int) < (((v.getD []).length : Nat) : Int) := by rw [m2, g2]; omega
      unfold s0_q21
      simp only [c, decide_false, cond_false, List.take_length])
    0 (Nat.zero_le _)
  have lp' : kBa (s0_q21 v) (1, 0) = some (.inl (1 + (totL (g.getD []) : Int))) := by
    simpa [totL] using lp
  unfold t_q21
  rw [lp', kA2]
def wds (I g : List Int) (gap : Int) : Nat → List (List Int)
  | 0 => []
  | k + 1 => bif decide (k = 0) || decide (gap < itAt g (k - 1)) then wds I g gap k ++ [[itAt I k]] else (wds I g gap k).dropLast ++ [((wds I g gap k).getLast?.getD []) ++ [itAt I k]]
theorem wds_ne (I g : List Int) (gap : Int) (k : Nat) : wds I g gap (k + 1) ≠ [] := by
  unfold wds
  cases decide (k = 0) || decide (gap < itAt g (k - 1)) <;> simp
theorem wds_tot (I g : List Int) (gap : Int) : ∀ k, ((wds I g gap k).map List.length).sum = k ∧ (wds I g gap k).length ≤ k
  | 0 => by simp [wds]
  | k + 1 => by
    obtain ⟨h1, h2⟩ := wds_tot I g gap k
    unfold wds
    cases c : decide (k = 0) || decide (gap < itAt g (k - 1)) with
    | true =>
      rw [cond_true]
      refine ⟨by simp [h1], by simp; omega⟩
    | false =>
      rw [cond_false]
      rcases List.eq_nil_or_concat (wds I g gap k) with e | ⟨R, r, e⟩
      · rw [e] at h1 ⊢
        simp at h1
        subst h1
        simp at c
      · rw [e] at h1 h2 ⊢
        simp at h1 h2 ⊢
        omega
theorem grow {s : Sl (Sl Int)} {R : List (List Int)} {r : List Int} (x : Int) (h : kBw s = R ++ [r]) (hl : R.length ≤ 2000000) (hr : r.length ≤ 2000000) : ∃ a, kBp (s.getD []) (wr ((((s.getD []).length : Nat) : Int) - 1)) = some a ∧ kF5 a [x] = some (kBn a [x]) ∧ kBw (kC9 s (wr ((((s.getD []).length : Nat) : Int) - 1)) (kBn a [x])) = R ++ [r ++ [x]] := by
  have e : (s.getD []).length = R.length + 1 := by rw [← kDn, h]; simp
  have w : wr ((((s.getD []).length : Nat) : Int) - 1) = ((R.length : Nat) : Int) := by
    rw [e, kBj (by omega) (by omega)]
    omega
  have g : (kBw s)[R.length]? = some r := by rw [h]; simp
  obtain ⟨a, ha, hr2⟩ := rowsL_get g
  refine ⟨a, by rw [w]; exact kAv ha, ?_, ?_⟩
  · rw [kDb]
    rw [hr2]
    simp
    omega
  · rw [w]
    cases s with
    | none => simp [kBw] at h
    | some l =>
      simp only [kC9, kBw, Option.map_some, Option.getD_some, Int.toNat_natCast, List.map_set] at *
      rw [h, kEw, hr2]
      simp
theorem rowsL_app (s : Sl (Sl Int)) (a : Sl Int) : kBw (kBn s [a]) = kBw s ++ [a.getD []] := by
  unfold kBw
  rw [kEw]
  simp
theorem specWords_ok {B : List Box} {I : List Int} {gap : Int} (hv : ∀ b ∈ B, kB6 b = true) (hi : ∀ i ∈ I, isIdx ((B.length : Nat) : Int) i = true) (hl : I.length ≤ 1048576) : ∃ q, t_q49 (some B) (some I) gap = some q ∧ kBw q = wds I (kC8 B I) gap I.length := by
  obtain ⟨g, e1, hg⟩ := specGaps_ok hv hi (by omega)
  have gl : (kC8 B I).length = I.length - 1 := by simp [kC8]
  obtain ⟨q, e2, hq⟩ := kEl (step := s0_q49 (some I) gap g) (fun k t => kBw t.1 = wds I (kC8 B I) gap k ∧ t.2 = (k : Int)) I.length (fun q => kBw q = wds I (kC8 B I) gap I.length)
    (fun k ⟨w, i⟩ hk ⟨h1, h2⟩ => by
      simp only at h1 h2
      subst h2
      have c : (k : Int) < ((I.length : Nat) : Int) := by omega
      have gi := kAv (kDm hk)
      obtain ⟨t1, t2⟩ := wds_tot I (kC8 B I) gap k
      have cnd : kA0 (bif decide ((k : Int) = 0) then some false else (kA0 (kBp (g.getD []) (wr ((k : Int) - 1))) fun a27 => some (decide (gap < a27)))) (fun c31 => some (bif decide ((k : Int) = 0) then true else c31)) = some (decide (k = 0) || decide (gap < itAt (kC8 B I) (k - 1))) := by
        by_cases k0 : k = 0
        · subst k0
          rfl
        · have d : decide ((k : Int) = 0) = false := decide_eq_false (by omega)
          have w1 : wr ((k : Int) - 1) = ((k - 1 : Nat) : Int) := by rw [kBj (by omega) (by omega)]; omega
          have gg := kAv (kDm (I := kC8 B I) (k := k - 1) (by omega))
          rw [d, cond_false, hg, w1, gg]
          simp [k0]
      cases cc : (bif decide ((k : Int) = 0) then some false else (kA0 (kBp (g.getD []) (wr ((k : Int) - 1))) fun a27 => some (decide (gap < a27)))) with
      | none => rw [cc] at cnd; cases cnd
      | some c31 =>
        rw [cc, kA2] at cnd
        have cnd := Option.some.inj cnd
        unfold s0_q49
        simp only [Option.getD_some, c, decide_true, cond_true, cc, kA2, cnd, gi]
        cases bb : decide (k = 0) || decide (gap < itAt (kC8 B I) (k - 1)) with
        | true =>
          have hR := rowsL_app w (some [])
          rw [h1] at hR
          obtain ⟨a, f1, f2, f3⟩ := grow (itAt I k) hR (by omega) (by simp)
          have ap : kF5 w [(some [] : Sl Int)] = some (kBn w [some []]) := by
            rw [kDb]
            rw [← kDn, h1]
            simp
            omega
          refine .inl ⟨_, by simp only [cond_true, ap, kA2, f1, f2, kC7 hk (show I.length ≤ 4294967296 by omega)]; rfl, ?_, rfl⟩
          unfold wds
          rw [bb, cond_true]
          exact f3
        | false =>
          have k0 : k ≠ 0 := fun h => by subst h; simp at bb
          obtain ⟨j, rfl⟩ : ∃ j, k = j + 1 := ⟨k - 1, by omega⟩
          rcases List.eq_nil_or_concat (wds I (kC8 B I) gap (j + 1)) with e | ⟨R, r, e⟩
          · exact absurd e (wds_ne _ _ _ _)
          · have e' : wds I (kC8 B I) gap (j + 1) = R ++ [r] := by rw [e, List.concat_eq_append]
            rw [e'] at h1 t1 t2
            simp at t1 t2
            obtain ⟨a, f1, f2, f3⟩ := grow (itAt I (j + 1)) h1 (by omega) (by omega)
            refine .inl ⟨_, by simp only [cond_false, f1, kA2, f2, kC7 hk (show I.length ≤ 4294967296 by omega)]; rfl, ?_, rfl⟩
            rw [wds, bb, cond_false, e']
            simpa using f3)
    (fun ⟨w, i⟩ ⟨h1, h2⟩ => by
      simp only at h1 h2
      subst h2
      refine ⟨w, ?_, h1⟩
      unfold s0_q49
      simp only [Option.getD_some, Int.lt_irrefl, decide_false, cond_false])
    (s := (some [], 0)) ⟨rfl, rfl⟩
  refine ⟨q, ?_, hq⟩
  unfold t_q49
  rw [e1, kA2, e2, kA2]
theorem implWords_ok {B : List Box} {I : List Int} {gap : Int} (hv : ∀ b ∈ B, kB6 b = true) (hi : ∀ i ∈ I, isIdx ((B.length : Nat) : Int) i = true) (hl : I.length ≤ 1048576) : ∃ q, t_q14 (some B) (some I) gap = some q ∧ kBw q = wds I (kC8 B I) gap I.length := by
  obtain ⟨g, e1, hg⟩ := implGaps_ok hv hi (by omega)
  have gl : (kC8 B I).length = I.length - 1 := by simp [kC8]
  obtain ⟨q, e2, hq⟩ := kEl (step := s0_q14 (some I) gap g) (fun k t => kBw t.1 = wds I (kC8 B I) gap k ∧ t.2 = (k : Int)) I.length (fun q => kBw q = wds I (kC8 B I) gap I.length)
    (fun k ⟨w, i⟩ hk ⟨h1, h2⟩ => by
      simp only at h1 h2
      subst h2
      have c : (k : Int) < ((I.length : Nat) : Int) := by omega
      have gi := kAv (kDm hk)
      obtain ⟨t1, t2⟩ := wds_tot I (kC8 B I) gap k
      have cnd : kA0 (bif decide ((k : Int) = 0) then some false else (kA0 (kBp (g.getD []) (wr ((k : Int) - 1))) fun a27 => some (decide (gap < a27)))) (fun c31 => some (bif decide ((k : Int) = 0) then true else c31)) = some (decide (k = 0) || decide (gap < itAt (kC8 B I) (k - 1))) := by
        by_cases k0 : k = 0
        · subst k0
          rfl
        · have d : decide ((k : Int) = 0) = false := decide_eq_false (by omega)
          have w1 : wr ((k : Int) - 1) = ((k - 1 : Nat) : Int) := by rw [kBj (by omega) (by omega)]; omega
          have gg := kAv (kDm (I := kC8 B I) (k := k - 1) (by omega))
          rw [d, cond_false, hg, w1, gg]
          simp [k0]
      cases cc : (bif decide ((k : Int) = 0) then some false else (kA0 (kBp (g.getD []) (wr ((k : Int) - 1))) fun a27 => some (decide (gap < a27)))) with
      | none => rw [cc] at cnd; cases cnd
      | some c31 =>
        rw [cc, kA2] at cnd
        have cnd := Option.some.inj cnd
        unfold s0_q14
        simp only [Option.getD_some, c, decide_true, cond_true, cc, kA2, cnd, gi]
        cases bb : decide (k = 0) || decide (gap < itAt (kC8 B I) (k - 1)) with
        | true =>
          have hR := rowsL_app w none
          rw [h1] at hR
          obtain ⟨a, f1, f2, f3⟩ := grow (itAt I k) hR (by omega) (by simp)
          have ap : kF5 w [(none : Sl Int)] = some (kBn w [none]) := by
            rw [kDb]
            rw [← kDn, h1]
            simp
            omega
          refine .inl ⟨_, by simp only [cond_true, ap, kA2, f1, f2, kC7 hk (show I.length ≤ 4294967296 by omega)]; rfl, ?_, rfl⟩
          unfold wds
          rw [bb, cond_true]
          exact f3
        | false =>
          have k0 : k ≠ 0 := fun h => by subst h; simp at bb
          obtain ⟨j, rfl⟩ : ∃ j, k = j + 1 := ⟨k - 1, by omega⟩
          rcases List.eq_nil_or_concat (wds I (kC8 B I) gap (j + 1)) with e | ⟨R, r, e⟩
          · exact absurd e (wds_ne _ _ _ _)
          · have e' : wds I (kC8 B I) gap (j + 1) = R ++ [r] := by rw [e, List.concat_eq_append]
            rw [e'] at h1 t1 t2
            simp at t1 t2
            obtain ⟨a, f1, f2, f3⟩ := grow (itAt I (j + 1)) h1 (by omega) (by omega)
            refine .inl ⟨_, by simp only [cond_false, f1, kA2, f2, kC7 hk (show I.length ≤ 4294967296 by omega)]; rfl, ?_, rfl⟩
            rw [wds, bb, cond_false, e']
            simpa using f3)
    (fun ⟨w, i⟩ ⟨h1, h2⟩ => by
      simp only at h1 h2
      subst h2
      refine ⟨w, ?_, h1⟩
      unfold s0_q14
      simp only [Option.getD_some, Int.lt_irrefl, decide_false, cond_false])
    (s := (none, 0)) ⟨rfl, rfl⟩
  refine ⟨q, ?_, hq⟩
  unfold t_q14
  rw [e1, kA2, e2, kA2]
theorem rows_small {L : List (List Int)} (h : (L.map List.length).sum ≤ 1048576) : ∀ r ∈ L, r.length ≤ 4294967296 := fun r hr => by
  have : ∀ (L : List (List Int)), r ∈ L → r.length ≤ (L.map List.length).sum := by
    intro L
    induction L with
    | nil => intro h; cases h
    | cons a L ih =>
      intro h
      rw [List.map_cons, List.sum_cons]
      rcases List.mem_cons.1 h with e | e
      · rw [e]
        omega
      · have := ih e
        omega
  have := this L hr
  omega
theorem totL_rows (s : Sl (Sl Int)) : totL (s.getD []) = ((kBw s).map List.length).sum := by
  unfold totL kBw
  rw [List.map_map]
  rfl
theorem perm_ins {l : List Int} {q : Nat} {g : Int} : (l.take q ++ [g] ++ l.drop q).Perm (g :: l) := by
  have h1 : (l.take q ++ [g] ++ l.drop q).Perm (g :: (l.take q ++ l.drop q)) := by
    rw [List.append_assoc]
    exact List.perm_middle
  rw [List.take_append_drop] at h1
  exact h1
theorem subS_to {A : Type} {l : List A} {t : Nat} (h2 : t ≤ l.length) : subS (some l) none (some (t : Int)) = some (some (l.take t)) := by
  have e1 : idx (iv (t : Int)) (l.length + 1) = some t := idx_lt (by omega)
  unfold subS bndI
  simp only [Option.getD_some, e1, kA2, Option.map_some, List.drop_zero]
theorem subS_from {A : Type} {l : List A} {f : Nat} (h2 : f ≤ l.length) : subS (some l) (some (f : Int)) none = some (some (l.drop f)) := by
  have e2 : idx (iv (f : Int)) (l.length + 1) = some f := idx_lt (by omega)
  unfold subS bndI
  simp only [Option.getD_some, e2, kA2, Option.map_some, List.take_length]
theorem own_ints (l : List Int) (h : l.length ≤ 2000000) : t_q40 (some l) = some (some l) := by
  have := kDb (s := (some [] : Sl Int)) (l := l) (by simp; omega)
  unfold t_q40
  simp only [Option.getD_some, this, kA2]
  rfl
theorem or3 (a b c : Int) : t_q1 (some [a, b, c]) = some (bif !decide (a = 0) then a else bif !decide (b = 0) then b else c) := by
  have w1 : wr ((0 : Int) + 1) = 1 := kBj (by omega) (by omega)
  have w2 : wr ((1 : Int) + 1) = 2 := kBj (by omega) (by omega)
  have w3 : wr ((2 : Int) + 1) = 3 := kBj (by omega) (by omega)
  have g0 : kBp [a, b, c] 0 = some a := kAv (m := 0) rfl
  have g1 : kBp [a, b, c] 1 = some b := kAv (m := 1) rfl
  have g2 : kBp [a, b, c] 2 = some c := kAv (m := 2) rfl
  have e0 : s0_q1 (some [a, b, c]) 0 = bif !decide (a = 0) then some (.inr (.inr a)) else some (.inl 1) := by
    have h : (0 : Int) < ((([a, b, c] : List Int).length : Nat) : Int) := by simp
    unfold s0_q1
    simp only [Option.getD_some, h, decide_true, cond_true, g0, kA2, w1]
  have e1 : s0_q1 (some [a, b, c]) 1 = bif !decide (b = 0) then some (.inr (.inr b)) else some (.inl 2) := by
    have h : (1 : Int) < ((([a, b, c] : List Int).length : Nat) : Int) := by simp
    unfold s0_q1
    simp only [Option.getD_some, h, decide_true, cond_true, g1, kA2, w2]
  have e2 : s0_q1 (some [a, b, c]) 2 = bif !decide (c = 0) then some (.inr (.inr c)) else some (.inl 3) := by
    have h : (2 : Int) < ((([a, b, c] : List Int).length : Nat) : Int) := by simp
    unfold s0_q1
    simp only [Option.getD_some, h, decide_true, cond_true, g2, kA2, w3]
  have e3 : s0_q1 (some [a, b, c]) 3 = some (.inr (.inl ())) := rfl
  unfold t_q1
  cases ha : !decide (a = 0) with
  | true =>
    rw [ha] at e0
    rw [kB7 e0]
    rfl
  | false =>
    rw [ha] at e0
    rw [kBg e0]
    cases hb : !decide (b = 0) with
    | true =>
      rw [hb] at e1
      rw [kB7 e1]
      rfl
    | false =>
      rw [hb] at e1
      rw [kBg e1]
      cases hc : !decide (c = 0) with
      | true =>
        rw [hc] at e2
        rw [kB7 e2]
        rfl
      | false =>
        rw [hc] at e2
        rw [kBg e2, kB7 e3]
        have : c = 0 := by
          rw [Bool.not_eq_false'] at hc
          exact of_decide_eq_true hc
        rw [this]
        rfl
inductive Wy (E : List Edg) (lab : Nat → ByteArray) : Nat → Nat → Int → Prop
  | start : Wy E lab 0 0 0
  | step {k u v : Nat} {c : Int} {i : Nat} {e : Edg} : Wy E lab k u c → E[i]? = some e → e.frm = (u : Int) → e.upto = (v : Int) → e.label = lab k → Wy E lab (k + 1) v (c + e.cost)
def LeW (W : Int) (S : Int → Prop) (x : Int) : Prop := (x = W ∧ ∀ c, ¬ S c) ∨ (S x ∧ ∀ c, S c → x ≤ c)
theorem LeW.join {W : Int} {S T : Int → Prop} {x y : Int} (h : LeW W S x) (hy : T y) (hm : ∀ c, T c → y ≤ c) (hW : y < W) (hS : ∀ c, S c → c < W) : LeW W (fun c => S c ∨ T c) (min x y) := by
  rcases h with ⟨h1, h2⟩ | ⟨h1, h2⟩
  · right
    rw [Int.min_eq_right (by omega)]
    exact ⟨.inr hy, fun c hc => hc.elim (fun k => absurd k (h2 c)) (hm c)⟩
  · right
    have := hS x h1
    rcases Int.le_total x y with k | k
    · rw [Int.min_eq_left k]
      exact ⟨.inl h1, fun c hc => hc.elim (h2 c) fun t => Int.le_trans k (hm c t)⟩
    · rw [Int.min_eq_right k]
      exact ⟨.inr hy, fun c hc => hc.elim (fun t => Int.le_trans k (h2 c t)) (hm c)⟩
theorem set_upd {L : List Int} {v : Nat} {x y : Int} (h : L[v]? = some x) (i : Nat) : (L.set v y)[i]? = if i = v then some y else L[i]? := by
  by_cases e : i = v
  · subst e
    rw [if_pos rfl, List.getElem?_set_self (kFk h)]
  · rw [if_neg e, List.getElem?_set_ne (fun k => e k.symm)]
def Nxt (E : List Edg) (lab : Nat → ByteArray) (k j : Nat) (v : Nat) (c : Int) : Prop := ∃ i e u c', i < j ∧ E[i]? = some e ∧ e.frm = ((u : Nat) : Int) ∧ e.upto = (v : Int) ∧ e.label = lab k ∧ Wy E lab k u c' ∧ c = c' + e.cost
theorem Nxt.all {E : List Edg} {lab : Nat → ByteArray} {k v : Nat} {c : Int} : Nxt E lab k E.length v c ↔ Wy E lab (k + 1) v c := by
  constructor
  · rintro ⟨i, e, u, c', _, he, hf, hu, hl, hw, rfl⟩
    exact .step hw he hf hu hl
  · intro h
    cases h with
    | step hw he hf hu hl => exact ⟨_, _, _, _, kFk he, he, hf, hu, hl, hw, rfl⟩
def Cap (n : Nat) (L : List Int) (v k : Nat) (c : Int) : Prop := ∃ x, L[v * (n + 1) + k]? = some x ∧ 0 ≤ x ∧ x ≤ c
theorem Cap.mono {n : Nat} {L : List Int} {v k m : Nat} {c x y : Int} (h : Cap n L v k c) (hx : L[m]? = some x) (hy : x < 0 ∨ y < x) (h0 : 0 ≤ y) : Cap n (L.set m y) v k c := by
  obtain ⟨z, h1, h2, h3⟩ := h
  unfold Cap
  rw [set_upd hx]
  by_cases e : v * (n + 1) + k = m
  · rw [if_pos e]
    rw [e, hx] at h1
    cases h1
    exact ⟨y, rfl, h0, by omega⟩
  · rw [if_neg e]
    exact ⟨z, h1, h2, h3⟩
theorem wr_shift (x q : Int) : wr (x + 18446744073709551616 * q) = wr x := by
  simp only [wr, IntKind.wrap, IntKind.bits, IntKind.signed]
  first | omega | (simp; done)
theorem wr_mod (x : Int) : ∃ q, wr x = x + 18446744073709551616 * q := by
  have h : ∃ q, wr x = x - 18446744073709551616 * q := by
    simp only [wr, IntKind.wrap, IntKind.bits, IntKind.signed]
    by_cases h : x % 18446744073709551616 ≥ 9223372036854775808
    · exact ⟨x / 18446744073709551616 + 1, by simp [h]; omega⟩
    · exact ⟨x / 18446744073709551616, by simp [h]; omega⟩
  obtain ⟨q, hq⟩ := h
  exact ⟨-q, by rw [hq]; omega⟩
theorem wr_add_l (x y : Int) : wr (wr x + y) = wr (x + y) := by
  obtain ⟨q, h⟩ := wr_mod x
  rw [h, show x + 18446744073709551616 * q + y = x + y + 18446744073709551616 * q by omega, wr_shift]
def upd (base : Nat → Int) (S : Nat) (x : Int) (v : Nat) : Int := if v = S then x else base v
theorem upd_self (base : Nat → Int) (S : Nat) (x : Int) : upd base S x S = x := if_pos rfl
theorem upd_ne {base : Nat → Int} {S v : Nat} (x : Int) (h : v ≠ S) : upd base S x v = base v := if_neg h
structure PI (l : Sl Symbol) (n : Nat) (bx : Nat → Box) (c : Nat → Int) (p : Parser) : Prop where
  list : p.list = l
  boxes : ∀ v, v < n → (p.boxes.getD [])[v]? = some (bx v)
  best : (p.best.getD []).length = n
  clen : (p.count.getD []).length = n
  count : ∀ v, v < n → (p.count.getD [])[v]? = some (c v)
structure CI (l : Sl Symbol) (n : Nat) (bx : Nat → Box) (c : Nat → Int) (p : Chart21) : Prop where
  list : p.list = l
  len : (p.cells.getD []).length = n
  cells : ∀ v, v < n → ∃ x, (p.cells.getD [])[v]? = some x ∧ x.box = bx v ∧ x.ways = c v
theorem kIl {A : Type} {s : Sl A} {v : Nat} {x y : A} (h : (s.getD [])[v]? = some x) (i : Nat) : ((kC9 s (v : Int) y).getD [])[i]? = if i = v then some y else (s.getD [])[i]? := by
  cases s with
  | none => simp at h
  | some l =>
    show (l.set ((v : Int).toNat) y)[i]? = if i = v then some y else l[i]?
    rw [Int.toNat_natCast]
    have h' : l[v]? = some x := h
    by_cases e : i = v
    · subst e
      rw [if_pos rfl, List.getElem?_set_self (kFk h')]
    · rw [if_neg e, List.getElem?_set_ne (fun k => e k.symm)]
theorem PI.add {l : Sl Symbol} {n : Nat} {bx : Nat → Box} {base : Nat → Int} {S : Nat} {X Y : Int} {p : Parser} (h : PI l n bx (upd base S (wr X)) p) (hS : S < n) (q : Sl Choice) (hq : (q.getD []).length = n) : PI l n bx (upd base S (wr (X + Y))) ⟨p.list, p.boxes, q, kC9 p.count (S : Int) (wr (wr X + Y))⟩ := by
  have hs := h.count S hS
  refine ⟨h.list, h.boxes, hq, by show ((kC9 p.count (S : Int) _).getD []).length = n; rw [setS_len]; exact h.clen, fun v hv => ?_⟩
  show ((kC9 p.count (S : Int) _).getD [])[v]? = _
  rw [kIl hs]
  by_cases e : v = S
  · subst e
    rw [if_pos rfl, upd_self, wr_add_l]
  · rw [if_neg e, upd_ne _ e, h.count v hv, upd_ne _ e]
theorem CI.add {l : Sl Symbol} {n : Nat} {bx : Nat → Box} {base : Nat → Int} {S : Nat} {X Y Z : Int} {p : Chart21} (h : CI l n bx (upd base S (wr X)) p) (hS : S < n) (y : Cell21) (hb : y.box = bx S) (hw : y.ways = wr (wr X + Y)) (hZ : wr (X + Y) = wr (X + Z)) : CI l n bx (upd base S (wr (X + Z))) ⟨p.list, kC9 p.cells (S : Int) y⟩ := by
  obtain ⟨x, hx, _⟩ := h.cells S hS
  refine ⟨h.list, by show ((kC9 p.cells (S : Int) _).getD []).length = n; rw [setS_len]; exact h.len, fun v hv => ?_⟩
  show ∃ x, ((kC9 p.cells (S : Int) _).getD [])[v]? = some x ∧ _
  rw [kIl hx]
  by_cases e : v = S
  · subst e
    rw [if_pos rfl]
    exact ⟨y, rfl, hb, by rw [upd_self, hw, wr_add_l, hZ]⟩
  · rw [if_neg e]
    obtain ⟨z, h1, h2, h3⟩ := h.cells v hv
    exact ⟨z, h1, h2, by rw [h3, upd_ne _ e, upd_ne _ e]⟩
def shrQ (S i : Nat) : Int := Int.fdiv (S : Int) (2 ^ (min (i : Int).toNat 64))
def outQ (S i : Nat) : Bool := decide (andI (shrQ S i) 1 = 0)
structure Way where
  kind : Int
  sign : Int
  a : Nat
  b : Nat
  cost : Int
  ways : Int
  deriving DecidableEq
abbrev posLt (x y : Way) : Prop := x.kind < y.kind ∨ (x.kind = y.kind ∧ (x.sign < y.sign ∨ (x.sign = y.sign ∧ x.a < y.a)))
abbrev lexLt (x y : Way) : Prop := x.cost < y.cost ∨ (x.cost = y.cost ∧ posLt x y)
def stepI (o : Option Way) (t : Way) : Option Way := if t.ways = 0 then o else match o with
  | none => some t
  | some x => if lexLt t x then some t else some x
def chOf (t : Way) : Choice := ⟨t.kind, t.sign, (t.a : Int), (t.b : Int), t.cost⟩
structure PB (l : Sl Symbol) (n : Nat) (bx : Nat → Box) (base : Nat → Int) (bc : Nat → Choice) (S : Nat) (X : Int) (o : Option Way) (p : Parser) : Prop where
  pi : PI l n bx (upd base S (wr X)) p
  bst : ∀ v, v < n → v ≠ S → (p.best.getD [])[v]? = some (bc v)
  own : ∀ t, o = some t → (p.best.getD [])[S]? = some (chOf t)
  zero : o = none ↔ X = 0
  pos : 0 ≤ X
theorem PB.take {l : Sl Symbol} {n : Nat} {bx : Nat → Box} {base : Nat → Int} {bc : Nat → Choice} {S : Nat} {X : Int} {o : Option Way} {p : Parser} (h : PB l n bx base bc S X o p) (hS : S < n) {t : Way} (hp : 0 < t.ways) (hs : stepI o t = some t) : PB l n bx base bc S (X + t.ways) (stepI o t) ⟨p.list, p.boxes, kC9 p.best (S : Int) (chOf t), kC9 p.count (S : Int) (wr (wr X + t.ways))⟩ := by
  obtain ⟨y, hy⟩ : ∃ y, (p.best.getD [])[S]? = some y := ⟨_, List.getElem?_eq_getElem (by have := h.pi.best; omega)⟩
  have pos := h.pos
  refine ⟨h.pi.add hS _ (by rw [setS_len]; exact h.pi.best), fun v hv hn => ?_, fun u hu => ?_, ?_, by omega⟩
  · show ((kC9 p.best (S : Int) _).getD [])[v]? = _
    rw [kIl hy, if_neg hn]
    exact h.bst v hv hn
  · show ((kC9 p.best (S : Int) _).getD [])[S]? = _
    rw [hs] at hu
    cases hu
    rw [kIl hy, if_pos rfl]
  · rw [hs]
    exact ⟨fun e => (by cases e), fun e => by omega⟩
def lastIx (S : Nat) : Nat → Nat
  | 0 => 0
  | i + 1 => bif outQ S i then lastIx S i else i
def Lnk (N : Nat) (base : Nat → Int) (v : Nat) (x y : Choice) : Prop :=
  (v &&& (v - 1) = 0 ∧ y = ⟨0, (lastIx v N : Int), 0, 0, 0⟩) ∨ (v &&& (v - 1) ≠ 0 ∧ ∃ t : Way, x = chOf t ∧ y = chOf t ∧ t.kind ≠ 0 ∧ 0 < t.a ∧ t.a < v ∧ t.b < v ∧ base t.a ≠ 0 ∧ (t.b = 0 ∨ base t.b ≠ 0) ∧ t.a + t.b ≤ v)
theorem Lnk.mono {N v S : Nat} {base : Nat → Int} {x y : Choice} {u : Int} (h : Lnk N base v x y) (hv : v ≤ S) (hu : base S = 0) : Lnk N (upd base S u) v x y := by
  rcases h with h | ⟨h1, t, h2, h3, h4, h5, h6, h7, h8, h9, h10⟩
  · exact .inl h
  · refine .inr ⟨h1, t, h2, h3, h4, h5, h6, h7, ?_, ?_, h10⟩
    · rw [upd_ne _ (by omega)]
      exact h8
    · rw [upd_ne _ (by omega)]
      exact h9
abbrev CandL := List (ByteArray × Int)
inductive SPth (pc : ByteArray → ByteArray → Int) : List CandL → ByteArray → List ByteArray → Int → Prop
  | nil {a : ByteArray} : SPth pc [] a [] 0
  | cons {C : CandL} {Cs : List CandL} {a w : ByteArray} {c r : Int} {ws : List ByteArray} (hw : (w, c) ∈ C) (h : SPth pc Cs w ws r) : SPth pc (C :: Cs) a (w :: ws) (pc a w + (c + r))
theorem SPth.len {pc : ByteArray → ByteArray → Int} {Cs : List CandL} {a : ByteArray} {ws : List ByteArray} {c : Int} (h : SPth pc Cs a ws c) : ws.length = Cs.length := by
  induction h with
  | nil => rfl
  | cons hw h ih => simp [ih]
def leftP (l : List Box) (x y : Nat) : Prop := ∃ a b, l[x]? = some a ∧ l[y]? = some b ∧ (a.x1 < b.x1 ∨ a.x1 = b.x1 ∧ (a.x2 < b.x2 ∨ a.x2 = b.x2 ∧ x < y))
theorem left_ok {q : Sl Box} {x y : Nat} (hx : x < (q.getD []).length) (hy : y < (q.getD []).length) : ∃ r, t_q10 (x : Int) (y : Int) q = some r ∧ (r < 0 ↔ leftP (q.getD []) x y) := by
  have e1 : (q.getD [])[x]? = some (q.getD [])[x] := List.getElem?_eq_getElem hx
  have e2 : (q.getD [])[y]? = some (q.getD [])[y] := List.getElem?_eq_getElem hy
  unfold leftP
  generalize (q.getD [])[x] = a at e1
  generalize (q.getD [])[y] = b at e2
  have hP : (∃ a' b', (q.getD [])[x]? = some a' ∧ (q.getD [])[y]? = some b' ∧ (a'.x1 < b'.x1 ∨ a'.x1 = b'.x1 ∧ (a'.x2 < b'.x2 ∨ a'.x2 = b'.x2 ∧ x < y))) ↔ (a.x1 < b.x1 ∨ a.x1 = b.x1 ∧ (a.x2 < b.x2 ∨ a.x2 = b.x2 ∧ x < y)) := by
    constructor
    · rintro ⟨a', b', h1, h2, h3⟩
      rw [e1] at h1
      rw [e2] at h2
      cases h1
      cases h2
      exact h3
    · exact fun h => ⟨a, b, e1, e2, h⟩
  unfold t_q10
  rw [kAv e1, kA2, kAv e2, kA2, kA2, kA2, kA2, kA2, kA2, or3, kA2]
  refine ⟨_, rfl, ?_⟩
  rw [hP]
  unfold cmpI
  by_cases c1 : a.x1 < b.x1
  · simp [c1]
  · by_cases c2 : b.x1 < a.x1
    · have : ¬ a.x1 = b.x1 := by omega
      simp [c1, c2, this]
    · have c3 : a.x1 = b.x1 := by omega
      by_cases d1 : a.x2 < b.x2
      · simp [c3, d1]
      · by_cases d2 : b.x2 < a.x2
        · have : ¬ a.x2 = b.x2 := by omega
          simp [c3, d1, d2, this]
        · have d3 : a.x2 = b.x2 := by omega
          by_cases k1 : x < y
          · simp [c3, d3, k1]
          · by_cases k2 : y < x <;> simp [c3, d3, k1, k2]
def kC2 (q : Sl Box) (x y : Int) : Int := (t_q10 x y q).getD 0
def kG0 (q : Sl Box) : Nat := (q.getD []).length
theorem kEv {q : Sl Box} {x y : Nat} (hx : x < kG0 q) (hy : y < kG0 q) : ltC (kC2 q) (x : Int) (y : Int) = true ↔ leftP (q.getD []) x y := by
  obtain ⟨r, e, h⟩ := left_ok hx hy
  unfold ltC kC2
  rw [e, Option.getD_some, decide_eq_true_eq]
  exact h
theorem leftP_irr (l : List Box) (x : Nat) : ¬ leftP l x x := fun ⟨a, b, h1, h2, h3⟩ => by
  rw [h1] at h2
  cases h2
  omega
theorem leftP_tr {l : List Box} {x y z : Nat} (h : leftP l x y) (g : leftP l y z) : leftP l x z := by
  obtain ⟨a, b, h1, h2, h3⟩ := h
  obtain ⟨b', c, g1, g2, g3⟩ := g
  rw [h2] at g1
  cases g1
  exact ⟨a, c, h1, g2, by omega⟩
theorem leftP_tri {l : List Box} {x y : Nat} (hx : x < l.length) (hy : y < l.length) : leftP l x y ∨ x = y ∨ leftP l y x := by
  have e1 : l[x]? = some l[x] := List.getElem?_eq_getElem hx
  have e2 : l[y]? = some l[y] := List.getElem?_eq_getElem hy
  generalize l[x] = a at e1
  generalize l[y] = b at e2
  by_cases c1 : a.x1 < b.x1 ∨ a.x1 = b.x1 ∧ (a.x2 < b.x2 ∨ a.x2 = b.x2 ∧ x < y)
  · exact .inl ⟨a, b, e1, e2, c1⟩
  · by_cases c2 : x = y
    · exact .inr (.inl c2)
    · exact .inr (.inr ⟨b, a, e2, e1, by omega⟩)
def swL (l : List Int) (i j : Nat) : List Int := match l[i]?, l[j]? with
  | some u, some v => (l.set i v).set j u
  | _, _ => l
theorem swL_len (l : List Int) (i j : Nat) : (swL l i j).length = l.length := by
  unfold swL
  split <;> simp
theorem kGb {l : List Int} {i j : Nat} (hi : i < l.length) (hj : j < l.length) (p : Nat) : (swL l i j)[p]? = if p = j then l[i]? else if p = i then l[j]? else l[p]? := by
  unfold swL
  rw [List.getElem?_eq_getElem hi, List.getElem?_eq_getElem hj]
  dsimp only
  by_cases h1 : p = j
  · subst h1
    rw [if_pos rfl, List.getElem?_set_self (by simp [hj])]
  · rw [if_neg h1, List.getElem?_set_ne (Ne.symm h1)]
    by_cases h2 : p = i
    · subst h2
      rw [if_pos rfl, List.getElem?_set_self hi]
    · rw [if_neg h2, List.getElem?_set_ne (Ne.symm h2)]
theorem swL_perm {l : List Int} {i j : Nat} (hi : i < l.length) (hj : j < l.length) : (swL l i j).Perm l := by
  unfold swL
  rw [List.getElem?_eq_getElem hi, List.getElem?_eq_getElem hj]
  exact List.set_set_perm hi hj
structure Mv (l l' : List Int) (a b : Nat) : Prop where
  perm : l'.Perm l
  out : ∀ p, p < a ∨ b ≤ p → l'[p]? = l[p]?
  inn : ∀ p, a ≤ p → p < b → ∃ q, a ≤ q ∧ q < b ∧ l'[p]? = l[q]?
theorem Mv.len {l l' : List Int} {a b : Nat} (h : Mv l l' a b) : l'.length = l.length := h.perm.length_eq
theorem Mv.refl (l : List Int) (a b : Nat) : Mv l l a b := ⟨List.Perm.refl _, fun _ _ => rfl, fun p h1 h2 => ⟨p, h1, h2, rfl⟩⟩
theorem Mv.trans {l l' l'' : List Int} {a b : Nat} (h : Mv l l' a b) (g : Mv l' l'' a b) : Mv l l'' a b :=
  ⟨g.perm.trans h.perm, fun p hp => (g.out p hp).trans (h.out p hp), fun p h1 h2 => by
    obtain ⟨q, q1, q2, q3⟩ := g.inn p h1 h2
    obtain ⟨r, r1, r2, r3⟩ := h.inn q q1 q2
    exact ⟨r, r1, r2, q3.trans r3⟩⟩
theorem Mv.wide {l l' : List Int} {a b a' b' : Nat} (h : Mv l l' a b) (h1 : a' ≤ a) (h2 : b ≤ b') : Mv l l' a' b' :=
  ⟨h.perm, fun p hp => h.out p (by omega), fun p p1 p2 => by
    by_cases c : a ≤ p ∧ p < b
    · obtain ⟨q, q1, q2, q3⟩ := h.inn p c.1 c.2
      exact ⟨q, by omega, by omega, q3⟩
    · exact ⟨p, p1, p2, h.out p (by omega)⟩⟩
theorem swL_mv {l : List Int} {i j a b : Nat} (hi : a ≤ i ∧ i < b) (hj : a ≤ j ∧ j < b) (hb : b ≤ l.length) : Mv l (swL l i j) a b := by
  refine ⟨swL_perm (by omega) (by omega), fun p hp => ?_, fun p h1 h2 => ?_⟩
  · rw [kGb (by omega) (by omega), if_neg (by omega), if_neg (by omega)]
  · rw [kGb (by omega) (by omega)]
    by_cases c1 : p = j
    · exact ⟨i, hi.1, hi.2, by rw [if_pos c1]⟩
    · by_cases c2 : p = i
      · exact ⟨j, hj.1, hj.2, by rw [if_neg c1, if_pos c2]⟩
      · exact ⟨p, h1, h2, by rw [if_neg c1, if_neg c2]⟩
def swR (l : List Int) (a b : Nat) : Nat → List Int
  | 0 => l
  | n + 1 => swL (swR l a b n) (a + n) (b + n)
theorem kGm (l : List Int) (a b : Nat) : ∀ n, (swR l a b n).length = l.length
  | 0 => rfl
  | n + 1 => by rw [swR, swL_len, kGm l a b n]
theorem swR_get {l : List Int} {a b : Nat} : ∀ {n : Nat}, a + n ≤ b → b + n ≤ l.length → ∀ p, (swR l a b n)[p]? = if a ≤ p ∧ p < a + n then l[p - a + b]? else if b ≤ p ∧ p < b + n then l[p - b + a]? else l[p]?
  | 0, _, _, p => by
    rw [if_neg (by omega), if_neg (by omega)]
    rfl
  | n + 1, h1, h2, p => by
    have hl := kGm l a b n
    rw [swR, kGb (by omega) (by omega)]
    have ih := fun p => swR_get (l := l) (a := a) (b := b) (n := n) (by omega) (by omega) p
    by_cases c1 : p = b + n
    · subst c1
      rw [if_pos rfl, ih, if_neg (by omega), if_neg (by omega), if_neg (by omega), if_pos (by omega)]
      congr 1
      omega
    · rw [if_neg c1]
      by_cases c2 : p = a + n
      · subst c2
        rw [if_pos rfl, ih, if_neg (by omega), if_neg (by omega), if_pos (by omega)]
        congr 1
        omega
      · rw [if_neg c2, ih]
        by_cases c3 : a ≤ p ∧ p < a + n
        · rw [if_pos c3, if_pos (by omega)]
        · rw [if_neg c3]
          by_cases c4 : b ≤ p ∧ p < b + n
          · rw [if_pos c4, if_neg (by omega), if_pos (by omega)]
          · rw [if_neg c4, if_neg (by omega), if_neg (by omega)]
theorem swR_mv {l : List Int} {a b x y : Nat} : ∀ {n : Nat}, a + n ≤ b → x ≤ a → b + n ≤ y → y ≤ l.length → Mv l (swR l a b n) x y
  | 0, _, _, _, _ => Mv.refl _ _ _
  | n + 1, h1, h2, h3, h4 => by
    have ih := swR_mv (l := l) (a := a) (b := b) (x := x) (y := y) (n := n) (by omega) h2 (by omega) h4
    exact ih.trans (swL_mv (by omega) (by omega) (by rw [kGm]; exact h4))
def rotL (l : List Int) (m : Nat) : Nat → Nat → List Int
  | 0, _ => l
  | _, 0 => l
  | i + 1, j + 1 =>
    if i = j then swR l (m - (i + 1)) m (i + 1)
    else if j < i then rotL (swR l (m - (i + 1)) m (j + 1)) m (i - j) (j + 1)
    else rotL (swR l (m - (i + 1)) (m + (j + 1) - (i + 1)) (i + 1)) m (i + 1) (j - i)
  termination_by i j => i + j
theorem kG8 : ∀ (N : Nat) {l : List Int} {m i j : Nat}, i + j ≤ N → 1 ≤ i → 1 ≤ j → i ≤ m → m + j ≤ l.length →
    Mv l (rotL l m i j) (m - i) (m + j) ∧ ∀ p, (rotL l m i j)[p]? = if m - i ≤ p ∧ p < m - i + j then l[p + i]? else if m - i + j ≤ p ∧ p < m + j then l[p - j]? else l[p]?
  | 0, l, m, i, j, h, h1, _, _, _ => by omega
  | N + 1, l, m, 0, j, h, h1, _, _, _ => by omega
  | N + 1, l, m, i + 1, 0, h, _, h1, _, _ => by omega
  | N + 1, l, m, i + 1, j + 1, h, h1, h2, h3, h4 => by
    rw [rotL]
    by_cases c : i = j
    · subst c
      rw [if_pos rfl]
      refine ⟨swR_mv (by omega) (by omega) (by omega) h4, fun p => ?_⟩
      rw [swR_get (by omega) (by omega)]
      by_cases c1 : m - (i + 1) ≤ p ∧ p < m - (i + 1) + (i + 1)
      · rw [if_pos c1, if_pos c1]
        congr 1
        omega
      · rw [if_neg c1, if_neg c1]
        by_cases c2 : m ≤ p ∧ p < m + (i + 1)
        · rw [if_pos c2, if_pos (by omega)]
          congr 1
          omega
        · rw [if_neg c2, if_neg (by omega)]
    · rw [if_neg c]
      by_cases d : j < i
      · rw [if_pos d]
        have hl := kGm l (m - (i + 1)) m (j + 1)
        have hm : Mv l (swR l (m - (i + 1)) m (j + 1)) (m - (i + 1)) (m + (j + 1)) := swR_mv (by omega) (by omega) (by omega) h4
        obtain ⟨g1, g2⟩ := kG8 N (l := swR l (m - (i + 1)) m (j + 1)) (m := m) (i := i - j) (j := j + 1) (by omega) (by omega) (by omega) (by omega) (by omega)
        refine ⟨hm.trans (g1.wide (by omega) (by omega)), fun p => ?_⟩
        rw [g2]
        have s := fun p => swR_get (l := l) (a := m - (i + 1)) (b := m) (n := j + 1) (by omega) (by omega) p
        by_cases c1 : m - (i - j) ≤ p ∧ p < m - (i - j) + (j + 1)
        · rw [if_pos c1, s]
          by_cases c2 : m - (i + 1) ≤ p + (i - j) ∧ p + (i - j) < m - (i + 1) + (j + 1)
          · omega
          · rw [if_neg c2]
            by_cases c3 : m ≤ p + (i - j) ∧ p + (i - j) < m + (j + 1)
            · rw [if_pos c3]
              by_cases c4 : m - (i + 1) ≤ p ∧ p < m - (i + 1) + (j + 1)
              · omega
              · rw [if_neg c4, if_pos (by omega)]
                congr 1
                omega
            · omega
        · rw [if_neg c1]
          by_cases c2 : m - (i - j) + (j + 1) ≤ p ∧ p < m + (j + 1)
          · rw [if_pos c2, s, if_neg (by omega), if_neg (by omega), if_neg (by omega), if_pos (by omega)]
          · rw [if_neg c2, s]
            by_cases c3 : m - (i + 1) ≤ p ∧ p < m - (i + 1) + (j + 1)
            · rw [if_pos c3, if_pos c3]
              congr 1
              omega
            · rw [if_neg c3, if_neg (by omega), if_neg c3]
              by_cases c4 : m - (i + 1) + (j + 1) ≤ p ∧ p < m + (j + 1)
              · omega
              · rw [if_neg c4]
      · rw [if_neg d]
        have hl := kGm l (m - (i + 1)) (m + (j + 1) - (i + 1)) (i + 1)
        have hm : Mv l (swR l (m - (i + 1)) (m + (j + 1) - (i + 1)) (i + 1)) (m - (i + 1)) (m + (j + 1)) := swR_mv (by omega) (by omega) (by omega) h4
        obtain ⟨g1, g2⟩ := kG8 N (l := swR l (m - (i + 1)) (m + (j + 1) - (i + 1)) (i + 1)) (m := m) (i := i + 1) (j := j - i) (by omega) (by omega) (by omega) (by omega) (by omega)
        refine ⟨hm.trans (g1.wide (by omega) (by omega)), fun p => ?_⟩
        rw [g2]
        have s := fun p => swR_get (l := l) (a := m - (i + 1)) (b := m + (j + 1) - (i + 1)) (n := i + 1) (by omega) (by omega) p
        by_cases c1 : m - (i + 1) ≤ p ∧ p < m - (i + 1) + (j - i)
        · rw [if_pos c1, s, if_neg (by omega), if_neg (by omega), if_pos (by omega)]
        · rw [if_neg c1]
          by_cases c2 : m - (i + 1) + (j - i) ≤ p ∧ p < m + (j - i)
          · rw [if_pos c2, s]
            by_cases c3 : m - (i + 1) ≤ p - (j - i) ∧ p - (j - i) < m - (i + 1) + (i + 1)
            · rw [if_pos c3]
              by_cases c4 : m - (i + 1) ≤ p ∧ p < m - (i + 1) + (j + 1)
              · rw [if_pos c4]
                congr 1
                omega
              · omega
            · omega
          · rw [if_neg c2, s]
            by_cases c3 : m - (i + 1) ≤ p ∧ p < m - (i + 1) + (i + 1)
            · omega
            · rw [if_neg c3]
              by_cases c4 : m + (j + 1) - (i + 1) ≤ p ∧ p < m + (j + 1) - (i + 1) + (i + 1)
              · rw [if_pos c4, if_neg (by omega), if_pos (by omega)]
                congr 1
                omega
              · rw [if_neg c4, if_neg (by omega), if_neg (by omega)]
def kEj (Q : Nat → Bool) : Nat → Nat → Nat → Nat
  | 0, i, _ => i
  | f + 1, i, j => if i < j then (if Q ((i + j) / 2) then kEj Q f ((i + j) / 2 + 1) j else kEj Q f i ((i + j) / 2)) else i
theorem kFn {Q : Nat → Bool} : ∀ {f i j : Nat}, j ≤ i + f → i ≤ j → (∀ x y, i ≤ x → x < y → y < j → Q y = true → Q x = true) → i ≤ kEj Q f i j ∧ kEj Q f i j ≤ j ∧ (∀ x, i ≤ x → x < kEj Q f i j → Q x = true) ∧ ∀ x, kEj Q f i j ≤ x → x < j → Q x = false
  | 0, i, j, h1, h2, _ => ⟨Nat.le_refl _, h2, fun x a b => by rw [kEj] at b; omega, fun x a b => by rw [kEj] at a; omega⟩
  | f + 1, i, j, h1, h2, hm => by
    rw [kEj]
    by_cases c : i < j
    · rw [if_pos c]
      cases q : Q ((i + j) / 2) with
      | true =>
        rw [if_pos rfl]
        obtain ⟨g1, g2, g3, g4⟩ := kFn (Q := Q) (f := f) (i := (i + j) / 2 + 1) (j := j) (by omega) (by omega) fun x y a b d => hm x y (by omega) b d
        refine ⟨by omega, g2, fun x a b => ?_, g4⟩
        by_cases e : x < (i + j) / 2
        · exact hm x _ a e (by omega) q
        · by_cases e2 : x = (i + j) / 2
          · rw [e2]; exact q
          · exact g3 x (by omega) b
      | false =>
        rw [if_neg (by simp)]
        obtain ⟨g1, g2, g3, g4⟩ := kFn (Q := Q) (f := f) (i := i) (j := (i + j) / 2) (by omega) (by omega) fun x y a b d => hm x y a b (by omega)
        refine ⟨g1, by omega, g3, fun x a b => ?_⟩
        by_cases e : x < (i + j) / 2
        · exact g4 x a e
        · by_cases e2 : x = (i + j) / 2
          · rw [e2]; exact q
          · cases q2 : Q x with
            | false => rfl
            | true =>
              have := hm ((i + j) / 2) x (by omega) (by omega) b q2
              rw [q] at this
              cases this
    · rw [if_neg c]
      exact ⟨Nat.le_refl _, h2, fun x a b => by omega, fun x a b => by omega⟩
def shR (l : List Int) (a : Nat) : Nat → List Int
  | 0 => l
  | n + 1 => swL (shR l a n) (a + n) (a + n + 1)
theorem shR_len (l : List Int) (a : Nat) : ∀ n, (shR l a n).length = l.length
  | 0 => rfl
  | n + 1 => by rw [shR, swL_len, shR_len l a n]
theorem shR_get {l : List Int} {a : Nat} : ∀ {n : Nat}, a + n < l.length → ∀ p, (shR l a n)[p]? = if a ≤ p ∧ p < a + n then l[p + 1]? else if p = a + n then l[a]? else l[p]?
  | 0, h, p => by
    rw [if_neg (by omega)]
    by_cases c : p = a + 0
    · rw [if_pos c, c]; rfl
    · rw [if_neg c]; rfl
  | n + 1, h, p => by
    have hl := shR_len l a n
    have ih := fun p => shR_get (l := l) (a := a) (n := n) (by omega) p
    rw [shR, kGb (by omega) (by omega)]
    by_cases c1 : p = a + n + 1
    · rw [if_pos c1, ih, if_neg (by omega), if_pos rfl, if_neg (by omega), if_pos (by omega)]
    · rw [if_neg c1]
      by_cases c2 : p = a + n
      · rw [if_pos c2, ih, if_neg (by omega), if_neg (by omega), if_pos (by omega), c2]
      · rw [if_neg c2, ih]
        by_cases c3 : a ≤ p ∧ p < a + n
        · rw [if_pos c3, if_pos (by omega)]
        · rw [if_neg c3, if_neg c2, if_neg (by omega), if_neg (by omega)]
theorem shR_mv {l : List Int} {a b : Nat} (hb : b ≤ l.length) : ∀ {n : Nat}, a + n < b → Mv l (shR l a n) a b
  | 0, _ => Mv.refl _ _ _
  | n + 1, h => (shR_mv hb (by omega)).trans (swL_mv (by omega) (by omega) (by rw [shR_len]; exact hb))
def shL (l : List Int) (m : Nat) : Nat → List Int
  | 0 => l
  | n + 1 => swL (shL l m n) (m - n) (m - n - 1)
theorem shL_len (l : List Int) (m : Nat) : ∀ n, (shL l m n).length = l.length
  | 0 => rfl
  | n + 1 => by rw [shL, swL_len, shL_len l m n]
theorem shL_get {l : List Int} {m : Nat} (hm : m < l.length) : ∀ {n : Nat}, n ≤ m → ∀ p, (shL l m n)[p]? = if m - n < p ∧ p ≤ m then l[p - 1]? else if p = m - n then l[m]? else l[p]?
  | 0, h, p => by
    rw [if_neg (by omega)]
    by_cases c : p = m - 0
    · rw [if_pos c, c]; rfl
    · rw [if_neg c]; rfl
  | n + 1, h, p => by
    have hl := shL_len l m n
    have ih := fun p => shL_get (l := l) hm (n := n) (by omega) p
    rw [shL, kGb (by omega) (by omega)]
    by_cases c1 : p = m - n - 1
    · rw [if_pos c1, ih, if_neg (by omega), if_pos rfl, if_neg (by omega), if_pos (by omega)]
    · rw [if_neg c1]
      by_cases c2 : p = m - n
      · rw [if_pos c2, ih, if_neg (by omega), if_neg (by omega), if_pos (by omega), c2]
      · rw [if_neg c2, ih]
        by_cases c3 : m - n < p ∧ p ≤ m
        · rw [if_pos c3, if_pos (by omega)]
        · rw [if_neg c3, if_neg c2, if_neg (by omega), if_neg (by omega)]
theorem shL_mv {l : List Int} {m a b : Nat} (hm : m < b) (hb : b ≤ l.length) : ∀ {n : Nat}, a + n ≤ m → Mv l (shL l m n) a b
  | 0, _ => Mv.refl _ _ _
  | n + 1, h => (shL_mv hm hb (by omega)).trans (swL_mv (by omega) (by omega) (by rw [shL_len]; exact hb))
def atL (l : List Int) (p : Nat) : Int := (l[p]?).getD 0
def symM (c : Int → Int → Bool) : Nat → List Int → Nat → Nat → Nat → List Int
  | 0, l, _, _, _ => l
  | f + 1, l, a, m, b =>
    if m - a = 1 then shR l a (kEj (fun h => c (atL l h) (atL l a)) (b - m) m b - 1 - a)
    else if b - m = 1 then shL l m (m - kEj (fun h => !c (atL l m) (atL l h)) (m - a) a m)
    else
      let mid := (a + b) / 2
      let n := mid + m
      let s := kEj (fun k => !c (atL l (n - 1 - k)) (atL l k)) (b - a) (if mid < m then n - b else a) (if mid < m then mid else m)
      let e := n - s
      let l1 := if s < m ∧ m < e then rotL l m (m - s) (e - m) else l
      let l2 := if a < s ∧ s < mid then symM c f l1 a s mid else l1
      if mid < e ∧ e < b then symM c f l2 mid e b else l2
def SrtT (T : Int → Int → Prop) (l : List Int) (x y : Nat) : Prop := ∀ p q, x ≤ p → p < q → q < y → T (atL l p) (atL l q)
theorem kBl {l l' : List Int} {p q : Nat} (h : l'[p]? = l[q]?) : atL l' p = atL l q := by
  unfold atL
  rw [h]
theorem SrtT.out {T : Int → Int → Prop} {l l' : List Int} {a b x y : Nat} (h : SrtT T l x y) (hm : Mv l l' a b) (ho : y ≤ a ∨ b ≤ x) : SrtT T l' x y := fun p q h1 h2 h3 => by
  rw [kBl (hm.out p (by omega)), kBl (hm.out q (by omega))]
  exact h p q h1 h2 h3
theorem symM_spec {T : Int → Int → Prop} (tr : ∀ x y z, T x y → T y z → T x z) (ir : ∀ x, ¬ T x x) {c : Int → Int → Bool} : ∀ (f : Nat) {l : List Int} {a m b : Nat}, b - a ≤ f → a < m → m < b → b ≤ l.length → SrtT T l a m → SrtT T l m b →
    (∀ p q, a ≤ p → p < m → m ≤ q → q < b → (c (atL l q) (atL l p) = true → T (atL l q) (atL l p)) ∧ (c (atL l q) (atL l p) = false → T (atL l p) (atL l q))) → Mv l (symM c f l a m b) a b ∧ SrtT T (symM c f l a m b) a b
  | 0, l, a, m, b, h, h1, h2, _, _, _, _ => by omega
  | f + 1, l, a, m, b, hf, h1, h2, hb, sl, sr, cr => by
    rw [symM]
    by_cases c1 : m - a = 1
    · rw [if_pos c1]
      have mono : ∀ x y, m ≤ x → x < y → y < b → c (atL l y) (atL l a) = true → c (atL l x) (atL l a) = true := fun x y k1 k2 k3 k4 => by
        cases q : c (atL l x) (atL l a) with
        | true => rfl
        | false =>
          have t1 := (cr a y (by omega) (by omega) (by omega) k3).1 k4
          have t2 := (cr a x (by omega) (by omega) k1 (by omega)).2 q
          exact absurd (tr _ _ _ t2 (tr _ _ _ (sr x y k1 k2 k3) t1)) (ir _)
      obtain ⟨g1, g2, g3, g4⟩ := kFn (Q := fun h => c (atL l h) (atL l a)) (f := b - m) (i := m) (j := b) (by omega) (by omega) mono
      generalize kEj (fun h => c (atL l h) (atL l a)) (b - m) m b = s at g1 g2 g3 g4
      refine ⟨shR_mv hb (by omega), fun p q k1 k2 k3 => ?_⟩
      have gp := fun p => shR_get (l := l) (a := a) (n := s - 1 - a) (by omega) p
      by_cases d1 : q < a + (s - 1 - a)
      · rw [kBl ((gp p).trans (if_pos ⟨k1, by omega⟩)), kBl ((gp q).trans (if_pos ⟨by omega, d1⟩))]
        exact sr (p + 1) (q + 1) (by omega) (by omega) (by omega)
      · by_cases d2 : q = a + (s - 1 - a)
        · rw [kBl ((gp q).trans ((if_neg (by omega)).trans (if_pos d2))), kBl ((gp p).trans (if_pos ⟨k1, by omega⟩))]
          exact (cr a (p + 1) (by omega) (by omega) (by omega) (by omega)).1 (g3 (p + 1) (by omega) (by omega))
        · rw [kBl ((gp q).trans ((if_neg (by omega)).trans (if_neg d2)))]
          by_cases d3 : p < a + (s - 1 - a)
          · rw [kBl ((gp p).trans (if_pos ⟨k1, d3⟩))]
            exact sr (p + 1) q (by omega) (by omega) k3
          · by_cases d4 : p = a + (s - 1 - a)
            · rw [kBl ((gp p).trans ((if_neg (by omega)).trans (if_pos d4)))]
              exact (cr a q (by omega) (by omega) (by omega) k3).2 (g4 q (by omega) k3)
            · rw [kBl ((gp p).trans ((if_neg (by omega)).trans (if_neg d4)))]
              exact sr p q (by omega) k2 k3
    rw [if_neg c1]
    by_cases c2 : b - m = 1
    · rw [if_pos c2]
      have mono : ∀ x y, a ≤ x → x < y → y < m → (!c (atL l m) (atL l y)) = true → (!c (atL l m) (atL l x)) = true := fun x y k1 k2 k3 k4 => by
        rw [Bool.not_eq_true'] at k4 ⊢
        cases q : c (atL l m) (atL l x) with
        | false => rfl
        | true =>
          have t1 := (cr y m (by omega) k3 (by omega) (by omega)).2 k4
          have t2 := (cr x m k1 (by omega) (by omega) (by omega)).1 q
          exact absurd (tr _ _ _ (tr _ _ _ (sl x y k1 k2 k3) t1) t2) (ir _)
      obtain ⟨g1, g2, g3, g4⟩ := kFn (Q := fun h => !c (atL l m) (atL l h)) (f := m - a) (i := a) (j := m) (by omega) (by omega) mono
      generalize kEj (fun h => !c (atL l m) (atL l h)) (m - a) a m = s at g1 g2 g3 g4
      refine ⟨shL_mv h2 hb (by omega), fun p q k1 k2 k3 => ?_⟩
      have gp := fun p => shL_get (l := l) (m := m) (by omega) (n := m - s) (by omega) p
      by_cases d1 : m - (m - s) < p
      · rw [kBl ((gp p).trans (if_pos ⟨d1, by omega⟩)), kBl ((gp q).trans (if_pos ⟨by omega, by omega⟩))]
        exact sl (p - 1) (q - 1) (by omega) (by omega) (by omega)
      · by_cases d2 : p = m - (m - s)
        · rw [kBl ((gp p).trans ((if_neg (by omega)).trans (if_pos d2))), kBl ((gp q).trans (if_pos ⟨by omega, by omega⟩))]
          have := g4 (q - 1) (by omega) (by omega)
          rw [Bool.not_eq_false'] at this
          exact (cr (q - 1) m (by omega) (by omega) (by omega) (by omega)).1 this
        · rw [kBl ((gp p).trans ((if_neg (by omega)).trans (if_neg d2)))]
          by_cases d3 : m - (m - s) < q
          · rw [kBl ((gp q).trans (if_pos ⟨d3, by omega⟩))]
            by_cases d5 : p < q - 1
            · exact sl p (q - 1) k1 d5 (by omega)
            · omega
          · by_cases d4 : q = m - (m - s)
            · rw [kBl ((gp q).trans ((if_neg (by omega)).trans (if_pos d4)))]
              have := g3 p k1 (by omega)
              rw [Bool.not_eq_true'] at this
              exact (cr p m k1 (by omega) (by omega) (by omega)).2 this
            · rw [kBl ((gp q).trans ((if_neg (by omega)).trans (if_neg d4)))]
              exact sl p q k1 k2 (by omega)
    rw [if_neg c2]
    obtain ⟨mid, hmid⟩ : ∃ mid, mid = (a + b) / 2 := ⟨_, rfl⟩
    obtain ⟨s0, hs0⟩ : ∃ s0, s0 = if mid < m then mid + m - b else a := ⟨_, rfl⟩
    obtain ⟨r0, hr0⟩ : ∃ r0, r0 = if mid < m then mid else m := ⟨_, rfl⟩
    rw [← hmid]
    dsimp only
    rw [← hs0, ← hr0]
    have b1 : a ≤ s0 ∧ s0 ≤ r0 ∧ r0 ≤ m ∧ r0 ≤ mid ∧ mid + m ≤ s0 + b := by
      by_cases d : mid < m
      · rw [if_pos d] at hs0 hr0
        omega
      · rw [if_neg d] at hs0 hr0
        omega
    have mono : ∀ x y, s0 ≤ x → x < y → y < r0 → (!c (atL l (mid + m - 1 - y)) (atL l y)) = true → (!c (atL l (mid + m - 1 - x)) (atL l x)) = true := fun x y k1 k2 k3 k4 => by
      rw [Bool.not_eq_true'] at k4 ⊢
      cases q : c (atL l (mid + m - 1 - x)) (atL l x) with
      | false => rfl
      | true =>
        have t1 := (cr y (mid + m - 1 - y) (by omega) (by omega) (by omega) (by omega)).2 k4
        have t2 := (cr x (mid + m - 1 - x) (by omega) (by omega) (by omega) (by omega)).1 q
        have t3 := sl x y (by omega) k2 (by omega)
        have t4 := sr (mid + m - 1 - y) (mid + m - 1 - x) (by omega) (by omega) (by omega)
        exact absurd (tr _ _ _ (tr _ _ _ (tr _ _ _ t3 t1) t4) t2) (ir _)
    obtain ⟨g1, g2, g3, g4⟩ := kFn (Q := fun k => !c (atL l (mid + m - 1 - k)) (atL l k)) (f := b - a) (i := s0) (j := r0) (by omega) (by omega) mono
    generalize kEj (fun k => !c (atL l (mid + m - 1 - k)) (atL l k)) (b - a) s0 r0 = s at g1 g2 g3 g4
    obtain ⟨e, he⟩ : ∃ e, e = mid + m - s := ⟨_, rfl⟩
    rw [← he]
    have b2 : m ≤ e ∧ e ≤ b ∧ s ≤ m ∧ a ≤ s ∧ s ≤ mid ∧ mid ≤ e ∧ s + e = mid + m := by
      by_cases d : mid < m
      · rw [if_pos d] at hs0 hr0
        omega
      · rw [if_neg d] at hs0 hr0
        omega
    have x1 : ∀ p q, a ≤ p → p < s → e ≤ q → q < b → T (atL l p) (atL l q) := fun p q k1 k2 k3 k4 => by
      by_cases d : s0 < s
      · have := g3 (s - 1) (by omega) (by omega)
        rw [Bool.not_eq_true'] at this
        have t := (cr (s - 1) (mid + m - 1 - (s - 1)) (by omega) (by omega) (by omega) (by omega)).2 this
        have e1 : mid + m - 1 - (s - 1) = e := by omega
        rw [e1] at t
        have t1 : T (atL l p) (atL l e) := by
          by_cases d2 : p = s - 1
          · rw [d2]; exact t
          · exact tr _ _ _ (sl p (s - 1) k1 (by omega) (by omega)) t
        by_cases d3 : q = e
        · rw [d3]; exact t1
        · exact tr _ _ _ t1 (sr e q (by omega) (by omega) k4)
      · exfalso
        by_cases d2 : mid < m
        · rw [if_pos d2] at hs0 hr0
          omega
        · rw [if_neg d2] at hs0 hr0
          omega
    have x2 : ∀ p q, m ≤ p → p < e → s ≤ q → q < m → T (atL l p) (atL l q) := fun p q k1 k2 k3 k4 => by
      by_cases d : s < r0
      · have := g4 s (by omega) d
        rw [Bool.not_eq_false'] at this
        have t := (cr s (mid + m - 1 - s) (by omega) (by omega) (by omega) (by omega)).1 this
        have e1 : mid + m - 1 - s = e - 1 := by omega
        rw [e1] at t
        have t1 : T (atL l p) (atL l s) := by
          by_cases d2 : p = e - 1
          · rw [d2]; exact t
          · exact tr _ _ _ (sr p (e - 1) k1 (by omega) (by omega)) t
        by_cases d3 : q = s
        · rw [d3]; exact t1
        · exact tr _ _ _ t1 (sl s q (by omega) (by omega) k4)
      · exfalso
        by_cases d2 : mid < m
        · rw [if_pos d2] at hs0 hr0
          omega
        · rw [if_neg d2] at hs0 hr0
          omega
    obtain ⟨l1, hl1⟩ : ∃ l1, l1 = if s < m ∧ m < e then rotL l m (m - s) (e - m) else l := ⟨_, rfl⟩
    rw [← hl1]
    have ro : Mv l l1 s e ∧ ∀ p, l1[p]? = if s ≤ p ∧ p < mid then l[p + (m - s)]? else if mid ≤ p ∧ p < e then l[p - (e - m)]? else l[p]? := by
      by_cases d : s < m ∧ m < e
      · rw [if_pos d] at hl1
        obtain ⟨q1, q2⟩ := kG8 (m - s + (e - m)) (l := l) (m := m) (i := m - s) (j := e - m) (Nat.le_refl _) (by omega) (by omega) (by omega) (by omega)
        rw [hl1]
        refine ⟨q1.wide (by omega) (by omega), fun p => ?_⟩
        rw [q2]
        by_cases d1 : m - (m - s) ≤ p ∧ p < m - (m - s) + (e - m)
        · rw [if_pos d1, if_pos (by omega)]
        · rw [if_neg d1, if_neg (show ¬ (s ≤ p ∧ p < mid) by omega)]
          by_cases d2 : m - (m - s) + (e - m) ≤ p ∧ p < m + (e - m)
          · rw [if_pos d2, if_pos (by omega)]
          · rw [if_neg d2, if_neg (by omega)]
      · rw [if_neg d] at hl1
        rw [hl1]
        refine ⟨Mv.refl _ _ _, fun p => ?_⟩
        by_cases d1 : s ≤ p ∧ p < mid
        · rw [if_pos d1]
          congr 1
          omega
        · rw [if_neg d1]
          by_cases d2 : mid ≤ p ∧ p < e
          · rw [if_pos d2]
            congr 1
            omega
          · rw [if_neg d2]
    obtain ⟨m1, gt⟩ := ro
    have v1 : ∀ p, p < s → atL l1 p = atL l p := fun p k => kBl ((gt p).trans ((if_neg (by omega)).trans (if_neg (by omega))))
    have v2 : ∀ p, s ≤ p → p < mid → atL l1 p = atL l (p + (m - s)) := fun p k1 k2 => kBl ((gt p).trans (if_pos ⟨k1, k2⟩))
    have v3 : ∀ p, mid ≤ p → p < e → atL l1 p = atL l (p - (e - m)) := fun p k1 k2 => kBl ((gt p).trans ((if_neg (by omega)).trans (if_pos ⟨k1, k2⟩)))
    have v4 : ∀ p, e ≤ p → atL l1 p = atL l p := fun p k => kBl ((gt p).trans ((if_neg (by omega)).trans (if_neg (by omega))))
    have ll1 := m1.len
    have M1 : Mv l l1 a b := m1.wide (by omega) (by omega)
    have cross : ∀ p q, a ≤ p → p < mid → mid ≤ q → q < b → T (atL l1 p) (atL l1 q) := fun p q k1 k2 k3 k4 => by
      by_cases d1 : p < s
      · rw [v1 p d1]
        by_cases d2 : q < e
        · rw [v3 q k3 d2]
          exact sl p (q - (e - m)) k1 (by omega) (by omega)
        · rw [v4 q (by omega)]
          exact x1 p q k1 d1 (by omega) k4
      · rw [v2 p (by omega) k2]
        by_cases d2 : q < e
        · rw [v3 q k3 d2]
          exact x2 _ _ (by omega) (by omega) (by omega) (by omega)
        · rw [v4 q (by omega)]
          exact sr _ q (by omega) (by omega) k4
    have A1 : SrtT T l1 a s := fun p q k1 k2 k3 => by rw [v1 p (by omega), v1 q k3]; exact sl p q k1 k2 (by omega)
    have A2 : SrtT T l1 s mid := fun p q k1 k2 k3 => by rw [v2 p k1 (by omega), v2 q (by omega) k3]; exact sr _ _ (by omega) (by omega) (by omega)
    have A3 : SrtT T l1 mid e := fun p q k1 k2 k3 => by rw [v3 p k1 (by omega), v3 q (by omega) k3]; exact sl _ _ (by omega) (by omega) (by omega)
    have A4 : SrtT T l1 e b := fun p q k1 k2 k3 => by rw [v4 p k1, v4 q (by omega)]; exact sr p q (by omega) k2 k3
    obtain ⟨l2, hl2⟩ : ∃ l2, l2 = if a < s ∧ s < mid then symM c f l1 a s mid else l1 := ⟨_, rfl⟩
    rw [← hl2]
    have h2' : Mv l1 l2 a mid ∧ SrtT T l2 a mid := by
      by_cases d : a < s ∧ s < mid
      · rw [if_pos d] at hl2
        rw [hl2]
        exact symM_spec tr ir f (l := l1) (a := a) (m := s) (b := mid) (by omega) d.1 d.2 (by omega) A1 A2 fun p q k1 k2 k3 k4 => by
          rw [v1 p k2, v2 q k3 k4]
          exact cr p _ k1 (by omega) (by omega) (by omega)
      · rw [if_neg d] at hl2
        rw [hl2]
        refine ⟨Mv.refl _ _ _, fun p q k1 k2 k3 => ?_⟩
        by_cases d2 : a < s
        · exact A1 p q k1 k2 (by omega)
        · exact A2 p q (by omega) k2 k3
    obtain ⟨M2, S2⟩ := h2'
    have ll2 := M2.len
    have w : ∀ p, mid ≤ p → atL l2 p = atL l1 p := fun p k => kBl (M2.out p (by omega))
    obtain ⟨l3, hl3⟩ : ∃ l3, l3 = if mid < e ∧ e < b then symM c f l2 mid e b else l2 := ⟨_, rfl⟩
    rw [← hl3]
    have h3' : Mv l2 l3 mid b ∧ SrtT T l3 mid b := by
      by_cases d : mid < e ∧ e < b
      · rw [if_pos d] at hl3
        rw [hl3]
        exact symM_spec tr ir f (l := l2) (a := mid) (m := e) (b := b) (by omega) d.1 d.2 (by omega) (A3.out M2 (by omega)) (A4.out M2 (by omega)) fun p q k1 k2 k3 k4 => by
          rw [w p k1, w q (by omega), v3 p k1 k2, v4 q k3]
          exact cr _ q (by omega) (by omega) (by omega) k4
      · rw [if_neg d] at hl3
        rw [hl3]
        refine ⟨Mv.refl _ _ _, fun p q k1 k2 k3 => ?_⟩
        rw [w p k1, w q (by omega)]
        by_cases d2 : mid < e
        · exact A3 p q k1 k2 (by omega)
        · exact A4 p q (by omega) k2 k3
    obtain ⟨M3, S3⟩ := h3'
    refine ⟨(M1.trans (M2.wide (by omega) (by omega))).trans (M3.wide (by omega) (by omega)), fun p q k1 k2 k3 => ?_⟩
    by_cases d1 : q < mid
    · rw [kBl (M3.out p (by omega)), kBl (M3.out q (by omega))]
      exact S2 p q k1 k2 d1
    · by_cases d2 : mid ≤ p
      · exact S3 p q d2 k2 k3
      · rw [kBl (M3.out p (by omega))]
        obtain ⟨p', p1, p2, p3⟩ := M2.inn p k1 (by omega)
        obtain ⟨q', q1, q2, q3⟩ := M3.inn q (by omega) k3
        rw [kBl p3, kBl q3, w q' q1]
        exact cross p' q' p1 p2 q1 q2
theorem kFc {l : List Int} {i : Nat} {v : Int} : kC9 (some l) (i : Int) v = some (l.set i v) := rfl
theorem swT {l : List Int} {i j : Nat} {u v : Int} (hi : l[i]? = some u) (hj : l[j]? = some v) : kC9 (kC9 (some l) (i : Int) v) (j : Int) u = some (swL l i j) := by
  unfold swL
  rw [hi, hj, kFc, kFc]
theorem getT {l : List Int} {i : Nat} (h : i < l.length) : kBp ((some l : Sl Int).getD []) (i : Int) = some (atL l i) := by
  rw [Option.getD_some]
  refine kAv ?_
  unfold atL
  rw [List.getElem?_eq_getElem h]
  rfl
theorem kDx {l : List Int} {i : Nat} (h : i < l.length) : l[i]? = some (atL l i) := by
  unfold atL
  rw [List.getElem?_eq_getElem h]
  rfl
theorem kGq (P : Int → Int → Option Int) {l : List Int} {a b n : Nat} (h1 : a + n ≤ b) (h2 : b + n ≤ l.length) (hl : l.length ≤ 1000000) : t_q35 P (some l) (a : Int) (b : Int) (n : Int) = some (some (swR l a b n)) := by
  have lp := kGy (step := s0_q35 P (a : Int) (b : Int) (n : Int)) n (fun k => ((some (swR l a b k) : Sl Int), (k : Int))) (some (swR l a b n))
    (fun k hk => by
      have c : decide ((k : Int) < (n : Int)) = true := decide_eq_true (by omega)
      have w1 : wr ((b : Int) + k) = ((b + k : Nat) : Int) := by rw [kBj (by omega) (by omega)]; omega
      have w2 : wr ((a : Int) + k) = ((a + k : Nat) : Int) := by rw [kBj (by omega) (by omega)]; omega
      have ws := kC7 hk (by omega : n ≤ 4294967296)
      have hl' := kGm l a b k
      have g1 := getT (l := swR l a b k) (i := b + k) (by omega)
      have g2 := getT (l := swR l a b k) (i := a + k) (by omega)
      have g3 : kBp ((kC9 (some (swR l a b k)) ((a + k : Nat) : Int) (atL (swR l a b k) (b + k))).getD []) ((b + k : Nat) : Int) = some (atL (swR l a b k) (b + k)) := by
        rw [kFc, Option.getD_some]
        refine kAv ?_
        by_cases e : b + k = a + k
        · rw [e, List.getElem?_set_self (by omega)]
        · rw [List.getElem?_set_ne (by omega), kDx (by omega)]
      unfold s0_q35
      simp only [c, cond_true, w1, w2, g1, g2, g3, kA2, ws]
      rw [swT (kDx (by omega)) (kDx (by omega))]
      rfl)
    (by
      unfold s0_q35
      simp only [Int.lt_irrefl, decide_false, cond_false]) 0 (by omega)
  have lp' : kBa (s0_q35 P (a : Int) (b : Int) (n : Int)) ((some l : Sl Int), 0) = some (some (swR l a b n)) := lp
  unfold t_q35
  rw [lp', kA2]
theorem rotLoop (P : Int → Int → Option Int) : ∀ (N : Nat) {l : List Int} {m i j : Nat}, i + j ≤ N → 1 ≤ i → 1 ≤ j → i ≤ m → m + j ≤ l.length → l.length ≤ 1000000 →
    ∃ (l' : List Int) (k : Nat), kBa (s0_q33 P (m : Int)) ((some l : Sl Int), (i : Int), (j : Int)) = some ((some l' : Sl Int), (k : Int)) ∧ k ≤ m ∧ m + k ≤ l'.length ∧ l'.length = l.length ∧ swR l' (m - k) m k = rotL l m i j
  | 0, l, m, i, j, h, h1, _, _, _, _ => by omega
  | N + 1, l, m, 0, j, h, h1, _, _, _, _ => by omega
  | N + 1, l, m, i + 1, 0, h, _, h1, _, _, _ => by omega
  | N + 1, l, m, i + 1, j + 1, h, h1, h2, h3, h4, h5 => by
    rw [rotL]
    by_cases c : i = j
    · subst c
      rw [if_pos rfl]
      refine ⟨l, i + 1, ?_, by omega, by omega, rfl, rfl⟩
      refine kB7 ?_
      unfold s0_q33
      simp only [decide_true, Bool.not_true, cond_false]
    · rw [if_neg c]
      have d : decide (((i + 1 : Nat) : Int) = ((j + 1 : Nat) : Int)) = false := decide_eq_false (by omega)
      have w1 : wr ((m : Int) - ((i + 1 : Nat) : Int)) = ((m - (i + 1) : Nat) : Int) := by rw [kBj (by omega) (by omega)]; omega
      by_cases e : j < i
      · rw [if_pos e]
        have hl := kGm l (m - (i + 1)) m (j + 1)
        obtain ⟨l', k, g1, g2⟩ := rotLoop P N (l := swR l (m - (i + 1)) m (j + 1)) (m := m) (i := i - j) (j := j + 1) (by omega) (by omega) (by omega) (by omega) (by omega) (by omega)
        refine ⟨l', k, ?_, g2.1, g2.2.1, by rw [g2.2.2.1, hl], g2.2.2.2⟩
        have d2 : decide (((j + 1 : Nat) : Int) < ((i + 1 : Nat) : Int)) = true := decide_eq_true (by omega)
        have w2 : wr (((i + 1 : Nat) : Int) - ((j + 1 : Nat) : Int)) = ((i - j : Nat) : Int) := by rw [kBj (by omega) (by omega)]; omega
        have sr := kGq P (l := l) (a := m - (i + 1)) (b := m) (n := j + 1) (by omega) (by omega) h5
        rw [kBg (s' := ((some (swR l (m - (i + 1)) m (j + 1)) : Sl Int), ((i - j : Nat) : Int), ((j + 1 : Nat) : Int))), g1]
        unfold s0_q33
        simp only [d, Bool.not_false, cond_true, d2, w1, w2, sr, kA2]
      · rw [if_neg e]
        have hl := kGm l (m - (i + 1)) (m + (j + 1) - (i + 1)) (i + 1)
        obtain ⟨l', k, g1, g2⟩ := rotLoop P N (l := swR l (m - (i + 1)) (m + (j + 1) - (i + 1)) (i + 1)) (m := m) (i := i + 1) (j := j - i) (by omega) (by omega) (by omega) (by omega) (by omega) (by omega)
        refine ⟨l', k, ?_, g2.1, g2.2.1, by rw [g2.2.2.1, hl], g2.2.2.2⟩
        have d2 : decide (((j + 1 : Nat) : Int) < ((i + 1 : Nat) : Int)) = false := decide_eq_false (by omega)
        have w2 : wr (((j + 1 : Nat) : Int) - ((i + 1 : Nat) : Int)) = ((j - i : Nat) : Int) := by rw [kBj (by omega) (by omega)]; omega
        have w3 : wr ((m : Int) + ((j + 1 : Nat) : Int)) = ((m + (j + 1) : Nat) : Int) := by rw [kBj (by omega) (by omega)]; omega
        have w4 : wr (((m + (j + 1) : Nat) : Int) - ((i + 1 : Nat) : Int)) = ((m + (j + 1) - (i + 1) : Nat) : Int) := by rw [kBj (by omega) (by omega)]; omega
        have sr := kGq P (l := l) (a := m - (i + 1)) (b := m + (j + 1) - (i + 1)) (n := i + 1) (by omega) (by omega) h5
        rw [kBg (s' := ((some (swR l (m - (i + 1)) (m + (j + 1) - (i + 1)) (i + 1)) : Sl Int), ((i + 1 : Nat) : Int), ((j - i : Nat) : Int))), g1]
        unfold s0_q33
        simp only [d, Bool.not_false, cond_true, cond_false, d2, w1, w2, w3, w4, sr, kA2]
theorem rotate_ok (P : Int → Int → Option Int) {l : List Int} {a m b : Nat} (h1 : a < m) (h2 : m < b) (h3 : b ≤ l.length) (hl : l.length ≤ 1000000) : kHv P (some l) (a : Int) (m : Int) (b : Int) = some (some (rotL l m (m - a) (b - m))) := by
  obtain ⟨l', k, g1, g2, g3, g4, g5⟩ := rotLoop P (m - a + (b - m)) (l := l) (m := m) (i := m - a) (j := b - m) (Nat.le_refl _) (by omega) (by omega) (by omega) (by omega) hl
  have w1 : wr ((m : Int) - (a : Int)) = ((m - a : Nat) : Int) := by rw [kBj (by omega) (by omega)]; omega
  have w2 : wr ((b : Int) - (m : Int)) = ((b - m : Nat) : Int) := by rw [kBj (by omega) (by omega)]; omega
  have w3 : wr ((m : Int) - (k : Int)) = ((m - k : Nat) : Int) := by rw [kBj (by omega) (by omega)]; omega
  have sr := kGq P (l := l') (a := m - k) (b := m) (n := k) (by omega) (by omega) (by omega)
  unfold kHv
  simp only [w1, w2, g1, kA2, w3, sr, g5]
theorem half_ok {step : Int × Int → Option (Sum (Int × Int) Int)} {Q : Nat → Bool} {I J : Nat} (hs : ∀ i j : Nat, I ≤ i → i < j → j ≤ J → step ((i : Int), (j : Int)) = some (.inl (if Q ((i + j) / 2) then ((((i + j) / 2 + 1 : Nat) : Int), (j : Int)) else ((i : Int), (((i + j) / 2 : Nat) : Int)))))
    (he : ∀ i j : Nat, ¬ i < j → step ((i : Int), (j : Int)) = some (.inr (i : Int))) : ∀ (f : Nat) {i j : Nat}, j ≤ i + f → I ≤ i → j ≤ J → kBa step ((i : Int), (j : Int)) = some ((kEj Q f i j : Nat) : Int)
  | 0, i, j, h, _, _ => by
    rw [kEj]
    exact kB7 (he i j (by omega))
  | f + 1, i, j, h, h1, h2 => by
    rw [kEj]
    by_cases c : i < j
    · rw [if_pos c]
      cases q : Q ((i + j) / 2) with
      | true =>
        rw [if_pos rfl, kBg (s' := ((((i + j) / 2 + 1 : Nat) : Int), (j : Int)))]
        · exact half_ok hs he f (by omega) (by omega) h2
        · rw [hs i j h1 c h2, q, if_pos rfl]
      | false =>
        rw [if_neg (by simp), kBg (s' := ((i : Int), (((i + j) / 2 : Nat) : Int)))]
        · exact half_ok hs he f (by omega) h1 (by omega)
        · rw [hs i j h1 c h2, q, if_neg (by simp)]
    · rw [if_neg c]
      exact kB7 (he i j c)
theorem midS_ok {a b : Nat} (h : a + b ≤ 4000000) : wr (Int.fdiv (IntKind.u64.wrap (wr ((a : Int) + (b : Int)))) (2 ^ 1)) = (((a + b) / 2 : Nat) : Int) := by
  have w1 : wr ((a : Int) + (b : Int)) = ((a + b : Nat) : Int) := by rw [kBj (by omega) (by omega)]; omega
  have w2 : IntKind.u64.wrap ((a + b : Nat) : Int) = ((a + b : Nat) : Int) := by
    simp only [IntKind.wrap, IntKind.bits, IntKind.signed]
    simp only [Bool.false_and, Bool.false_eq_true, if_false]
    omega
  have w3 : Int.fdiv ((a + b : Nat) : Int) (2 ^ 1) = (((a + b) / 2 : Nat) : Int) := by
    rw [Int.fdiv_eq_ediv_of_nonneg _ (by decide)]
    show ((a + b : Nat) : Int) / 2 = _
    omega
  rw [w1, w2, w3, kBj (by omega) (by omega)]
def OkP (P : Int → Int → Option Int) (c : Int → Int → Bool) (n : Nat) : Prop := ∀ u v : Int, 0 ≤ u → u < n → 0 ≤ v → v < n → ∃ r, P u v = some r ∧ decide (r < 0) = c u v
def InN (l : List Int) (n : Nat) : Prop := ∀ x ∈ l, 0 ≤ x ∧ x < (n : Int)
theorem InN.at {l : List Int} {n i : Nat} (h : InN l n) (hi : i < l.length) : 0 ≤ atL l i ∧ atL l i < (n : Int) := h _ (List.mem_of_getElem? (kDx hi))
theorem InN.perm {l l' : List Int} {n : Nat} (h : InN l n) (hp : l'.Perm l) : InN l' n := fun x hx => h x (hp.mem_iff.1 hx)
end Go.Proofs.Ytfhffgfbnlikjaa
