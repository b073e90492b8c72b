import Derived.Test.YtfhffgfbnlikjaaFnExactLinesOfPartA
namespace Go.Proofs.Ytfhffgfbnlikjaa
open Go Go.Eng Go.Eng.Cod
set_option maxRecDepth 100000
set_option linter.unusedVariables false
set_option linter.unusedSimpArgs false
theorem tl4_q35 (env : Nat → Contract) {B : Base} {g : Nat} {f_ : List AV → Option AV} {P : Int → Int → Option Int} {o_ : Nat} {cv_ : AV} (he_g : env g = .pure f_) (hp : ∀ a b h, h[o_]? = some ⟨1, [[cv_]]⟩ → Sim (kAa f_ [iv a, iv b, AV.ptr o_ 1 0 0] h) (P a b) fun c r => r = (iv c, h)) {rec_ : Sl Int → Int → Int → Int → Option (Sl Int)} {F_slices_rotateCmpFunc_int64 : List AV → kA4 → Option (AV × kA4)} (he_q32 : env kGn = .gen F_slices_rotateCmpFunc_int64) (S_slices_rotateCmpFunc_int64 : ∀ {B : Base} {h : kA4} {x : AV} (d : Sl Int) (a0 a1 a2 : Int), Hold B h [(x, obS (d : Sl Int)), pZ9 o_ 1 [cv_]] → Sim (F_slices_rotateCmpFunc_int64 [x, iv a0, iv a1, iv a2, AV.fn g [AV.ptr o_ 1 0 0]] h) (kH5 P d a0 a1 a2) fun c p => p.1 = AV.tup [] ∧ Hold B p.2 [(x, obS (c : Sl Int)), pZ9 o_ 1 [cv_]]) {F_slices_symMergeCmpFunc_int64 : List AV → kA4 → Option (AV × kA4)} (he_q35 : env kD0 = .gen F_slices_symMergeCmpFunc_int64) (S_slices_symMergeCmpFunc_int64 : ∀ {B : Base} {h : kA4} {x : AV} (d : Sl Int) (a0 a1 a2 : Int), Hold B h [(x, obS (d : Sl Int)), pZ9 o_ 1 [cv_]] → Sim (F_slices_symMergeCmpFunc_int64 [x, iv a0, iv a1, iv a2, AV.fn g [AV.ptr o_ 1 0 0]] h) (rec_ d a0 a1 a2) fun c p => p.1 = AV.tup [] ∧ Hold B p.2 [(x, obS (c : Sl Int)), pZ9 o_ 1 [cv_]]) (xd_ : AV) (a_ : Int) (m_ : Int) (b_ : Int) (q8 : Int) (q9 : Int) (z10 : AV)  : kHw (fun (st : (Sl Int) × Int) tm h12 => match st with | (w11, w14) => tm = (xd_ :: (iv a_) :: (iv m_) :: (iv b_) :: (AV.fn g [AV.ptr o_ 1 0 0]) :: und :: und :: und :: und :: und :: (iv q8) :: (iv q9) :: z10 :: (iv w14) :: und :: und :: und :: und :: und :: und :: und :: und :: und :: und :: und :: (iv m_) :: (iv a_) :: (iv (wr (m_ - a_))) :: (bv (decide (wr (m_ - a_) = 1))) :: (iv m_) :: (iv b_) :: .top :: .top :: .top :: .top :: .top :: .top :: .top :: .top :: .top :: .top :: .top :: .top :: .top :: .top :: .top :: .top :: .top :: .top :: .top :: .top :: .top :: .top :: .top :: (iv a_) :: tZ9 22 [und, und, und, und, und, und, und, und, und, und, und, und, und, und, und, und, und, und, und, und, und, und, und, und, und, und, und, und, und, und, und, und, und, und, und, und, und, und, und, und, und, und, und, und, und, und, und, und, und, und, und, und, und, und, und, und, und, und, und, und, und, und, und, und, und, und, und, und, und, und, und, und, und, und, und, und, und, und, und, und, und, und, und, und, und, und, und, und, und, und, und, und, und, und, und, und, und, und, und, und, und, und, und, und, und, und, und, und, und, und, und, und, und, und, und, und, und, und, und, und, und, und, und, und, und, und, und, und, und, und, und, und, und, und, und, und, und, und, und, und, und, und, und]) ∧ Hold B h12 [(xd_, obS (w11 : Sl Int)), pZ9 o_ 1 [cv_]]) hm4_q35 xm4_q35 (lb4_q35 env) (s4_q35 P q8) (fun (q : Sl Int) (r : Res) => match q with | q17 => ∃ (q18 : Int) (h15 : kA4), r = (.exit 2, (xd_ :: (iv a_) :: (iv m_) :: (iv b_) :: (AV.fn g [AV.ptr o_ 1 0 0]) :: und :: und :: und :: und :: und :: (iv q8) :: (iv q9) :: z10 :: (iv q18) :: und :: und :: und :: und :: und :: und :: und :: und :: und :: und :: und :: (iv m_) :: (iv a_) :: (iv (wr (m_ - a_))) :: (bv (decide (wr (m_ - a_) = 1))) :: (iv m_) :: (iv b_) :: .top :: .top :: .top :: .top :: .top :: .top :: .top :: .top :: .top :: .top :: .top :: .top :: .top :: .top :: .top :: .top :: .top :: .top :: .top :: .top :: .top :: .top :: .top :: (iv a_) :: tZ9 22 [und, und, und, und, und, und, und, und, und, und, und, und, und, und, und, und, und, und, und, und, und, und, und, und, und, und, und, und, und, und, und, und, und, und, und, und, und, und, und, und, und, und, und, und, und, und, und, und, und, und, und, und, und, und, und, und, und, und, und, und, und, und, und, und, und, und, und, und, und, und, und, und, und, und, und, und, und, und, und, und, und, und, und, und, und, und, und, und, und, und, und, und, und, und, und, und, und, und, und, und, und, und, und, und, und, und, und, und, und, und, und, und, und, und, und, und, und, und, und, und, und, und, und, und, und, und, und, und, und, und, und, und, und, und, und, und, und, und, und, und, und, und, und]), h15) ∧ Hold B h15 [(xd_, obS (q17 : Sl Int)), pZ9 o_ 1 [cv_]]) := by
  refine @lpZ9 _ _ _ _ _ _ _ _ (fun st tm h12 R => ?_)
  obtain ⟨w11, w14⟩ := st
  obtain ⟨rfl, O13⟩ := R
  rw [e_lb4_q35]
  unfold s4_q35
  dsimp only
  refine kA1 (kAx _ _) ?_
  refine kA1 (kAb _ _) ?_
  refine kA9 (fun c19 => ?_) (fun c19 => ?_)
  · refine kA1 (kAl _ _) ?_
    refine kA1 (kAl _ _) ?_
    refine kAk (O13.tab (A := Int) (s := w11) 0 rfl) (fun m21 a20 hi22 hm23 => ?_)
    refine kA1 (v := iv a20) ((O13.tab (A := Int) (s := w11) 0 rfl).ld hm23 false 1 0) ?_
    refine kAk (O13.tab (A := Int) (s := w11) 0 rfl) (fun m25 a24 hi26 hm27 => ?_)
    refine kA1 (v := iv a24) ((O13.tab (A := Int) (s := w11) 0 rfl).ld hm27 false 1 0) ?_
    refine kAk (O13.tab (A := Int) (s := w11) 0 rfl) (fun m29 a28 hi30 hm31 => ?_)
    refine kFj (A := Int) O13 0 a20 rfl hi30 hm31 rfl (by first | (simp; done) | exact Nat.le_of_ble_eq_true rfl) (by first | rfl | simp) (by first | rfl | simp [kB9]) (fun h32 O33 => ?_)
    replace O33 : Hold B h32 [(xd_, obS ((kC4 w11 w14 a20) : Sl Int)), pZ9 o_ 1 [cv_]] := O33
    refine kAk (O33.tab (A := Int) (s := (kC4 w11 w14 a20)) 0 rfl) (fun m35 a34 hi36 hm37 => ?_)
    refine kFj (A := Int) O33 0 a24 rfl hi36 hm37 rfl (by first | (simp; done) | exact Nat.le_of_ble_eq_true rfl) (by first | rfl | simp) (by first | rfl | simp [kB9]) (fun h38 O39 => ?_)
    replace O39 : Hold B h38 [(xd_, obS ((kC4 (kC4 w11 w14 a20) (wr (w14 + 1)) a24) : Sl Int)), pZ9 o_ 1 [cv_]] := O39
    refine kA1 (kAl _ _) ?_
    exact kA6 ⟨rfl, rfl, O39⟩
  · exact kA6 ⟨nofun, _, _, rfl, O13⟩
theorem tl0_q35 (env : Nat → Contract) {B : Base} {g : Nat} {f_ : List AV → Option AV} {P : Int → Int → Option Int} {o_ : Nat} {cv_ : AV} (he_g : env g = .pure f_) (hp : ∀ a b h, h[o_]? = some ⟨1, [[cv_]]⟩ → Sim (kAa f_ [iv a, iv b, AV.ptr o_ 1 0 0] h) (P a b) fun c r => r = (iv c, h)) {rec_ : Sl Int → Int → Int → Int → Option (Sl Int)} {F_slices_rotateCmpFunc_int64 : List AV → kA4 → Option (AV × kA4)} (he_q32 : env kGn = .gen F_slices_rotateCmpFunc_int64) (S_slices_rotateCmpFunc_int64 : ∀ {B : Base} {h : kA4} {x : AV} (d : Sl Int) (a0 a1 a2 : Int), Hold B h [(x, obS (d : Sl Int)), pZ9 o_ 1 [cv_]] → Sim (F_slices_rotateCmpFunc_int64 [x, iv a0, iv a1, iv a2, AV.fn g [AV.ptr o_ 1 0 0]] h) (kH5 P d a0 a1 a2) fun c p => p.1 = AV.tup [] ∧ Hold B p.2 [(x, obS (c : Sl Int)), pZ9 o_ 1 [cv_]]) {F_slices_symMergeCmpFunc_int64 : List AV → kA4 → Option (AV × kA4)} (he_q35 : env kD0 = .gen F_slices_symMergeCmpFunc_int64) (S_slices_symMergeCmpFunc_int64 : ∀ {B : Base} {h : kA4} {x : AV} (d : Sl Int) (a0 a1 a2 : Int), Hold B h [(x, obS (d : Sl Int)), pZ9 o_ 1 [cv_]] → Sim (F_slices_symMergeCmpFunc_int64 [x, iv a0, iv a1, iv a2, AV.fn g [AV.ptr o_ 1 0 0]] h) (rec_ d a0 a1 a2) fun c p => p.1 = AV.tup [] ∧ Hold B p.2 [(x, obS (c : Sl Int)), pZ9 o_ 1 [cv_]]) (data_ : Sl Int) (xd_ : AV) (a_ : Int) (m_ : Int) (b_ : Int)  : kHw (fun (st : Int × Int) tm h2 => match st with | (w4, w5) => tm = (xd_ :: (iv a_) :: (iv m_) :: (iv b_) :: (AV.fn g [AV.ptr o_ 1 0 0]) :: und :: und :: und :: und :: und :: (iv w4) :: (iv w5) :: .top :: und :: und :: und :: und :: und :: und :: und :: und :: und :: und :: und :: und :: (iv m_) :: (iv a_) :: (iv (wr (m_ - a_))) :: (bv (decide (wr (m_ - a_) = 1))) :: (iv m_) :: (iv b_) :: tZ9 23 [und, und, und, und, und, und, und, und, und, und, und, und, und, und, und, und, und, und, und, und, und, und, und, und, und, und, und, und, und, und, und, und, und, und, und, und, und, und, und, und, und, und, und, und, und, und, und, und, und, und, und, und, und, und, und, und, und, und, und, und, und, und, und, und, und, und, und, und, und, und, und, und, und, und, und, und, und, und, und, und, und, und, und, und, und, und, und, und, und, und, und, und, und, und, und, und, und, und, und, und, und, und, und, und, und, und, und, und, und, und, und, und, und, und, und, und, und, und, und, und, und, und, und, und, und, und, und, und, und, und, und, und, und, und, und, und, und, und, und, und, und, und, und, und, und, und, und, und, und, und, und, und, und, und, und, und, und, und, und, und, und, und, und, und, und, und]) ∧ Hold B h2 [(xd_, obS (data_ : Sl Int)), pZ9 o_ 1 [cv_]]) hm0_q35 xm0_q35 (lb0_q35 env) (s0_q35 P data_ a_) (fun (q : Int) (r : Res) => match q with | q8 => ∃ (q9 : Int) (z10 : AV) (h6 : kA4), r = (.exit 0, (xd_ :: (iv a_) :: (iv m_) :: (iv b_) :: (AV.fn g [AV.ptr o_ 1 0 0]) :: und :: und :: und :: und :: und :: (iv q8) :: (iv q9) :: z10 :: und :: und :: und :: und :: und :: und :: und :: und :: und :: und :: und :: und :: (iv m_) :: (iv a_) :: (iv (wr (m_ - a_))) :: (bv (decide (wr (m_ - a_) = 1))) :: (iv m_) :: (iv b_) :: tZ9 23 [und, und, und, und, und, und, und, und, und, und, und, und, und, und, und, und, und, und, und, und, und, und, und, und, und, und, und, und, und, und, und, und, und, und, und, und, und, und, und, und, und, und, und, und, und, und, und, und, und, und, und, und, und, und, und, und, und, und, und, und, und, und, und, und, und, und, und, und, und, und, und, und, und, und, und, und, und, und, und, und, und, und, und, und, und, und, und, und, und, und, und, und, und, und, und, und, und, und, und, und, und, und, und, und, und, und, und, und, und, und, und, und, und, und, und, und, und, und, und, und, und, und, und, und, und, und, und, und, und, und, und, und, und, und, und, und, und, und, und, und, und, und, und, und, und, und, und, und, und, und, und, und, und, und, und, und, und, und, und, und, und, und, und, und, und, und]), h6) ∧ Hold B h6 [(xd_, obS (data_ : Sl Int)), pZ9 o_ 1 [cv_]]) := by
  refine @lpZ9 _ _ _ _ _ _ _ _ (fun st tm h2 R => ?_)
  obtain ⟨w4, w5⟩ := st
  obtain ⟨rfl, O3⟩ := R
  rw [e_lb0_q35]
  unfold s0_q35
  dsimp only
  refine kA1 (kAb _ _) ?_
  refine kA9 (fun c44 => ?_) (fun c44 => ?_)
  · refine kA1 (kAl _ _) ?_
    refine kA1 (v := AV.sc (.int .u64 (IntKind.u64.wrap (wr (w4 + w5))))) rfl ?_
    refine kA1 (v := AV.sc (.int .u64 (Int.fdiv (IntKind.u64.wrap (wr (w4 + w5))) (2 ^ 1)))) rfl ?_
    refine kA1 (v := iv (wr (Int.fdiv (IntKind.u64.wrap (wr (w4 + w5))) (2 ^ 1)))) rfl ?_
    refine kAk (O3.tab (A := Int) (s := data_) 0 rfl) (fun m46 a45 hi47 hm48 => ?_)
    refine kA1 (v := iv a45) ((O3.tab (A := Int) (s := data_) 0 rfl).ld hm48 false 1 0) ?_
    refine kAk (O3.tab (A := Int) (s := data_) 0 rfl) (fun m50 a49 hi51 hm52 => ?_)
    refine kA1 (v := iv a49) ((O3.tab (A := Int) (s := data_) 0 rfl).ld hm52 false 1 0) ?_
    refine kEy he_g (hp a45 a49 _ (O3.ptr (i := 1) rfl)) (fun c53 => ?_)
    refine kA1 (kAb _ _) ?_
    refine kA9 (fun c54 => ?_) (fun c54 => ?_)
    · refine kA1 (kAl _ _) ?_
      exact kA6 ⟨rfl, rfl, O3⟩
    · exact kA6 ⟨rfl, rfl, O3⟩
  · exact kA6 ⟨nofun, _, _, _, rfl, O3⟩
theorem tl5_q35 (env : Nat → Contract) {B : Base} {g : Nat} {f_ : List AV → Option AV} {P : Int → Int → Option Int} {o_ : Nat} {cv_ : AV} (he_g : env g = .pure f_) (hp : ∀ a b h, h[o_]? = some ⟨1, [[cv_]]⟩ → Sim (kAa f_ [iv a, iv b, AV.ptr o_ 1 0 0] h) (P a b) fun c r => r = (iv c, h)) {rec_ : Sl Int → Int → Int → Int → Option (Sl Int)} {F_slices_rotateCmpFunc_int64 : List AV → kA4 → Option (AV × kA4)} (he_q32 : env kGn = .gen F_slices_rotateCmpFunc_int64) (S_slices_rotateCmpFunc_int64 : ∀ {B : Base} {h : kA4} {x : AV} (d : Sl Int) (a0 a1 a2 : Int), Hold B h [(x, obS (d : Sl Int)), pZ9 o_ 1 [cv_]] → Sim (F_slices_rotateCmpFunc_int64 [x, iv a0, iv a1, iv a2, AV.fn g [AV.ptr o_ 1 0 0]] h) (kH5 P d a0 a1 a2) fun c p => p.1 = AV.tup [] ∧ Hold B p.2 [(x, obS (c : Sl Int)), pZ9 o_ 1 [cv_]]) {F_slices_symMergeCmpFunc_int64 : List AV → kA4 → Option (AV × kA4)} (he_q35 : env kD0 = .gen F_slices_symMergeCmpFunc_int64) (S_slices_symMergeCmpFunc_int64 : ∀ {B : Base} {h : kA4} {x : AV} (d : Sl Int) (a0 a1 a2 : Int), Hold B h [(x, obS (d : Sl Int)), pZ9 o_ 1 [cv_]] → Sim (F_slices_symMergeCmpFunc_int64 [x, iv a0, iv a1, iv a2, AV.fn g [AV.ptr o_ 1 0 0]] h) (rec_ d a0 a1 a2) fun c p => p.1 = AV.tup [] ∧ Hold B p.2 [(x, obS (c : Sl Int)), pZ9 o_ 1 [cv_]]) (xd_ : AV) (a_ : Int) (m_ : Int) (b_ : Int) (q67 : Int) (q68 : Int) (z69 : AV)  : kHw (fun (st : (Sl Int) × Int) tm h71 => match st with | (w70, w73) => tm = (xd_ :: (iv a_) :: (iv m_) :: (iv b_) :: (AV.fn g [AV.ptr o_ 1 0 0]) :: und :: und :: und :: und :: und :: und :: und :: und :: und :: (iv q67) :: (iv q68) :: z69 :: (iv w73) :: und :: und :: und :: und :: und :: und :: und :: (iv m_) :: (iv a_) :: (iv (wr (m_ - a_))) :: (bv (decide (wr (m_ - a_) = 1))) :: und :: und :: und :: und :: und :: und :: und :: und :: und :: und :: und :: und :: und :: und :: und :: und :: und :: und :: und :: und :: und :: und :: und :: und :: und :: und :: und :: und :: und :: und :: und :: und :: und :: und :: und :: und :: und :: und :: und :: und :: und :: und :: und :: und :: und :: und :: und :: und :: (iv b_) :: (iv m_) :: (iv (wr (b_ - m_))) :: (bv (decide (wr (b_ - m_) = 1))) :: (iv a_) :: (iv m_) :: .top :: .top :: .top :: .top :: .top :: .top :: .top :: .top :: .top :: .top :: .top :: .top :: .top :: .top :: .top :: .top :: .top :: .top :: .top :: .top :: .top :: .top :: .top :: .top :: (iv m_) :: tZ9 21 [und, und, und, und, und, und, und, und, und, und, und, und, und, und, und, und, und, und, und, und, und, und, und, und, und, und, und, und, und, und, und, und, und, und, und, und, und, und, und, und, und, und, und, und, und, und, und, und, und, und, und, und, und, und, und, und, und, und, und, und, und, und, und, und, und, und, und, und, und, und, und, und, und, und, und, und, und, und, und, und, und, und, und, und, und, und, und, und, und, und, und]) ∧ Hold B h71 [(xd_, obS (w70 : Sl Int)), pZ9 o_ 1 [cv_]]) hm5_q35 xm5_q35 (lb5_q35 env) (s5_q35 P q67) (fun (q : Sl Int) (r : Res) => match q with | q76 => ∃ (q77 : Int) (h74 : kA4), r = (.exit 6, (xd_ :: (iv a_) :: (iv m_) :: (iv b_) :: (AV.fn g [AV.ptr o_ 1 0 0]) :: und :: und :: und :: und :: und :: und :: und :: und :: und :: (iv q67) :: (iv q68) :: z69 :: (iv q77) :: und :: und :: und :: und :: und :: und :: und :: (iv m_) :: (iv a_) :: (iv (wr (m_ - a_))) :: (bv (decide (wr (m_ - a_) = 1))) :: und :: und :: und :: und :: und :: und :: und :: und :: und :: und :: und :: und :: und :: und :: und :: und :: und :: und :: und :: und :: und :: und :: und :: und :: und :: und :: und :: und :: und :: und :: und :: und :: und :: und :: und :: und :: und :: und :: und :: und :: und :: und :: und :: und :: und :: und :: und :: und :: (iv b_) :: (iv m_) :: (iv (wr (b_ - m_))) :: (bv (decide (wr (b_ - m_) = 1))) :: (iv a_) :: (iv m_) :: .top :: .top :: .top :: .top :: .top :: .top :: .top :: .top :: .top :: .top :: .top :: .top :: .top :: .top :: .top :: .top :: .top :: .top :: .top :: .top :: .top :: .top :: .top :: .top :: (iv m_) :: tZ9 21 [und, und, und, und, und, und, und, und, und, und, und, und, und, und, und, und, und, und, und, und, und, und, und, und, und, und, und, und, und, und, und, und, und, und, und, und, und, und, und, und, und, und, und, und, und, und, und, und, und, und, und, und, und, und, und, und, und, und, und, und, und, und, und, und, und, und, und, und, und, und, und, und, und, und, und, und, und, und, und, und, und, und, und, und, und, und, und, und, und, und, und]), h74) ∧ Hold B h74 [(xd_, obS (q76 : Sl Int)), pZ9 o_ 1 [cv_]]) := by
  refine @lpZ9 _ _ _ _ _ _ _ _ (fun st tm h71 R => ?_)
  obtain ⟨w70, w73⟩ := st
  obtain ⟨rfl, O72⟩ := R
  rw [e_lb5_q35]
  unfold s5_q35
  dsimp only
  refine kA1 (kFi _ _) ?_
  refine kA9 (fun c78 => ?_) (fun c78 => ?_)
  · refine kA1 (kAx _ _) ?_
    refine kA1 (kAx _ _) ?_
    refine kAk (O72.tab (A := Int) (s := w70) 0 rfl) (fun m80 a79 hi81 hm82 => ?_)
    refine kA1 (v := iv a79) ((O72.tab (A := Int) (s := w70) 0 rfl).ld hm82 false 1 0) ?_
    refine kAk (O72.tab (A := Int) (s := w70) 0 rfl) (fun m84 a83 hi85 hm86 => ?_)
    refine kA1 (v := iv a83) ((O72.tab (A := Int) (s := w70) 0 rfl).ld hm86 false 1 0) ?_
    refine kAk (O72.tab (A := Int) (s := w70) 0 rfl) (fun m88 a87 hi89 hm90 => ?_)
    refine kFj (A := Int) O72 0 a79 rfl hi89 hm90 rfl (by first | (simp; done) | exact Nat.le_of_ble_eq_true rfl) (by first | rfl | simp) (by first | rfl | simp [kB9]) (fun h91 O92 => ?_)
    replace O92 : Hold B h91 [(xd_, obS ((kC4 w70 w73 a79) : Sl Int)), pZ9 o_ 1 [cv_]] := O92
    refine kAk (O92.tab (A := Int) (s := (kC4 w70 w73 a79)) 0 rfl) (fun m94 a93 hi95 hm96 => ?_)
    refine kFj (A := Int) O92 0 a83 rfl hi95 hm96 rfl (by first | (simp; done) | exact Nat.le_of_ble_eq_true rfl) (by first | rfl | simp) (by first | rfl | simp [kB9]) (fun h97 O98 => ?_)
    replace O98 : Hold B h97 [(xd_, obS ((kC4 (kC4 w70 w73 a79) (wr (w73 - 1)) a83) : Sl Int)), pZ9 o_ 1 [cv_]] := O98
    refine kA1 (kAx _ _) ?_
    exact kA6 ⟨rfl, rfl, O98⟩
  · exact kA6 ⟨nofun, _, _, rfl, O72⟩
theorem tl1_q35 (env : Nat → Contract) {B : Base} {g : Nat} {f_ : List AV → Option AV} {P : Int → Int → Option Int} {o_ : Nat} {cv_ : AV} (he_g : env g = .pure f_) (hp : ∀ a b h, h[o_]? = some ⟨1, [[cv_]]⟩ → Sim (kAa f_ [iv a, iv b, AV.ptr o_ 1 0 0] h) (P a b) fun c r => r = (iv c, h)) {rec_ : Sl Int → Int → Int → Int → Option (Sl Int)} {F_slices_rotateCmpFunc_int64 : List AV → kA4 → Option (AV × kA4)} (he_q32 : env kGn = .gen F_slices_rotateCmpFunc_int64) (S_slices_rotateCmpFunc_int64 : ∀ {B : Base} {h : kA4} {x : AV} (d : Sl Int) (a0 a1 a2 : Int), Hold B h [(x, obS (d : Sl Int)), pZ9 o_ 1 [cv_]] → Sim (F_slices_rotateCmpFunc_int64 [x, iv a0, iv a1, iv a2, AV.fn g [AV.ptr o_ 1 0 0]] h) (kH5 P d a0 a1 a2) fun c p => p.1 = AV.tup [] ∧ Hold B p.2 [(x, obS (c : Sl Int)), pZ9 o_ 1 [cv_]]) {F_slices_symMergeCmpFunc_int64 : List AV → kA4 → Option (AV × kA4)} (he_q35 : env kD0 = .gen F_slices_symMergeCmpFunc_int64) (S_slices_symMergeCmpFunc_int64 : ∀ {B : Base} {h : kA4} {x : AV} (d : Sl Int) (a0 a1 a2 : Int), Hold B h [(x, obS (d : Sl Int)), pZ9 o_ 1 [cv_]] → Sim (F_slices_symMergeCmpFunc_int64 [x, iv a0, iv a1, iv a2, AV.fn g [AV.ptr o_ 1 0 0]] h) (rec_ d a0 a1 a2) fun c p => p.1 = AV.tup [] ∧ Hold B p.2 [(x, obS (c : Sl Int)), pZ9 o_ 1 [cv_]]) (data_ : Sl Int) (xd_ : AV) (a_ : Int) (m_ : Int) (b_ : Int)  : kHw (fun (st : Int × Int) tm h61 => match st with | (w63, w64) => tm = (xd_ :: (iv a_) :: (iv m_) :: (iv b_) :: (AV.fn g [AV.ptr o_ 1 0 0]) :: und :: und :: und :: und :: und :: und :: und :: und :: und :: (iv w63) :: (iv w64) :: .top :: und :: und :: und :: und :: und :: und :: und :: und :: (iv m_) :: (iv a_) :: (iv (wr (m_ - a_))) :: (bv (decide (wr (m_ - a_) = 1))) :: und :: und :: und :: und :: und :: und :: und :: und :: und :: und :: und :: und :: und :: und :: und :: und :: und :: und :: und :: und :: und :: und :: und :: und :: und :: und :: und :: und :: und :: und :: und :: und :: und :: und :: und :: und :: und :: und :: und :: und :: und :: und :: und :: und :: und :: und :: und :: und :: (iv b_) :: (iv m_) :: (iv (wr (b_ - m_))) :: (bv (decide (wr (b_ - m_) = 1))) :: (iv a_) :: (iv m_) :: tZ9 24 [und, und, und, und, und, und, und, und, und, und, und, und, und, und, und, und, und, und, und, und, und, und, und, und, und, und, und, und, und, und, und, und, und, und, und, und, und, und, und, und, und, und, und, und, und, und, und, und, und, und, und, und, und, und, und, und, und, und, und, und, und, und, und, und, und, und, und, und, und, und, und, und, und, und, und, und, und, und, und, und, und, und, und, und, und, und, und, und, und, und, und, und, und, und, und, und, und, und, und, und, und, und, und, und, und, und, und, und, und, und, und, und, und]) ∧ Hold B h61 [(xd_, obS (data_ : Sl Int)), pZ9 o_ 1 [cv_]]) hm1_q35 xm1_q35 (lb1_q35 env) (s1_q35 P data_ m_) (fun (q : Int) (r : Res) => match q with | q67 => ∃ (q68 : Int) (z69 : AV) (h65 : kA4), r = (.exit 4, (xd_ :: (iv a_) :: (iv m_) :: (iv b_) :: (AV.fn g [AV.ptr o_ 1 0 0]) :: und :: und :: und :: und :: und :: und :: und :: und :: und :: (iv q67) :: (iv q68) :: z69 :: und :: und :: und :: und :: und :: und :: und :: und :: (iv m_) :: (iv a_) :: (iv (wr (m_ - a_))) :: (bv (decide (wr (m_ - a_) = 1))) :: und :: und :: und :: und :: und :: und :: und :: und :: und :: und :: und :: und :: und :: und :: und :: und :: und :: und :: und :: und :: und :: und :: und :: und :: und :: und :: und :: und :: und :: und :: und :: und :: und :: und :: und :: und :: und :: und :: und :: und :: und :: und :: und :: und :: und :: und :: und :: und :: (iv b_) :: (iv m_) :: (iv (wr (b_ - m_))) :: (bv (decide (wr (b_ - m_) = 1))) :: (iv a_) :: (iv m_) :: tZ9 24 [und, und, und, und, und, und, und, und, und, und, und, und, und, und, und, und, und, und, und, und, und, und, und, und, und, und, und, und, und, und, und, und, und, und, und, und, und, und, und, und, und, und, und, und, und, und, und, und, und, und, und, und, und, und, und, und, und, und, und, und, und, und, und, und, und, und, und, und, und, und, und, und, und, und, und, und, und, und, und, und, und, und, und, und, und, und, und, und, und, und, und, und, und, und, und, und, und, und, und, und, und, und, und, und, und, und, und, und, und, und, und, und, und]), h65) ∧ Hold B h65 [(xd_, obS (data_ : Sl Int)), pZ9 o_ 1 [cv_]]) := by
  refine @lpZ9 _ _ _ _ _ _ _ _ (fun st tm h61 R => ?_)
  obtain ⟨w63, w64⟩ := st
  obtain ⟨rfl, O62⟩ := R
  rw [e_lb1_q35]
  unfold s1_q35
  dsimp only
  refine kA1 (kAb _ _) ?_
  refine kA9 (fun c103 => ?_) (fun c103 => ?_)
  · refine kA1 (kAl _ _) ?_
    refine kA1 (v := AV.sc (.int .u64 (IntKind.u64.wrap (wr (w63 + w64))))) rfl ?_
    refine kA1 (v := AV.sc (.int .u64 (Int.fdiv (IntKind.u64.wrap (wr (w63 + w64))) (2 ^ 1)))) rfl ?_
    refine kA1 (v := iv (wr (Int.fdiv (IntKind.u64.wrap (wr (w63 + w64))) (2 ^ 1)))) rfl ?_
    refine kAk (O62.tab (A := Int) (s := data_) 0 rfl) (fun m105 a104 hi106 hm107 => ?_)
    refine kA1 (v := iv a104) ((O62.tab (A := Int) (s := data_) 0 rfl).ld hm107 false 1 0) ?_
    refine kAk (O62.tab (A := Int) (s := data_) 0 rfl) (fun m109 a108 hi110 hm111 => ?_)
    refine kA1 (v := iv a108) ((O62.tab (A := Int) (s := data_) 0 rfl).ld hm111 false 1 0) ?_
    refine kEy he_g (hp a104 a108 _ (O62.ptr (i := 1) rfl)) (fun c112 => ?_)
    refine kA1 (kAb _ _) ?_
    refine kA1 (v := bv (!(decide (c112 < 0)))) (kCg _) ?_
    refine kA9 (fun c113 => ?_) (fun c113 => ?_)
    · refine kA1 (kAl _ _) ?_
      exact kA6 ⟨rfl, rfl, O62⟩
    · exact kA6 ⟨rfl, rfl, O62⟩
  · exact kA6 ⟨nofun, _, _, _, rfl, O62⟩
theorem tl2_q35 (env : Nat → Contract) {B : Base} {g : Nat} {f_ : List AV → Option AV} {P : Int → Int → Option Int} {o_ : Nat} {cv_ : AV} (he_g : env g = .pure f_) (hp : ∀ a b h, h[o_]? = some ⟨1, [[cv_]]⟩ → Sim (kAa f_ [iv a, iv b, AV.ptr o_ 1 0 0] h) (P a b) fun c r => r = (iv c, h)) {rec_ : Sl Int → Int → Int → Int → Option (Sl Int)} {F_slices_rotateCmpFunc_int64 : List AV → kA4 → Option (AV × kA4)} (he_q32 : env kGn = .gen F_slices_rotateCmpFunc_int64) (S_slices_rotateCmpFunc_int64 : ∀ {B : Base} {h : kA4} {x : AV} (d : Sl Int) (a0 a1 a2 : Int), Hold B h [(x, obS (d : Sl Int)), pZ9 o_ 1 [cv_]] → Sim (F_slices_rotateCmpFunc_int64 [x, iv a0, iv a1, iv a2, AV.fn g [AV.ptr o_ 1 0 0]] h) (kH5 P d a0 a1 a2) fun c p => p.1 = AV.tup [] ∧ Hold B p.2 [(x, obS (c : Sl Int)), pZ9 o_ 1 [cv_]]) {F_slices_symMergeCmpFunc_int64 : List AV → kA4 → Option (AV × kA4)} (he_q35 : env kD0 = .gen F_slices_symMergeCmpFunc_int64) (S_slices_symMergeCmpFunc_int64 : ∀ {B : Base} {h : kA4} {x : AV} (d : Sl Int) (a0 a1 a2 : Int), Hold B h [(x, obS (d : Sl Int)), pZ9 o_ 1 [cv_]] → Sim (F_slices_symMergeCmpFunc_int64 [x, iv a0, iv a1, iv a2, AV.fn g [AV.ptr o_ 1 0 0]] h) (rec_ d a0 a1 a2) fun c p => p.1 = AV.tup [] ∧ Hold B p.2 [(x, obS (c : Sl Int)), pZ9 o_ 1 [cv_]]) (data_ : Sl Int) (xd_ : AV) (a_ : Int) (m_ : Int) (b_ : Int)  : kHw (fun (st : Int × Int) tm h120 => match st with | (w122, w123) => tm = (xd_ :: (iv a_) :: (iv m_) :: (iv b_) :: (AV.fn g [AV.ptr o_ 1 0 0]) :: und :: und :: und :: und :: und :: und :: und :: und :: und :: und :: und :: und :: und :: (iv (wr (Int.fdiv (IntKind.u64.wrap (wr (a_ + b_))) (2 ^ 1)))) :: (iv (wr ((wr (Int.fdiv (IntKind.u64.wrap (wr (a_ + b_))) (2 ^ 1))) + m_))) :: (iv w122) :: (iv w123) :: (iv (wr ((wr ((wr (Int.fdiv (IntKind.u64.wrap (wr (a_ + b_))) (2 ^ 1))) + m_)) - 1))) :: .top :: und :: (iv m_) :: (iv a_) :: (iv (wr (m_ - a_))) :: (bv (decide (wr (m_ - a_) = 1))) :: und :: und :: und :: und :: und :: und :: und :: und :: und :: und :: und :: und :: und :: und :: und :: und :: und :: und :: und :: und :: und :: und :: und :: und :: und :: und :: und :: und :: und :: und :: und :: und :: und :: und :: und :: und :: und :: und :: und :: und :: und :: und :: und :: und :: und :: und :: und :: und :: (iv b_) :: (iv m_) :: (iv (wr (b_ - m_))) :: (bv (decide (wr (b_ - m_) = 1))) :: und :: und :: und :: und :: und :: und :: und :: und :: und :: und :: und :: und :: und :: und :: und :: und :: und :: und :: und :: und :: und :: und :: und :: und :: und :: und :: und :: und :: und :: und :: und :: und :: und :: und :: und :: und :: und :: und :: und :: und :: und :: und :: und :: und :: und :: und :: und :: und :: (iv a_) :: (iv b_) :: (iv (wr (a_ + b_))) :: (AV.sc (.int .u64 (IntKind.u64.wrap (wr (a_ + b_))))) :: (AV.sc (.int .u64 (Int.fdiv (IntKind.u64.wrap (wr (a_ + b_))) (2 ^ 1)))) :: (iv (wr (Int.fdiv (IntKind.u64.wrap (wr (a_ + b_))) (2 ^ 1)))) :: (iv (wr (Int.fdiv (IntKind.u64.wrap (wr (a_ + b_))) (2 ^ 1)))) :: (iv m_) :: (iv (wr ((wr (Int.fdiv (IntKind.u64.wrap (wr (a_ + b_))) (2 ^ 1))) + m_))) :: (iv m_) :: (iv (wr (Int.fdiv (IntKind.u64.wrap (wr (a_ + b_))) (2 ^ 1)))) :: (bv (decide ((wr (Int.fdiv (IntKind.u64.wrap (wr (a_ + b_))) (2 ^ 1))) < m_))) :: (iv (wr ((wr (Int.fdiv (IntKind.u64.wrap (wr (a_ + b_))) (2 ^ 1))) + m_))) :: (iv b_) :: (iv (wr ((wr ((wr (Int.fdiv (IntKind.u64.wrap (wr (a_ + b_))) (2 ^ 1))) + m_)) - b_))) :: (iv (wr (Int.fdiv (IntKind.u64.wrap (wr (a_ + b_))) (2 ^ 1)))) :: und :: und :: (iv (wr ((wr (Int.fdiv (IntKind.u64.wrap (wr (a_ + b_))) (2 ^ 1))) + m_))) :: (iv (wr ((wr ((wr (Int.fdiv (IntKind.u64.wrap (wr (a_ + b_))) (2 ^ 1))) + m_)) - 1))) :: tZ9 26 [und, und, und, und, und, und, und, und, und, und, und, und, und, und, und, und, und, und, und, und, und, und, und, und, und, und, und, und, und, und, und, und, und, und, und, und, und, und, und, und, und, und, und, und, und]) ∧ Hold B h120 [(xd_, obS (data_ : Sl Int)), pZ9 o_ 1 [cv_]]) hm2_q35 xm2_q35 (lb2_q35 env) (s2_q35 P data_ a_ m_ b_) (fun (q : Int) (r : Res) => match q with | q126 => ∃ (q127 : Int) (z128 : AV) (h124 : kA4), r = (.exit 8, (xd_ :: (iv a_) :: (iv m_) :: (iv b_) :: (AV.fn g [AV.ptr o_ 1 0 0]) :: und :: und :: und :: und :: und :: und :: und :: und :: und :: und :: und :: und :: und :: (iv (wr (Int.fdiv (IntKind.u64.wrap (wr (a_ + b_))) (2 ^ 1)))) :: (iv (wr ((wr (Int.fdiv (IntKind.u64.wrap (wr (a_ + b_))) (2 ^ 1))) + m_))) :: (iv q126) :: (iv q127) :: (iv (wr ((wr ((wr (Int.fdiv (IntKind.u64.wrap (wr (a_ + b_))) (2 ^ 1))) + m_)) - 1))) :: z128 :: und :: (iv m_) :: (iv a_) :: (iv (wr (m_ - a_))) :: (bv (decide (wr (m_ - a_) = 1))) :: und :: und :: und :: und :: und :: und :: und :: und :: und :: und :: und :: und :: und :: und :: und :: und :: und :: und :: und :: und :: und :: und :: und :: und :: und :: und :: und :: und :: und :: und :: und :: und :: und :: und :: und :: und :: und :: und :: und :: und :: und :: und :: und :: und :: und :: und :: und :: und :: (iv b_) :: (iv m_) :: (iv (wr (b_ - m_))) :: (bv (decide (wr (b_ - m_) = 1))) :: und :: und :: und :: und :: und :: und :: und :: und :: und :: und :: und :: und :: und :: und :: und :: und :: und :: und :: und :: und :: und :: und :: und :: und :: und :: und :: und :: und :: und :: und :: und :: und :: und :: und :: und :: und :: und :: und :: und :: und :: und :: und :: und :: und :: und :: und :: und :: und :: (iv a_) :: (iv b_) :: (iv (wr (a_ + b_))) :: (AV.sc (.int .u64 (IntKind.u64.wrap (wr (a_ + b_))))) :: (AV.sc (.int .u64 (Int.fdiv (IntKind.u64.wrap (wr (a_ + b_))) (2 ^ 1)))) :: (iv (wr (Int.fdiv (IntKind.u64.wrap (wr (a_ + b_))) (2 ^ 1)))) :: (iv (wr (Int.fdiv (IntKind.u64.wrap (wr (a_ + b_))) (2 ^ 1)))) :: (iv m_) :: (iv (wr ((wr (Int.fdiv (IntKind.u64.wrap (wr (a_ + b_))) (2 ^ 1))) + m_))) :: (iv m_) :: (iv (wr (Int.fdiv (IntKind.u64.wrap (wr (a_ + b_))) (2 ^ 1)))) :: (bv (decide ((wr (Int.fdiv (IntKind.u64.wrap (wr (a_ + b_))) (2 ^ 1))) < m_))) :: (iv (wr ((wr (Int.fdiv (IntKind.u64.wrap (wr (a_ + b_))) (2 ^ 1))) + m_))) :: (iv b_) :: (iv (wr ((wr ((wr (Int.fdiv (IntKind.u64.wrap (wr (a_ + b_))) (2 ^ 1))) + m_)) - b_))) :: (iv (wr (Int.fdiv (IntKind.u64.wrap (wr (a_ + b_))) (2 ^ 1)))) :: und :: und :: (iv (wr ((wr (Int.fdiv (IntKind.u64.wrap (wr (a_ + b_))) (2 ^ 1))) + m_))) :: (iv (wr ((wr ((wr (Int.fdiv (IntKind.u64.wrap (wr (a_ + b_))) (2 ^ 1))) + m_)) - 1))) :: tZ9 26 [und, und, und, und, und, und, und, und, und, und, und, und, und, und, und, und, und, und, und, und, und, und, und, und, und, und, und, und, und, und, und, und, und, und, und, und, und, und, und, und, und, und, und, und, und]), h124) ∧ Hold B h124 [(xd_, obS (data_ : Sl Int)), pZ9 o_ 1 [cv_]]) := by
  refine @lpZ9 _ _ _ _ _ _ _ _ (fun st tm h120 R => ?_)
  obtain ⟨w122, w123⟩ := st
  obtain ⟨rfl, O121⟩ := R
  rw [e_lb2_q35]
  unfold s2_q35
  dsimp only
  refine kA1 (kAb _ _) ?_
  refine kA9 (fun c185 => ?_) (fun c185 => ?_)
  · refine kA1 (kAl _ _) ?_
    refine kA1 (v := AV.sc (.int .u64 (IntKind.u64.wrap (wr (w122 + w123))))) rfl ?_
    refine kA1 (v := AV.sc (.int .u64 (Int.fdiv (IntKind.u64.wrap (wr (w122 + w123))) (2 ^ 1)))) rfl ?_
    refine kA1 (v := iv (wr (Int.fdiv (IntKind.u64.wrap (wr (w122 + w123))) (2 ^ 1)))) rfl ?_
    refine kA1 (kAx _ _) ?_
    refine kAk (O121.tab (A := Int) (s := data_) 0 rfl) (fun m187 a186 hi188 hm189 => ?_)
    refine kA1 (v := iv a186) ((O121.tab (A := Int) (s := data_) 0 rfl).ld hm189 false 1 0) ?_
    refine kAk (O121.tab (A := Int) (s := data_) 0 rfl) (fun m191 a190 hi192 hm193 => ?_)
    refine kA1 (v := iv a190) ((O121.tab (A := Int) (s := data_) 0 rfl).ld hm193 false 1 0) ?_
    refine kEy he_g (hp a186 a190 _ (O121.ptr (i := 1) rfl)) (fun c194 => ?_)
    refine kA1 (kAb _ _) ?_
    refine kA1 (v := bv (!(decide (c194 < 0)))) (kCg _) ?_
    refine kA9 (fun c195 => ?_) (fun c195 => ?_)
    · refine kA1 (kAl _ _) ?_
      exact kA6 ⟨rfl, rfl, O121⟩
    · exact kA6 ⟨rfl, rfl, O121⟩
  · exact kA6 ⟨nofun, _, _, _, rfl, O121⟩
theorem tl3_q35 (env : Nat → Contract) {B : Base} {g : Nat} {f_ : List AV → Option AV} {P : Int → Int → Option Int} {o_ : Nat} {cv_ : AV} (he_g : env g = .pure f_) (hp : ∀ a b h, h[o_]? = some ⟨1, [[cv_]]⟩ → Sim (kAa f_ [iv a, iv b, AV.ptr o_ 1 0 0] h) (P a b) fun c r => r = (iv c, h)) {rec_ : Sl Int → Int → Int → Int → Option (Sl Int)} {F_slices_rotateCmpFunc_int64 : List AV → kA4 → Option (AV × kA4)} (he_q32 : env kGn = .gen F_slices_rotateCmpFunc_int64) (S_slices_rotateCmpFunc_int64 : ∀ {B : Base} {h : kA4} {x : AV} (d : Sl Int) (a0 a1 a2 : Int), Hold B h [(x, obS (d : Sl Int)), pZ9 o_ 1 [cv_]] → Sim (F_slices_rotateCmpFunc_int64 [x, iv a0, iv a1, iv a2, AV.fn g [AV.ptr o_ 1 0 0]] h) (kH5 P d a0 a1 a2) fun c p => p.1 = AV.tup [] ∧ Hold B p.2 [(x, obS (c : Sl Int)), pZ9 o_ 1 [cv_]]) {F_slices_symMergeCmpFunc_int64 : List AV → kA4 → Option (AV × kA4)} (he_q35 : env kD0 = .gen F_slices_symMergeCmpFunc_int64) (S_slices_symMergeCmpFunc_int64 : ∀ {B : Base} {h : kA4} {x : AV} (d : Sl Int) (a0 a1 a2 : Int), Hold B h [(x, obS (d : Sl Int)), pZ9 o_ 1 [cv_]] → Sim (F_slices_symMergeCmpFunc_int64 [x, iv a0, iv a1, iv a2, AV.fn g [AV.ptr o_ 1 0 0]] h) (rec_ d a0 a1 a2) fun c p => p.1 = AV.tup [] ∧ Hold B p.2 [(x, obS (c : Sl Int)), pZ9 o_ 1 [cv_]]) (data_ : Sl Int) (xd_ : AV) (a_ : Int) (m_ : Int) (b_ : Int)  : kHw (fun (st : Int × Int) tm h201 => match st with | (w203, w204) => tm = (xd_ :: (iv a_) :: (iv m_) :: (iv b_) :: (AV.fn g [AV.ptr o_ 1 0 0]) :: und :: und :: und :: und :: und :: und :: und :: und :: und :: und :: und :: und :: und :: (iv (wr (Int.fdiv (IntKind.u64.wrap (wr (a_ + b_))) (2 ^ 1)))) :: (iv (wr ((wr (Int.fdiv (IntKind.u64.wrap (wr (a_ + b_))) (2 ^ 1))) + m_))) :: (iv w203) :: (iv w204) :: (iv (wr ((wr ((wr (Int.fdiv (IntKind.u64.wrap (wr (a_ + b_))) (2 ^ 1))) + m_)) - 1))) :: .top :: und :: (iv m_) :: (iv a_) :: (iv (wr (m_ - a_))) :: (bv (decide (wr (m_ - a_) = 1))) :: und :: und :: und :: und :: und :: und :: und :: und :: und :: und :: und :: und :: und :: und :: und :: und :: und :: und :: und :: und :: und :: und :: und :: und :: und :: und :: und :: und :: und :: und :: und :: und :: und :: und :: und :: und :: und :: und :: und :: und :: und :: und :: und :: und :: und :: und :: und :: und :: (iv b_) :: (iv m_) :: (iv (wr (b_ - m_))) :: (bv (decide (wr (b_ - m_) = 1))) :: und :: und :: und :: und :: und :: und :: und :: und :: und :: und :: und :: und :: und :: und :: und :: und :: und :: und :: und :: und :: und :: und :: und :: und :: und :: und :: und :: und :: und :: und :: und :: und :: und :: und :: und :: und :: und :: und :: und :: und :: und :: und :: und :: und :: und :: und :: und :: und :: (iv a_) :: (iv b_) :: (iv (wr (a_ + b_))) :: (AV.sc (.int .u64 (IntKind.u64.wrap (wr (a_ + b_))))) :: (AV.sc (.int .u64 (Int.fdiv (IntKind.u64.wrap (wr (a_ + b_))) (2 ^ 1)))) :: (iv (wr (Int.fdiv (IntKind.u64.wrap (wr (a_ + b_))) (2 ^ 1)))) :: (iv (wr (Int.fdiv (IntKind.u64.wrap (wr (a_ + b_))) (2 ^ 1)))) :: (iv m_) :: (iv (wr ((wr (Int.fdiv (IntKind.u64.wrap (wr (a_ + b_))) (2 ^ 1))) + m_))) :: (iv m_) :: (iv (wr (Int.fdiv (IntKind.u64.wrap (wr (a_ + b_))) (2 ^ 1)))) :: (bv (decide ((wr (Int.fdiv (IntKind.u64.wrap (wr (a_ + b_))) (2 ^ 1))) < m_))) :: und :: und :: und :: und :: (iv a_) :: (iv m_) :: (iv (wr ((wr (Int.fdiv (IntKind.u64.wrap (wr (a_ + b_))) (2 ^ 1))) + m_))) :: (iv (wr ((wr ((wr (Int.fdiv (IntKind.u64.wrap (wr (a_ + b_))) (2 ^ 1))) + m_)) - 1))) :: tZ9 26 [und, und, und, und, und, und, und, und, und, und, und, und, und, und, und, und, und, und, und, und, und, und, und, und, und, und, und, und, und, und, und, und, und, und, und, und, und, und, und, und, und, und, und, und, und]) ∧ Hold B h201 [(xd_, obS (data_ : Sl Int)), pZ9 o_ 1 [cv_]]) hm3_q35 xm3_q35 (lb3_q35 env) (s3_q35 P data_ a_ m_ b_) (fun (q : Int) (r : Res) => match q with | q207 => ∃ (q208 : Int) (z209 : AV) (h205 : kA4), r = (.exit 8, (xd_ :: (iv a_) :: (iv m_) :: (iv b_) :: (AV.fn g [AV.ptr o_ 1 0 0]) :: und :: und :: und :: und :: und :: und :: und :: und :: und :: und :: und :: und :: und :: (iv (wr (Int.fdiv (IntKind.u64.wrap (wr (a_ + b_))) (2 ^ 1)))) :: (iv (wr ((wr (Int.fdiv (IntKind.u64.wrap (wr (a_ + b_))) (2 ^ 1))) + m_))) :: (iv q207) :: (iv q208) :: (iv (wr ((wr ((wr (Int.fdiv (IntKind.u64.wrap (wr (a_ + b_))) (2 ^ 1))) + m_)) - 1))) :: z209 :: und :: (iv m_) :: (iv a_) :: (iv (wr (m_ - a_))) :: (bv (decide (wr (m_ - a_) = 1))) :: und :: und :: und :: und :: und :: und :: und :: und :: und :: und :: und :: und :: und :: und :: und :: und :: und :: und :: und :: und :: und :: und :: und :: und :: und :: und :: und :: und :: und :: und :: und :: und :: und :: und :: und :: und :: und :: und :: und :: und :: und :: und :: und :: und :: und :: und :: und :: und :: (iv b_) :: (iv m_) :: (iv (wr (b_ - m_))) :: (bv (decide (wr (b_ - m_) = 1))) :: und :: und :: und :: und :: und :: und :: und :: und :: und :: und :: und :: und :: und :: und :: und :: und :: und :: und :: und :: und :: und :: und :: und :: und :: und :: und :: und :: und :: und :: und :: und :: und :: und :: und :: und :: und :: und :: und :: und :: und :: und :: und :: und :: und :: und :: und :: und :: und :: (iv a_) :: (iv b_) :: (iv (wr (a_ + b_))) :: (AV.sc (.int .u64 (IntKind.u64.wrap (wr (a_ + b_))))) :: (AV.sc (.int .u64 (Int.fdiv (IntKind.u64.wrap (wr (a_ + b_))) (2 ^ 1)))) :: (iv (wr (Int.fdiv (IntKind.u64.wrap (wr (a_ + b_))) (2 ^ 1)))) :: (iv (wr (Int.fdiv (IntKind.u64.wrap (wr (a_ + b_))) (2 ^ 1)))) :: (iv m_) :: (iv (wr ((wr (Int.fdiv (IntKind.u64.wrap (wr (a_ + b_))) (2 ^ 1))) + m_))) :: (iv m_) :: (iv (wr (Int.fdiv (IntKind.u64.wrap (wr (a_ + b_))) (2 ^ 1)))) :: (bv (decide ((wr (Int.fdiv (IntKind.u64.wrap (wr (a_ + b_))) (2 ^ 1))) < m_))) :: und :: und :: und :: und :: (iv a_) :: (iv m_) :: (iv (wr ((wr (Int.fdiv (IntKind.u64.wrap (wr (a_ + b_))) (2 ^ 1))) + m_))) :: (iv (wr ((wr ((wr (Int.fdiv (IntKind.u64.wrap (wr (a_ + b_))) (2 ^ 1))) + m_)) - 1))) :: tZ9 26 [und, und, und, und, und, und, und, und, und, und, und, und, und, und, und, und, und, und, und, und, und, und, und, und, und, und, und, und, und, und, und, und, und, und, und, und, und, und, und, und, und, und, und, und, und]), h205) ∧ Hold B h205 [(xd_, obS (data_ : Sl Int)), pZ9 o_ 1 [cv_]]) := by
  refine @lpZ9 _ _ _ _ _ _ _ _ (fun st tm h201 R => ?_)
  obtain ⟨w203, w204⟩ := st
  obtain ⟨rfl, O202⟩ := R
  rw [e_lb3_q35]
  unfold s3_q35
  dsimp only
  refine kA1 (kAb _ _) ?_
  refine kA9 (fun c266 => ?_) (fun c266 => ?_)
  · refine kA1 (kAl _ _) ?_
    refine kA1 (v := AV.sc (.int .u64 (IntKind.u64.wrap (wr (w203 + w204))))) rfl ?_
    refine kA1 (v := AV.sc (.int .u64 (Int.fdiv (IntKind.u64.wrap (wr (w203 + w204))) (2 ^ 1)))) rfl ?_
    refine kA1 (v := iv (wr (Int.fdiv (IntKind.u64.wrap (wr (w203 + w204))) (2 ^ 1)))) rfl ?_
    refine kA1 (kAx _ _) ?_
    refine kAk (O202.tab (A := Int) (s := data_) 0 rfl) (fun m268 a267 hi269 hm270 => ?_)
    refine kA1 (v := iv a267) ((O202.tab (A := Int) (s := data_) 0 rfl).ld hm270 false 1 0) ?_
    refine kAk (O202.tab (A := Int) (s := data_) 0 rfl) (fun m272 a271 hi273 hm274 => ?_)
    refine kA1 (v := iv a271) ((O202.tab (A := Int) (s := data_) 0 rfl).ld hm274 false 1 0) ?_
    refine kEy he_g (hp a267 a271 _ (O202.ptr (i := 1) rfl)) (fun c275 => ?_)
    refine kA1 (kAb _ _) ?_
    refine kA1 (v := bv (!(decide (c275 < 0)))) (kCg _) ?_
    refine kA9 (fun c276 => ?_) (fun c276 => ?_)
    · refine kA1 (kAl _ _) ?_
      exact kA6 ⟨rfl, rfl, O202⟩
    · exact kA6 ⟨rfl, rfl, O202⟩
  · exact kA6 ⟨nofun, _, _, _, rfl, O202⟩
theorem ts_q35 (env : Nat → Contract) {g : Nat} {f_ : List AV → Option AV} {P : Int → Int → Option Int} {o_ : Nat} {cv_ : AV} (he_g : env g = .pure f_) (hp : ∀ a b h, h[o_]? = some ⟨1, [[cv_]]⟩ → Sim (kAa f_ [iv a, iv b, AV.ptr o_ 1 0 0] h) (P a b) fun c r => r = (iv c, h)) {rec_ : Sl Int → Int → Int → Int → Option (Sl Int)} {F_slices_rotateCmpFunc_int64 : List AV → kA4 → Option (AV × kA4)} (he_q32 : env kGn = .gen F_slices_rotateCmpFunc_int64) (S_slices_rotateCmpFunc_int64 : ∀ {B : Base} {h : kA4} {x : AV} (d : Sl Int) (a0 a1 a2 : Int), Hold B h [(x, obS (d : Sl Int)), pZ9 o_ 1 [cv_]] → Sim (F_slices_rotateCmpFunc_int64 [x, iv a0, iv a1, iv a2, AV.fn g [AV.ptr o_ 1 0 0]] h) (kH5 P d a0 a1 a2) fun c p => p.1 = AV.tup [] ∧ Hold B p.2 [(x, obS (c : Sl Int)), pZ9 o_ 1 [cv_]]) {F_slices_symMergeCmpFunc_int64 : List AV → kA4 → Option (AV × kA4)} (he_q35 : env kD0 = .gen F_slices_symMergeCmpFunc_int64) (S_slices_symMergeCmpFunc_int64 : ∀ {B : Base} {h : kA4} {x : AV} (d : Sl Int) (a0 a1 a2 : Int), Hold B h [(x, obS (d : Sl Int)), pZ9 o_ 1 [cv_]] → Sim (F_slices_symMergeCmpFunc_int64 [x, iv a0, iv a1, iv a2, AV.fn g [AV.ptr o_ 1 0 0]] h) (rec_ d a0 a1 a2) fun c p => p.1 = AV.tup [] ∧ Hold B p.2 [(x, obS (c : Sl Int)), pZ9 o_ 1 [cv_]]) {B : Base} {h : kA4} {xd_ : AV} (data_ : Sl Int) (a_ : Int) (m_ : Int) (b_ : Int) (O : Hold B h [(xd_, obS (data_ : Sl Int)), pZ9 o_ 1 [cv_]]) : Sim (kAm Try.prog env kD0 [xd_, iv a_, iv m_, iv b_, AV.fn g [AV.ptr o_ 1 0 0]] h) (kB3 P rec_ data_ a_ m_ b_) fun c p => p.1 = AV.tup [] ∧ Hold B p.2 [(xd_, obS (c : Sl Int)), pZ9 o_ 1 [cv_]] := by
  rw [e_q35]
  unfold kB3
  refine kA1 (kAx _ _) ?_
  refine kA1 (aCmp_eq _ _) ?_
  refine kA9 (fun c1 => ?_) (fun c1 => ?_)
  · refine kB7 ((tl0_q35 env he_g hp he_q32 S_slices_rotateCmpFunc_int64 he_q35 S_slices_symMergeCmpFunc_int64 data_ xd_ a_ m_ b_) ⟨rfl, O⟩) (fun qq59 r hq => ?_)
    revert hq
    revert qq59
    intro q8 hq
    obtain ⟨q9, z10, h6, rfl, O7⟩ := hq
    rw [e_lk0x0_q35]
    refine kB7 ((tl4_q35 env he_g hp he_q32 S_slices_rotateCmpFunc_int64 he_q35 S_slices_symMergeCmpFunc_int64 xd_ a_ m_ b_ q8 q9 z10) ⟨rfl, O7⟩) (fun qq43 r hq => ?_)
    revert hq
    revert qq43
    intro q17 hq
    obtain ⟨q18, h15, rfl, O16⟩ := hq
    rw [e_lk4x2_q35]
    exact kA6 ⟨rfl, O16⟩
  · refine kA1 (kAx _ _) ?_
    refine kA1 (aCmp_eq _ _) ?_
    refine kA9 (fun c60 => ?_) (fun c60 => ?_)
    · refine kB7 ((tl1_q35 env he_g hp he_q32 S_slices_rotateCmpFunc_int64 he_q35 S_slices_symMergeCmpFunc_int64 data_ xd_ a_ m_ b_) ⟨rfl, O⟩) (fun qq118 r hq => ?_)
      revert hq
      revert qq118
      intro q67 hq
      obtain ⟨q68, z69, h65, rfl, O66⟩ := hq
      rw [e_lk1x4_q35]
      refine kB7 ((tl5_q35 env he_g hp he_q32 S_slices_rotateCmpFunc_int64 he_q35 S_slices_symMergeCmpFunc_int64 xd_ a_ m_ b_ q67 q68 z69) ⟨rfl, O66⟩) (fun qq102 r hq => ?_)
      revert hq
      revert qq102
      intro q76 hq
      obtain ⟨q77, h74, rfl, O75⟩ := hq
      rw [e_lk5x6_q35]
      exact kA6 ⟨rfl, O75⟩
    · refine kA1 (kAl _ _) ?_
      refine kA1 (v := AV.sc (.int .u64 (IntKind.u64.wrap (wr (a_ + b_))))) rfl ?_
      refine kA1 (v := AV.sc (.int .u64 (Int.fdiv (IntKind.u64.wrap (wr (a_ + b_))) (2 ^ 1)))) rfl ?_
      refine kA1 (v := iv (wr (Int.fdiv (IntKind.u64.wrap (wr (a_ + b_))) (2 ^ 1)))) rfl ?_
      refine kA1 (kAl _ _) ?_
      refine kA1 (kFi _ _) ?_
      refine kA9 (fun c119 => ?_) (fun c119 => ?_)
      · refine kA1 (kAx _ _) ?_
        refine kA1 (kAx _ _) ?_
        refine kB7 ((tl2_q35 env he_g hp he_q32 S_slices_rotateCmpFunc_int64 he_q35 S_slices_symMergeCmpFunc_int64 data_ xd_ a_ m_ b_) ⟨rfl, O⟩) (fun qq200 r hq => ?_)
        revert hq
        revert qq200
        intro q126 hq
        obtain ⟨q127, z128, h124, rfl, O125⟩ := hq
        rw [e_lk2x8_q35]
        refine kA1 (kAx _ _) ?_
        refine kA1 (kAb _ _) ?_
        refine kBh (e := bv) (fun hb129 => ?_) (fun c130 => ?_)
        · refine kA1 (kAb _ _) ?_
          exact kA6 rfl
        · refine kA1 (v := bv (bif decide (q126 < m_) then c130 else false)) (kE2 _ _ _) ?_
          refine kA9 (fun c131 => ?_) (fun c131 => ?_)
          · refine kBv he_q32 (S_slices_rotateCmpFunc_int64 data_ q126 m_ (wr ((wr ((wr (Int.fdiv (IntKind.u64.wrap (wr (a_ + b_))) (2 ^ 1))) + m_)) - q126)) O125) (fun w132 v133 h134 hq135 => ?_)
            obtain ⟨e_v133, O136⟩ := hq135
            dsimp only at e_v133
            subst v133
            replace O136 : Hold B h134 [(xd_, obS (w132 : Sl Int)), pZ9 o_ 1 [cv_]] := O136
            refine kA1 (kAb _ _) ?_
            refine kBh (e := bv) (fun hb137 => ?_) (fun c138 => ?_)
            · refine kA1 (kAb _ _) ?_
              exact kA6 rfl
            · refine kA1 (v := bv (bif decide (a_ < q126) then c138 else false)) (kE2 _ _ _) ?_
              refine kA9 (fun c139 => ?_) (fun c139 => ?_)
              · refine kBv he_q35 (S_slices_symMergeCmpFunc_int64 w132 a_ q126 (wr (Int.fdiv (IntKind.u64.wrap (wr (a_ + b_))) (2 ^ 1))) O136) (fun w140 v141 h142 hq143 => ?_)
                obtain ⟨e_v141, O144⟩ := hq143
                dsimp only at e_v141
                subst v141
                replace O144 : Hold B h142 [(xd_, obS (w140 : Sl Int)), pZ9 o_ 1 [cv_]] := O144
                refine kA1 (kAb _ _) ?_
                refine kBh (e := bv) (fun hb145 => ?_) (fun c146 => ?_)
                · refine kA1 (kAb _ _) ?_
                  exact kA6 rfl
                · refine kA1 (v := bv (bif decide ((wr (Int.fdiv (IntKind.u64.wrap (wr (a_ + b_))) (2 ^ 1))) < (wr ((wr ((wr (Int.fdiv (IntKind.u64.wrap (wr (a_ + b_))) (2 ^ 1))) + m_)) - q126))) then c146 else false)) (kE2 _ _ _) ?_
                  refine kA9 (fun c147 => ?_) (fun c147 => ?_)
                  · refine kBv he_q35 (S_slices_symMergeCmpFunc_int64 w140 (wr (Int.fdiv (IntKind.u64.wrap (wr (a_ + b_))) (2 ^ 1))) (wr ((wr ((wr (Int.fdiv (IntKind.u64.wrap (wr (a_ + b_))) (2 ^ 1))) + m_)) - q126)) b_ O144) (fun w148 v149 h150 hq151 => ?_)
                    obtain ⟨e_v149, O152⟩ := hq151
                    dsimp only at e_v149
                    subst v149
                    replace O152 : Hold B h150 [(xd_, obS (w148 : Sl Int)), pZ9 o_ 1 [cv_]] := O152
                    exact kA6 ⟨rfl, O152⟩
                  · exact kA6 ⟨rfl, O144⟩
              · refine kA1 (kAb _ _) ?_
                refine kBh (e := bv) (fun hb153 => ?_) (fun c154 => ?_)
                · refine kA1 (kAb _ _) ?_
                  exact kA6 rfl
                · refine kA1 (v := bv (bif decide ((wr (Int.fdiv (IntKind.u64.wrap (wr (a_ + b_))) (2 ^ 1))) < (wr ((wr ((wr (Int.fdiv (IntKind.u64.wrap (wr (a_ + b_))) (2 ^ 1))) + m_)) - q126))) then c154 else false)) (kE2 _ _ _) ?_
                  refine kA9 (fun c155 => ?_) (fun c155 => ?_)
                  · refine kBv he_q35 (S_slices_symMergeCmpFunc_int64 w132 (wr (Int.fdiv (IntKind.u64.wrap (wr (a_ + b_))) (2 ^ 1))) (wr ((wr ((wr (Int.fdiv (IntKind.u64.wrap (wr (a_ + b_))) (2 ^ 1))) + m_)) - q126)) b_ O136) (fun w156 v157 h158 hq159 => ?_)
                    obtain ⟨e_v157, O160⟩ := hq159
                    dsimp only at e_v157
                    subst v157
                    replace O160 : Hold B h158 [(xd_, obS (w156 : Sl Int)), pZ9 o_ 1 [cv_]] := O160
                    exact kA6 ⟨rfl, O160⟩
                  · exact kA6 ⟨rfl, O136⟩
          · refine kA1 (kAb _ _) ?_
            refine kBh (e := bv) (fun hb161 => ?_) (fun c162 => ?_)
            · refine kA1 (kAb _ _) ?_
              exact kA6 rfl
            · refine kA1 (v := bv (bif decide (a_ < q126) then c162 else false)) (kE2 _ _ _) ?_
              refine kA9 (fun c163 => ?_) (fun c163 => ?_)
              · refine kBv he_q35 (S_slices_symMergeCmpFunc_int64 data_ a_ q126 (wr (Int.fdiv (IntKind.u64.wrap (wr (a_ + b_))) (2 ^ 1))) O125) (fun w164 v165 h166 hq167 => ?_)
                obtain ⟨e_v165, O168⟩ := hq167
                dsimp only at e_v165
                subst v165
                replace O168 : Hold B h166 [(xd_, obS (w164 : Sl Int)), pZ9 o_ 1 [cv_]] := O168
                refine kA1 (kAb _ _) ?_
                refine kBh (e := bv) (fun hb169 => ?_) (fun c170 => ?_)
                · refine kA1 (kAb _ _) ?_
                  exact kA6 rfl
                · refine kA1 (v := bv (bif decide ((wr (Int.fdiv (IntKind.u64.wrap (wr (a_ + b_))) (2 ^ 1))) < (wr ((wr ((wr (Int.fdiv (IntKind.u64.wrap (wr (a_ + b_))) (2 ^ 1))) + m_)) - q126))) then c170 else false)) (kE2 _ _ _) ?_
                  refine kA9 (fun c171 => ?_) (fun c171 => ?_)
                  · refine kBv he_q35 (S_slices_symMergeCmpFunc_int64 w164 (wr (Int.fdiv (IntKind.u64.wrap (wr (a_ + b_))) (2 ^ 1))) (wr ((wr ((wr (Int.fdiv (IntKind.u64.wrap (wr (a_ + b_))) (2 ^ 1))) + m_)) - q126)) b_ O168) (fun w172 v173 h174 hq175 => ?_)
                    obtain ⟨e_v173, O176⟩ := hq175
                    dsimp only at e_v173
                    subst v173
                    replace O176 : Hold B h174 [(xd_, obS (w172 : Sl Int)), pZ9 o_ 1 [cv_]] := O176
                    exact kA6 ⟨rfl, O176⟩
                  · exact kA6 ⟨rfl, O168⟩
              · refine kA1 (kAb _ _) ?_
                refine kBh (e := bv) (fun hb177 => ?_) (fun c178 => ?_)
                · refine kA1 (kAb _ _) ?_
                  exact kA6 rfl
                · refine kA1 (v := bv (bif decide ((wr (Int.fdiv (IntKind.u64.wrap (wr (a_ + b_))) (2 ^ 1))) < (wr ((wr ((wr (Int.fdiv (IntKind.u64.wrap (wr (a_ + b_))) (2 ^ 1))) + m_)) - q126))) then c178 else false)) (kE2 _ _ _) ?_
                  refine kA9 (fun c179 => ?_) (fun c179 => ?_)
                  · refine kBv he_q35 (S_slices_symMergeCmpFunc_int64 data_ (wr (Int.fdiv (IntKind.u64.wrap (wr (a_ + b_))) (2 ^ 1))) (wr ((wr ((wr (Int.fdiv (IntKind.u64.wrap (wr (a_ + b_))) (2 ^ 1))) + m_)) - q126)) b_ O125) (fun w180 v181 h182 hq183 => ?_)
                    obtain ⟨e_v181, O184⟩ := hq183
                    dsimp only at e_v181
                    subst v181
                    replace O184 : Hold B h182 [(xd_, obS (w180 : Sl Int)), pZ9 o_ 1 [cv_]] := O184
                    exact kA6 ⟨rfl, O184⟩
                  · exact kA6 ⟨rfl, O125⟩
      · refine kA1 (kAx _ _) ?_
        refine kB7 ((tl3_q35 env he_g hp he_q32 S_slices_rotateCmpFunc_int64 he_q35 S_slices_symMergeCmpFunc_int64 data_ xd_ a_ m_ b_) ⟨rfl, O⟩) (fun qq281 r hq => ?_)
        revert hq
        revert qq281
        intro q207 hq
        obtain ⟨q208, z209, h205, rfl, O206⟩ := hq
        rw [e_lk3x8_q35]
        refine kA1 (kAx _ _) ?_
        refine kA1 (kAb _ _) ?_
        refine kBh (e := bv) (fun hb210 => ?_) (fun c211 => ?_)
        · refine kA1 (kAb _ _) ?_
          exact kA6 rfl
        · refine kA1 (v := bv (bif decide (q207 < m_) then c211 else false)) (kE2 _ _ _) ?_
          refine kA9 (fun c212 => ?_) (fun c212 => ?_)
          · refine kBv he_q32 (S_slices_rotateCmpFunc_int64 data_ q207 m_ (wr ((wr ((wr (Int.fdiv (IntKind.u64.wrap (wr (a_ + b_))) (2 ^ 1))) + m_)) - q207)) O206) (fun w213 v214 h215 hq216 => ?_)
            obtain ⟨e_v214, O217⟩ := hq216
            dsimp only at e_v214
            subst v214
            replace O217 : Hold B h215 [(xd_, obS (w213 : Sl Int)), pZ9 o_ 1 [cv_]] := O217
            refine kA1 (kAb _ _) ?_
            refine kBh (e := bv) (fun hb218 => ?_) (fun c219 => ?_)
            · refine kA1 (kAb _ _) ?_
              exact kA6 rfl
            · refine kA1 (v := bv (bif decide (a_ < q207) then c219 else false)) (kE2 _ _ _) ?_
              refine kA9 (fun c220 => ?_) (fun c220 => ?_)
              · refine kBv he_q35 (S_slices_symMergeCmpFunc_int64 w213 a_ q207 (wr (Int.fdiv (IntKind.u64.wrap (wr (a_ + b_))) (2 ^ 1))) O217) (fun w221 v222 h223 hq224 => ?_)
                obtain ⟨e_v222, O225⟩ := hq224
                dsimp only at e_v222
                subst v222
                replace O225 : Hold B h223 [(xd_, obS (w221 : Sl Int)), pZ9 o_ 1 [cv_]] := O225
                refine kA1 (kAb _ _) ?_
                refine kBh (e := bv) (fun hb226 => ?_) (fun c227 => ?_)
                · refine kA1 (kAb _ _) ?_
                  exact kA6 rfl
                · refine kA1 (v := bv (bif decide ((wr (Int.fdiv (IntKind.u64.wrap (wr (a_ + b_))) (2 ^ 1))) < (wr ((wr ((wr (Int.fdiv (IntKind.u64.wrap (wr (a_ + b_))) (2 ^ 1))) + m_)) - q207))) then c227 else false)) (kE2 _ _ _) ?_
                  refine kA9 (fun c228 => ?_) (fun c228 => ?_)
                  · refine kBv he_q35 (S_slices_symMergeCmpFunc_int64 w221 (wr (Int.fdiv (IntKind.u64.wrap (wr (a_ + b_))) (2 ^ 1))) (wr ((wr ((wr (Int.fdiv (IntKind.u64.wrap (wr (a_ + b_))) (2 ^ 1))) + m_)) - q207)) b_ O225) (fun w229 v230 h231 hq232 => ?_)
                    obtain ⟨e_v230, O233⟩ := hq232
                    dsimp only at e_v230
                    subst v230
                    replace O233 : Hold B h231 [(xd_, obS (w229 : Sl Int)), pZ9 o_ 1 [cv_]] := O233
                    exact kA6 ⟨rfl, O233⟩
                  · exact kA6 ⟨rfl, O225⟩
              · refine kA1 (kAb _ _) ?_
                refine kBh (e := bv) (fun hb234 => ?_) (fun c235 => ?_)
                · refine kA1 (kAb _ _) ?_
                  exact kA6 rfl
                · refine kA1 (v := bv (bif decide ((wr (Int.fdiv (IntKind.u64.wrap (wr (a_ + b_))) (2 ^ 1))) < (wr ((wr ((wr (Int.fdiv (IntKind.u64.wrap (wr (a_ + b_))) (2 ^ 1))) + m_)) - q207))) then c235 else false)) (kE2 _ _ _) ?_
                  refine kA9 (fun c236 => ?_) (fun c236 => ?_)
                  · refine kBv he_q35 (S_slices_symMergeCmpFunc_int64 w213 (wr (Int.fdiv (IntKind.u64.wrap (wr (a_ + b_))) (2 ^ 1))) (wr ((wr ((wr (Int.fdiv (IntKind.u64.wrap (wr (a_ + b_))) (2 ^ 1))) + m_)) - q207)) b_ O217) (fun w237 v238 h239 hq240 => ?_)
                    obtain ⟨e_v238, O241⟩ := hq240
                    dsimp only at e_v238
                    subst v238
                    replace O241 : Hold B h239 [(xd_, obS (w237 : Sl Int)), pZ9 o_ 1 [cv_]] := O241
                    exact kA6 ⟨rfl, O241⟩
                  · exact kA6 ⟨rfl, O217⟩
          · refine kA1 (kAb _ _) ?_
            refine kBh (e := bv) (fun hb242 => ?_) (fun c243 => ?_)
            · refine kA1 (kAb _ _) ?_
              exact kA6 rfl
            · refine kA1 (v := bv (bif decide (a_ < q207) then c243 else false)) (kE2 _ _ _) ?_
              refine kA9 (fun c244 => ?_) (fun c244 => ?_)
              · refine kBv he_q35 (S_slices_symMergeCmpFunc_int64 data_ a_ q207 (wr (Int.fdiv (IntKind.u64.wrap (wr (a_ + b_))) (2 ^ 1))) O206) (fun w245 v246 h247 hq248 => ?_)
                obtain ⟨e_v246, O249⟩ := hq248
                dsimp only at e_v246
                subst v246
                replace O249 : Hold B h247 [(xd_, obS (w245 : Sl Int)), pZ9 o_ 1 [cv_]] := O249
                refine kA1 (kAb _ _) ?_
                refine kBh (e := bv) (fun hb250 => ?_) (fun c251 => ?_)
                · refine kA1 (kAb _ _) ?_
                  exact kA6 rfl
                · refine kA1 (v := bv (bif decide ((wr (Int.fdiv (IntKind.u64.wrap (wr (a_ + b_))) (2 ^ 1))) < (wr ((wr ((wr (Int.fdiv (IntKind.u64.wrap (wr (a_ + b_))) (2 ^ 1))) + m_)) - q207))) then c251 else false)) (kE2 _ _ _) ?_
                  refine kA9 (fun c252 => ?_) (fun c252 => ?_)
                  · refine kBv he_q35 (S_slices_symMergeCmpFunc_int64 w245 (wr (Int.fdiv (IntKind.u64.wrap (wr (a_ + b_))) (2 ^ 1))) (wr ((wr ((wr (Int.fdiv (IntKind.u64.wrap (wr (a_ + b_))) (2 ^ 1))) + m_)) - q207)) b_ O249) (fun w253 v254 h255 hq256 => ?_)
                    obtain ⟨e_v254, O257⟩ := hq256
                    dsimp only at e_v254
                    subst v254
                    replace O257 : Hold B h255 [(xd_, obS (w253 : Sl Int)), pZ9 o_ 1 [cv_]] := O257
                    exact kA6 ⟨rfl, O257⟩
                  · exact kA6 ⟨rfl, O249⟩
              · refine kA1 (kAb _ _) ?_
                refine kBh (e := bv) (fun hb258 => ?_) (fun c259 => ?_)
                · refine kA1 (kAb _ _) ?_
                  exact kA6 rfl
                · refine kA1 (v := bv (bif decide ((wr (Int.fdiv (IntKind.u64.wrap (wr (a_ + b_))) (2 ^ 1))) < (wr ((wr ((wr (Int.fdiv (IntKind.u64.wrap (wr (a_ + b_))) (2 ^ 1))) + m_)) - q207))) then c259 else false)) (kE2 _ _ _) ?_
                  refine kA9 (fun c260 => ?_) (fun c260 => ?_)
                  · refine kBv he_q35 (S_slices_symMergeCmpFunc_int64 data_ (wr (Int.fdiv (IntKind.u64.wrap (wr (a_ + b_))) (2 ^ 1))) (wr ((wr ((wr (Int.fdiv (IntKind.u64.wrap (wr (a_ + b_))) (2 ^ 1))) + m_)) - q207)) b_ O206) (fun w261 v262 h263 hq264 => ?_)
                    obtain ⟨e_v262, O265⟩ := hq264
                    dsimp only at e_v262
                    subst v262
                    replace O265 : Hold B h263 [(xd_, obS (w261 : Sl Int)), pZ9 o_ 1 [cv_]] := O265
                    exact kA6 ⟨rfl, O265⟩
                  · exact kA6 ⟨rfl, O206⟩
def kHz (p_ : Int → Int → Option Int) (n_ : Int) (w19 : Int) : ((Sl Int) × Int × Int) → Option (Sum ((Sl Int) × Int × Int) ((Sl Int) × Int)) := fun (w28, w31, w32) =>
  bif decide (w32 ≤ n_) then
    kA0 (kEh p_ 100000 w28 w31 (wr (w31 + w19)) w32) fun w47 =>
    some (.inl (w47, w32, wr (w32 + (wr (2 * w19)))))
  else
    some (.inr (w28, w31))
def kGw (p_ : Int → Int → Option Int) (n_ : Int) : ((Sl Int) × Int) → Option (Sum ((Sl Int) × Int) (Sl Int)) := fun (w16, w19) =>
  bif decide (w19 < n_) then
    kA0 (kB6 (kHz p_ n_ w19) (w16, 0, wr (2 * w19))) fun (q35, q36) =>
    bif decide ((wr (q36 + w19)) < n_) then
      kA0 (kEh p_ 100000 q35 q36 (wr (q36 + w19)) n_) fun w39 =>
      some (.inl (w39, wr (w19 * 2)))
    else
      some (.inl (q35, wr (w19 * 2)))
  else
    some (.inr w16)
def kH1 (p_ : Int → Int → Option Int) (n_ : Int) : ((Sl Int) × Int × Int) → Option (Sum ((Sl Int) × Int × Int) ((Sl Int) × Int)) := fun (w1, w4, w5) =>
  bif decide (w5 ≤ n_) then
    kA0 (t_q31 p_ w1 w4 w5) fun w60 =>
    some (.inl (w60, w5, wr (w5 + 20)))
  else
    some (.inr (w1, w4))
def t_q33 (p_ : Int → Int → Option Int) (data_ : Sl Int) (n_ : Int) : Option (Sl Int) :=
  kA0 (kB6 (kH1 p_ n_) (data_, 0, 20)) fun (q8, q9) =>
  kA0 (t_q31 p_ q8 q9 n_) fun w11 =>
  kA0 (kB6 (kGw p_ n_) (w11, 20)) fun q22 =>
  some q22
theorem tl2_q33 (env : Nat → Contract) {B : Base} {g : Nat} {f_ : List AV → Option AV} {P : Int → Int → Option Int} {o_ : Nat} {cv_ : AV} (he_g : env g = .pure f_) (hp : ∀ a b h, h[o_]? = some ⟨1, [[cv_]]⟩ → Sim (kAa f_ [iv a, iv b, AV.ptr o_ 1 0 0] h) (P a b) fun c r => r = (iv c, h)) {F_slices_insertionSortCmpFunc_int64 : List AV → kA4 → Option (AV × kA4)} (he_q31 : env n_q31 = .gen F_slices_insertionSortCmpFunc_int64) (S_slices_insertionSortCmpFunc_int64 : ∀ {B : Base} {h : kA4} {x : AV} (d : Sl Int) (a0 a1 : Int), Hold B h [(x, obS (d : Sl Int)), pZ9 o_ 1 [cv_]] → Sim (F_slices_insertionSortCmpFunc_int64 [x, iv a0, iv a1, AV.fn g [AV.ptr o_ 1 0 0]] h) (t_q31 P d a0 a1) fun c p => p.1 = AV.tup [] ∧ Hold B p.2 [(x, obS (c : Sl Int)), pZ9 o_ 1 [cv_]]) {F_slices_symMergeCmpFunc_int64 : List AV → kA4 → Option (AV × kA4)} (he_q35 : env kD0 = .gen F_slices_symMergeCmpFunc_int64) (S_slices_symMergeCmpFunc_int64 : ∀ {B : Base} {h : kA4} {x : AV} (d : Sl Int) (a0 a1 a2 : Int), Hold B h [(x, obS (d : Sl Int)), pZ9 o_ 1 [cv_]] → Sim (F_slices_symMergeCmpFunc_int64 [x, iv a0, iv a1, iv a2, AV.fn g [AV.ptr o_ 1 0 0]] h) (kEh P 100000 d a0 a1 a2) fun c p => p.1 = AV.tup [] ∧ Hold B p.2 [(x, obS (c : Sl Int)), pZ9 o_ 1 [cv_]]) (xd_ : AV) (n_ : Int) (q9 : Int) (w19 : Int)  : kHw (fun (st : (Sl Int) × Int × Int) tm h29 => match st with | (w28, w31, w32) => tm = (xd_ :: (iv n_) :: (AV.fn g [AV.ptr o_ 1 0 0]) :: und :: und :: und :: (iv w19) :: (iv w31) :: (iv w32) :: .top :: (iv 20) :: .top :: .top :: .top :: .top :: .top :: .top :: .top :: .top :: .top :: .top :: .top :: .top :: xd_ :: (iv q9) :: (iv n_) :: (AV.fn g [AV.ptr o_ 1 0 0]) :: (AV.tup []) :: (iv w19) :: (iv n_) :: (bv (decide (w19 < n_))) :: (iv w19) :: (iv (wr (2 * w19))) :: tZ9 16 [.top, .top, .top, .top, .top, .top, .top, .top, .top, .top, .top, .top, .top, .top]) ∧ Hold B h29 [(xd_, obS (w28 : Sl Int)), pZ9 o_ 1 [cv_]]) hm2_q33 xm2_q33 (lb2_q33 env) (kHz P n_ w19) (fun (q : (Sl Int) × Int) (r : Res) => match q with | (q35, q36) => ∃ (q37 : Int) (h33 : kA4), r = (.exit 4, (xd_ :: (iv n_) :: (AV.fn g [AV.ptr o_ 1 0 0]) :: und :: und :: und :: (iv w19) :: (iv q36) :: (iv q37) :: .top :: (iv 20) :: .top :: .top :: .top :: .top :: .top :: .top :: .top :: .top :: .top :: .top :: .top :: .top :: xd_ :: (iv q9) :: (iv n_) :: (AV.fn g [AV.ptr o_ 1 0 0]) :: (AV.tup []) :: (iv w19) :: (iv n_) :: (bv (decide (w19 < n_))) :: (iv w19) :: (iv (wr (2 * w19))) :: tZ9 16 [.top, .top, .top, .top, .top, .top, .top, .top, .top, .top, .top, .top, .top, .top]), h33) ∧ Hold B h33 [(xd_, obS (q35 : Sl Int)), pZ9 o_ 1 [cv_]]) := by
  refine @lpZ9 _ _ _ _ _ _ _ _ (fun st tm h29 R => ?_)
  obtain ⟨w28, w31, w32⟩ := st
  obtain ⟨rfl, O30⟩ := R
  rw [e_lb2_q33]
  unfold kHz
  dsimp only
  refine kA1 (aBin_leq _ _) ?_
  refine kA9 (fun c46 => ?_) (fun c46 => ?_)
  · refine kA1 (kAl _ _) ?_
    refine kBv he_q35 (S_slices_symMergeCmpFunc_int64 w28 w31 (wr (w31 + w19)) w32 O30) (fun w47 v48 h49 hq50 => ?_)
    obtain ⟨e_v48, O51⟩ := hq50
    dsimp only at e_v48
    subst v48
    replace O51 : Hold B h49 [(xd_, obS (w47 : Sl Int)), pZ9 o_ 1 [cv_]] := O51
    refine kA1 (aBin_mul _ _) ?_
    refine kA1 (kAl _ _) ?_
    exact kA6 ⟨rfl, rfl, O51⟩
  · exact kA6 ⟨nofun, _, _, rfl, O30⟩
theorem tl1_q33 (env : Nat → Contract) {B : Base} {g : Nat} {f_ : List AV → Option AV} {P : Int → Int → Option Int} {o_ : Nat} {cv_ : AV} (he_g : env g = .pure f_) (hp : ∀ a b h, h[o_]? = some ⟨1, [[cv_]]⟩ → Sim (kAa f_ [iv a, iv b, AV.ptr o_ 1 0 0] h) (P a b) fun c r => r = (iv c, h)) {F_slices_insertionSortCmpFunc_int64 : List AV → kA4 → Option (AV × kA4)} (he_q31 : env n_q31 = .gen F_slices_insertionSortCmpFunc_int64) (S_slices_insertionSortCmpFunc_int64 : ∀ {B : Base} {h : kA4} {x : AV} (d : Sl Int) (a0 a1 : Int), Hold B h [(x, obS (d : Sl Int)), pZ9 o_ 1 [cv_]] → Sim (F_slices_insertionSortCmpFunc_int64 [x, iv a0, iv a1, AV.fn g [AV.ptr o_ 1 0 0]] h) (t_q31 P d a0 a1) fun c p => p.1 = AV.tup [] ∧ Hold B p.2 [(x, obS (c : Sl Int)), pZ9 o_ 1 [cv_]]) {F_slices_symMergeCmpFunc_int64 : List AV → kA4 → Option (AV × kA4)} (he_q35 : env kD0 = .gen F_slices_symMergeCmpFunc_int64) (S_slices_symMergeCmpFunc_int64 : ∀ {B : Base} {h : kA4} {x : AV} (d : Sl Int) (a0 a1 a2 : Int), Hold B h [(x, obS (d : Sl Int)), pZ9 o_ 1 [cv_]] → Sim (F_slices_symMergeCmpFunc_int64 [x, iv a0, iv a1, iv a2, AV.fn g [AV.ptr o_ 1 0 0]] h) (kEh P 100000 d a0 a1 a2) fun c p => p.1 = AV.tup [] ∧ Hold B p.2 [(x, obS (c : Sl Int)), pZ9 o_ 1 [cv_]]) (xd_ : AV) (n_ : Int) (q9 : Int)  : kHw (fun (st : (Sl Int) × Int) tm h17 => match st with | (w16, w19) => tm = (xd_ :: (iv n_) :: (AV.fn g [AV.ptr o_ 1 0 0]) :: und :: und :: und :: (iv w19) :: .top :: .top :: .top :: (iv 20) :: .top :: .top :: .top :: .top :: .top :: .top :: .top :: .top :: .top :: .top :: .top :: .top :: xd_ :: (iv q9) :: (iv n_) :: (AV.fn g [AV.ptr o_ 1 0 0]) :: (AV.tup []) :: tZ9 35 []) ∧ Hold B h17 [(xd_, obS (w16 : Sl Int)), pZ9 o_ 1 [cv_]]) hm1_q33 xm1_q33 (lb1_q33 env) (kGw P n_) (fun (q : Sl Int) (r : Res) => match q with | q22 => ∃ (q23 : Int) (z24 : AV) (z25 : AV) (z26 : AV) (h20 : kA4), r = (.exit 2, (xd_ :: (iv n_) :: (AV.fn g [AV.ptr o_ 1 0 0]) :: und :: und :: und :: (iv q23) :: z24 :: z25 :: z26 :: (iv 20) :: .top :: .top :: .top :: .top :: .top :: .top :: .top :: .top :: .top :: .top :: .top :: .top :: xd_ :: (iv q9) :: (iv n_) :: (AV.fn g [AV.ptr o_ 1 0 0]) :: (AV.tup []) :: tZ9 35 []), h20) ∧ Hold B h20 [(xd_, obS (q22 : Sl Int)), pZ9 o_ 1 [cv_]]) := by
  refine @lpZ9 _ _ _ _ _ _ _ _ (fun st tm h17 R => ?_)
  obtain ⟨w16, w19⟩ := st
  obtain ⟨rfl, O18⟩ := R
  rw [e_lb1_q33]
  unfold kGw
  dsimp only
  refine kA1 (kAb _ _) ?_
  refine kA9 (fun c27 => ?_) (fun c27 => ?_)
  · refine kA1 (aBin_mul _ _) ?_
    refine kB7 ((tl2_q33 env he_g hp he_q31 S_slices_insertionSortCmpFunc_int64 he_q35 S_slices_symMergeCmpFunc_int64 xd_ n_ q9 w19) ⟨rfl, O18⟩) (fun qq55 r hq => ?_)
    obtain ⟨q35, q36⟩ := qq55
    obtain ⟨q37, h33, rfl, O34⟩ := hq
    rw [e_lk2x4_q33]
    refine kA1 (kAl _ _) ?_
    refine kA1 (kAb _ _) ?_
    refine kA9 (fun c38 => ?_) (fun c38 => ?_)
    · refine kBv he_q35 (S_slices_symMergeCmpFunc_int64 q35 q36 (wr (q36 + w19)) n_ O34) (fun w39 v40 h41 hq42 => ?_)
      obtain ⟨e_v40, O43⟩ := hq42
      dsimp only at e_v40
      subst v40
      replace O43 : Hold B h41 [(xd_, obS (w39 : Sl Int)), pZ9 o_ 1 [cv_]] := O43
      refine kA1 (aBin_mul _ _) ?_
      exact kA6 ⟨rfl, rfl, O43⟩
    · refine kA1 (aBin_mul _ _) ?_
      exact kA6 ⟨rfl, rfl, O34⟩
  · exact kA6 ⟨nofun, _, _, _, _, _, rfl, O18⟩
theorem tl0_q33 (env : Nat → Contract) {B : Base} {g : Nat} {f_ : List AV → Option AV} {P : Int → Int → Option Int} {o_ : Nat} {cv_ : AV} (he_g : env g = .pure f_) (hp : ∀ a b h, h[o_]? = some ⟨1, [[cv_]]⟩ → Sim (kAa f_ [iv a, iv b, AV.ptr o_ 1 0 0] h) (P a b) fun c r => r = (iv c, h)) {F_slices_insertionSortCmpFunc_int64 : List AV → kA4 → Option (AV × kA4)} (he_q31 : env n_q31 = .gen F_slices_insertionSortCmpFunc_int64) (S_slices_insertionSortCmpFunc_int64 : ∀ {B : Base} {h : kA4} {x : AV} (d : Sl Int) (a0 a1 : Int), Hold B h [(x, obS (d : Sl Int)), pZ9 o_ 1 [cv_]] → Sim (F_slices_insertionSortCmpFunc_int64 [x, iv a0, iv a1, AV.fn g [AV.ptr o_ 1 0 0]] h) (t_q31 P d a0 a1) fun c p => p.1 = AV.tup [] ∧ Hold B p.2 [(x, obS (c : Sl Int)), pZ9 o_ 1 [cv_]]) {F_slices_symMergeCmpFunc_int64 : List AV → kA4 → Option (AV × kA4)} (he_q35 : env kD0 = .gen F_slices_symMergeCmpFunc_int64) (S_slices_symMergeCmpFunc_int64 : ∀ {B : Base} {h : kA4} {x : AV} (d : Sl Int) (a0 a1 a2 : Int), Hold B h [(x, obS (d : Sl Int)), pZ9 o_ 1 [cv_]] → Sim (F_slices_symMergeCmpFunc_int64 [x, iv a0, iv a1, iv a2, AV.fn g [AV.ptr o_ 1 0 0]] h) (kEh P 100000 d a0 a1 a2) fun c p => p.1 = AV.tup [] ∧ Hold B p.2 [(x, obS (c : Sl Int)), pZ9 o_ 1 [cv_]]) (xd_ : AV) (n_ : Int)  : kHw (fun (st : (Sl Int) × Int × Int) tm h2 => match st with | (w1, w4, w5) => tm = (xd_ :: (iv n_) :: (AV.fn g [AV.ptr o_ 1 0 0]) :: und :: und :: und :: (iv 20) :: (iv w4) :: (iv w5) :: und :: (iv 20) :: tZ9 12 [und, und, und, und, und, und, und, und, und, und, und, und, und, und, und, und, und, und, und, und, und, und, und, und, und, und, und, und, und, und, und, und, und, und, und, und, und, und, und, und]) ∧ Hold B h2 [(xd_, obS (w1 : Sl Int)), pZ9 o_ 1 [cv_]]) hm0_q33 xm0_q33 (lb0_q33 env) (kH1 P n_) (fun (q : (Sl Int) × Int) (r : Res) => match q with | (q8, q9) => ∃ (q10 : Int) (h6 : kA4), r = (.exit 0, (xd_ :: (iv n_) :: (AV.fn g [AV.ptr o_ 1 0 0]) :: und :: und :: und :: (iv 20) :: (iv q9) :: (iv q10) :: und :: (iv 20) :: tZ9 12 [und, und, und, und, und, und, und, und, und, und, und, und, und, und, und, und, und, und, und, und, und, und, und, und, und, und, und, und, und, und, und, und, und, und, und, und, und, und, und, und]), h6) ∧ Hold B h6 [(xd_, obS (q8 : Sl Int)), pZ9 o_ 1 [cv_]]) := by
  refine @lpZ9 _ _ _ _ _ _ _ _ (fun st tm h2 R => ?_)
  obtain ⟨w1, w4, w5⟩ := st
  obtain ⟨rfl, O3⟩ := R
  rw [e_lb0_q33]
  unfold kH1
  dsimp only
  refine kA1 (aBin_leq _ _) ?_
  refine kA9 (fun c59 => ?_) (fun c59 => ?_)
  · refine kBv he_q31 (S_slices_insertionSortCmpFunc_int64 w1 w4 w5 O3) (fun w60 v61 h62 hq63 => ?_)
    obtain ⟨e_v61, O64⟩ := hq63
    dsimp only at e_v61
    subst v61
    replace O64 : Hold B h62 [(xd_, obS (w60 : Sl Int)), pZ9 o_ 1 [cv_]] := O64
    refine kA1 (kAl _ _) ?_
    exact kA6 ⟨rfl, rfl, O64⟩
  · exact kA6 ⟨nofun, _, _, rfl, O3⟩
theorem ts_q33 (env : Nat → Contract) {g : Nat} {f_ : List AV → Option AV} {P : Int → Int → Option Int} {o_ : Nat} {cv_ : AV} (he_g : env g = .pure f_) (hp : ∀ a b h, h[o_]? = some ⟨1, [[cv_]]⟩ → Sim (kAa f_ [iv a, iv b, AV.ptr o_ 1 0 0] h) (P a b) fun c r => r = (iv c, h)) {F_slices_insertionSortCmpFunc_int64 : List AV → kA4 → Option (AV × kA4)} (he_q31 : env n_q31 = .gen F_slices_insertionSortCmpFunc_int64) (S_slices_insertionSortCmpFunc_int64 : ∀ {B : Base} {h : kA4} {x : AV} (d : Sl Int) (a0 a1 : Int), Hold B h [(x, obS (d : Sl Int)), pZ9 o_ 1 [cv_]] → Sim (F_slices_insertionSortCmpFunc_int64 [x, iv a0, iv a1, AV.fn g [AV.ptr o_ 1 0 0]] h) (t_q31 P d a0 a1) fun c p => p.1 = AV.tup [] ∧ Hold B p.2 [(x, obS (c : Sl Int)), pZ9 o_ 1 [cv_]]) {F_slices_symMergeCmpFunc_int64 : List AV → kA4 → Option (AV × kA4)} (he_q35 : env kD0 = .gen F_slices_symMergeCmpFunc_int64) (S_slices_symMergeCmpFunc_int64 : ∀ {B : Base} {h : kA4} {x : AV} (d : Sl Int) (a0 a1 a2 : Int), Hold B h [(x, obS (d : Sl Int)), pZ9 o_ 1 [cv_]] → Sim (F_slices_symMergeCmpFunc_int64 [x, iv a0, iv a1, iv a2, AV.fn g [AV.ptr o_ 1 0 0]] h) (kEh P 100000 d a0 a1 a2) fun c p => p.1 = AV.tup [] ∧ Hold B p.2 [(x, obS (c : Sl Int)), pZ9 o_ 1 [cv_]]) {B : Base} {h : kA4} {xd_ : AV} (data_ : Sl Int) (n_ : Int) (O : Hold B h [(xd_, obS (data_ : Sl Int)), pZ9 o_ 1 [cv_]]) : Sim (kAm Try.prog env n_q33 [xd_, iv n_, AV.fn g [AV.ptr o_ 1 0 0]] h) (t_q33 P data_ n_) fun c p => p.1 = AV.tup [] ∧ Hold B p.2 [(xd_, obS (c : Sl Int)), pZ9 o_ 1 [cv_]] := by
  rw [e_q33]
  unfold t_q33
  refine kB7 ((tl0_q33 env he_g hp he_q31 S_slices_insertionSortCmpFunc_int64 he_q35 S_slices_symMergeCmpFunc_int64 xd_ n_) ⟨rfl, O⟩) (fun qq68 r hq => ?_)
  obtain ⟨q8, q9⟩ := qq68
  obtain ⟨q10, h6, rfl, O7⟩ := hq
  rw [e_lk0x0_q33]
  refine kBv he_q31 (S_slices_insertionSortCmpFunc_int64 q8 q9 n_ O7) (fun w11 v12 h13 hq14 => ?_)
  obtain ⟨e_v12, O15⟩ := hq14
  dsimp only at e_v12
  subst v12
  replace O15 : Hold B h13 [(xd_, obS (w11 : Sl Int)), pZ9 o_ 1 [cv_]] := O15
  refine kB7 ((tl1_q33 env he_g hp he_q31 S_slices_insertionSortCmpFunc_int64 he_q35 S_slices_symMergeCmpFunc_int64 xd_ n_ q9) ⟨rfl, O15⟩) (fun qq58 r hq => ?_)
  revert hq
  revert qq58
  intro q22 hq
  obtain ⟨q23, z24, z25, z26, h20, rfl, O21⟩ := hq
  rw [e_lk1x2_q33]
  exact kA6 ⟨rfl, O21⟩
def t_q30 (p_ : Int → Int → Option Int) (x_ : Sl Int) : Option (Sl Int) :=
  kA0 (t_q33 p_ x_ (((x_.getD []).length : Nat) : Int)) fun w1 =>
  some w1
theorem ts_q30 (env : Nat → Contract) {g : Nat} {f_ : List AV → Option AV} {P : Int → Int → Option Int} {o_ : Nat} {cv_ : AV} (he_g : env g = .pure f_) (hp : ∀ a b h, h[o_]? = some ⟨1, [[cv_]]⟩ → Sim (kAa f_ [iv a, iv b, AV.ptr o_ 1 0 0] h) (P a b) fun c r => r = (iv c, h)) {F_slices_stableCmpFunc_int64 : List AV → kA4 → Option (AV × kA4)} (he_q33 : env n_q33 = .gen F_slices_stableCmpFunc_int64) (S_slices_stableCmpFunc_int64 : ∀ {B : Base} {h : kA4} {x : AV} (d : Sl Int) (a0 : Int), Hold B h [(x, obS (d : Sl Int)), pZ9 o_ 1 [cv_]] → Sim (F_slices_stableCmpFunc_int64 [x, iv a0, AV.fn g [AV.ptr o_ 1 0 0]] h) (t_q33 P d a0) fun c p => p.1 = AV.tup [] ∧ Hold B p.2 [(x, obS (c : Sl Int)), pZ9 o_ 1 [cv_]]) {B : Base} {h : kA4} {xd_ : AV} (x_ : Sl Int) (O : Hold B h [(xd_, obS (x_ : Sl Int)), pZ9 o_ 1 [cv_]]) : Sim (kAm Try.prog env kGl [xd_, AV.fn g [AV.ptr o_ 1 0 0]] h) (t_q30 P x_) fun c p => p.1 = AV.tup [] ∧ Hold B p.2 [(xd_, obS (c : Sl Int)), pZ9 o_ 1 [cv_]] := by
  rw [e_q30]
  unfold t_q30
  refine kA1 (v := iv (((x_.getD []).length : Nat) : Int)) (O.tab (A := Int) (s := x_) 0 rfl).len ?_
  refine kBv he_q33 (S_slices_stableCmpFunc_int64 x_ (((x_.getD []).length : Nat) : Int) O) (fun w1 v2 h3 hq4 => ?_)
  obtain ⟨e_v2, O5⟩ := hq4
  dsimp only at e_v2
  subst v2
  replace O5 : Hold B h3 [(xd_, obS (w1 : Sl Int)), pZ9 o_ 1 [cv_]] := O5
  exact kA6 ⟨rfl, O5⟩
def fStb : List AV → Option AV := C3 (fun c : Int => enc c) tp_q11
theorem hpStb {o : Nat} (boxes : Sl Box) : ∀ a b h, h[o]? = some ⟨1, [[Sl.enc boxes]]⟩ → Sim (kAa fStb [iv a, iv b, AV.ptr o 1 0 0] h) (kE0 a b boxes) fun c r => r = (iv c, h) := fun a b h ho => by
  have s2 : snapD h (.ptr o 1 0 0) = some (⟨[boxes], 0⟩ : Pt (Sl Box)) := by
    have e : snap h depth (.ptr o 1 0 0) = some (enc (⟨[boxes], 0⟩ : Pt (Sl Box))) := by
      show (match h[o]? with | some ob => if ob.rows.length = 1 then (match kB4 (kB4 (snap h 7)) ob.rows with | some rows => some (AV.fptr ob.k rows 0 0) | none => none) else none | none => none) = _
      rw [ho]
      cases boxes <;> rfl
    unfold snapD
    rw [e]
    exact Cod.de (⟨[boxes], 0⟩ : Pt (Sl Box))
  unfold fStb C3
  rw [callR3, kAp, kA2, kAp, kA2, s2, kA2]
  rw [show tp_q11 a b (⟨[boxes], 0⟩ : Pt (Sl Box)) = kE0 a b boxes from rfl]
  cases kE0 a b boxes with
  | none => exact kDa
  | some c =>
    rw [kA2, kA2, kAf (by rfl)]
    exact kA6 rfl
def PostStb (B : Base) (x : AV) (o : Nat) (boxes : Sl Box) (c : Sl Int) (p : AV × kA4) : Prop := p.1 = AV.tup [] ∧ Hold B p.2 [(x, obS (c : Sl Int)), pZ9 o 1 [Sl.enc boxes]]
noncomputable def ev_q34 : Nat → Contract := kC8 [(kDc, .pure fStb)]
theorem kDg : kBl Try.prog ev_q34 := (kC7 tt_q11 E0)
theorem tg_q34 {B : Base} {h : kA4} {x : AV} {o : Nat} (boxes : Sl Box) (d : Sl Int) (a0 a1 a2 : Int) (O : Hold B h [(x, obS (d : Sl Int)), pZ9 o 1 [Sl.enc boxes]]) : Sim (kAm Try.prog ev_q34 n_q34 [x, iv a0, iv a1, iv a2, AV.fn kDc [AV.ptr o 1 0 0]] h) (t_q34 (fun a b => kE0 a b boxes) d a0 a1 a2) (PostStb B x o boxes) :=
  ts_q34 ev_q34 (g := kDc) (P := fun a b => kE0 a b boxes) (by simp [ev_q34, kC8]) (hpStb boxes) d a0 a1 a2 O
noncomputable def ev_q32 : Nat → Contract := kC8 [(kDc, .pure fStb), (n_q34, .gen (kAm Try.prog ev_q34 n_q34))]
theorem kE1 : kBl Try.prog ev_q32 := (kC7 tt_q11 (kG7 (kCy kDg mixed hb_q34) E0))
theorem tg_q32 {B : Base} {h : kA4} {x : AV} {o : Nat} (boxes : Sl Box) (d : Sl Int) (a0 a1 a2 : Int) (O : Hold B h [(x, obS (d : Sl Int)), pZ9 o 1 [Sl.enc boxes]]) : Sim (kAm Try.prog ev_q32 kGn [x, iv a0, iv a1, iv a2, AV.fn kDc [AV.ptr o 1 0 0]] h) (kH5 (fun a b => kE0 a b boxes) d a0 a1 a2) (PostStb B x o boxes) :=
  ts_q32 ev_q32 (g := kDc) (P := fun a b => kE0 a b boxes) (by simp [ev_q32, kC8]) (hpStb boxes) (F_slices_swapRangeCmpFunc_int64 := kAm Try.prog ev_q34 n_q34) (by simp [ev_q32, kC8]) (fun d a0 a1 a2 O => tg_q34 boxes d a0 a1 a2 O) d a0 a1 a2 O
noncomputable def kDp : Nat → List AV → kA4 → Option (AV × kA4)
  | 0 => fun _ _ => none
  | k + 1 => kAm Try.prog (kC8 [(kDc, .pure fStb), (kGn, .gen (kAm Try.prog ev_q32 kGn)), (kD0, .gen (kDp k))]) kD0
theorem gen_none {P : Program} {g : Nat} : GenOK P g (fun _ _ => none) := fun _ _ _ _ h => by cases h
theorem kGv : ∀ k, GenOK Try.prog kD0 (kDp k)
  | 0 => gen_none
  | k + 1 => kCy (kC7 tt_q11 (kG7 (kCy kE1 mixed hb_q32) (kG7 (kGv k) E0))) mixed hb_q35
theorem kG8 {o : Nat} (boxes : Sl Box) : ∀ (k : Nat) {B : Base} {h : kA4} {x : AV} (d : Sl Int) (a0 a1 a2 : Int), Hold B h [(x, obS (d : Sl Int)), pZ9 o 1 [Sl.enc boxes]] → Sim (kDp k [x, iv a0, iv a1, iv a2, AV.fn kDc [AV.ptr o 1 0 0]] h) (kEh (fun a b => kE0 a b boxes) k d a0 a1 a2) (PostStb B x o boxes)
  | 0, _, _, _, _, _, _, _, _ => kDa
  | k + 1, B, h, x, d, a0, a1, a2, O =>
    ts_q35 _ (g := kDc) (P := fun a b => kE0 a b boxes) (by simp [kC8]) (hpStb boxes) (rec_ := kEh (fun a b => kE0 a b boxes) k) (F_slices_rotateCmpFunc_int64 := kAm Try.prog ev_q32 kGn) (by simp [kC8]) (fun d a0 a1 a2 O => tg_q32 boxes d a0 a1 a2 O) (F_slices_symMergeCmpFunc_int64 := kDp k) (by simp [kC8]) (fun d a0 a1 a2 O => kG8 boxes k d a0 a1 a2 O) d a0 a1 a2 O
noncomputable def ev_q31 : Nat → Contract := kC8 [(kDc, .pure fStb)]
theorem kD3 : kBl Try.prog ev_q31 := (kC7 tt_q11 E0)
theorem tg_q31 {B : Base} {h : kA4} {x : AV} {o : Nat} (boxes : Sl Box) (d : Sl Int) (a0 a1 : Int) (O : Hold B h [(x, obS (d : Sl Int)), pZ9 o 1 [Sl.enc boxes]]) : Sim (kAm Try.prog ev_q31 n_q31 [x, iv a0, iv a1, AV.fn kDc [AV.ptr o 1 0 0]] h) (t_q31 (fun a b => kE0 a b boxes) d a0 a1) (PostStb B x o boxes) :=
  ts_q31 ev_q31 (g := kDc) (P := fun a b => kE0 a b boxes) (by simp [ev_q31, kC8]) (hpStb boxes) d a0 a1 O
noncomputable def ev_q33 : Nat → Contract := kC8 [(n_q31, .gen (kAm Try.prog ev_q31 n_q31)), (kD0, .gen (kDp 100000)), (kDc, .pure fStb)]
theorem kDz : kBl Try.prog ev_q33 := (kG7 (kCy kD3 mixed hb_q31) (kG7 (kGv 100000) (kC7 tt_q11 E0)))
theorem tg_q33 {B : Base} {h : kA4} {x : AV} {o : Nat} (boxes : Sl Box) (d : Sl Int) (a0 : Int) (O : Hold B h [(x, obS (d : Sl Int)), pZ9 o 1 [Sl.enc boxes]]) : Sim (kAm Try.prog ev_q33 n_q33 [x, iv a0, AV.fn kDc [AV.ptr o 1 0 0]] h) (t_q33 (fun a b => kE0 a b boxes) d a0) (PostStb B x o boxes) :=
  ts_q33 ev_q33 (g := kDc) (P := fun a b => kE0 a b boxes) (by simp [ev_q33, kC8]) (hpStb boxes) (F_slices_insertionSortCmpFunc_int64 := kAm Try.prog ev_q31 n_q31) (by simp [ev_q33, kC8]) (fun d a0 a1 O => tg_q31 boxes d a0 a1 O) (F_slices_symMergeCmpFunc_int64 := kDp 100000) (by simp [ev_q33, kC8]) (fun d a0 a1 a2 O => kG8 boxes 100000 d a0 a1 a2 O) d a0 O
noncomputable def kGt : Nat → Contract := kC8 [(n_q33, .gen (kAm Try.prog ev_q33 n_q33)), (kDc, .pure fStb)]
theorem kD1 : kBl Try.prog kGt := (kG7 (kCy kDz mixed hb_q33) (kC7 tt_q11 E0))
theorem tg_q30 {B : Base} {h : kA4} {x : AV} {o : Nat} (boxes : Sl Box) (d : Sl Int) (O : Hold B h [(x, obS (d : Sl Int)), pZ9 o 1 [Sl.enc boxes]]) : Sim (kAm Try.prog kGt kGl [x, AV.fn kDc [AV.ptr o 1 0 0]] h) (t_q30 (fun a b => kE0 a b boxes) d) (PostStb B x o boxes) :=
  ts_q30 kGt (g := kDc) (P := fun a b => kE0 a b boxes) (by simp [kGt, kC8]) (hpStb boxes) (F_slices_stableCmpFunc_int64 := kAm Try.prog ev_q33 n_q33) (by simp [kGt, kC8]) (fun d a0 O => tg_q33 boxes d a0 O) d O
structure SK (s : l00Src) (k : Int) : Prop where
  lo : 0 ≤ s.pos
  hi : s.pos ≤ k
theorem SK.mono {s : l00Src} {k k' : Int} (h : SK s k) (hk : k ≤ k') : SK s k' := ⟨h.lo, by have := h.hi; omega⟩
theorem kDn {k n : Nat} (h : k < n) (hn : n ≤ 4294967296) : wr ((k : Int) + 1) = ((k + 1 : Nat) : Int) := by
  rw [kBg (by omega) (by omega)]
  omega
theorem kFp {A : Type} {l : List A} {k : Nat} {a : A} (h : l[k]? = some a) : k < l.length := (List.getElem?_eq_some_iff.1 h).1
structure PtV (p : Point) : Prop where
  x0 : 0 ≤ p.x
  x1 : p.x ≤ 4095
  y0 : 0 ≤ p.y
  y1 : p.y ≤ 4095
  t0 : 0 ≤ p.t
  t1 : p.t ≤ 3600000
structure StV (l : List Point) : Prop where
  pts : ∀ p ∈ l, PtV p
  inc : ∀ (k : Nat) p q, l[k]? = some p → l[k + 1]? = some q → p.t < q.t
  n1 : 1 ≤ l.length
  n2 : l.length ≤ 60
structure PtB (p : Point) : Prop where
  x0 : -10000000 ≤ p.x
  x1 : p.x ≤ 10000000
  y0 : -10000000 ≤ p.y
  y1 : p.y ≤ 10000000
  t0 : -10000000 ≤ p.t
  t1 : p.t ≤ 10000000
structure StB (s : Stroke) : Prop where
  n : (s.points.getD []).length ≤ 100
  pts : ∀ p ∈ s.points.getD [], PtB p
theorem PtV.b {p : Point} (h : PtV p) : PtB p := by
  obtain ⟨h1, h2, h3, h4, h5, h6⟩ := h
  exact ⟨by omega, by omega, by omega, by omega, by omega, by omega⟩
theorem StV.b {l : List Point} (h : StV l) : StB ⟨some l⟩ := ⟨Nat.le_trans h.n2 (by omega), fun p hp => (h.pts p hp).b⟩
theorem appS_cons {A : Type} (s : Sl A) (a : A) (l : List A) : kDm s (a :: l) = some (s.getD [] ++ a :: l) := by cases s <;> rfl
structure InkV (L : List Stroke) : Prop where
  st : ∀ s ∈ L, ∃ l, s = ⟨some l⟩ ∧ StV l
  inc : ∀ (k : Nat) l l', L[k]? = some ⟨some l⟩ → L[k + 1]? = some ⟨some l'⟩ → ∀ p ∈ l, ∀ q ∈ l', p.t < q.t
  n : L.length ≤ 16
theorem InkV.b {L : List Stroke} (h : InkV L) : ∀ x ∈ L, StB x := fun x hx => by
  obtain ⟨l, rfl, hl⟩ := h.st x hx
  exact hl.b
theorem firstL_no {A R : Type} {f : Nat → A → Option R} : ∀ {l : List A} {k : Nat}, kD2 f l k = none → ∀ i a, l[i]? = some a → f (k + i) a = none
  | [], _, _, i, a, ha => by simp at ha
  | b :: l, k, h, i, a, ha => by
    unfold kD2 at h
    cases e : f k b with
    | some r => rw [e] at h; cases h
    | none =>
      rw [e] at h
      cases i with
      | zero =>
        simp only [List.getElem?_cons_zero, Option.some.injEq] at ha
        subst ha
        exact e
      | succ i =>
        have := firstL_no h i a (by simpa using ha)
        rw [← this]
        congr 1
        omega
theorem firstL_so {A R : Type} {f : Nat → A → Option R} : ∀ {l : List A} {k : Nat} {r : R}, kD2 f l k = some r → ∃ i a, f i a = some r
  | [], _, _, h => by cases h
  | b :: l, k, r, h => by
    unfold kD2 at h
    cases e : f k b with
    | some r' => rw [e] at h; cases h; exact ⟨k, b, e⟩
    | none => rw [e] at h; exact firstL_so h
theorem StB.le {s : Stroke} (h : StB s) : (s.points.getD []).length ≤ 4294967296 := Nat.le_trans h.n (by omega)
def pt (l : List Point) (i : Nat) : Point := l.getD i ⟨0, 0, 0⟩
def Pre (p q i j : Nat) : Prop := (i = p + 1 ∧ j = q + 1) ∨ (i = p + 1 ∧ j = q) ∨ (i = p ∧ j = q + 1)
inductive Pth (C : Nat → Nat → Int) (R : Nat → Nat → Prop) : Nat → Nat → Int → Prop
  | start : R 0 0 → Pth C R 0 0 (C 0 0)
  | step {p q i j : Nat} {c : Int} : Pth C R p q c → Pre p q i j → R i j → Pth C R i j (c + C i j)
def Opt (B : Int) (C : Nat → Nat → Int) (R : Nat → Nat → Prop) (i j : Nat) (v : Int) : Prop :=
  (v = B ∧ ∀ c, ¬ Pth C R i j c) ∨ (v < B ∧ Pth C R i j v ∧ ∀ c, Pth C R i j c → v ≤ c)
theorem Opt.le {B : Int} {C : Nat → Nat → Int} {R : Nat → Nat → Prop} {i j : Nat} {v : Int} (h : Opt B C R i j v) : v ≤ B := by
  rcases h with ⟨h, _⟩ | ⟨h, _⟩ <;> omega
theorem Pth.mono {C D : Nat → Nat → Int} {R S : Nat → Nat → Prop} {i j : Nat} {c : Int} (h : Pth C R i j c) (hR : ∀ p q, p ≤ i → q ≤ j → R p q → S p q) (hC : ∀ p q, p ≤ i → q ≤ j → C p q = D p q) : Pth D S i j c := by
  induction h with
  | start h =>
    rw [hC 0 0 (Nat.le_refl _) (Nat.le_refl _)]
    exact .start (hR 0 0 (Nat.le_refl _) (Nat.le_refl _) h)
  | @step p q i j c h1 h2 h3 ih =>
    have hle : p ≤ i ∧ q ≤ j := by rcases h2 with h | h | h <;> omega
    rw [hC i j (Nat.le_refl _) (Nat.le_refl _)]
    exact .step (ih (fun a b h4 h5 => hR a b (by omega) (by omega)) (fun a b h4 h5 => hC a b (by omega) (by omega))) h2 (hR i j (Nat.le_refl _) (Nat.le_refl _) h3)
theorem Pth.swap {C : Nat → Nat → Int} {R : Nat → Nat → Prop} {i j : Nat} {c : Int} (h : Pth C R i j c) : Pth (fun a b => C b a) (fun a b => R b a) j i c := by
  induction h with
  | start h => exact .start (C := fun a b => C b a) (R := fun a b => R b a) h
  | @step p q i j c h1 h2 h3 ih =>
    exact .step (C := fun a b => C b a) (R := fun a b => R b a) (i := j) (j := i) ih (by unfold Pre at *; omega) h3
def Val (T : List (Sl Int)) (p q : Nat) (v : Int) : Prop := ∃ row, T[p]? = some (some row) ∧ row[q]? = some v
theorem Val.set {T : List (Sl Int)} {i j p q : Nat} {row : List Int} {v w : Int} (hr : T[i]? = some (some row)) (hj : j < row.length) :
    Val (T.set i (some (row.set j w))) p q v ↔ (p = i ∧ q = j ∧ v = w) ∨ (¬ (p = i ∧ q = j) ∧ Val T p q v) := by
  have hi := kFp hr
  unfold Val
  constructor
  · rintro ⟨r, h1, h2⟩
    by_cases c : i = p
    · subst c
      rw [List.getElem?_set_self hi] at h1
      cases h1
      by_cases d : j = q
      · subst d
        rw [List.getElem?_set_self hj] at h2
        cases h2
        exact .inl ⟨rfl, rfl, rfl⟩
      · rw [List.getElem?_set_ne d] at h2
        exact .inr ⟨fun h => d h.2.symm, row, hr, h2⟩
    · rw [List.getElem?_set_ne c] at h1
      exact .inr ⟨fun h => c h.1.symm, r, h1, h2⟩
  · rintro (⟨rfl, rfl, rfl⟩ | ⟨hne, r, h1, h2⟩)
    · exact ⟨_, List.getElem?_set_self hi, List.getElem?_set_self hj⟩
    · by_cases c : i = p
      · subst c
        rw [hr] at h1
        cases h1
        have d : j ≠ q := fun h => hne ⟨rfl, h.symm⟩
        exact ⟨_, List.getElem?_set_self hi, by rw [List.getElem?_set_ne d]; exact h2⟩
      · exact ⟨r, by rw [List.getElem?_set_ne c]; exact h1, h2⟩
inductive Tr (C : Nat → Nat → Int) (R : Nat → Nat → Prop) : Nat → Nat → Int → List Pair → Prop
  | start : R 0 0 → Tr C R 0 0 (C 0 0) [⟨0, 0⟩]
  | step {p q i j : Nat} {c : Int} {L : List Pair} : Tr C R p q c L → Pre p q i j → R i j → Tr C R i j (c + C i j) (⟨(i : Int), (j : Int)⟩ :: L)
theorem Tr.head {C : Nat → Nat → Int} {R : Nat → Nat → Prop} {i j : Nat} {c : Int} {L : List Pair} (h : Tr C R i j c L) : ∃ L', L = ⟨(i : Int), (j : Int)⟩ :: L' := by
  cases h with
  | start h => exact ⟨[], rfl⟩
  | step h1 h2 h3 => exact ⟨_, rfl⟩
def PVal (T : List (Sl Part)) (p q : Nat) (v : Part) : Prop := ∃ row, T[p]? = some (some row) ∧ row[q]? = some v
theorem PVal.set {T : List (Sl Part)} {i j p q : Nat} {row : List Part} {v w : Part} (hr : T[i]? = some (some row)) (hj : j < row.length) :
    PVal (T.set i (some (row.set j w))) p q v ↔ (p = i ∧ q = j ∧ v = w) ∨ (¬ (p = i ∧ q = j) ∧ PVal T p q v) := by
  have hi := kFp hr
  unfold PVal
  constructor
  · rintro ⟨r, h1, h2⟩
    by_cases c : i = p
    · subst c
      rw [List.getElem?_set_self hi] at h1
      cases h1
      by_cases d : j = q
      · subst d
        rw [List.getElem?_set_self hj] at h2
        cases h2
        exact .inl ⟨rfl, rfl, rfl⟩
      · rw [List.getElem?_set_ne d] at h2
        exact .inr ⟨fun h => d h.2.symm, row, hr, h2⟩
    · rw [List.getElem?_set_ne c] at h1
      exact .inr ⟨fun h => c h.1.symm, r, h1, h2⟩
  · rintro (⟨rfl, rfl, rfl⟩ | ⟨hne, r, h1, h2⟩)
    · exact ⟨_, List.getElem?_set_self hi, List.getElem?_set_self hj⟩
    · by_cases c : i = p
      · subst c
        rw [hr] at h1
        cases h1
        have d : j ≠ q := fun h => hne ⟨rfl, h.symm⟩
        exact ⟨_, List.getElem?_set_self hi, by rw [List.getElem?_set_ne d]; exact h2⟩
      · exact ⟨r, by rw [List.getElem?_set_ne c]; exact h1, h2⟩
def d2 (a b : Point) : Int := (a.x - b.x) * (a.x - b.x) + (a.y - b.y) * (a.y - b.y)
def pbox (p : Point) : Box := ⟨p.x, p.y, p.x, p.y⟩
structure InB (a b : Box) : Prop where
  x1 : b.x1 ≤ a.x1
  y1 : b.y1 ≤ a.y1
  x2 : a.x2 ≤ b.x2
  y2 : a.y2 ≤ b.y2
theorem InB.refl (a : Box) : InB a a := ⟨Int.le_refl _, Int.le_refl _, Int.le_refl _, Int.le_refl _⟩
theorem InB.trans {a b c : Box} (h : InB a b) (g : InB b c) : InB a c := ⟨Int.le_trans g.x1 h.x1, Int.le_trans g.y1 h.y1, Int.le_trans h.x2 g.x2, Int.le_trans h.y2 g.y2⟩
theorem PtV.box {p : Point} (h : PtV p) : InB (pbox p) ⟨0, 0, 4095, 4095⟩ := ⟨h.x0, h.y0, h.x1, h.y1⟩
theorem copyLoop {A : Type} (d : A) (l : List A) (hl : l.length ≤ 4294967296) (step : ((Sl A) × Int) → Option (Sum ((Sl A) × Int) (Sl A)))
    (next : ∀ (M : List A) (k : Nat) (a : A), M.length = l.length → l[k]? = some a → step (some M, (k : Int)) = some (.inl (some (M.set k a), wr ((k : Int) + 1))))
    (fin : ∀ w : Sl A, step (w, ((l.length : Nat) : Int)) = some (.inr w)) : kB6 step (some (List.replicate l.length d), 0) = some (some l) := by
  obtain ⟨r, h1, h2⟩ := loopT_ex (step := step) (fun k t => ∃ M, t = (some M, (k : Int)) ∧ M.length = l.length ∧ ∀ j, j < k → M[j]? = l[j]?) l.length (fun r => r = some l)
    (fun k t hk ht => by
      obtain ⟨M, rfl, m1, m2⟩ := ht
      obtain ⟨a, ha⟩ : ∃ a, l[k]? = some a := ⟨l[k], List.getElem?_eq_getElem hk⟩
      have e := next M k a m1 ha
      rw [kDn hk hl] at e
      refine .inl ⟨_, e, _, rfl, by rw [List.length_set, m1], fun j hj => ?_⟩
      by_cases c : j = k
      · subst c
        rw [List.getElem?_set_self (by omega), ha]
      · rw [List.getElem?_set_ne (fun h => c h.symm)]
        exact m2 j (by omega))
    (fun t ht => by
      obtain ⟨M, rfl, m1, m2⟩ := ht
      refine ⟨_, fin _, ?_⟩
      congr 1
      apply List.ext_getElem?
      intro j
      by_cases c : j < l.length
      · exact m2 j c
      · rw [List.getElem?_eq_none (by omega), List.getElem?_eq_none (by omega)])
    (s := (some (List.replicate l.length d), 0)) ⟨_, rfl, by simp, fun j hj => by omega⟩
  rw [h1, h2]
theorem toBoxS_ok (a : Sl Box) (hl : (a.getD []).length ≤ 4294967296) : t_q26 a = some (some (a.getD [])) := by
  have mk : makeO (⟨0, 0, 0, 0⟩ : Box) (((a.getD []).length : Nat) : Int) = some (List.replicate (a.getD []).length ⟨0, 0, 0, 0⟩) := by
    unfold makeO
    rw [if_pos ⟨by omega, by omega⟩, Int.toNat_natCast]
  have lp := copyLoop (⟨0, 0, 0, 0⟩ : Box) (a.getD []) hl (s0_q26 a) (fun M k x hM hx => by
    have hk := kFp hx
    have c : (k : Int) < (((a.getD []).length : Nat) : Int) := by omega
    obtain ⟨y, hy⟩ : ∃ y, M[k]? = some y := ⟨M[k]'(by omega), List.getElem?_eq_getElem _⟩
    unfold s0_q26
    simp only [c, decide_true, cond_true, kB5 hx, kA2, Option.getD_some, kB5 hy, kC4, Option.map_some, Int.toNat_natCast]) (fun w => by
    unfold s0_q26
    simp only [Int.lt_irrefl, decide_false, cond_false])
  unfold t_q26
  rw [mk, kA2, lp, kA2]
theorem eqI_ok {a b : Sl Int} (h : a.getD [] = b.getD []) (hl : (a.getD []).length ≤ 4294967296) : t_q16 a b = some true := by
  have lp := kEk (step := s0_q16 a b) (a.getD []) (fun _ _ => (none : Option Bool)) (.inl ()) .inr
    (fun k x hx => by
      have hk := kFp hx
      have c : (k : Int) < ((a.getD []).length : Nat) := by omega
      unfold s0_q16
      simp only [c, decide_true, cond_true, kB5 hx, ← h, kA2, Bool.not_true, cond_false, kDn hk hl])
    (by
      unfold s0_q16
      simp only [Int.lt_irrefl, decide_false, cond_false])
  rw [kFd (fun _ _ _ => rfl)] at lp
  unfold t_q16
  rw [lp, ← h]
  simp
theorem eqB_ok {a b : Sl Box} (h : a.getD [] = b.getD []) (hl : (a.getD []).length ≤ 4294967296) : t_q15 a b = some true := by
  have lp := kEk (step := s0_q15 a b) (a.getD []) (fun _ _ => (none : Option Bool)) (.inl ()) .inr
    (fun k x hx => by
      have hk := kFp hx
      have c : (k : Int) < ((a.getD []).length : Nat) := by omega
      unfold s0_q15
      simp only [c, decide_true, cond_true, kB5 hx, ← h, kA2, Bool.not_true, cond_false, kDn hk hl])
    (by
      unfold s0_q15
      simp only [Int.lt_irrefl, decide_false, cond_false])
  rw [kFd (fun _ _ _ => rfl)] at lp
  unfold t_q15
  rw [lp, ← h]
  simp
theorem mkI_get : ∀ (n : Nat) (k : Int) (i : Nat), i < n → (mkI k n)[i]? = some (k + i)
  | 0, _, _, h => by omega
  | n + 1, k, 0, _ => by simp [mkI]
  | n + 1, k, i + 1, h => by
    have := mkI_get n (k + 1) i (by omega)
    simp only [mkI, List.getElem?_cons_succ, this]
    congr 1
    omega
def fVB (_ : Nat) (b : Box) : Option Bool := bif !kBd b then some false else none
def pageB (l : List Box) : Bool := match kD2 fVB l 0 with
  | none => decide (l.length ≤ 60)
  | some r => r
theorem l19Boxes_ok (s : Sl Box) (hl : (s.getD []).length ≤ 4294967296) : t_q41 s = some (pageB (s.getD [])) := by
  have lp := kEk (step := s0_q41 s) (s.getD []) fVB (.inl ()) .inr
    (fun k x hx => by
      have hk := kFp hx
      have c : (k : Int) < (((s.getD []).length : Nat) : Int) := by omega
      unfold s0_q41 fVB
      simp only [c, decide_true, cond_true, kB5 hx, kA2, kDn hk hl]
      cases kBd x <;> rfl)
    (by
      unfold s0_q41
      simp only [Int.lt_irrefl, decide_false, cond_false])
  have d : decide ((((s.getD []).length : Nat) : Int) ≤ 60) = decide ((s.getD []).length ≤ 60) := decide_eq_decide.2 (by omega)
  unfold t_q41 pageB
  rw [lp]
  cases kD2 fVB (s.getD []) 0 with
  | none => simp only [kA2, d]
  | some r => rfl
theorem fVB_some {l : List Box} {r : Bool} {k : Nat} (h : kD2 fVB l k = some r) : r = false := by
  obtain ⟨i, a, hf⟩ := firstL_so h
  unfold fVB at hf
  cases h2 : kBd a <;> rw [h2] at hf <;> cases hf
  rfl
theorem isPage_ok (s : Sl Box) (hl : (s.getD []).length ≤ 4294967296) : t_q6 s = some (pageB (s.getD [])) := by
  have lp := kEk (step := s0_q28 (fun a => some ((fun b : Box => !kBd b) a)) s) (s.getD []) (fun k a => bif !kBd a then some (k : Int) else none) (.inl ()) .inr
    (fun k a ha => by
      have hk := kFp ha
      have c : (k : Int) < (((s.getD []).length : Nat) : Int) := by omega
      unfold s0_q28
      simp only [c, decide_true, cond_true, kB5 ha, kA2, kDn hk hl]
      cases kBd a <;> rfl)
    (by
      unfold s0_q28
      simp only [Int.lt_irrefl, decide_false, cond_false])
  have key : ∀ (l : List Box) (k : Nat), (kD2 (fun (k : Nat) a => bif !kBd a then some (k : Int) else none) l k = none ∧ kD2 fVB l k = none) ∨ ∃ r, kD2 (fun (k : Nat) a => bif !kBd a then some (k : Int) else none) l k = some r ∧ 0 ≤ r ∧ kD2 fVB l k = some false := by
    intro l
    induction l with
    | nil => intro k; exact .inl ⟨rfl, rfl⟩
    | cons a l ih =>
      intro k
      unfold kD2 fVB
      cases e : kBd a with
      | true =>
        simp only [Bool.not_true, cond_false]
        exact ih (k + 1)
      | false => exact .inr ⟨(k : Int), rfl, by omega, rfl⟩
  have cf : t_q27 (fun a => some ((fun b : Box => !kBd b) a)) s = some (kD2 fVB (s.getD []) 0).isSome := by
    unfold t_q27 t_q28
    rw [lp]
    rcases key (s.getD []) 0 with ⟨h1, h2⟩ | ⟨r, h1, h2, h3⟩
    · rw [h1, h2]
      simp
    · rw [h1, h3]
      simp [h2]
  have d : decide ((((s.getD []).length : Nat) : Int) ≤ 60) = decide ((s.getD []).length ≤ 60) := decide_eq_decide.2 (by omega)
  unfold t_q6 pageB
  rw [cf, d]
  cases h : kD2 fVB (s.getD []) 0 with
  | none => cases decide ((s.getD []).length ≤ 60) <;> rfl
  | some r =>
    have := fVB_some h
    subst this
    cases decide ((s.getD []).length ≤ 60) <;> rfl
theorem pageB_true {l : List Box} (h : pageB l = true) : l.length ≤ 60 ∧ ∀ b ∈ l, kBd b = true := by
  unfold pageB at h
  cases e : kD2 fVB l 0 with
  | some r =>
    rw [e] at h
    simp only at h
    rw [fVB_some e] at h
    cases h
  | none =>
    rw [e] at h
    refine ⟨of_decide_eq_true h, fun b hb => ?_⟩
    obtain ⟨k, hk⟩ := List.mem_iff_getElem?.1 hb
    have := firstL_no e k b hk
    unfold fVB at this
    cases h2 : kBd b with
    | true => rfl
    | false => rw [h2] at this; cases this
theorem appO_big {A : Type} (s : Sl A) (a : A) (h : (s.getD []).length ≤ 2000000) : appO s [a] = some (some (s.getD [] ++ [a])) := by
  rw [kF4 (by simp; omega), appS_cons]
theorem held_k {s : Sl Int} {n : Nat} {k : Int} (h0 : 0 ≤ k) (hs : s.getD [] = mkI k n) (hn : k + n ≤ 1000000000) : t_q19 s k = some (k + (n : Int)) := by
  have lp := kHx (step := s0_q19 s) n (fun j => (k + (j : Int), (j : Int))) (.inl (k + (n : Int)))
    (fun j hk => by
      have c : (j : Int) < (((mkI k n).length : Nat) : Int) := by rw [mkI_len]; omega
      have ws := kDn hk (show n ≤ 4294967296 by omega)
      have w2 : wr (k + (j : Int) + 1) = k + ((j + 1 : Nat) : Int) := by rw [kBg (by omega) (by omega)]; omega
      unfold s0_q19
      simp only [hs, c, decide_true, cond_true, kB5 (mkI_get n k j hk), kA2, Bool.not_true, cond_false, ws, w2])
    (by
      have c : ¬ (n : Int) < (((mkI k n).length : Nat) : Int) := by rw [mkI_len]; omega
      unfold s0_q19
      simp only [hs, c, decide_false, cond_false])
    0 (Nat.zero_le _)
  have lp' : kB6 (s0_q19 s) (k, 0) = some (.inl (k + (n : Int))) := by
    simpa using lp
  unfold t_q19
  rw [lp', kA2]
theorem perm_ins {l : List Int} {q : Nat} {g : Int} : (l.take q ++ [g] ++ l.drop q).Perm (g :: l) := by
  have h1 : (l.take q ++ [g] ++ l.drop q).Perm (g :: (l.take q ++ l.drop q)) := by
    rw [List.append_assoc]
    exact List.perm_middle
  rw [List.take_append_drop] at h1
  exact h1
theorem subS_to {A : Type} {l : List A} {t : Nat} (h2 : t ≤ l.length) : subS (some l) none (some (t : Int)) = some (some (l.take t)) := by
  have e1 : idx (iv (t : Int)) (l.length + 1) = some t := idx_lt (by omega)
  unfold subS bndI
  simp only [Option.getD_some, e1, kA2, Option.map_some, List.drop_zero]
theorem subS_from {A : Type} {l : List A} {f : Nat} (h2 : f ≤ l.length) : subS (some l) (some (f : Int)) none = some (some (l.drop f)) := by
  have e2 : idx (iv (f : Int)) (l.length + 1) = some f := idx_lt (by omega)
  unfold subS bndI
  simp only [Option.getD_some, e2, kA2, Option.map_some, List.take_length]
theorem own_ints (l : List Int) (h : l.length ≤ 2000000) : t_q39 (some l) = some (some l) := by
  have := kF4 (s := (some [] : Sl Int)) (l := l) (by simp; omega)
  unfold t_q39
  simp only [Option.getD_some, this, kA2]
  rfl
theorem or3 (a b c : Int) : t_q1 (some [a, b, c]) = some (bif !decide (a = 0) then a else bif !decide (b = 0) then b else c) := by
  have w1 : wr ((0 : Int) + 1) = 1 := kBg (by omega) (by omega)
  have w2 : wr ((1 : Int) + 1) = 2 := kBg (by omega) (by omega)
  have w3 : wr ((2 : Int) + 1) = 3 := kBg (by omega) (by omega)
  have g0 : kC3 [a, b, c] 0 = some a := kB5 (m := 0) rfl
  have g1 : kC3 [a, b, c] 1 = some b := kB5 (m := 1) rfl
  have g2 : kC3 [a, b, c] 2 = some c := kB5 (m := 2) rfl
  have e0 : s0_q1 (some [a, b, c]) 0 = bif !decide (a = 0) then some (.inr (.inr a)) else some (.inl 1) := by
    have h : (0 : Int) < ((([a, b, c] : List Int).length : Nat) : Int) := by simp
    unfold s0_q1
    simp only [Option.getD_some, h, decide_true, cond_true, g0, kA2, w1]
  have e1 : s0_q1 (some [a, b, c]) 1 = bif !decide (b = 0) then some (.inr (.inr b)) else some (.inl 2) := by
    have h : (1 : Int) < ((([a, b, c] : List Int).length : Nat) : Int) := by simp
    unfold s0_q1
    simp only [Option.getD_some, h, decide_true, cond_true, g1, kA2, w2]
  have e2 : s0_q1 (some [a, b, c]) 2 = bif !decide (c = 0) then some (.inr (.inr c)) else some (.inl 3) := by
    have h : (2 : Int) < ((([a, b, c] : List Int).length : Nat) : Int) := by simp
    unfold s0_q1
    simp only [Option.getD_some, h, decide_true, cond_true, g2, kA2, w3]
  have e3 : s0_q1 (some [a, b, c]) 3 = some (.inr (.inl ())) := rfl
  unfold t_q1
  cases ha : !decide (a = 0) with
  | true =>
    rw [ha] at e0
    rw [kB2 e0]
    rfl
  | false =>
    rw [ha] at e0
    rw [kBa e0]
    cases hb : !decide (b = 0) with
    | true =>
      rw [hb] at e1
      rw [kB2 e1]
      rfl
    | false =>
      rw [hb] at e1
      rw [kBa e1]
      cases hc : !decide (c = 0) with
      | true =>
        rw [hc] at e2
        rw [kB2 e2]
        rfl
      | false =>
        rw [hc] at e2
        rw [kBa e2, kB2 e3]
        have : c = 0 := by
          rw [Bool.not_eq_false'] at hc
          exact of_decide_eq_true hc
        rw [this]
        rfl
inductive Wy (E : List Edg) (lab : Nat → ByteArray) : Nat → Nat → Int → Prop
  | start : Wy E lab 0 0 0
  | step {k u v : Nat} {c : Int} {i : Nat} {e : Edg} : Wy E lab k u c → E[i]? = some e → e.frm = (u : Int) → e.upto = (v : Int) → e.label = lab k → Wy E lab (k + 1) v (c + e.cost)
def LeW (W : Int) (S : Int → Prop) (x : Int) : Prop := (x = W ∧ ∀ c, ¬ S c) ∨ (S x ∧ ∀ c, S c → x ≤ c)
theorem LeW.join {W : Int} {S T : Int → Prop} {x y : Int} (h : LeW W S x) (hy : T y) (hm : ∀ c, T c → y ≤ c) (hW : y < W) (hS : ∀ c, S c → c < W) : LeW W (fun c => S c ∨ T c) (min x y) := by
  rcases h with ⟨h1, h2⟩ | ⟨h1, h2⟩
  · right
    rw [Int.min_eq_right (by omega)]
    exact ⟨.inr hy, fun c hc => hc.elim (fun k => absurd k (h2 c)) (hm c)⟩
  · right
    have := hS x h1
    rcases Int.le_total x y with k | k
    · rw [Int.min_eq_left k]
      exact ⟨.inl h1, fun c hc => hc.elim (h2 c) fun t => Int.le_trans k (hm c t)⟩
    · rw [Int.min_eq_right k]
      exact ⟨.inr hy, fun c hc => hc.elim (fun t => Int.le_trans k (h2 c t)) (hm c)⟩
theorem set_upd {L : List Int} {v : Nat} {x y : Int} (h : L[v]? = some x) (i : Nat) : (L.set v y)[i]? = if i = v then some y else L[i]? := by
  by_cases e : i = v
  · subst e
    rw [if_pos rfl, List.getElem?_set_self (kFp h)]
  · rw [if_neg e, List.getElem?_set_ne (fun k => e k.symm)]
def Nxt (E : List Edg) (lab : Nat → ByteArray) (k j : Nat) (v : Nat) (c : Int) : Prop := ∃ i e u c', i < j ∧ E[i]? = some e ∧ e.frm = ((u : Nat) : Int) ∧ e.upto = (v : Int) ∧ e.label = lab k ∧ Wy E lab k u c' ∧ c = c' + e.cost
theorem Nxt.all {E : List Edg} {lab : Nat → ByteArray} {k v : Nat} {c : Int} : Nxt E lab k E.length v c ↔ Wy E lab (k + 1) v c := by
  constructor
  · rintro ⟨i, e, u, c', _, he, hf, hu, hl, hw, rfl⟩
    exact .step hw he hf hu hl
  · intro h
    cases h with
    | step hw he hf hu hl => exact ⟨_, _, _, _, kFp he, he, hf, hu, hl, hw, rfl⟩
def Cap (n : Nat) (L : List Int) (v k : Nat) (c : Int) : Prop := ∃ x, L[v * (n + 1) + k]? = some x ∧ 0 ≤ x ∧ x ≤ c
theorem Cap.mono {n : Nat} {L : List Int} {v k m : Nat} {c x y : Int} (h : Cap n L v k c) (hx : L[m]? = some x) (hy : x < 0 ∨ y < x) (h0 : 0 ≤ y) : Cap n (L.set m y) v k c := by
  obtain ⟨z, h1, h2, h3⟩ := h
  unfold Cap
  rw [set_upd hx]
  by_cases e : v * (n + 1) + k = m
  · rw [if_pos e]
    rw [e, hx] at h1
    cases h1
    exact ⟨y, rfl, h0, by omega⟩
  · rw [if_neg e]
    exact ⟨z, h1, h2, h3⟩
theorem wr_shift (x q : Int) : wr (x + 18446744073709551616 * q) = wr x := by
  simp only [wr, IntKind.wrap, IntKind.bits, IntKind.signed]
  first | omega | (simp; done)
theorem wr_mod (x : Int) : ∃ q, wr x = x + 18446744073709551616 * q := by
  have h : ∃ q, wr x = x - 18446744073709551616 * q := by
    simp only [wr, IntKind.wrap, IntKind.bits, IntKind.signed]
    by_cases h : x % 18446744073709551616 ≥ 9223372036854775808
    · exact ⟨x / 18446744073709551616 + 1, by simp [h]; omega⟩
    · exact ⟨x / 18446744073709551616, by simp [h]; omega⟩
  obtain ⟨q, hq⟩ := h
  exact ⟨-q, by rw [hq]; omega⟩
theorem wr_add_l (x y : Int) : wr (wr x + y) = wr (x + y) := by
  obtain ⟨q, h⟩ := wr_mod x
  rw [h, show x + 18446744073709551616 * q + y = x + y + 18446744073709551616 * q by omega, wr_shift]
def upd (base : Nat → Int) (S : Nat) (x : Int) (v : Nat) : Int := if v = S then x else base v
theorem upd_self (base : Nat → Int) (S : Nat) (x : Int) : upd base S x S = x := if_pos rfl
theorem upd_ne {base : Nat → Int} {S v : Nat} (x : Int) (h : v ≠ S) : upd base S x v = base v := if_neg h
structure PI (l : Sl Symbol) (n : Nat) (bx : Nat → Box) (c : Nat → Int) (p : Parser) : Prop where
  list : p.list = l
  boxes : ∀ v, v < n → (p.boxes.getD [])[v]? = some (bx v)
  best : (p.best.getD []).length = n
  clen : (p.count.getD []).length = n
  count : ∀ v, v < n → (p.count.getD [])[v]? = some (c v)
structure CI (l : Sl Symbol) (n : Nat) (bx : Nat → Box) (c : Nat → Int) (p : Chart21) : Prop where
  list : p.list = l
  len : (p.cells.getD []).length = n
  cells : ∀ v, v < n → ∃ x, (p.cells.getD [])[v]? = some x ∧ x.box = bx v ∧ x.ways = c v
theorem kEt {A : Type} {s : Sl A} {v : Nat} {x y : A} (h : (s.getD [])[v]? = some x) (i : Nat) : ((kC4 s (v : Int) y).getD [])[i]? = if i = v then some y else (s.getD [])[i]? := by
  cases s with
  | none => simp at h
  | some l =>
    show (l.set ((v : Int).toNat) y)[i]? = if i = v then some y else l[i]?
    rw [Int.toNat_natCast]
    have h' : l[v]? = some x := h
    by_cases e : i = v
    · subst e
      rw [if_pos rfl, List.getElem?_set_self (kFp h')]
    · rw [if_neg e, List.getElem?_set_ne (fun k => e k.symm)]
theorem PI.add {l : Sl Symbol} {n : Nat} {bx : Nat → Box} {base : Nat → Int} {S : Nat} {X Y : Int} {p : Parser} (h : PI l n bx (upd base S (wr X)) p) (hS : S < n) (q : Sl Choice) (hq : (q.getD []).length = n) : PI l n bx (upd base S (wr (X + Y))) ⟨p.list, p.boxes, q, kC4 p.count (S : Int) (wr (wr X + Y))⟩ := by
  have hs := h.count S hS
  refine ⟨h.list, h.boxes, hq, by show ((kC4 p.count (S : Int) _).getD []).length = n; rw [kI2]; exact h.clen, fun v hv => ?_⟩
  show ((kC4 p.count (S : Int) _).getD [])[v]? = _
  rw [kEt hs]
  by_cases e : v = S
  · subst e
    rw [if_pos rfl, upd_self, wr_add_l]
  · rw [if_neg e, upd_ne _ e, h.count v hv, upd_ne _ e]
theorem CI.add {l : Sl Symbol} {n : Nat} {bx : Nat → Box} {base : Nat → Int} {S : Nat} {X Y Z : Int} {p : Chart21} (h : CI l n bx (upd base S (wr X)) p) (hS : S < n) (y : Cell21) (hb : y.box = bx S) (hw : y.ways = wr (wr X + Y)) (hZ : wr (X + Y) = wr (X + Z)) : CI l n bx (upd base S (wr (X + Z))) ⟨p.list, kC4 p.cells (S : Int) y⟩ := by
  obtain ⟨x, hx, _⟩ := h.cells S hS
  refine ⟨h.list, by show ((kC4 p.cells (S : Int) _).getD []).length = n; rw [kI2]; exact h.len, fun v hv => ?_⟩
  show ∃ x, ((kC4 p.cells (S : Int) _).getD [])[v]? = some x ∧ _
  rw [kEt hx]
  by_cases e : v = S
  · subst e
    rw [if_pos rfl]
    exact ⟨y, rfl, hb, by rw [upd_self, hw, wr_add_l, hZ]⟩
  · rw [if_neg e]
    obtain ⟨z, h1, h2, h3⟩ := h.cells v hv
    exact ⟨z, h1, h2, by rw [h3, upd_ne _ e, upd_ne _ e]⟩
def shrQ (S i : Nat) : Int := Int.fdiv (S : Int) (2 ^ (min (i : Int).toNat 64))
def outQ (S i : Nat) : Bool := decide (andI (shrQ S i) 1 = 0)
def updB (bx : Nat → Box) (S : Nat) (b : Box) (v : Nat) : Box := if v = S then b else bx v
theorem CI.setC {l : Sl Symbol} {n : Nat} {bx : Nat → Box} {c : Nat → Int} {S : Nat} {p : Chart21} (h : CI l n bx c p) (hS : S < n) (y : Cell21) (hw : y.ways = c S) : CI l n (updB bx S y.box) c ⟨p.list, kC4 p.cells (S : Int) y⟩ := by
  obtain ⟨x, hx, _⟩ := h.cells S hS
  refine ⟨h.list, by show ((kC4 p.cells (S : Int) _).getD []).length = n; rw [kI2]; exact h.len, fun v hv => ?_⟩
  show ∃ x, ((kC4 p.cells (S : Int) _).getD [])[v]? = some x ∧ _
  rw [kEt hx]
  unfold updB
  by_cases e : v = S
  · subst e
    rw [if_pos rfl, if_pos rfl]
    exact ⟨y, rfl, rfl, hw⟩
  · rw [if_neg e, if_neg e]
    exact h.cells v hv
theorem PI.setC {l : Sl Symbol} {n : Nat} {bx : Nat → Box} {c : Nat → Int} {S : Nat} {p : Parser} (h : PI l n bx c p) (hS : S < n) (x : Int) : PI l n bx (upd c S x) ⟨p.list, p.boxes, p.best, kC4 p.count (S : Int) x⟩ := by
  refine ⟨h.list, h.boxes, h.best, by show ((kC4 p.count (S : Int) _).getD []).length = n; rw [kI2]; exact h.clen, fun v hv => ?_⟩
  show ((kC4 p.count (S : Int) x).getD [])[v]? = _
  rw [kEt (h.count S hS)]
  unfold upd
  by_cases e : v = S
  · rw [if_pos e, if_pos e]
  · rw [if_neg e, if_neg e, h.count v hv]
structure Way where
  kind : Int
  sign : Int
  a : Nat
  b : Nat
  cost : Int
  ways : Int
  deriving DecidableEq
abbrev posLt (x y : Way) : Prop := x.kind < y.kind ∨ (x.kind = y.kind ∧ (x.sign < y.sign ∨ (x.sign = y.sign ∧ x.a < y.a)))
abbrev lexLt (x y : Way) : Prop := x.cost < y.cost ∨ (x.cost = y.cost ∧ posLt x y)
def stepI (o : Option Way) (t : Way) : Option Way := if t.ways = 0 then o else match o with
  | none => some t
  | some x => if lexLt t x then some t else some x
def chOf (t : Way) : Choice := ⟨t.kind, t.sign, (t.a : Int), (t.b : Int), t.cost⟩
structure PB (l : Sl Symbol) (n : Nat) (bx : Nat → Box) (base : Nat → Int) (bc : Nat → Choice) (S : Nat) (X : Int) (o : Option Way) (p : Parser) : Prop where
  pi : PI l n bx (upd base S (wr X)) p
  bst : ∀ v, v < n → v ≠ S → (p.best.getD [])[v]? = some (bc v)
  own : ∀ t, o = some t → (p.best.getD [])[S]? = some (chOf t)
  zero : o = none ↔ X = 0
  pos : 0 ≤ X
theorem PB.take {l : Sl Symbol} {n : Nat} {bx : Nat → Box} {base : Nat → Int} {bc : Nat → Choice} {S : Nat} {X : Int} {o : Option Way} {p : Parser} (h : PB l n bx base bc S X o p) (hS : S < n) {t : Way} (hp : 0 < t.ways) (hs : stepI o t = some t) : PB l n bx base bc S (X + t.ways) (stepI o t) ⟨p.list, p.boxes, kC4 p.best (S : Int) (chOf t), kC4 p.count (S : Int) (wr (wr X + t.ways))⟩ := by
  obtain ⟨y, hy⟩ : ∃ y, (p.best.getD [])[S]? = some y := ⟨_, List.getElem?_eq_getElem (by have := h.pi.best; omega)⟩
  have pos := h.pos
  refine ⟨h.pi.add hS _ (by rw [kI2]; exact h.pi.best), fun v hv hn => ?_, fun u hu => ?_, ?_, by omega⟩
  · show ((kC4 p.best (S : Int) _).getD [])[v]? = _
    rw [kEt hy, if_neg hn]
    exact h.bst v hv hn
  · show ((kC4 p.best (S : Int) _).getD [])[S]? = _
    rw [hs] at hu
    cases hu
    rw [kEt hy, if_pos rfl]
  · rw [hs]
    exact ⟨fun e => (by cases e), fun e => by omega⟩
def lastIx (S : Nat) : Nat → Nat
  | 0 => 0
  | i + 1 => bif outQ S i then lastIx S i else i
def Lnk (N : Nat) (base : Nat → Int) (v : Nat) (x y : Choice) : Prop :=
  (v &&& (v - 1) = 0 ∧ y = ⟨0, (lastIx v N : Int), 0, 0, 0⟩) ∨ (v &&& (v - 1) ≠ 0 ∧ ∃ t : Way, x = chOf t ∧ y = chOf t ∧ t.kind ≠ 0 ∧ 0 < t.a ∧ t.a < v ∧ t.b < v ∧ base t.a ≠ 0 ∧ (t.b = 0 ∨ base t.b ≠ 0) ∧ t.a + t.b ≤ v)
theorem Lnk.mono {N v S : Nat} {base : Nat → Int} {x y : Choice} {u : Int} (h : Lnk N base v x y) (hv : v ≤ S) (hu : base S = 0) : Lnk N (upd base S u) v x y := by
  rcases h with h | ⟨h1, t, h2, h3, h4, h5, h6, h7, h8, h9, h10⟩
  · exact .inl h
  · refine .inr ⟨h1, t, h2, h3, h4, h5, h6, h7, ?_, ?_, h10⟩
    · rw [upd_ne _ (by omega)]
      exact h8
    · rw [upd_ne _ (by omega)]
      exact h9
abbrev CandL := List (ByteArray × Int)
inductive SPth (pc : ByteArray → ByteArray → Int) : List CandL → ByteArray → List ByteArray → Int → Prop
  | nil {a : ByteArray} : SPth pc [] a [] 0
  | cons {C : CandL} {Cs : List CandL} {a w : ByteArray} {c r : Int} {ws : List ByteArray} (hw : (w, c) ∈ C) (h : SPth pc Cs w ws r) : SPth pc (C :: Cs) a (w :: ws) (pc a w + (c + r))
theorem SPth.len {pc : ByteArray → ByteArray → Int} {Cs : List CandL} {a : ByteArray} {ws : List ByteArray} {c : Int} (h : SPth pc Cs a ws c) : ws.length = Cs.length := by
  induction h with
  | nil => rfl
  | cons hw h ih => simp [ih]
def leftP (l : List Box) (x y : Nat) : Prop := ∃ a b, l[x]? = some a ∧ l[y]? = some b ∧ (a.x1 < b.x1 ∨ a.x1 = b.x1 ∧ (a.x2 < b.x2 ∨ a.x2 = b.x2 ∧ x < y))
theorem left_ok {q : Sl Box} {x y : Nat} (hx : x < (q.getD []).length) (hy : y < (q.getD []).length) : ∃ r, t_q9 (x : Int) (y : Int) q = some r ∧ (r < 0 ↔ leftP (q.getD []) x y) := by
  have e1 : (q.getD [])[x]? = some (q.getD [])[x] := List.getElem?_eq_getElem hx
  have e2 : (q.getD [])[y]? = some (q.getD [])[y] := List.getElem?_eq_getElem hy
  unfold leftP
  generalize (q.getD [])[x] = a at e1
  generalize (q.getD [])[y] = b at e2
  have hP : (∃ a' b', (q.getD [])[x]? = some a' ∧ (q.getD [])[y]? = some b' ∧ (a'.x1 < b'.x1 ∨ a'.x1 = b'.x1 ∧ (a'.x2 < b'.x2 ∨ a'.x2 = b'.x2 ∧ x < y))) ↔ (a.x1 < b.x1 ∨ a.x1 = b.x1 ∧ (a.x2 < b.x2 ∨ a.x2 = b.x2 ∧ x < y)) := by
    constructor
    · rintro ⟨a', b', h1, h2, h3⟩
      rw [e1] at h1
      rw [e2] at h2
      cases h1
      cases h2
      exact h3
    · exact fun h => ⟨a, b, e1, e2, h⟩
  unfold t_q9
  rw [kB5 e1, kA2, kB5 e2, kA2, kA2, kA2, kA2, kA2, kA2, or3, kA2]
  refine ⟨_, rfl, ?_⟩
  rw [hP]
  unfold cmpI
  by_cases c1 : a.x1 < b.x1
  · simp [c1]
  · by_cases c2 : b.x1 < a.x1
    · have : ¬ a.x1 = b.x1 := by omega
      simp [c1, c2, this]
    · have c3 : a.x1 = b.x1 := by omega
      by_cases d1 : a.x2 < b.x2
      · simp [c3, d1]
      · by_cases d2 : b.x2 < a.x2
        · have : ¬ a.x2 = b.x2 := by omega
          simp [c3, d1, d2, this]
        · have d3 : a.x2 = b.x2 := by omega
          by_cases k1 : x < y
          · simp [c3, d3, k1]
          · by_cases k2 : y < x <;> simp [c3, d3, k1, k2]
def kC0 (q : Sl Box) (x y : Int) : Int := (t_q9 x y q).getD 0
def kF8 (q : Sl Box) : Nat := (q.getD []).length
theorem kEg {q : Sl Box} {x y : Nat} (hx : x < kF8 q) (hy : y < kF8 q) : ltC (kC0 q) (x : Int) (y : Int) = true ↔ leftP (q.getD []) x y := by
  obtain ⟨r, e, h⟩ := left_ok hx hy
  unfold ltC kC0
  rw [e, Option.getD_some, decide_eq_true_eq]
  exact h
theorem leftP_irr (l : List Box) (x : Nat) : ¬ leftP l x x := fun ⟨a, b, h1, h2, h3⟩ => by
  rw [h1] at h2
  cases h2
  omega
theorem leftP_tr {l : List Box} {x y z : Nat} (h : leftP l x y) (g : leftP l y z) : leftP l x z := by
  obtain ⟨a, b, h1, h2, h3⟩ := h
  obtain ⟨b', c, g1, g2, g3⟩ := g
  rw [h2] at g1
  cases g1
  exact ⟨a, c, h1, g2, by omega⟩
theorem leftP_tri {l : List Box} {x y : Nat} (hx : x < l.length) (hy : y < l.length) : leftP l x y ∨ x = y ∨ leftP l y x := by
  have e1 : l[x]? = some l[x] := List.getElem?_eq_getElem hx
  have e2 : l[y]? = some l[y] := List.getElem?_eq_getElem hy
  generalize l[x] = a at e1
  generalize l[y] = b at e2
  by_cases c1 : a.x1 < b.x1 ∨ a.x1 = b.x1 ∧ (a.x2 < b.x2 ∨ a.x2 = b.x2 ∧ x < y)
  · exact .inl ⟨a, b, e1, e2, c1⟩
  · by_cases c2 : x = y
    · exact .inr (.inl c2)
    · exact .inr (.inr ⟨b, a, e2, e1, by omega⟩)
def swL (l : List Int) (i j : Nat) : List Int := match l[i]?, l[j]? with
  | some u, some v => (l.set i v).set j u
  | _, _ => l
theorem swL_len (l : List Int) (i j : Nat) : (swL l i j).length = l.length := by
  unfold swL
  split <;> simp
theorem kFy {l : List Int} {i j : Nat} (hi : i < l.length) (hj : j < l.length) (p : Nat) : (swL l i j)[p]? = if p = j then l[i]? else if p = i then l[j]? else l[p]? := by
  unfold swL
  rw [List.getElem?_eq_getElem hi, List.getElem?_eq_getElem hj]
  dsimp only
  by_cases h1 : p = j
  · subst h1
    rw [if_pos rfl, List.getElem?_set_self (by simp [hj])]
  · rw [if_neg h1, List.getElem?_set_ne (Ne.symm h1)]
    by_cases h2 : p = i
    · subst h2
      rw [if_pos rfl, List.getElem?_set_self hi]
    · rw [if_neg h2, List.getElem?_set_ne (Ne.symm h2)]
theorem swL_perm {l : List Int} {i j : Nat} (hi : i < l.length) (hj : j < l.length) : (swL l i j).Perm l := by
  unfold swL
  rw [List.getElem?_eq_getElem hi, List.getElem?_eq_getElem hj]
  exact List.set_set_perm hi hj
structure Mv (l l' : List Int) (a b : Nat) : Prop where
  perm : l'.Perm l
  out : ∀ p, p < a ∨ b ≤ p → l'[p]? = l[p]?
  inn : ∀ p, a ≤ p → p < b → ∃ q, a ≤ q ∧ q < b ∧ l'[p]? = l[q]?
theorem Mv.len {l l' : List Int} {a b : Nat} (h : Mv l l' a b) : l'.length = l.length := h.perm.length_eq
theorem Mv.refl (l : List Int) (a b : Nat) : Mv l l a b := ⟨List.Perm.refl _, fun _ _ => rfl, fun p h1 h2 => ⟨p, h1, h2, rfl⟩⟩
theorem Mv.trans {l l' l'' : List Int} {a b : Nat} (h : Mv l l' a b) (g : Mv l' l'' a b) : Mv l l'' a b :=
  ⟨g.perm.trans h.perm, fun p hp => (g.out p hp).trans (h.out p hp), fun p h1 h2 => by
    obtain ⟨q, q1, q2, q3⟩ := g.inn p h1 h2
    obtain ⟨r, r1, r2, r3⟩ := h.inn q q1 q2
    exact ⟨r, r1, r2, q3.trans r3⟩⟩
theorem Mv.wide {l l' : List Int} {a b a' b' : Nat} (h : Mv l l' a b) (h1 : a' ≤ a) (h2 : b ≤ b') : Mv l l' a' b' :=
  ⟨h.perm, fun p hp => h.out p (by omega), fun p p1 p2 => by
    by_cases c : a ≤ p ∧ p < b
    · obtain ⟨q, q1, q2, q3⟩ := h.inn p c.1 c.2
      exact ⟨q, by omega, by omega, q3⟩
    · exact ⟨p, p1, p2, h.out p (by omega)⟩⟩
theorem swL_mv {l : List Int} {i j a b : Nat} (hi : a ≤ i ∧ i < b) (hj : a ≤ j ∧ j < b) (hb : b ≤ l.length) : Mv l (swL l i j) a b := by
  refine ⟨swL_perm (by omega) (by omega), fun p hp => ?_, fun p h1 h2 => ?_⟩
  · rw [kFy (by omega) (by omega), if_neg (by omega), if_neg (by omega)]
  · rw [kFy (by omega) (by omega)]
    by_cases c1 : p = j
    · exact ⟨i, hi.1, hi.2, by rw [if_pos c1]⟩
    · by_cases c2 : p = i
      · exact ⟨j, hj.1, hj.2, by rw [if_neg c1, if_pos c2]⟩
      · exact ⟨p, h1, h2, by rw [if_neg c1, if_neg c2]⟩
def swR (l : List Int) (a b : Nat) : Nat → List Int
  | 0 => l
  | n + 1 => swL (swR l a b n) (a + n) (b + n)
theorem kFt (l : List Int) (a b : Nat) : ∀ n, (swR l a b n).length = l.length
  | 0 => rfl
  | n + 1 => by rw [swR, swL_len, kFt l a b n]
theorem swR_get {l : List Int} {a b : Nat} : ∀ {n : Nat}, a + n ≤ b → b + n ≤ l.length → ∀ p, (swR l a b n)[p]? = if a ≤ p ∧ p < a + n then l[p - a + b]? else if b ≤ p ∧ p < b + n then l[p - b + a]? else l[p]?
  | 0, _, _, p => by
    rw [if_neg (by omega), if_neg (by omega)]
    rfl
  | n + 1, h1, h2, p => by
    have hl := kFt l a b n
    rw [swR, kFy (by omega) (by omega)]
    have ih := fun p => swR_get (l := l) (a := a) (b := b) (n := n) (by omega) (by omega) p
    by_cases c1 : p = b + n
    · subst c1
      rw [if_pos rfl, ih, if_neg (by omega), if_neg (by omega), if_neg (by omega), if_pos (by omega)]
      congr 1
      omega
    · rw [if_neg c1]
      by_cases c2 : p = a + n
      · subst c2
        rw [if_pos rfl, ih, if_neg (by omega), if_neg (by omega), if_pos (by omega)]
        congr 1
        omega
      · rw [if_neg c2, ih]
        by_cases c3 : a ≤ p ∧ p < a + n
        · rw [if_pos c3, if_pos (by omega)]
        · rw [if_neg c3]
          by_cases c4 : b ≤ p ∧ p < b + n
          · rw [if_pos c4, if_neg (by omega), if_pos (by omega)]
          · rw [if_neg c4, if_neg (by omega), if_neg (by omega)]
theorem swR_mv {l : List Int} {a b x y : Nat} : ∀ {n : Nat}, a + n ≤ b → x ≤ a → b + n ≤ y → y ≤ l.length → Mv l (swR l a b n) x y
  | 0, _, _, _, _ => Mv.refl _ _ _
  | n + 1, h1, h2, h3, h4 => by
    have ih := swR_mv (l := l) (a := a) (b := b) (x := x) (y := y) (n := n) (by omega) h2 (by omega) h4
    exact ih.trans (swL_mv (by omega) (by omega) (by rw [kFt]; exact h4))
def rotL (l : List Int) (m : Nat) : Nat → Nat → List Int
  | 0, _ => l
  | _, 0 => l
  | i + 1, j + 1 =>
    if i = j then swR l (m - (i + 1)) m (i + 1)
    else if j < i then rotL (swR l (m - (i + 1)) m (j + 1)) m (i - j) (j + 1)
    else rotL (swR l (m - (i + 1)) (m + (j + 1) - (i + 1)) (i + 1)) m (i + 1) (j - i)
  termination_by i j => i + j
theorem kFv : ∀ (N : Nat) {l : List Int} {m i j : Nat}, i + j ≤ N → 1 ≤ i → 1 ≤ j → i ≤ m → m + j ≤ l.length →
    Mv l (rotL l m i j) (m - i) (m + j) ∧ ∀ p, (rotL l m i j)[p]? = if m - i ≤ p ∧ p < m - i + j then l[p + i]? else if m - i + j ≤ p ∧ p < m + j then l[p - j]? else l[p]?
  | 0, l, m, i, j, h, h1, _, _, _ => by omega
  | N + 1, l, m, 0, j, h, h1, _, _, _ => by omega
  | N + 1, l, m, i + 1, 0, h, _, h1, _, _ => by omega
  | N + 1, l, m, i + 1, j + 1, h, h1, h2, h3, h4 => by
    rw [rotL]
    by_cases c : i = j
    · subst c
      rw [if_pos rfl]
      refine ⟨swR_mv (by omega) (by omega) (by omega) h4, fun p => ?_⟩
      rw [swR_get (by omega) (by omega)]
      by_cases c1 : m - (i + 1) ≤ p ∧ p < m - (i + 1) + (i + 1)
      · rw [if_pos c1, if_pos c1]
        congr 1
        omega
      · rw [if_neg c1, if_neg c1]
        by_cases c2 : m ≤ p ∧ p < m + (i + 1)
        · rw [if_pos c2, if_pos (by omega)]
          congr 1
          omega
        · rw [if_neg c2, if_neg (by omega)]
    · rw [if_neg c]
      by_cases d : j < i
      · rw [if_pos d]
        have hl := kFt l (m - (i + 1)) m (j + 1)
        have hm : Mv l (swR l (m - (i + 1)) m (j + 1)) (m - (i + 1)) (m + (j + 1)) := swR_mv (by omega) (by omega) (by omega) h4
        obtain ⟨g1, g2⟩ := kFv N (l := swR l (m - (i + 1)) m (j + 1)) (m := m) (i := i - j) (j := j + 1) (by omega) (by omega) (by omega) (by omega) (by omega)
        refine ⟨hm.trans (g1.wide (by omega) (by omega)), fun p => ?_⟩
        rw [g2]
        have s := fun p => swR_get (l := l) (a := m - (i + 1)) (b := m) (n := j + 1) (by omega) (by omega) p
        by_cases c1 : m - (i - j) ≤ p ∧ p < m - (i - j) + (j + 1)
        · rw [if_pos c1, s]
          by_cases c2 : m - (i + 1) ≤ p + (i - j) ∧ p + (i - j) < m - (i + 1) + (j + 1)
          · omega
          · rw [if_neg c2]
            by_cases c3 : m ≤ p + (i - j) ∧ p + (i - j) < m + (j + 1)
            · rw [if_pos c3]
              by_cases c4 : m - (i + 1) ≤ p ∧ p < m - (i + 1) + (j + 1)
              · omega
              · rw [if_neg c4, if_pos (by omega)]
                congr 1
                omega
            · omega
        · rw [if_neg c1]
          by_cases c2 : m - (i - j) + (j + 1) ≤ p ∧ p < m + (j + 1)
          · rw [if_pos c2, s, if_neg (by omega), if_neg (by omega), if_neg (by omega), if_pos (by omega)]
          · rw [if_neg c2, s]
            by_cases c3 : m - (i + 1) ≤ p ∧ p < m - (i + 1) + (j + 1)
            · rw [if_pos c3, if_pos c3]
              congr 1
              omega
            · rw [if_neg c3, if_neg (by omega), if_neg c3]
              by_cases c4 : m - (i + 1) + (j + 1) ≤ p ∧ p < m + (j + 1)
              · omega
              · rw [if_neg c4]
      · rw [if_neg d]
        have hl := kFt l (m - (i + 1)) (m + (j + 1) - (i + 1)) (i + 1)
        have hm : Mv l (swR l (m - (i + 1)) (m + (j + 1) - (i + 1)) (i + 1)) (m - (i + 1)) (m + (j + 1)) := swR_mv (by omega) (by omega) (by omega) h4
        obtain ⟨g1, g2⟩ := kFv N (l := swR l (m - (i + 1)) (m + (j + 1) - (i + 1)) (i + 1)) (m := m) (i := i + 1) (j := j - i) (by omega) (by omega) (by omega) (by omega) (by omega)
        refine ⟨hm.trans (g1.wide (by omega) (by omega)), fun p => ?_⟩
        rw [g2]
        have s := fun p => swR_get (l := l) (a := m - (i + 1)) (b := m + (j + 1) - (i + 1)) (n := i + 1) (by omega) (by omega) p
        by_cases c1 : m - (i + 1) ≤ p ∧ p < m - (i + 1) + (j - i)
        · rw [if_pos c1, s, if_neg (by omega), if_neg (by omega), if_pos (by omega)]
        · rw [if_neg c1]
          by_cases c2 : m - (i + 1) + (j - i) ≤ p ∧ p < m + (j - i)
          · rw [if_pos c2, s]
            by_cases c3 : m - (i + 1) ≤ p - (j - i) ∧ p - (j - i) < m - (i + 1) + (i + 1)
            · rw [if_pos c3]
              by_cases c4 : m - (i + 1) ≤ p ∧ p < m - (i + 1) + (j + 1)
              · rw [if_pos c4]
                congr 1
                omega
              · omega
            · omega
          · rw [if_neg c2, s]
            by_cases c3 : m - (i + 1) ≤ p ∧ p < m - (i + 1) + (i + 1)
            · omega
            · rw [if_neg c3]
              by_cases c4 : m + (j + 1) - (i + 1) ≤ p ∧ p < m + (j + 1) - (i + 1) + (i + 1)
              · rw [if_pos c4, if_neg (by omega), if_pos (by omega)]
                congr 1
                omega
              · rw [if_neg c4, if_neg (by omega), if_neg (by omega)]
def kE8 (Q : Nat → Bool) : Nat → Nat → Nat → Nat
  | 0, i, _ => i
  | f + 1, i, j => if i < j then (if Q ((i + j) / 2) then kE8 Q f ((i + j) / 2 + 1) j else kE8 Q f i ((i + j) / 2)) else i
theorem kEr {Q : Nat → Bool} : ∀ {f i j : Nat}, j ≤ i + f → i ≤ j → (∀ x y, i ≤ x → x < y → y < j → Q y = true → Q x = true) → i ≤ kE8 Q f i j ∧ kE8 Q f i j ≤ j ∧ (∀ x, i ≤ x → x < kE8 Q f i j → Q x = true) ∧ ∀ x, kE8 Q f i j ≤ x → x < j → Q x = false
  | 0, i, j, h1, h2, _ => ⟨Nat.le_refl _, h2, fun x a b => by rw [kE8] at b; omega, fun x a b => by rw [kE8] at a; omega⟩
  | f + 1, i, j, h1, h2, hm => by
    rw [kE8]
    by_cases c : i < j
    · rw [if_pos c]
      cases q : Q ((i + j) / 2) with
      | true =>
        rw [if_pos rfl]
        obtain ⟨g1, g2, g3, g4⟩ := kEr (Q := Q) (f := f) (i := (i + j) / 2 + 1) (j := j) (by omega) (by omega) fun x y a b d => hm x y (by omega) b d
        refine ⟨by omega, g2, fun x a b => ?_, g4⟩
        by_cases e : x < (i + j) / 2
        · exact hm x _ a e (by omega) q
        · by_cases e2 : x = (i + j) / 2
          · rw [e2]; exact q
          · exact g3 x (by omega) b
      | false =>
        rw [if_neg (by simp)]
        obtain ⟨g1, g2, g3, g4⟩ := kEr (Q := Q) (f := f) (i := i) (j := (i + j) / 2) (by omega) (by omega) fun x y a b d => hm x y a b (by omega)
        refine ⟨g1, by omega, g3, fun x a b => ?_⟩
        by_cases e : x < (i + j) / 2
        · exact g4 x a e
        · by_cases e2 : x = (i + j) / 2
          · rw [e2]; exact q
          · cases q2 : Q x with
            | false => rfl
            | true =>
              have := hm ((i + j) / 2) x (by omega) (by omega) b q2
              rw [q] at this
              cases this
    · rw [if_neg c]
      exact ⟨Nat.le_refl _, h2, fun x a b => by omega, fun x a b => by omega⟩
def shR (l : List Int) (a : Nat) : Nat → List Int
  | 0 => l
  | n + 1 => swL (shR l a n) (a + n) (a + n + 1)
theorem shR_len (l : List Int) (a : Nat) : ∀ n, (shR l a n).length = l.length
  | 0 => rfl
  | n + 1 => by rw [shR, swL_len, shR_len l a n]
theorem shR_get {l : List Int} {a : Nat} : ∀ {n : Nat}, a + n < l.length → ∀ p, (shR l a n)[p]? = if a ≤ p ∧ p < a + n then l[p + 1]? else if p = a + n then l[a]? else l[p]?
  | 0, h, p => by
    rw [if_neg (by omega)]
    by_cases c : p = a + 0
    · rw [if_pos c, c]; rfl
    · rw [if_neg c]; rfl
  | n + 1, h, p => by
    have hl := shR_len l a n
    have ih := fun p => shR_get (l := l) (a := a) (n := n) (by omega) p
    rw [shR, kFy (by omega) (by omega)]
    by_cases c1 : p = a + n + 1
    · rw [if_pos c1, ih, if_neg (by omega), if_pos rfl, if_neg (by omega), if_pos (by omega)]
    · rw [if_neg c1]
      by_cases c2 : p = a + n
      · rw [if_pos c2, ih, if_neg (by omega), if_neg (by omega), if_pos (by omega), c2]
      · rw [if_neg c2, ih]
        by_cases c3 : a ≤ p ∧ p < a + n
        · rw [if_pos c3, if_pos (by omega)]
        · rw [if_neg c3, if_neg c2, if_neg (by omega), if_neg (by omega)]
theorem shR_mv {l : List Int} {a b : Nat} (hb : b ≤ l.length) : ∀ {n : Nat}, a + n < b → Mv l (shR l a n) a b
  | 0, _ => Mv.refl _ _ _
  | n + 1, h => (shR_mv hb (by omega)).trans (swL_mv (by omega) (by omega) (by rw [shR_len]; exact hb))
def shL (l : List Int) (m : Nat) : Nat → List Int
  | 0 => l
  | n + 1 => swL (shL l m n) (m - n) (m - n - 1)
theorem shL_len (l : List Int) (m : Nat) : ∀ n, (shL l m n).length = l.length
  | 0 => rfl
  | n + 1 => by rw [shL, swL_len, shL_len l m n]
theorem shL_get {l : List Int} {m : Nat} (hm : m < l.length) : ∀ {n : Nat}, n ≤ m → ∀ p, (shL l m n)[p]? = if m - n < p ∧ p ≤ m then l[p - 1]? else if p = m - n then l[m]? else l[p]?
  | 0, h, p => by
    rw [if_neg (by omega)]
    by_cases c : p = m - 0
    · rw [if_pos c, c]; rfl
    · rw [if_neg c]; rfl
  | n + 1, h, p => by
    have hl := shL_len l m n
    have ih := fun p => shL_get (l := l) hm (n := n) (by omega) p
    rw [shL, kFy (by omega) (by omega)]
    by_cases c1 : p = m - n - 1
    · rw [if_pos c1, ih, if_neg (by omega), if_pos rfl, if_neg (by omega), if_pos (by omega)]
    · rw [if_neg c1]
      by_cases c2 : p = m - n
      · rw [if_pos c2, ih, if_neg (by omega), if_neg (by omega), if_pos (by omega), c2]
      · rw [if_neg c2, ih]
        by_cases c3 : m - n < p ∧ p ≤ m
        · rw [if_pos c3, if_pos (by omega)]
        · rw [if_neg c3, if_neg c2, if_neg (by omega), if_neg (by omega)]
theorem shL_mv {l : List Int} {m a b : Nat} (hm : m < b) (hb : b ≤ l.length) : ∀ {n : Nat}, a + n ≤ m → Mv l (shL l m n) a b
  | 0, _ => Mv.refl _ _ _
  | n + 1, h => (shL_mv hm hb (by omega)).trans (swL_mv (by omega) (by omega) (by rw [shL_len]; exact hb))
def atL (l : List Int) (p : Nat) : Int := (l[p]?).getD 0
def symM (c : Int → Int → Bool) : Nat → List Int → Nat → Nat → Nat → List Int
  | 0, l, _, _, _ => l
  | f + 1, l, a, m, b =>
    if m - a = 1 then shR l a (kE8 (fun h => c (atL l h) (atL l a)) (b - m) m b - 1 - a)
    else if b - m = 1 then shL l m (m - kE8 (fun h => !c (atL l m) (atL l h)) (m - a) a m)
    else
      let mid := (a + b) / 2
      let n := mid + m
      let s := kE8 (fun k => !c (atL l (n - 1 - k)) (atL l k)) (b - a) (if mid < m then n - b else a) (if mid < m then mid else m)
      let e := n - s
      let l1 := if s < m ∧ m < e then rotL l m (m - s) (e - m) else l
      let l2 := if a < s ∧ s < mid then symM c f l1 a s mid else l1
      if mid < e ∧ e < b then symM c f l2 mid e b else l2
def SrtT (T : Int → Int → Prop) (l : List Int) (x y : Nat) : Prop := ∀ p q, x ≤ p → p < q → q < y → T (atL l p) (atL l q)
theorem kBe {l l' : List Int} {p q : Nat} (h : l'[p]? = l[q]?) : atL l' p = atL l q := by
  unfold atL
  rw [h]
theorem SrtT.out {T : Int → Int → Prop} {l l' : List Int} {a b x y : Nat} (h : SrtT T l x y) (hm : Mv l l' a b) (ho : y ≤ a ∨ b ≤ x) : SrtT T l' x y := fun p q h1 h2 h3 => by
  rw [kBe (hm.out p (by omega)), kBe (hm.out q (by omega))]
  exact h p q h1 h2 h3
theorem symM_spec {T : Int → Int → Prop} (tr : ∀ x y z, T x y → T y z → T x z) (ir : ∀ x, ¬ T x x) {c : Int → Int → Bool} : ∀ (f : Nat) {l : List Int} {a m b : Nat}, b - a ≤ f → a < m → m < b → b ≤ l.length → SrtT T l a m → SrtT T l m b →
    (∀ p q, a ≤ p → p < m → m ≤ q → q < b → (c (atL l q) (atL l p) = true → T (atL l q) (atL l p)) ∧ (c (atL l q) (atL l p) = false → T (atL l p) (atL l q))) → Mv l (symM c f l a m b) a b ∧ SrtT T (symM c f l a m b) a b
  | 0, l, a, m, b, h, h1, h2, _, _, _, _ => by omega
  | f + 1, l, a, m, b, hf, h1, h2, hb, sl, sr, cr => by
    rw [symM]
    by_cases c1 : m - a = 1
    · rw [if_pos c1]
      have mono : ∀ x y, m ≤ x → x < y → y < b → c (atL l y) (atL l a) = true → c (atL l x) (atL l a) = true := fun x y k1 k2 k3 k4 => by
        cases q : c (atL l x) (atL l a) with
        | true => rfl
        | false =>
          have t1 := (cr a y (by omega) (by omega) (by omega) k3).1 k4
          have t2 := (cr a x (by omega) (by omega) k1 (by omega)).2 q
          exact absurd (tr _ _ _ t2 (tr _ _ _ (sr x y k1 k2 k3) t1)) (ir _)
      obtain ⟨g1, g2, g3, g4⟩ := kEr (Q := fun h => c (atL l h) (atL l a)) (f := b - m) (i := m) (j := b) (by omega) (by omega) mono
      generalize kE8 (fun h => c (atL l h) (atL l a)) (b - m) m b = s at g1 g2 g3 g4
      refine ⟨shR_mv hb (by omega), fun p q k1 k2 k3 => ?_⟩
      have gp := fun p => shR_get (l := l) (a := a) (n := s - 1 - a) (by omega) p
      by_cases d1 : q < a + (s - 1 - a)
      · rw [kBe ((gp p).trans (if_pos ⟨k1, by omega⟩)), kBe ((gp q).trans (if_pos ⟨by omega, d1⟩))]
        exact sr (p + 1) (q + 1) (by omega) (by omega) (by omega)
      · by_cases d2 : q = a + (s - 1 - a)
        · rw [kBe ((gp q).trans ((if_neg (by omega)).trans (if_pos d2))), kBe ((gp p).trans (if_pos ⟨k1, by omega⟩))]
          exact (cr a (p + 1) (by omega) (by omega) (by omega) (by omega)).1 (g3 (p + 1) (by omega) (by omega))
        · rw [kBe ((gp q).trans ((if_neg (by omega)).trans (if_neg d2)))]
          by_cases d3 : p < a + (s - 1 - a)
          · rw [kBe ((gp p).trans (if_pos ⟨k1, d3⟩))]
            exact sr (p + 1) q (by omega) (by omega) k3
          · by_cases d4 : p = a + (s - 1 - a)
            · rw [kBe ((gp p).trans ((if_neg (by omega)).trans (if_pos d4)))]
              exact (cr a q (by omega) (by omega) (by omega) k3).2 (g4 q (by omega) k3)
            · rw [kBe ((gp p).trans ((if_neg (by omega)).trans (if_neg d4)))]
              exact sr p q (by omega) k2 k3
    rw [if_neg c1]
    by_cases c2 : b - m = 1
    · rw [if_pos c2]
      have mono : ∀ x y, a ≤ x → x < y → y < m → (!c (atL l m) (atL l y)) = true → (!c (atL l m) (atL l x)) = true := fun x y k1 k2 k3 k4 => by
        rw [Bool.not_eq_true'] at k4 ⊢
        cases q : c (atL l m) (atL l x) with
        | false => rfl
        | true =>
          have t1 := (cr y m (by omega) k3 (by omega) (by omega)).2 k4
          have t2 := (cr x m k1 (by omega) (by omega) (by omega)).1 q
          exact absurd (tr _ _ _ (tr _ _ _ (sl x y k1 k2 k3) t1) t2) (ir _)
      obtain ⟨g1, g2, g3, g4⟩ := kEr (Q := fun h => !c (atL l m) (atL l h)) (f := m - a) (i := a) (j := m) (by omega) (by omega) mono
      generalize kE8 (fun h => !c (atL l m) (atL l h)) (m - a) a m = s at g1 g2 g3 g4
      refine ⟨shL_mv h2 hb (by omega), fun p q k1 k2 k3 => ?_⟩
      have gp := fun p => shL_get (l := l) (m := m) (by omega) (n := m - s) (by omega) p
      by_cases d1 : m - (m - s) < p
      · rw [kBe ((gp p).trans (if_pos ⟨d1, by omega⟩)), kBe ((gp q).trans (if_pos ⟨by omega, by omega⟩))]
        exact sl (p - 1) (q - 1) (by omega) (by omega) (by omega)
      · by_cases d2 : p = m - (m - s)
        · rw [kBe ((gp p).trans ((if_neg (by omega)).trans (if_pos d2))), kBe ((gp q).trans (if_pos ⟨by omega, by omega⟩))]
          have := g4 (q - 1) (by omega) (by omega)
          rw [Bool.not_eq_false'] at this
          exact (cr (q - 1) m (by omega) (by omega) (by omega) (by omega)).1 this
        · rw [kBe ((gp p).trans ((if_neg (by omega)).trans (if_neg d2)))]
          by_cases d3 : m - (m - s) < q
          · rw [kBe ((gp q).trans (if_pos ⟨d3, by omega⟩))]
            by_cases d5 : p < q - 1
            · exact sl p (q - 1) k1 d5 (by omega)
            · omega
          · by_cases d4 : q = m - (m - s)
            · rw [kBe ((gp q).trans ((if_neg (by omega)).trans (if_pos d4)))]
              have := g3 p k1 (by omega)
              rw [Bool.not_eq_true'] at this
              exact (cr p m k1 (by omega) (by omega) (by omega)).2 this
            · rw [kBe ((gp q).trans ((if_neg (by omega)).trans (if_neg d4)))]
              exact sl p q k1 k2 (by omega)
    rw [if_neg c2]
    obtain ⟨mid, hmid⟩ : ∃ mid, mid = (a + b) / 2 := ⟨_, rfl⟩
    obtain ⟨s0, hs0⟩ : ∃ s0, s0 = if mid < m then mid + m - b else a := ⟨_, rfl⟩
    obtain ⟨r0, hr0⟩ : ∃ r0, r0 = if mid < m then mid else m := ⟨_, rfl⟩
    rw [← hmid]
    dsimp only
    rw [← hs0, ← hr0]
    have b1 : a ≤ s0 ∧ s0 ≤ r0 ∧ r0 ≤ m ∧ r0 ≤ mid ∧ mid + m ≤ s0 + b := by
      by_cases d : mid < m
      · rw [if_pos d] at hs0 hr0
        omega
      · rw [if_neg d] at hs0 hr0
        omega
    have mono : ∀ x y, s0 ≤ x → x < y → y < r0 → (!c (atL l (mid + m - 1 - y)) (atL l y)) = true → (!c (atL l (mid + m - 1 - x)) (atL l x)) = true := fun x y k1 k2 k3 k4 => by
      rw [Bool.not_eq_true'] at k4 ⊢
      cases q : c (atL l (mid + m - 1 - x)) (atL l x) with
      | false => rfl
      | true =>
        have t1 := (cr y (mid + m - 1 - y) (by omega) (by omega) (by omega) (by omega)).2 k4
        have t2 := (cr x (mid + m - 1 - x) (by omega) (by omega) (by omega) (by omega)).1 q
        have t3 := sl x y (by omega) k2 (by omega)
        have t4 := sr (mid + m - 1 - y) (mid + m - 1 - x) (by omega) (by omega) (by omega)
        exact absurd (tr _ _ _ (tr _ _ _ (tr _ _ _ t3 t1) t4) t2) (ir _)
    obtain ⟨g1, g2, g3, g4⟩ := kEr (Q := fun k => !c (atL l (mid + m - 1 - k)) (atL l k)) (f := b - a) (i := s0) (j := r0) (by omega) (by omega) mono
    generalize kE8 (fun k => !c (atL l (mid + m - 1 - k)) (atL l k)) (b - a) s0 r0 = s at g1 g2 g3 g4
    obtain ⟨e, he⟩ : ∃ e, e = mid + m - s := ⟨_, rfl⟩
    rw [← he]
    have b2 : m ≤ e ∧ e ≤ b ∧ s ≤ m ∧ a ≤ s ∧ s ≤ mid ∧ mid ≤ e ∧ s + e = mid + m := by
      by_cases d : mid < m
      · rw [if_pos d] at hs0 hr0
        omega
      · rw [if_neg d] at hs0 hr0
        omega
    have x1 : ∀ p q, a ≤ p → p < s → e ≤ q → q < b → T (atL l p) (atL l q) := fun p q k1 k2 k3 k4 => by
      by_cases d : s0 < s
      · have := g3 (s - 1) (by omega) (by omega)
        rw [Bool.not_eq_true'] at this
        have t := (cr (s - 1) (mid + m - 1 - (s - 1)) (by omega) (by omega) (by omega) (by omega)).2 this
        have e1 : mid + m - 1 - (s - 1) = e := by omega
        rw [e1] at t
        have t1 : T (atL l p) (atL l e) := by
          by_cases d2 : p = s - 1
          · rw [d2]; exact t
          · exact tr _ _ _ (sl p (s - 1) k1 (by omega) (by omega)) t
        by_cases d3 : q = e
        · rw [d3]; exact t1
        · exact tr _ _ _ t1 (sr e q (by omega) (by omega) k4)
      · exfalso
        by_cases d2 : mid < m
        · rw [if_pos d2] at hs0 hr0
          omega
        · rw [if_neg d2] at hs0 hr0
          omega
    have x2 : ∀ p q, m ≤ p → p < e → s ≤ q → q < m → T (atL l p) (atL l q) := fun p q k1 k2 k3 k4 => by
      by_cases d : s < r0
      · have := g4 s (by omega) d
        rw [Bool.not_eq_false'] at this
        have t := (cr s (mid + m - 1 - s) (by omega) (by omega) (by omega) (by omega)).1 this
        have e1 : mid + m - 1 - s = e - 1 := by omega
        rw [e1] at t
        have t1 : T (atL l p) (atL l s) := by
          by_cases d2 : p = e - 1
          · rw [d2]; exact t
          · exact tr _ _ _ (sr p (e - 1) k1 (by omega) (by omega)) t
        by_cases d3 : q = s
        · rw [d3]; exact t1
        · exact tr _ _ _ t1 (sl s q (by omega) (by omega) k4)
      · exfalso
        by_cases d2 : mid < m
        · rw [if_pos d2] at hs0 hr0
          omega
        · rw [if_neg d2] at hs0 hr0
          omega
    obtain ⟨l1, hl1⟩ : ∃ l1, l1 = if s < m ∧ m < e then rotL l m (m - s) (e - m) else l := ⟨_, rfl⟩
    rw [← hl1]
    have ro : Mv l l1 s e ∧ ∀ p, l1[p]? = if s ≤ p ∧ p < mid then l[p + (m - s)]? else if mid ≤ p ∧ p < e then l[p - (e - m)]? else l[p]? := by
      by_cases d : s < m ∧ m < e
      · rw [if_pos d] at hl1
        obtain ⟨q1, q2⟩ := kFv (m - s + (e - m)) (l := l) (m := m) (i := m - s) (j := e - m) (Nat.le_refl _) (by omega) (by omega) (by omega) (by omega)
        rw [hl1]
        refine ⟨q1.wide (by omega) (by omega), fun p => ?_⟩
        rw [q2]
        by_cases d1 : m - (m - s) ≤ p ∧ p < m - (m - s) + (e - m)
        · rw [if_pos d1, if_pos (by omega)]
        · rw [if_neg d1, if_neg (show ¬ (s ≤ p ∧ p < mid) by omega)]
          by_cases d2 : m - (m - s) + (e - m) ≤ p ∧ p < m + (e - m)
          · rw [if_pos d2, if_pos (by omega)]
          · rw [if_neg d2, if_neg (by omega)]
      · rw [if_neg d] at hl1
        rw [hl1]
        refine ⟨Mv.refl _ _ _, fun p => ?_⟩
        by_cases d1 : s ≤ p ∧ p < mid
        · rw [if_pos d1]
          congr 1
          omega
        · rw [if_neg d1]
          by_cases d2 : mid ≤ p ∧ p < e
          · rw [if_pos d2]
            congr 1
            omega
          · rw [if_neg d2]
    obtain ⟨m1, gt⟩ := ro
    have v1 : ∀ p, p < s → atL l1 p = atL l p := fun p k => kBe ((gt p).trans ((if_neg (by omega)).trans (if_neg (by omega))))
    have v2 : ∀ p, s ≤ p → p < mid → atL l1 p = atL l (p + (m - s)) := fun p k1 k2 => kBe ((gt p).trans (if_pos ⟨k1, k2⟩))
    have v3 : ∀ p, mid ≤ p → p < e → atL l1 p = atL l (p - (e - m)) := fun p k1 k2 => kBe ((gt p).trans ((if_neg (by omega)).trans (if_pos ⟨k1, k2⟩)))
    have v4 : ∀ p, e ≤ p → atL l1 p = atL l p := fun p k => kBe ((gt p).trans ((if_neg (by omega)).trans (if_neg (by omega))))
    have ll1 := m1.len
    have M1 : Mv l l1 a b := m1.wide (by omega) (by omega)
    have cross : ∀ p q, a ≤ p → p < mid → mid ≤ q → q < b → T (atL l1 p) (atL l1 q) := fun p q k1 k2 k3 k4 => by
      by_cases d1 : p < s
      · rw [v1 p d1]
        by_cases d2 : q < e
        · rw [v3 q k3 d2]
          exact sl p (q - (e - m)) k1 (by omega) (by omega)
        · rw [v4 q (by omega)]
          exact x1 p q k1 d1 (by omega) k4
      · rw [v2 p (by omega) k2]
        by_cases d2 : q < e
        · rw [v3 q k3 d2]
          exact x2 _ _ (by omega) (by omega) (by omega) (by omega)
        · rw [v4 q (by omega)]
          exact sr _ q (by omega) (by omega) k4
    have A1 : SrtT T l1 a s := fun p q k1 k2 k3 => by rw [v1 p (by omega), v1 q k3]; exact sl p q k1 k2 (by omega)
    have A2 : SrtT T l1 s mid := fun p q k1 k2 k3 => by rw [v2 p k1 (by omega), v2 q (by omega) k3]; exact sr _ _ (by omega) (by omega) (by omega)
    have A3 : SrtT T l1 mid e := fun p q k1 k2 k3 => by rw [v3 p k1 (by omega), v3 q (by omega) k3]; exact sl _ _ (by omega) (by omega) (by omega)
    have A4 : SrtT T l1 e b := fun p q k1 k2 k3 => by rw [v4 p k1, v4 q (by omega)]; exact sr p q (by omega) k2 k3
    obtain ⟨l2, hl2⟩ : ∃ l2, l2 = if a < s ∧ s < mid then symM c f l1 a s mid else l1 := ⟨_, rfl⟩
    rw [← hl2]
    have h2' : Mv l1 l2 a mid ∧ SrtT T l2 a mid := by
      by_cases d : a < s ∧ s < mid
      · rw [if_pos d] at hl2
        rw [hl2]
        exact symM_spec tr ir f (l := l1) (a := a) (m := s) (b := mid) (by omega) d.1 d.2 (by omega) A1 A2 fun p q k1 k2 k3 k4 => by
          rw [v1 p k2, v2 q k3 k4]
          exact cr p _ k1 (by omega) (by omega) (by omega)
      · rw [if_neg d] at hl2
        rw [hl2]
        refine ⟨Mv.refl _ _ _, fun p q k1 k2 k3 => ?_⟩
        by_cases d2 : a < s
        · exact A1 p q k1 k2 (by omega)
        · exact A2 p q (by omega) k2 k3
    obtain ⟨M2, S2⟩ := h2'
    have ll2 := M2.len
    have w : ∀ p, mid ≤ p → atL l2 p = atL l1 p := fun p k => kBe (M2.out p (by omega))
    obtain ⟨l3, hl3⟩ : ∃ l3, l3 = if mid < e ∧ e < b then symM c f l2 mid e b else l2 := ⟨_, rfl⟩
    rw [← hl3]
    have h3' : Mv l2 l3 mid b ∧ SrtT T l3 mid b := by
      by_cases d : mid < e ∧ e < b
      · rw [if_pos d] at hl3
        rw [hl3]
        exact symM_spec tr ir f (l := l2) (a := mid) (m := e) (b := b) (by omega) d.1 d.2 (by omega) (A3.out M2 (by omega)) (A4.out M2 (by omega)) fun p q k1 k2 k3 k4 => by
          rw [w p k1, w q (by omega), v3 p k1 k2, v4 q k3]
          exact cr _ q (by omega) (by omega) (by omega) k4
      · rw [if_neg d] at hl3
        rw [hl3]
        refine ⟨Mv.refl _ _ _, fun p q k1 k2 k3 => ?_⟩
        rw [w p k1, w q (by omega)]
        by_cases d2 : mid < e
        · exact A3 p q k1 k2 (by omega)
        · exact A4 p q (by omega) k2 k3
    obtain ⟨M3, S3⟩ := h3'
    refine ⟨(M1.trans (M2.wide (by omega) (by omega))).trans (M3.wide (by omega) (by omega)), fun p q k1 k2 k3 => ?_⟩
    by_cases d1 : q < mid
    · rw [kBe (M3.out p (by omega)), kBe (M3.out q (by omega))]
      exact S2 p q k1 k2 d1
    · by_cases d2 : mid ≤ p
      · exact S3 p q d2 k2 k3
      · rw [kBe (M3.out p (by omega))]
        obtain ⟨p', p1, p2, p3⟩ := M2.inn p k1 (by omega)
        obtain ⟨q', q1, q2, q3⟩ := M3.inn q (by omega) k3
        rw [kBe p3, kBe q3, w q' q1]
        exact cross p' q' p1 p2 q1 q2
theorem kF6 {l : List Int} {i : Nat} {v : Int} : kC4 (some l) (i : Int) v = some (l.set i v) := rfl
theorem swT {l : List Int} {i j : Nat} {u v : Int} (hi : l[i]? = some u) (hj : l[j]? = some v) : kC4 (kC4 (some l) (i : Int) v) (j : Int) u = some (swL l i j) := by
  unfold swL
  rw [hi, hj, kF6, kF6]
theorem getT {l : List Int} {i : Nat} (h : i < l.length) : kC3 ((some l : Sl Int).getD []) (i : Int) = some (atL l i) := by
  rw [Option.getD_some]
  refine kB5 ?_
  unfold atL
  rw [List.getElem?_eq_getElem h]
  rfl
theorem kDk {l : List Int} {i : Nat} (h : i < l.length) : l[i]? = some (atL l i) := by
  unfold atL
  rw [List.getElem?_eq_getElem h]
  rfl
theorem kG4 (P : Int → Int → Option Int) {l : List Int} {a b n : Nat} (h1 : a + n ≤ b) (h2 : b + n ≤ l.length) (hl : l.length ≤ 1000000) : t_q34 P (some l) (a : Int) (b : Int) (n : Int) = some (some (swR l a b n)) := by
  have lp := kHx (step := s0_q34 P (a : Int) (b : Int) (n : Int)) n (fun k => ((some (swR l a b k) : Sl Int), (k : Int))) (some (swR l a b n))
    (fun k hk => by
      have c : decide ((k : Int) < (n : Int)) = true := decide_eq_true (by omega)
      have w1 : wr ((b : Int) + k) = ((b + k : Nat) : Int) := by rw [kBg (by omega) (by omega)]; omega
      have w2 : wr ((a : Int) + k) = ((a + k : Nat) : Int) := by rw [kBg (by omega) (by omega)]; omega
      have ws := kDn hk (by omega : n ≤ 4294967296)
      have hl' := kFt l a b k
      have g1 := getT (l := swR l a b k) (i := b + k) (by omega)
      have g2 := getT (l := swR l a b k) (i := a + k) (by omega)
      have g3 : kC3 ((kC4 (some (swR l a b k)) ((a + k : Nat) : Int) (atL (swR l a b k) (b + k))).getD []) ((b + k : Nat) : Int) = some (atL (swR l a b k) (b + k)) := by
        rw [kF6, Option.getD_some]
        refine kB5 ?_
        by_cases e : b + k = a + k
        · rw [e, List.getElem?_set_self (by omega)]
        · rw [List.getElem?_set_ne (by omega), kDk (by omega)]
      unfold s0_q34
      simp only [c, cond_true, w1, w2, g1, g2, g3, kA2, ws]
      rw [swT (kDk (by omega)) (kDk (by omega))]
      rfl)
    (by
      unfold s0_q34
      simp only [Int.lt_irrefl, decide_false, cond_false]) 0 (by omega)
  have lp' : kB6 (s0_q34 P (a : Int) (b : Int) (n : Int)) ((some l : Sl Int), 0) = some (some (swR l a b n)) := lp
  unfold t_q34
  rw [lp', kA2]
theorem rotLoop (P : Int → Int → Option Int) : ∀ (N : Nat) {l : List Int} {m i j : Nat}, i + j ≤ N → 1 ≤ i → 1 ≤ j → i ≤ m → m + j ≤ l.length → l.length ≤ 1000000 →
    ∃ (l' : List Int) (k : Nat), kB6 (s0_q32 P (m : Int)) ((some l : Sl Int), (i : Int), (j : Int)) = some ((some l' : Sl Int), (k : Int)) ∧ k ≤ m ∧ m + k ≤ l'.length ∧ l'.length = l.length ∧ swR l' (m - k) m k = rotL l m i j
  | 0, l, m, i, j, h, h1, _, _, _, _ => by omega
  | N + 1, l, m, 0, j, h, h1, _, _, _, _ => by omega
  | N + 1, l, m, i + 1, 0, h, _, h1, _, _, _ => by omega
  | N + 1, l, m, i + 1, j + 1, h, h1, h2, h3, h4, h5 => by
    rw [rotL]
    by_cases c : i = j
    · subst c
      rw [if_pos rfl]
      refine ⟨l, i + 1, ?_, by omega, by omega, rfl, rfl⟩
      refine kB2 ?_
      unfold s0_q32
      simp only [decide_true, Bool.not_true, cond_false]
    · rw [if_neg c]
      have d : decide (((i + 1 : Nat) : Int) = ((j + 1 : Nat) : Int)) = false := decide_eq_false (by omega)
      have w1 : wr ((m : Int) - ((i + 1 : Nat) : Int)) = ((m - (i + 1) : Nat) : Int) := by rw [kBg (by omega) (by omega)]; omega
      by_cases e : j < i
      · rw [if_pos e]
        have hl := kFt l (m - (i + 1)) m (j + 1)
        obtain ⟨l', k, g1, g2⟩ := rotLoop P N (l := swR l (m - (i + 1)) m (j + 1)) (m := m) (i := i - j) (j := j + 1) (by omega) (by omega) (by omega) (by omega) (by omega) (by omega)
        refine ⟨l', k, ?_, g2.1, g2.2.1, by rw [g2.2.2.1, hl], g2.2.2.2⟩
        have d2 : decide (((j + 1 : Nat) : Int) < ((i + 1 : Nat) : Int)) = true := decide_eq_true (by omega)
        have w2 : wr (((i + 1 : Nat) : Int) - ((j + 1 : Nat) : Int)) = ((i - j : Nat) : Int) := by rw [kBg (by omega) (by omega)]; omega
        have sr := kG4 P (l := l) (a := m - (i + 1)) (b := m) (n := j + 1) (by omega) (by omega) h5
        rw [kBa (s' := ((some (swR l (m - (i + 1)) m (j + 1)) : Sl Int), ((i - j : Nat) : Int), ((j + 1 : Nat) : Int))), g1]
        unfold s0_q32
        simp only [d, Bool.not_false, cond_true, d2, w1, w2, sr, kA2]
      · rw [if_neg e]
        have hl := kFt l (m - (i + 1)) (m + (j + 1) - (i + 1)) (i + 1)
        obtain ⟨l', k, g1, g2⟩ := rotLoop P N (l := swR l (m - (i + 1)) (m + (j + 1) - (i + 1)) (i + 1)) (m := m) (i := i + 1) (j := j - i) (by omega) (by omega) (by omega) (by omega) (by omega) (by omega)
        refine ⟨l', k, ?_, g2.1, g2.2.1, by rw [g2.2.2.1, hl], g2.2.2.2⟩
        have d2 : decide (((j + 1 : Nat) : Int) < ((i + 1 : Nat) : Int)) = false := decide_eq_false (by omega)
        have w2 : wr (((j + 1 : Nat) : Int) - ((i + 1 : Nat) : Int)) = ((j - i : Nat) : Int) := by rw [kBg (by omega) (by omega)]; omega
        have w3 : wr ((m : Int) + ((j + 1 : Nat) : Int)) = ((m + (j + 1) : Nat) : Int) := by rw [kBg (by omega) (by omega)]; omega
        have w4 : wr (((m + (j + 1) : Nat) : Int) - ((i + 1 : Nat) : Int)) = ((m + (j + 1) - (i + 1) : Nat) : Int) := by rw [kBg (by omega) (by omega)]; omega
        have sr := kG4 P (l := l) (a := m - (i + 1)) (b := m + (j + 1) - (i + 1)) (n := i + 1) (by omega) (by omega) h5
        rw [kBa (s' := ((some (swR l (m - (i + 1)) (m + (j + 1) - (i + 1)) (i + 1)) : Sl Int), ((i + 1 : Nat) : Int), ((j - i : Nat) : Int))), g1]
        unfold s0_q32
        simp only [d, Bool.not_false, cond_true, cond_false, d2, w1, w2, w3, w4, sr, kA2]
theorem rotate_ok (P : Int → Int → Option Int) {l : List Int} {a m b : Nat} (h1 : a < m) (h2 : m < b) (h3 : b ≤ l.length) (hl : l.length ≤ 1000000) : kH5 P (some l) (a : Int) (m : Int) (b : Int) = some (some (rotL l m (m - a) (b - m))) := by
  obtain ⟨l', k, g1, g2, g3, g4, g5⟩ := rotLoop P (m - a + (b - m)) (l := l) (m := m) (i := m - a) (j := b - m) (Nat.le_refl _) (by omega) (by omega) (by omega) (by omega) hl
  have w1 : wr ((m : Int) - (a : Int)) = ((m - a : Nat) : Int) := by rw [kBg (by omega) (by omega)]; omega
  have w2 : wr ((b : Int) - (m : Int)) = ((b - m : Nat) : Int) := by rw [kBg (by omega) (by omega)]; omega
  have w3 : wr ((m : Int) - (k : Int)) = ((m - k : Nat) : Int) := by rw [kBg (by omega) (by omega)]; omega
  have sr := kG4 P (l := l') (a := m - k) (b := m) (n := k) (by omega) (by omega) (by omega)
  unfold kH5
  simp only [w1, w2, g1, kA2, w3, sr, g5]
theorem half_ok {step : Int × Int → Option (Sum (Int × Int) Int)} {Q : Nat → Bool} {I J : Nat} (hs : ∀ i j : Nat, I ≤ i → i < j → j ≤ J → step ((i : Int), (j : Int)) = some (.inl (if Q ((i + j) / 2) then ((((i + j) / 2 + 1 : Nat) : Int), (j : Int)) else ((i : Int), (((i + j) / 2 : Nat) : Int)))))
    (he : ∀ i j : Nat, ¬ i < j → step ((i : Int), (j : Int)) = some (.inr (i : Int))) : ∀ (f : Nat) {i j : Nat}, j ≤ i + f → I ≤ i → j ≤ J → kB6 step ((i : Int), (j : Int)) = some ((kE8 Q f i j : Nat) : Int)
  | 0, i, j, h, _, _ => by
    rw [kE8]
    exact kB2 (he i j (by omega))
  | f + 1, i, j, h, h1, h2 => by
    rw [kE8]
    by_cases c : i < j
    · rw [if_pos c]
      cases q : Q ((i + j) / 2) with
      | true =>
        rw [if_pos rfl, kBa (s' := ((((i + j) / 2 + 1 : Nat) : Int), (j : Int)))]
        · exact half_ok hs he f (by omega) (by omega) h2
        · rw [hs i j h1 c h2, q, if_pos rfl]
      | false =>
        rw [if_neg (by simp), kBa (s' := ((i : Int), (((i + j) / 2 : Nat) : Int)))]
        · exact half_ok hs he f (by omega) h1 (by omega)
        · rw [hs i j h1 c h2, q, if_neg (by simp)]
    · rw [if_neg c]
      exact kB2 (he i j c)
theorem midS_ok {a b : Nat} (h : a + b ≤ 4000000) : wr (Int.fdiv (IntKind.u64.wrap (wr ((a : Int) + (b : Int)))) (2 ^ 1)) = (((a + b) / 2 : Nat) : Int) := by
  have w1 : wr ((a : Int) + (b : Int)) = ((a + b : Nat) : Int) := by rw [kBg (by omega) (by omega)]; omega
  have w2 : IntKind.u64.wrap ((a + b : Nat) : Int) = ((a + b : Nat) : Int) := by
    simp only [IntKind.wrap, IntKind.bits, IntKind.signed]
    simp only [Bool.false_and, Bool.false_eq_true, if_false]
    omega
  have w3 : Int.fdiv ((a + b : Nat) : Int) (2 ^ 1) = (((a + b) / 2 : Nat) : Int) := by
    rw [Int.fdiv_eq_ediv_of_nonneg _ (by decide)]
    show ((a + b : Nat) : Int) / 2 = _
    omega
  rw [w1, w2, w3, kBg (by omega) (by omega)]
def OkP (P : Int → Int → Option Int) (c : Int → Int → Bool) (n : Nat) : Prop := ∀ u v : Int, 0 ≤ u → u < n → 0 ≤ v → v < n → ∃ r, P u v = some r ∧ decide (r < 0) = c u v
def InN (l : List Int) (n : Nat) : Prop := ∀ x ∈ l, 0 ≤ x ∧ x < (n : Int)
theorem InN.at {l : List Int} {n i : Nat} (h : InN l n) (hi : i < l.length) : 0 ≤ atL l i ∧ atL l i < (n : Int) := h _ (List.mem_of_getElem? (kDk hi))
theorem InN.perm {l l' : List Int} {n : Nat} (h : InN l n) (hp : l'.Perm l) : InN l' n := fun x hx => h x (hp.mem_iff.1 hx)
theorem shR_ok (P : Int → Int → Option Int) {l : List Int} {a q : Nat} (h1 : a < q) (h2 : q ≤ l.length) (hl : l.length ≤ 1000000) : kB6 (s4_q35 P (q : Int)) ((some l : Sl Int), (a : Int)) = some (some (shR l a (q - 1 - a))) := by
  have wq : wr ((q : Int) - 1) = ((q - 1 : Nat) : Int) := by rw [kBg (by omega) (by omega)]; omega
  have lp := kHx (step := s4_q35 P (q : Int)) (q - 1 - a) (fun k => ((some (shR l a k) : Sl Int), ((a + k : Nat) : Int))) (some (shR l a (q - 1 - a)))
    (fun k hk => by
      have c : decide (((a + k : Nat) : Int) < ((q - 1 : Nat) : Int)) = true := decide_eq_true (by omega)
      have w1 : wr (((a + k : Nat) : Int) + 1) = ((a + k + 1 : Nat) : Int) := by rw [kBg (by omega) (by omega)]; omega
      have hl' := shR_len l a k
      have g1 := getT (l := shR l a k) (i := a + k + 1) (by omega)
      have g2 := getT (l := shR l a k) (i := a + k) (by omega)
      have g3 : kC3 ((kC4 (some (shR l a k)) ((a + k : Nat) : Int) (atL (shR l a k) (a + k + 1))).getD []) ((a + k + 1 : Nat) : Int) = some (atL (shR l a k) (a + k + 1)) := by
        rw [kF6, Option.getD_some]
        refine kB5 ?_
        rw [List.getElem?_set_ne (by omega), kDk (by omega)]
      unfold s4_q35
      simp only [wq, c, cond_true, w1, g1, g2, g3, kA2]
      rw [swT (kDk (by omega)) (kDk (by omega))]
      rfl)
    (by
      have c : decide (((a + (q - 1 - a) : Nat) : Int) < ((q - 1 : Nat) : Int)) = false := decide_eq_false (by omega)
      unfold s4_q35
      simp only [wq, c, cond_false]) 0 (by omega)
  exact lp
theorem shL_ok (P : Int → Int → Option Int) {l : List Int} {m q : Nat} (h1 : q ≤ m) (h2 : m < l.length) (hl : l.length ≤ 1000000) : kB6 (s5_q35 P (q : Int)) ((some l : Sl Int), (m : Int)) = some (some (shL l m (m - q))) := by
  have lp := kHx (step := s5_q35 P (q : Int)) (m - q) (fun k => ((some (shL l m k) : Sl Int), ((m - k : Nat) : Int))) (some (shL l m (m - q)))
    (fun k hk => by
      have c : decide ((q : Int) < ((m - k : Nat) : Int)) = true := decide_eq_true (by omega)
      have w1 : wr (((m - k : Nat) : Int) - 1) = ((m - k - 1 : Nat) : Int) := by rw [kBg (by omega) (by omega)]; omega
      have hl' := shL_len l m k
      have g1 := getT (l := shL l m k) (i := m - k - 1) (by omega)
      have g2 := getT (l := shL l m k) (i := m - k) (by omega)
      have g3 : kC3 ((kC4 (some (shL l m k)) ((m - k : Nat) : Int) (atL (shL l m k) (m - k - 1))).getD []) ((m - k - 1 : Nat) : Int) = some (atL (shL l m k) (m - k - 1)) := by
        rw [kF6, Option.getD_some]
        refine kB5 ?_
        rw [List.getElem?_set_ne (by omega), kDk (by omega)]
      have e : m - (k + 1) = m - k - 1 := by omega
      unfold s5_q35
      simp only [c, cond_true, w1, g1, g2, g3, kA2]
      rw [swT (kDk (by omega)) (kDk (by omega)), e]
      rfl)
    (by
      have c : decide ((q : Int) < ((m - (m - q) : Nat) : Int)) = false := decide_eq_false (by omega)
      unfold s5_q35
      simp only [c, cond_false]) 0 (by omega)
  exact lp
theorem kCb {Q : Nat → Bool} : ∀ {f i j : Nat}, i ≤ j → i ≤ kE8 Q f i j ∧ kE8 Q f i j ≤ j
  | 0, i, j, h => by rw [kE8]; exact ⟨Nat.le_refl _, h⟩
  | f + 1, i, j, h => by
    rw [kE8]
    by_cases c : i < j
    · rw [if_pos c]
      cases q : Q ((i + j) / 2) with
      | true =>
        rw [if_pos rfl]
        obtain ⟨g1, g2⟩ := kCb (Q := Q) (f := f) (i := (i + j) / 2 + 1) (j := j) (by omega)
        exact ⟨by omega, g2⟩
      | false =>
        rw [if_neg (by simp)]
        obtain ⟨g1, g2⟩ := kCb (Q := Q) (f := f) (i := i) (j := (i + j) / 2) (by omega)
        exact ⟨g1, by omega⟩
    · rw [if_neg c]
      exact ⟨Nat.le_refl _, h⟩
theorem cond2 {γ : Type} {p q : Prop} [Decidable p] [Decidable q] {A B : Option γ} : (kA0 (bif decide p then some (decide q) else some false) fun c => bif (bif decide p then c else false) then A else B) = if p ∧ q then A else B := by
  by_cases hp : p
  · by_cases hq : q
    · rw [decide_eq_true hp, decide_eq_true hq, if_pos ⟨hp, hq⟩]
      rfl
    · rw [decide_eq_true hp, decide_eq_false hq, if_neg (fun h => hq h.2)]
      rfl
  · rw [decide_eq_false hp, if_neg (fun h => hp h.1)]
    rfl
theorem symM_mv (c : Int → Int → Bool) : ∀ (f : Nat) {l : List Int} {a m b : Nat}, a < m → m < b → b ≤ l.length → Mv l (symM c f l a m b) a b
  | 0, l, a, m, b, _, _, _ => Mv.refl _ _ _
  | f + 1, l, a, m, b, h1, h2, hb => by
    rw [symM]
    by_cases c1 : m - a = 1
    · rw [if_pos c1]
      have g := kCb (Q := fun h => c (atL l h) (atL l a)) (f := b - m) (i := m) (j := b) (by omega)
      exact shR_mv hb (by omega)
    rw [if_neg c1]
    by_cases c2 : b - m = 1
    · rw [if_pos c2]
      have g := kCb (Q := fun h => !c (atL l m) (atL l h)) (f := m - a) (i := a) (j := m) (by omega)
      exact shL_mv h2 hb (by omega)
    rw [if_neg c2]
    obtain ⟨mid, hmid⟩ : ∃ mid, mid = (a + b) / 2 := ⟨_, rfl⟩
    obtain ⟨s0, hs0⟩ : ∃ s0, s0 = if mid < m then mid + m - b else a := ⟨_, rfl⟩
    obtain ⟨r0, hr0⟩ : ∃ r0, r0 = if mid < m then mid else m := ⟨_, rfl⟩
    rw [← hmid]
    dsimp only
    rw [← hs0, ← hr0]
    have b1 : a ≤ s0 ∧ s0 ≤ r0 ∧ r0 ≤ m ∧ r0 ≤ mid ∧ mid + m ≤ s0 + b := by
      by_cases d : mid < m
      · rw [if_pos d] at hs0 hr0
        omega
      · rw [if_neg d] at hs0 hr0
        omega
    obtain ⟨g1, g2⟩ := kCb (Q := fun k => !c (atL l (mid + m - 1 - k)) (atL l k)) (f := b - a) (i := s0) (j := r0) (by omega)
    generalize kE8 (fun k => !c (atL l (mid + m - 1 - k)) (atL l k)) (b - a) s0 r0 = s at g1 g2
    obtain ⟨e, he⟩ : ∃ e, e = mid + m - s := ⟨_, rfl⟩
    rw [← he]
    obtain ⟨l1, hl1⟩ : ∃ l1, l1 = if s < m ∧ m < e then rotL l m (m - s) (e - m) else l := ⟨_, rfl⟩
    rw [← hl1]
    have m1 : Mv l l1 a b := by
      by_cases d : s < m ∧ m < e
      · rw [if_pos d] at hl1
        rw [hl1]
        exact (kFv (m - s + (e - m)) (l := l) (m := m) (i := m - s) (j := e - m) (Nat.le_refl _) (by omega) (by omega) (by omega) (by omega)).1.wide (by omega) (by omega)
      · rw [if_neg d] at hl1
        rw [hl1]
        exact Mv.refl _ _ _
    have ll1 := m1.len
    obtain ⟨l2, hl2⟩ : ∃ l2, l2 = if a < s ∧ s < mid then symM c f l1 a s mid else l1 := ⟨_, rfl⟩
    rw [← hl2]
    have m2 : Mv l1 l2 a b := by
      by_cases d : a < s ∧ s < mid
      · rw [if_pos d] at hl2
        rw [hl2]
        exact (symM_mv c f d.1 d.2 (by omega)).wide (by omega) (by omega)
      · rw [if_neg d] at hl2
        rw [hl2]
        exact Mv.refl _ _ _
    have ll2 := m2.len
    refine (m1.trans m2).trans ?_
    by_cases d : mid < e ∧ e < b
    · rw [if_pos d]
      exact (symM_mv c f d.1 d.2 (by omega)).wide (by omega) (by omega)
    · rw [if_neg d]
      exact Mv.refl _ _ _
theorem kH9 {P : Int → Int → Option Int} {c : Int → Int → Bool} {n : Nat} (hP : OkP P c n) : ∀ (f : Nat) {l : List Int} {a m b : Nat}, b - a ≤ f → a < m → m < b → b ≤ l.length → l.length ≤ 1000000 → InN l n →
    kEh P f (some l) (a : Int) (m : Int) (b : Int) = some (some (symM c f l a m b))
  | 0, l, a, m, b, h, h1, h2, _, _, _ => by omega
  | f + 1, l, a, m, b, hf, h1, h2, hb, hl, hN => by
    show kB3 P (kEh P f) (some l) (a : Int) (m : Int) (b : Int) = _
    have wma : wr ((m : Int) - (a : Int)) = ((m - a : Nat) : Int) := by rw [kBg (by omega) (by omega)]; omega
    have wbm : wr ((b : Int) - (m : Int)) = ((b - m : Nat) : Int) := by rw [kBg (by omega) (by omega)]; omega
    rw [symM]
    unfold kB3
    rw [wma, wbm]
    by_cases c1 : m - a = 1
    · rw [if_pos c1, decide_eq_true (show ((m - a : Nat) : Int) = 1 by omega), cond_true]
      have lp := half_ok (step := s0_q35 P (some l) (a : Int)) (Q := fun h => c (atL l h) (atL l a)) (I := m) (J := b)
        (fun i j k1 k2 k3 => by
          have d := decide_eq_true (show (i : Int) < (j : Int) by omega)
          have wm := midS_ok (a := i) (b := j) (by omega)
          have w1 : wr ((((i + j) / 2 : Nat) : Int) + 1) = (((i + j) / 2 + 1 : Nat) : Int) := by rw [kBg (by omega) (by omega)]; omega
          have g1 := getT (l := l) (i := (i + j) / 2) (by omega)
          have g2 := getT (l := l) (i := a) (by omega)
          have n1 := hN.at (i := (i + j) / 2) (by omega)
          have n2 := hN.at (i := a) (by omega)
          obtain ⟨r, e1, e2⟩ := hP _ _ n1.1 n1.2 n2.1 n2.2
          unfold s0_q35
          simp only [d, cond_true, wm, g1, g2, kA2, e1, w1, e2]
          cases c (atL l ((i + j) / 2)) (atL l a) <;> simp)
        (fun i j k => by
          unfold s0_q35
          dsimp only
          rw [decide_eq_false (show ¬ (i : Int) < (j : Int) by omega), cond_false]) (b - m) (i := m) (j := b) (by omega) (Nat.le_refl _) (Nat.le_refl _)
      obtain ⟨r1, r2⟩ := kCb (Q := fun h => c (atL l h) (atL l a)) (f := b - m) (i := m) (j := b) (by omega)
      rw [lp, kA2, shR_ok P (by omega) (by omega) hl, kA2]
    rw [if_neg c1, decide_eq_false (show ¬ ((m - a : Nat) : Int) = 1 by omega), cond_false]
    by_cases c2 : b - m = 1
    · rw [if_pos c2, decide_eq_true (show ((b - m : Nat) : Int) = 1 by omega), cond_true]
      have lp := half_ok (step := s1_q35 P (some l) (m : Int)) (Q := fun h => !c (atL l m) (atL l h)) (I := a) (J := m)
        (fun i j k1 k2 k3 => by
          have d := decide_eq_true (show (i : Int) < (j : Int) by omega)
          have wm := midS_ok (a := i) (b := j) (by omega)
          have w1 : wr ((((i + j) / 2 : Nat) : Int) + 1) = (((i + j) / 2 + 1 : Nat) : Int) := by rw [kBg (by omega) (by omega)]; omega
          have g1 := getT (l := l) (i := (i + j) / 2) (by omega)
          have g2 := getT (l := l) (i := m) (by omega)
          have n1 := hN.at (i := (i + j) / 2) (by omega)
          have n2 := hN.at (i := m) (by omega)
          obtain ⟨r, e1, e2⟩ := hP _ _ n2.1 n2.2 n1.1 n1.2
          unfold s1_q35
          simp only [d, cond_true, wm, g1, g2, kA2, e1, w1, e2]
          cases c (atL l m) (atL l ((i + j) / 2)) <;> simp)
        (fun i j k => by
          unfold s1_q35
          dsimp only
          rw [decide_eq_false (show ¬ (i : Int) < (j : Int) by omega), cond_false]) (m - a) (i := a) (j := m) (by omega) (Nat.le_refl _) (Nat.le_refl _)
      obtain ⟨r1, r2⟩ := kCb (Q := fun h => !c (atL l m) (atL l h)) (f := m - a) (i := a) (j := m) (by omega)
      rw [lp, kA2, shL_ok P (by omega) (by omega) hl, kA2]
    rw [if_neg c2, decide_eq_false (show ¬ ((b - m : Nat) : Int) = 1 by omega), cond_false]
    obtain ⟨mid, hmid⟩ : ∃ mid, mid = (a + b) / 2 := ⟨_, rfl⟩
    have wmid := midS_ok (a := a) (b := b) (by omega)
    rw [← hmid] at wmid ⊢
    have wn : wr ((mid : Int) + (m : Int)) = ((mid + m : Nat) : Int) := by rw [kBg (by omega) (by omega)]; omega
    have wn1 : wr (((mid + m : Nat) : Int) - 1) = ((mid + m - 1 : Nat) : Int) := by rw [kBg (by omega) (by omega)]; omega
    simp only [wmid, wn, cond2]
    have step3 : ∀ (l2 : List Int) (e : Nat), l2.length = l.length → InN l2 n → mid ≤ e → (if (mid : Int) < (e : Int) ∧ (e : Int) < (b : Int) then kA0 (kEh P f (some l2) (mid : Int) (e : Int) (b : Int)) fun w3 => some w3 else some (some l2)) = some (some (if mid < e ∧ e < b then symM c f l2 mid e b else l2)) := fun l2 e k1 k2 k3 => by
      by_cases d : mid < e ∧ e < b
      · rw [if_pos (by omega), if_pos d, kH9 hP f (by omega) d.1 d.2 (by omega) (by omega) k2, kA2]
      · rw [if_neg (by omega), if_neg d]
    have step2 : ∀ (l1 : List Int) (s e : Nat), l1.length = l.length → InN l1 n → mid ≤ e → s ≤ mid →
        (if (a : Int) < (s : Int) ∧ (s : Int) < (mid : Int) then kA0 (kEh P f (some l1) (a : Int) (s : Int) (mid : Int)) fun w2 => (if (mid : Int) < (e : Int) ∧ (e : Int) < (b : Int) then kA0 (kEh P f w2 (mid : Int) (e : Int) (b : Int)) fun w3 => some w3 else some w2) else (if (mid : Int) < (e : Int) ∧ (e : Int) < (b : Int) then kA0 (kEh P f (some l1) (mid : Int) (e : Int) (b : Int)) fun w3 => some w3 else some (some l1))) = some (some (if mid < e ∧ e < b then symM c f (if a < s ∧ s < mid then symM c f l1 a s mid else l1) mid e b else (if a < s ∧ s < mid then symM c f l1 a s mid else l1))) := fun l1 s e k1 k2 k3 k4 => by
      by_cases d : a < s ∧ s < mid
      · have q := (symM_mv c f (l := l1) d.1 d.2 (by omega)).perm
        rw [if_pos (show (a : Int) < (s : Int) ∧ (s : Int) < (mid : Int) by omega), if_pos d, kH9 hP f (by omega) d.1 d.2 (by omega) (by omega) k2, kA2]
        exact step3 _ e (by rw [q.length_eq, k1]) (k2.perm q) k3
      · rw [if_neg (show ¬ ((a : Int) < (s : Int) ∧ (s : Int) < (mid : Int)) by omega), if_neg d]
        exact step3 l1 e k1 k2 k3
    have tail : ∀ (s : Nat), a ≤ s → s ≤ m → s ≤ mid → mid + m ≤ s + b →
        (if (s : Int) < (m : Int) ∧ (m : Int) < wr (((mid + m : Nat) : Int) - (s : Int)) then kA0 (kH5 P (some l) (s : Int) (m : Int) (wr (((mid + m : Nat) : Int) - (s : Int)))) fun w1 => (if (a : Int) < (s : Int) ∧ (s : Int) < (mid : Int) then kA0 (kEh P f w1 (a : Int) (s : Int) (mid : Int)) fun w2 => (if (mid : Int) < wr (((mid + m : Nat) : Int) - (s : Int)) ∧ wr (((mid + m : Nat) : Int) - (s : Int)) < (b : Int) then kA0 (kEh P f w2 (mid : Int) (wr (((mid + m : Nat) : Int) - (s : Int))) (b : Int)) fun w3 => some w3 else some w2) else (if (mid : Int) < wr (((mid + m : Nat) : Int) - (s : Int)) ∧ wr (((mid + m : Nat) : Int) - (s : Int)) < (b : Int) then kA0 (kEh P f w1 (mid : Int) (wr (((mid + m : Nat) : Int) - (s : Int))) (b : Int)) fun w3 => some w3 else some w1))
         else (if (a : Int) < (s : Int) ∧ (s : Int) < (mid : Int) then kA0 (kEh P f (some l) (a : Int) (s : Int) (mid : Int)) fun w2 => (if (mid : Int) < wr (((mid + m : Nat) : Int) - (s : Int)) ∧ wr (((mid + m : Nat) : Int) - (s : Int)) < (b : Int) then kA0 (kEh P f w2 (mid : Int) (wr (((mid + m : Nat) : Int) - (s : Int))) (b : Int)) fun w3 => some w3 else some w2) else (if (mid : Int) < wr (((mid + m : Nat) : Int) - (s : Int)) ∧ wr (((mid + m : Nat) : Int) - (s : Int)) < (b : Int) then kA0 (kEh P f (some l) (mid : Int) (wr (((mid + m : Nat) : Int) - (s : Int))) (b : Int)) fun w3 => some w3 else some (some l)))) =
        some (some (if mid < mid + m - s ∧ mid + m - s < b then symM c f (if a < s ∧ s < mid then symM c f (if s < m ∧ m < mid + m - s then rotL l m (m - s) (mid + m - s - m) else l) a s mid else (if s < m ∧ m < mid + m - s then rotL l m (m - s) (mid + m - s - m) else l)) mid (mid + m - s) b else (if a < s ∧ s < mid then symM c f (if s < m ∧ m < mid + m - s then rotL l m (m - s) (mid + m - s - m) else l) a s mid else (if s < m ∧ m < mid + m - s then rotL l m (m - s) (mid + m - s - m) else l)))) := fun s k1 k2 k3 k4 => by
      have we : wr (((mid + m : Nat) : Int) - (s : Int)) = ((mid + m - s : Nat) : Int) := by rw [kBg (by omega) (by omega)]; omega
      rw [we]
      generalize he : mid + m - s = e
      by_cases d : s < m ∧ m < e
      · rw [if_pos (show (s : Int) < (m : Int) ∧ (m : Int) < (e : Int) by omega), if_pos d, rotate_ok P d.1 d.2 (by omega) hl, kA2]
        have q := (kFv (m - s + (e - m)) (l := l) (m := m) (i := m - s) (j := e - m) (Nat.le_refl _) (by omega) (by omega) (by omega) (by omega)).1
        exact step2 _ s e q.len (hN.perm q.perm) (by omega) k3
      · rw [if_neg (show ¬ ((s : Int) < (m : Int) ∧ (m : Int) < (e : Int)) by omega), if_neg d]
        exact step2 l s e rfl hN (by omega) k3
    have lpS : ∀ (step : Int × Int → Option (Sum (Int × Int) Int)), (step = s2_q35 P (some l) (a : Int) (m : Int) (b : Int) ∨ step = s3_q35 P (some l) (a : Int) (m : Int) (b : Int)) → ∀ (i j : Nat), i ≤ j → j ≤ m → j ≤ mid → mid + m ≤ i + b → j ≤ i + (b - a) → kB6 step ((i : Int), (j : Int)) = some ((kE8 (fun k => !c (atL l (mid + m - 1 - k)) (atL l k)) (b - a) i j : Nat) : Int) := fun step hstep I J k0 k1 k2 k3 k4 => by
      have e0 : s2_q35 P (some l) (a : Int) (m : Int) (b : Int) = s3_q35 P (some l) (a : Int) (m : Int) (b : Int) := rfl
      have e1 : step = s3_q35 P (some l) (a : Int) (m : Int) (b : Int) := by
        rcases hstep with h | h
        · rw [h, e0]
        · exact h
      subst e1
      exact half_ok (Q := fun k => !c (atL l (mid + m - 1 - k)) (atL l k)) (I := I) (J := J)
        (fun i j k5 k6 k7 => by
          have d := decide_eq_true (show (i : Int) < (j : Int) by omega)
          have wm := midS_ok (a := i) (b := j) (by omega)
          have w1 : wr ((((i + j) / 2 : Nat) : Int) + 1) = (((i + j) / 2 + 1 : Nat) : Int) := by rw [kBg (by omega) (by omega)]; omega
          have w2 : wr (((mid + m - 1 : Nat) : Int) - (((i + j) / 2 : Nat) : Int)) = ((mid + m - 1 - (i + j) / 2 : Nat) : Int) := by rw [kBg (by omega) (by omega)]; omega
          have g1 := getT (l := l) (i := (i + j) / 2) (by omega)
          have g2 := getT (l := l) (i := mid + m - 1 - (i + j) / 2) (by omega)
          have n1 := hN.at (i := (i + j) / 2) (by omega)
          have n2 := hN.at (i := mid + m - 1 - (i + j) / 2) (by omega)
          obtain ⟨r, e1, e2⟩ := hP _ _ n2.1 n2.2 n1.1 n1.2
          unfold s3_q35
          simp only [d, cond_true, wm, wmid, wn, wn1, w2, g1, g2, kA2, e1, w1, e2]
          cases c (atL l (mid + m - 1 - (i + j) / 2)) (atL l ((i + j) / 2)) <;> simp)
        (fun i j k => by
          unfold s3_q35
          dsimp only
          rw [decide_eq_false (show ¬ (i : Int) < (j : Int) by omega), cond_false]) (b - a) (i := I) (j := J) k4 (Nat.le_refl _) (Nat.le_refl _)
    by_cases d : mid < m
    · rw [if_pos d, if_pos d, decide_eq_true (show (mid : Int) < (m : Int) by omega), cond_true]
      have w5 : wr (((mid + m : Nat) : Int) - (b : Int)) = ((mid + m - b : Nat) : Int) := by rw [kBg (by omega) (by omega)]; omega
      rw [w5, lpS _ (.inl rfl) (mid + m - b) mid (by omega) (by omega) (Nat.le_refl _) (by omega) (by omega), kA2]
      obtain ⟨g1, g2⟩ := kCb (Q := fun k => !c (atL l (mid + m - 1 - k)) (atL l k)) (f := b - a) (i := mid + m - b) (j := mid) (by omega)
      exact tail _ (by omega) (by omega) g2 (by omega)
    · rw [if_neg d, if_neg d, decide_eq_false (show ¬ (mid : Int) < (m : Int) by omega), cond_false]
      rw [lpS _ (.inr rfl) a m (by omega) (Nat.le_refl _) (by omega) (by omega) (by omega), kA2]
      obtain ⟨g1, g2⟩ := kCb (Q := fun k => !c (atL l (mid + m - 1 - k)) (atL l k)) (f := b - a) (i := a) (j := m) (by omega)
      exact tail _ g1 g2 (by omega) (by omega)
def StbOrd (T : Int → Int → Prop) (c : Int → Int → Bool) : Prop := ∀ u v : Int, u < v → (c v u = true → T v u) ∧ (c v u = false → T u v)
theorem insert_ok {P : Int → Int → Option Int} {c : Int → Int → Bool} {n : Nat} (hP : OkP P c n) {T : Int → Int → Prop} (tr : ∀ x y z, T x y → T y z → T x z) (hc : StbOrd T c) : ∀ (j : Nat) {l : List Int} {a i : Nat}, a ≤ j → j ≤ i → i < l.length → l.length ≤ 1000000 → InN l n →
    (∀ p q, a ≤ p → p < q → q ≤ i → q ≠ j → T (atL l p) (atL l q)) → (∀ p, a ≤ p → p < j → atL l p < atL l j) →
    ∃ l', kB6 (kH0 P (a : Int)) ((some l : Sl Int), (j : Int)) = some (some l') ∧ Mv l l' a (i + 1) ∧ SrtT T l' a (i + 1)
  | j, l, a, i, h1, h2, h3, hl, hN, hs, hlt => by
    by_cases d : a < j
    · have w1 : wr ((j : Int) - 1) = ((j - 1 : Nat) : Int) := by rw [kBg (by omega) (by omega)]; omega
      have g1 := getT (l := l) (i := j) (by omega)
      have g2 := getT (l := l) (i := j - 1) (by omega)
      obtain ⟨b1, b2⟩ := hN.at (i := j) (by omega)
      obtain ⟨b3, b4⟩ := hN.at (i := j - 1) (by omega)
      obtain ⟨r, e1, e2⟩ := hP _ _ b1 b2 b3 b4
      have lt := hlt (j - 1) (by omega) (by omega)
      obtain ⟨ct, cf⟩ := hc _ _ lt
      have da : decide ((a : Int) < (j : Int)) = true := decide_eq_true (by omega)
      by_cases cc : c (atL l j) (atL l (j - 1)) = true
      · have g3 : kC3 ((kC4 (some l) (j : Int) (atL l (j - 1))).getD []) ((j - 1 : Nat) : Int) = some (atL l (j - 1)) := by
          rw [kF6, Option.getD_some]
          refine kB5 ?_
          rw [List.getElem?_set_ne (by omega), kDk (by omega)]
        have step : kH0 P (a : Int) ((some l : Sl Int), (j : Int)) = some (.inl ((some (swL l j (j - 1)) : Sl Int), ((j - 1 : Nat) : Int))) := by
          unfold kH0
          simp only [da, cond_true, w1, g1, g2, kA2, e1, e2, cc, g3]
          rw [swT (kDk (by omega)) (kDk (by omega))]
        have m := swL_mv (l := l) (i := j) (j := j - 1) (a := a) (b := i + 1) (by omega) (by omega) (by omega)
        have va : ∀ p, p ≠ j → p ≠ j - 1 → atL (swL l j (j - 1)) p = atL l p := fun p k1 k2 => by
          refine kBe ?_
          rw [kFy (by omega) (by omega), if_neg k2, if_neg k1]
        have vb : atL (swL l j (j - 1)) j = atL l (j - 1) := by
          refine kBe ?_
          rw [kFy (by omega) (by omega), if_neg (by omega), if_pos rfl]
        have vc : atL (swL l j (j - 1)) (j - 1) = atL l j := by
          refine kBe ?_
          rw [kFy (by omega) (by omega), if_pos rfl]
        obtain ⟨l', k1, k2, k3⟩ := insert_ok hP tr hc (j - 1) (l := swL l j (j - 1)) (a := a) (i := i) (by omega) (by omega) (by rw [m.len]; exact h3) (by rw [m.len]; exact hl) (hN.perm m.perm)
          (fun p q p1 p2 p3 p4 => by
            by_cases c1 : q = j
            · subst c1
              rw [vb]
              by_cases c2 : p = q - 1
              · rw [c2, vc]
                exact ct cc
              · rw [va p (by omega) c2]
                exact hs p (q - 1) p1 (by omega) (by omega) (by omega)
            · rw [va q c1 p4]
              by_cases c2 : p = j
              · rw [c2, vb]
                exact hs (j - 1) q (by omega) (by omega) p3 c1
              · by_cases c3 : p = j - 1
                · rw [c3, vc]
                  exact hs j q (by omega) (by omega) p3 c1
                · rw [va p c2 c3]
                  exact hs p q p1 p2 p3 c1)
          (fun p p1 p2 => by
            rw [va p (by omega) (by omega), vc]
            exact hlt p p1 (by omega))
        exact ⟨l', (kBa step).trans k1, m.trans k2, k3⟩
      · have cc' : c (atL l j) (atL l (j - 1)) = false := by
          cases h : c (atL l j) (atL l (j - 1)) with
          | true => exact absurd h cc
          | false => rfl
        have step : kH0 P (a : Int) ((some l : Sl Int), (j : Int)) = some (.inr (some l)) := by
          unfold kH0
          simp only [da, cond_true, w1, g1, g2, kA2, e1, e2, cc', cond_false]
        refine ⟨l, kB2 step, Mv.refl _ _ _, fun p q p1 p2 p3 => ?_⟩
        by_cases c1 : q = j
        · subst c1
          by_cases c2 : p = q - 1
          · rw [c2]
            exact cf cc'
          · exact tr _ _ _ (hs p (q - 1) p1 (by omega) (by omega) (by omega)) (cf cc')
        · exact hs p q p1 p2 (by omega) c1
    · have da : decide ((a : Int) < (j : Int)) = false := decide_eq_false (by omega)
      have step : kH0 P (a : Int) ((some l : Sl Int), (j : Int)) = some (.inr (some l)) := by
        unfold kH0
        simp only [da, cond_false, kA2]
      exact ⟨l, kB2 step, Mv.refl _ _ _, fun p q p1 p2 p3 => hs p q p1 p2 (by omega) (by omega)⟩
  termination_by j => j
def RisL (l : List Int) (x y : Nat) : Prop := ∀ p q, x ≤ p → p < q → q < y → atL l p < atL l q
theorem RisL.out {l l' : List Int} {a b x y : Nat} (h : RisL l x y) (hm : Mv l l' a b) (ho : y ≤ a ∨ b ≤ x) : RisL l' x y := fun p q h1 h2 h3 => by
  rw [kBe (hm.out p (by omega)), kBe (hm.out q (by omega))]
  exact h p q h1 h2 h3
theorem insSort_ok {P : Int → Int → Option Int} {c : Int → Int → Bool} {n : Nat} (hP : OkP P c n) {T : Int → Int → Prop} (tr : ∀ x y z, T x y → T y z → T x z) (hc : StbOrd T c) {l : List Int} {a b : Nat} (ha : a ≤ l.length) (hb : b ≤ l.length) (hl : l.length ≤ 1000000) (hN : InN l n) (hr : RisL l a b) :
    ∃ l', t_q31 P (some l) (a : Int) (b : Int) = some (some l') ∧ Mv l l' a b ∧ SrtT T l' a b := by
  have key : ∀ (k : Nat) {l : List Int} {i : Nat}, b - i ≤ k → a < i → b ≤ l.length → l.length ≤ 1000000 → InN l n → SrtT T l a i → (∀ p q, a ≤ p → p < q → i ≤ q → q < b → atL l p < atL l q) →
      ∃ l', kB6 (kF5 P (a : Int) (b : Int)) ((some l : Sl Int), (i : Int)) = some (some l') ∧ Mv l l' a b ∧ SrtT T l' a b := fun k => by
    induction k with
    | zero =>
      intro l i hk h1 hb hl hN hs hr
      have d : decide ((i : Int) < (b : Int)) = false := decide_eq_false (by omega)
      have step : kF5 P (a : Int) (b : Int) ((some l : Sl Int), (i : Int)) = some (.inr (some l)) := by
        unfold kF5
        simp only [d, cond_false]
      exact ⟨l, kB2 step, Mv.refl _ _ _, fun p q p1 p2 p3 => hs p q p1 p2 (by omega)⟩
    | succ k ih =>
      intro l i hk h1 hb hl hN hs hr
      by_cases c1 : i < b
      · have d : decide ((i : Int) < (b : Int)) = true := decide_eq_true (by omega)
        obtain ⟨l1, e1, m1, s1⟩ := insert_ok hP tr hc i (l := l) (a := a) (i := i) (by omega) (Nat.le_refl _) (by omega) hl hN (fun p q p1 p2 p3 p4 => hs p q p1 p2 (by omega)) (fun p p1 p2 => hr p i p1 p2 (Nat.le_refl _) c1)
        have w1 : wr ((i : Int) + 1) = ((i + 1 : Nat) : Int) := by rw [kBg (by omega) (by omega)]; omega
        have step : kF5 P (a : Int) (b : Int) ((some l : Sl Int), (i : Int)) = some (.inl ((some l1 : Sl Int), ((i + 1 : Nat) : Int))) := by
          unfold kF5
          simp only [d, cond_true, e1, kA2, w1]
        obtain ⟨l2, e2, m2, s2⟩ := ih (l := l1) (i := i + 1) (by omega) (by omega) (by rw [m1.len]; exact hb) (by rw [m1.len]; exact hl) (hN.perm m1.perm) s1 (fun p q p1 p2 p3 p4 => by
          rw [kBe (m1.out q (by omega))]
          by_cases c2 : p < i + 1
          · obtain ⟨p', q1, q2, q3⟩ := m1.inn p p1 c2
            rw [kBe q3]
            exact hr p' q q1 (by omega) (by omega) p4
          · rw [kBe (m1.out p (by omega))]
            exact hr p q p1 p2 (by omega) p4)
        exact ⟨l2, (kBa step).trans e2, (m1.wide (Nat.le_refl _) (by omega)).trans m2, s2⟩
      · have d : decide ((i : Int) < (b : Int)) = false := decide_eq_false (by omega)
        have step : kF5 P (a : Int) (b : Int) ((some l : Sl Int), (i : Int)) = some (.inr (some l)) := by
          unfold kF5
          simp only [d, cond_false]
        exact ⟨l, kB2 step, Mv.refl _ _ _, fun p q p1 p2 p3 => hs p q p1 p2 (by omega)⟩
  unfold t_q31
  by_cases ca : a < b
  · have w1 : wr ((a : Int) + 1) = ((a + 1 : Nat) : Int) := by rw [kBg (by omega) (by omega)]; omega
    obtain ⟨l', e, m, s⟩ := key (b - (a + 1)) (l := l) (i := a + 1) (Nat.le_refl _) (by omega) hb hl hN (fun p q p1 p2 p3 => by omega) (fun p q p1 p2 p3 p4 => hr p q p1 p2 p4)
    exact ⟨l', by rw [w1, e, kA2], m, s⟩
  · have d : decide (wr ((a : Int) + 1) < (b : Int)) = false := by
      rw [kBg (by omega) (by omega)]
      exact decide_eq_false (by omega)
    have step : kF5 P (a : Int) (b : Int) ((some l : Sl Int), wr ((a : Int) + 1)) = some (.inr (some l)) := by
      unfold kF5
      simp only [d, cond_false]
    exact ⟨l, by rw [kB2 step, kA2], Mv.refl _ _ _, fun p q p1 p2 p3 => by omega⟩
def InbL (l : List Int) (x y : Nat) : Prop := ∀ p, x ≤ p → p < y → (x : Int) ≤ atL l p ∧ atL l p < (y : Int)
theorem InbL.mv {l l' : List Int} {x y : Nat} (h : InbL l x y) (m : Mv l l' x y) : InbL l' x y := fun p h1 h2 => by
  obtain ⟨q, q1, q2, q3⟩ := m.inn p h1 h2
  rw [kBe q3]
  exact h q q1 q2
theorem InbL.out {l l' : List Int} {a b x y : Nat} (h : InbL l x y) (hm : Mv l l' a b) (ho : y ≤ a ∨ b ≤ x) : InbL l' x y := fun p h1 h2 => by
  rw [kBe (hm.out p (by omega))]
  exact h p h1 h2
theorem InbL.join {l : List Int} {a m b : Nat} (h1 : InbL l a m) (h2 : InbL l m b) (k1 : a ≤ m) (k2 : m ≤ b) : InbL l a b := fun p p1 p2 => by
  by_cases c : p < m
  · obtain ⟨x, y⟩ := h1 p p1 c
    exact ⟨x, by omega⟩
  · obtain ⟨x, y⟩ := h2 p (by omega) p2
    exact ⟨by omega, y⟩
inductive ChopL (T : Int → Int → Prop) (l : List Int) (B n : Nat) : Nat → Prop
  | done {a : Nat} : n ≤ a → ChopL T l B n a
  | step {a : Nat} : a < n → SrtT T l a (min (a + B) n) → InbL l a (min (a + B) n) → ChopL T l B n (a + B) → ChopL T l B n a
theorem ChopL.mv {T : Int → Int → Prop} {l l' : List Int} {B n x y a : Nat} (h : ChopL T l B n a) (m : Mv l l' x y) (hy : y ≤ a) : ChopL T l' B n a := by
  induction h with
  | done h1 => exact .done h1
  | step h1 h2 h3 _ ih => exact .step h1 (h2.out m (.inr hy)) (h3.out m (.inr hy)) (ih (by omega))
theorem ChopL.at {T : Int → Int → Prop} {l : List Int} {B n a : Nat} (h : ChopL T l B n a) (ha : a < n) : SrtT T l a (min (a + B) n) ∧ InbL l a (min (a + B) n) ∧ ChopL T l B n (a + B) := by
  cases h with
  | done h1 => omega
  | step h1 h2 h3 h4 => exact ⟨h2, h3, h4⟩
theorem symMerge_srt {P : Int → Int → Option Int} {c : Int → Int → Bool} {n : Nat} (hP : OkP P c n) {T : Int → Int → Prop} (tr : ∀ x y z, T x y → T y z → T x z) (ir : ∀ x, ¬ T x x) (hc : StbOrd T c) {l : List Int} {a m b : Nat} (h1 : a < m) (h2 : m < b) (hb : b ≤ l.length) (hl : l.length ≤ 100000) (hN : InN l n)
    (s1 : SrtT T l a m) (s2 : SrtT T l m b) (i1 : InbL l a m) (i2 : InbL l m b) :
    ∃ l', kEh P 100000 (some l) (a : Int) (m : Int) (b : Int) = some (some l') ∧ Mv l l' a b ∧ SrtT T l' a b ∧ InbL l' a b := by
  obtain ⟨m1, m2⟩ := symM_spec tr ir (c := c) 100000 (l := l) (a := a) (m := m) (b := b) (by omega) h1 h2 hb s1 s2 (fun p q p1 p2 p3 p4 => hc _ _ (by
    have := i1 p p1 p2
    have := i2 q p3 p4
    omega))
  exact ⟨_, kH9 hP 100000 (by omega) h1 h2 hb (by omega) hN, m1, m2, (i1.join i2 (by omega) (by omega)).mv m1⟩
theorem stbA {P : Int → Int → Option Int} {c : Int → Int → Bool} {n : Nat} (hP : OkP P c n) {T : Int → Int → Prop} (tr : ∀ x y z, T x y → T y z → T x z) (hc : StbOrd T c) : ∀ (k : Nat) {l : List Int} {a : Nat}, n - a ≤ k → a ≤ n → l.length = n → n ≤ 100000 → InN l n → (∀ p, a ≤ p → p < n → atL l p = (p : Int)) →
    ∃ l1 a1 l', kB6 (kH1 P (n : Int)) ((some l : Sl Int), (a : Int), ((a + 20 : Nat) : Int)) = some ((some l1 : Sl Int), a1) ∧ t_q31 P (some l1) a1 (n : Int) = some (some l') ∧ Mv l l' a n ∧ ChopL T l' 20 n a
  | k, l, a, hk, ha, hl, hn, hN, hid => by
    have ris : ∀ b, b ≤ n → RisL l a b := fun b hb p q p1 p2 p3 => by
      rw [hid p p1 (by omega), hid q (by omega) (by omega)]
      omega
    have inb : ∀ b, b ≤ n → InbL l a b := fun b hb p p1 p2 => by
      rw [hid p p1 (by omega)]
      omega
    by_cases d : a + 20 ≤ n
    · obtain ⟨l1, e1, m1, s1⟩ := insSort_ok hP tr hc (l := l) (a := a) (b := a + 20) (by omega) (by omega) (by omega) hN (ris _ d)
      have w1 : wr (((a + 20 : Nat) : Int) + 20) = ((a + 20 + 20 : Nat) : Int) := by rw [kBg (by omega) (by omega)]; omega
      have dd : decide (((a + 20 : Nat) : Int) ≤ (n : Int)) = true := decide_eq_true (by omega)
      have step : kH1 P (n : Int) ((some l : Sl Int), (a : Int), ((a + 20 : Nat) : Int)) = some (.inl ((some l1 : Sl Int), ((a + 20 : Nat) : Int), ((a + 20 + 20 : Nat) : Int))) := by
        unfold kH1
        simp only [dd, cond_true, e1, kA2, w1]
      cases k with
      | zero => omega
      | succ k =>
        obtain ⟨l2, a2, l', g1, g2, g3, g4⟩ := stbA hP tr hc k (l := l1) (a := a + 20) (by omega) d (by rw [m1.len]; exact hl) hn (hN.perm m1.perm) (fun p p1 p2 => by rw [kBe (m1.out p (by omega))]; exact hid p (by omega) p2)
        have mm : min (a + 20) n = a + 20 := by omega
        refine ⟨l2, a2, l', (kBa step).trans g1, g2, (m1.wide (Nat.le_refl _) d).trans (g3.wide (by omega) (Nat.le_refl _)), .step (by omega) ?_ ?_ g4⟩
        · rw [mm]
          exact s1.out g3 (.inl (Nat.le_refl _))
        · rw [mm]
          exact ((inb _ d).mv m1).out g3 (.inl (Nat.le_refl _))
    · have dd : decide (((a + 20 : Nat) : Int) ≤ (n : Int)) = false := decide_eq_false (by omega)
      have step : kH1 P (n : Int) ((some l : Sl Int), (a : Int), ((a + 20 : Nat) : Int)) = some (.inr ((some l : Sl Int), (a : Int))) := by
        unfold kH1
        simp only [dd, cond_false]
      obtain ⟨l1, e1, m1, s1⟩ := insSort_ok hP tr hc (l := l) (a := a) (b := n) (by omega) (by omega) (by omega) hN (ris _ (Nat.le_refl _))
      refine ⟨l, (a : Int), l1, kB2 step, e1, m1, ?_⟩
      by_cases e : a < n
      · have mm : min (a + 20) n = n := by omega
        exact .step e (by rw [mm]; exact s1) (by rw [mm]; exact (inb _ (Nat.le_refl _)).mv m1) (.done (by omega))
      · exact .done (by omega)
theorem stbM {P : Int → Int → Option Int} {c : Int → Int → Bool} {n : Nat} (hP : OkP P c n) {T : Int → Int → Prop} (tr : ∀ x y z, T x y → T y z → T x z) (ir : ∀ x, ¬ T x x) (hc : StbOrd T c) {B : Nat} (hB : 1 ≤ B) (hBn : B ≤ n) : ∀ (k : Nat) {l : List Int} {a : Nat}, n - a ≤ k → a ≤ n → l.length = n → n ≤ 100000 → InN l n → ChopL T l B n a →
    ∃ l1 a1 l', kB6 (kHz P (n : Int) (B : Int)) ((some l : Sl Int), (a : Int), ((a + 2 * B : Nat) : Int)) = some ((some l1 : Sl Int), ((a1 : Nat) : Int)) ∧ a1 ≤ n ∧ (a1 + B < n → kEh P 100000 (some l1) (a1 : Int) ((a1 + B : Nat) : Int) (n : Int) = some (some l')) ∧ (¬ a1 + B < n → l' = l1) ∧ Mv l l' a n ∧ ChopL T l' (B * 2) n a
  | k, l, a, hk, ha, hl, hn, hN, hch => by
    by_cases d : a + 2 * B ≤ n
    · obtain ⟨s1, i1, ch1⟩ := hch.at (by omega)
      obtain ⟨s2, i2, ch2⟩ := ch1.at (by omega)
      rw [show min (a + B) n = a + B by omega] at s1 i1
      rw [show min (a + B + B) n = a + 2 * B by omega] at s2 i2
      rw [show a + B + B = a + 2 * B by omega] at ch2
      obtain ⟨l1, e1, m1, t1, j1⟩ := symMerge_srt hP tr ir hc (l := l) (a := a) (m := a + B) (b := a + 2 * B) (by omega) (by omega) (by omega) (by omega) hN s1 s2 i1 i2
      have w0 : wr ((a : Int) + (B : Int)) = ((a + B : Nat) : Int) := by rw [kBg (by omega) (by omega)]; omega
      have w2 : wr (2 * (B : Int)) = ((2 * B : Nat) : Int) := by rw [kBg (by omega) (by omega)]; omega
      have w1 : wr (((a + 2 * B : Nat) : Int) + ((2 * B : Nat) : Int)) = ((a + 2 * B + 2 * B : Nat) : Int) := by rw [kBg (by omega) (by omega)]; omega
      have dd : decide (((a + 2 * B : Nat) : Int) ≤ (n : Int)) = true := decide_eq_true (by omega)
      have step : kHz P (n : Int) (B : Int) ((some l : Sl Int), (a : Int), ((a + 2 * B : Nat) : Int)) = some (.inl ((some l1 : Sl Int), ((a + 2 * B : Nat) : Int), ((a + 2 * B + 2 * B : Nat) : Int))) := by
        unfold kHz
        simp only [dd, cond_true, w0, e1, kA2, w2, w1]
      cases k with
      | zero => omega
      | succ k =>
        obtain ⟨l2, a2, l', g1, g2, g3, g4, g5, g6⟩ := stbM hP tr ir hc hB hBn k (l := l1) (a := a + 2 * B) (by omega) d (by rw [m1.len]; exact hl) hn (hN.perm m1.perm) (ch2.mv m1 (Nat.le_refl _))
        have mm : min (a + B * 2) n = a + 2 * B := by omega
        refine ⟨l2, a2, l', (kBa step).trans g1, g2, g3, g4, (m1.wide (Nat.le_refl _) d).trans (g5.wide (by omega) (Nat.le_refl _)), .step (by omega) ?_ ?_ ?_⟩
        · rw [mm]
          exact t1.out g5 (.inl (Nat.le_refl _))
        · rw [mm]
          exact j1.out g5 (.inl (Nat.le_refl _))
        · rw [show a + B * 2 = a + 2 * B by omega]
          exact g6
    · have dd : decide (((a + 2 * B : Nat) : Int) ≤ (n : Int)) = false := decide_eq_false (by omega)
      have step : kHz P (n : Int) (B : Int) ((some l : Sl Int), (a : Int), ((a + 2 * B : Nat) : Int)) = some (.inr ((some l : Sl Int), (a : Int))) := by
        unfold kHz
        simp only [dd, cond_false]
      by_cases e : a + B < n
      · obtain ⟨s1, i1, ch1⟩ := hch.at (by omega)
        obtain ⟨s2, i2, ch2⟩ := ch1.at (by omega)
        rw [show min (a + B) n = a + B by omega] at s1 i1
        rw [show min (a + B + B) n = n by omega] at s2 i2
        obtain ⟨l1, e1, m1, t1, j1⟩ := symMerge_srt hP tr ir hc (l := l) (a := a) (m := a + B) (b := n) (by omega) (by omega) (by omega) (by omega) hN s1 s2 i1 i2
        have mm : min (a + B * 2) n = n := by omega
        exact ⟨l, a, l1, kB2 step, ha, fun _ => e1, fun h => absurd e h, m1, .step (by omega) (by rw [mm]; exact t1) (by rw [mm]; exact j1) (.done (by omega))⟩
      · refine ⟨l, a, l, kB2 step, ha, fun h => absurd h e, fun _ => rfl, Mv.refl _ _ _, ?_⟩
        by_cases e2 : a < n
        · obtain ⟨s1, i1, ch1⟩ := hch.at (by omega)
          rw [show min (a + B) n = n by omega] at s1 i1
          have mm : min (a + B * 2) n = n := by omega
          exact .step e2 (by rw [mm]; exact s1) (by rw [mm]; exact i1) (.done (by omega))
        · exact .done (by omega)
theorem stbO {P : Int → Int → Option Int} {c : Int → Int → Bool} {n : Nat} (hP : OkP P c n) {T : Int → Int → Prop} (tr : ∀ x y z, T x y → T y z → T x z) (ir : ∀ x, ¬ T x x) (hc : StbOrd T c) : ∀ (k : Nat) {l : List Int} {B : Nat}, n - B ≤ k → 1 ≤ B → B ≤ 1000000 → l.length = n → n ≤ 100000 → InN l n → ChopL T l B n 0 →
    ∃ l', kB6 (kGw P (n : Int)) ((some l : Sl Int), (B : Int)) = some (some l') ∧ Mv l l' 0 n ∧ SrtT T l' 0 n
  | k, l, B, hk, hB, hB2, hl, hn, hN, hch => by
    by_cases d : B < n
    · have dd : decide ((B : Int) < (n : Int)) = true := decide_eq_true (by omega)
      have w2 : wr (2 * (B : Int)) = ((0 + 2 * B : Nat) : Int) := by rw [kBg (by omega) (by omega)]; omega
      have w3 : wr ((B : Int) * 2) = ((B * 2 : Nat) : Int) := by rw [kBg (by omega) (by omega)]; omega
      obtain ⟨l1, a1, l', g1, g2, g3, g4, g5, g6⟩ := stbM hP tr ir hc hB (by omega) n (l := l) (a := 0) (by omega) (by omega) hl hn hN hch
      have w0 : wr ((a1 : Int) + (B : Int)) = ((a1 + B : Nat) : Int) := by rw [kBg (by omega) (by omega)]; omega
      have step : kGw P (n : Int) ((some l : Sl Int), (B : Int)) = some (.inl ((some l' : Sl Int), ((B * 2 : Nat) : Int))) := by
        unfold kGw
        simp only [dd, cond_true, w2, w3]
        have g1' : kB6 (kHz P (n : Int) (B : Int)) ((some l : Sl Int), 0, ((0 + 2 * B : Nat) : Int)) = some ((some l1 : Sl Int), ((a1 : Nat) : Int)) := g1
        rw [g1', kA2]
        dsimp only
        rw [w0]
        by_cases e : a1 + B < n
        · rw [decide_eq_true (show ((a1 + B : Nat) : Int) < (n : Int) by omega), cond_true, g3 e, kA2]
        · rw [decide_eq_false (show ¬ ((a1 + B : Nat) : Int) < (n : Int) by omega), cond_false, g4 e]
      cases k with
      | zero => omega
      | succ k =>
        obtain ⟨l2, k1, k2, k3⟩ := stbO hP tr ir hc k (l := l') (B := B * 2) (by omega) (by omega) (by omega) (by rw [g5.len]; exact hl) hn (hN.perm g5.perm) g6
        exact ⟨l2, (kBa step).trans k1, g5.trans k2, k3⟩
    · have dd : decide ((B : Int) < (n : Int)) = false := decide_eq_false (by omega)
      have step : kGw P (n : Int) ((some l : Sl Int), (B : Int)) = some (.inr (some l)) := by
        unfold kGw
        simp only [dd, cond_false]
      refine ⟨l, kB2 step, Mv.refl _ _ _, ?_⟩
      by_cases e : 0 < n
      · obtain ⟨s1, _, _⟩ := hch.at e
        rw [show min (0 + B) n = n by omega] at s1
        exact s1
      · exact fun p q p1 p2 p3 => by omega
theorem stable_ok {P : Int → Int → Option Int} {c : Int → Int → Bool} {n : Nat} (hP : OkP P c n) {T : Int → Int → Prop} (tr : ∀ x y z, T x y → T y z → T x z) (ir : ∀ x, ¬ T x x) (hc : StbOrd T c) {l : List Int} (hl : l.length = n) (hn : n ≤ 100000) (hN : InN l n) (hid : ∀ p, p < n → atL l p = (p : Int)) :
    ∃ l', t_q30 P (some l) = some (some l') ∧ l'.Perm l ∧ SrtT T l' 0 n := by
  obtain ⟨l1, a1, l2, g1, g2, g3, g4⟩ := stbA hP tr hc n (l := l) (a := 0) (by omega) (by omega) hl hn hN (fun p _ p2 => hid p p2)
  obtain ⟨l', k1, k2, k3⟩ := stbO hP tr ir hc n (l := l2) (B := 20) (by omega) (by omega) (by omega) (by rw [g3.len]; exact hl) hn (hN.perm g3.perm) g4
  refine ⟨l', ?_, (g3.trans k2).perm, k3⟩
  unfold t_q30 t_q33
  rw [Option.getD_some, hl]
  have g1' : kB6 (kH1 P (n : Int)) ((some l : Sl Int), 0, 20) = some ((some l1 : Sl Int), a1) := g1
  have k1' : kB6 (kGw P (n : Int)) ((some l2 : Sl Int), 20) = some (some l') := k1
  rw [g1', kA2]
  dsimp only
  rw [g2, kA2, k1', kA2, kA2]
theorem leftCF_tot (q : Sl Box) : TotC (kF8 q) (kC0 q) where
  irr x h1 h2 := by
    obtain ⟨n, rfl⟩ := Int.eq_ofNat_of_zero_le h1
    cases e : ltC (kC0 q) (n : Int) (n : Int) with
    | false => rfl
    | true => exact absurd ((kEg (by omega) (by omega)).1 e) (leftP_irr _ _)
  tr x y z h1 h2 g1 g2 k1 k2 e1 e2 := by
    obtain ⟨n, rfl⟩ := Int.eq_ofNat_of_zero_le h1
    obtain ⟨m, rfl⟩ := Int.eq_ofNat_of_zero_le g1
    obtain ⟨p, rfl⟩ := Int.eq_ofNat_of_zero_le k1
    exact (kEg (by omega) (by omega)).2 (leftP_tr ((kEg (by omega) (by omega)).1 e1) ((kEg (by omega) (by omega)).1 e2))
  tri x y h1 h2 g1 g2 := by
    obtain ⟨n, rfl⟩ := Int.eq_ofNat_of_zero_le h1
    obtain ⟨m, rfl⟩ := Int.eq_ofNat_of_zero_le g1
    rcases leftP_tri (l := q.getD []) (x := n) (y := m) (by unfold kF8 at h2; omega) (by unfold kF8 at g2; omega) with h | h | h
    · exact .inl ((kEg (by omega) (by omega)).2 h)
    · exact .inr (.inl (by omega))
    · exact .inr (.inr ((kEg (by omega) (by omega)).2 h))
def fLtr : List AV → Option AV := C3 (fun c : Int => enc c) tp_q9
end Go.Proofs.Ytfhffgfbnlikjaa
