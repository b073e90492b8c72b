import Derived.Test.YtfhffgfbnlikjaaFnExactLinesOfPartB
import Derived.Test.YtfhffgfbnlikjaaRows
namespace Go.Proofs.Ytfhffgfbnlikjaa
open Go Go.Eng Go.Eng.Cod
set_option maxRecDepth 100000
set_option linter.unusedVariables false
set_option linter.unusedSimpArgs false
theorem hcfLtr (q : Sl Box) (x y : Int) (h : kA4) (oc : Nat) (h1 : 0 ≤ x) (h2 : x < kF8 q) (h3 : 0 ≤ y) (h4 : y < kF8 q) (ho : h[oc]? = some ⟨1, [[Cod.enc q]]⟩) : ∃ ds, kB4 (snap h depth) [iv x, iv y, .ptr oc 1 0 0] = some ds ∧ fLtr ds = some (iv (kC0 q x y)) := by
  have e : snap h depth (.ptr oc 1 0 0) = some (enc (⟨[q], 0⟩ : Pt (Sl Box))) := by
    show (match h[oc]? with | some ob => if ob.rows.length = 1 then (match kB4 (kB4 (snap h 7)) ob.rows with | some rows => some (AV.fptr ob.k rows 0 0) | none => none) else none | none => none) = _
    rw [ho]
    cases q <;> rfl
  refine ⟨[iv x, iv y, enc (⟨[q], 0⟩ : Pt (Sl Box))], ?_, ?_⟩
  · rw [kCc, kCc, kCc, e]
    rfl
  · obtain ⟨n, rfl⟩ := Int.eq_ofNat_of_zero_le h1
    obtain ⟨m, rfl⟩ := Int.eq_ofNat_of_zero_le h3
    obtain ⟨r, e1, _⟩ := left_ok (q := q) (x := n) (y := m) (by unfold kF8 at h2; omega) (by unfold kF8 at h4; omega)
    have e2 : tp_q9 (n : Int) (m : Int) ⟨[q], 0⟩ = some r := e1
    have e3 : kC0 q (n : Int) (m : Int) = r := by unfold kC0; rw [e1]; rfl
    unfold fLtr C3 R3
    show (kA0 (Cod.dec (iv (n : Int)) : Option Int) fun a0 => kA0 (Cod.dec (iv (m : Int)) : Option Int) fun a1 => kA0 (Cod.dec (enc (⟨[q], 0⟩ : Pt (Sl Box))) : Option (Pt (Sl Box))) fun a2 => kA0 (tp_q9 a0 a1 a2) fun c => some (enc c)) = _
    rw [show (Cod.dec (iv (n : Int)) : Option Int) = some (n : Int) from rfl, kA2, show (Cod.dec (iv (m : Int)) : Option Int) = some (m : Int) from rfl, kA2, Cod.de, kA2]
    rw [e2, e3]
    rfl
theorem kDr : GenOK Try.prog n_q29 (kFu kF8 n_q9 kC0) :=
  gen_sortC hb_q29 hb_q9 tt_q9 leftCF_tot hcfLtr
    (fun m c h1 h2 cb blk off cap d w h3 h4 h5 h6 => Go.Proofs.Any.slices_SortFunc_total laySortF1 encIx (fun _ => rfl) c h1 n_q9 cb blk off cap d w (kCw hb_q9) h3 h4 h5 h6 h2)
    (fun p cap fv w => Go.Proofs.AnyF.slices_SortFunc_none { laySortF1 with } p cap fv w)
theorem sim_ltr {γ δ : Type} {B : Base} {h : kA4} {L : List Ent} {Q : δ → γ → Prop} {env : Nat → Contract} (O : Hold B h L) (q : Sl Box) (he : env n_q8 = .pure (R1 fun q : Sl Box => some (.fn n_q9 [.np 1 [[Sl.enc q]] 0 0])))
    {F : AV → kA4 → Option γ} {Y : Option δ} (K : ∀ o h', h.length ≤ h'.length → Hold B h' (L ++ [pZ9 o 1 [Sl.enc q]]) → Sim (F (.fn n_q9 [AV.ptr o 1 0 0]) h') Y Q) : Sim (kA3 (kAz (env n_q8) [Sl.enc q] h) F) Y Q := by
  rw [he]
  show Sim (kA3 (kAa _ [Sl.enc q] h) F) Y Q
  have s0 : snapD h (Sl.enc q) = some q := (Tab.enc h q).snap
  rw [callR1, s0, kA2, kA2, hand_ltr q _ h (by simp [noRef_enc]), kBt]
  exact K h.length _ (by simp) (O.alloc (.pt 1 [Sl.enc q]) rfl)
theorem sim_stb {γ δ : Type} {B : Base} {h : kA4} {R : List Ent} {Q : δ → γ → Prop} {env : Nat → Contract} {x : AV} {o : Nat} {boxes : Sl Box} {d : Sl Int} (O : Hold B h ([(x, obS d), pZ9 o 1 [Sl.enc boxes]] ++ R)) (he : env kGl = .gen (kAm Try.prog kGt kGl))
    {F : AV → kA4 → Option γ} {G : Sl Int → Option δ} (K : ∀ w h', Hold B h' ([(x, obS (w : Sl Int)), pZ9 o 1 [Sl.enc boxes]] ++ R) → Sim (F (.tup []) h') (G w) Q) :
    Sim (kA3 (kAz (env kGl) [x, AV.fn kDc [AV.ptr o 1 0 0]] h) F) (kA0 (t_q30 (fun a b => kE0 a b boxes) d) G) Q := by
  refine kBv he (tg_q30 boxes d O.startL) (fun w r h' hq => ?_)
  obtain ⟨e, O'⟩ := hq
  dsimp only at e
  subst e
  exact K w h' (O.mergeL O')
def s2_q10 (boxes_ : Sl Box) (q33 : Sl Line) : ((Sl Line) × Int) → Option (Sum ((Sl Line) × Int) (Sl Line)) := fun (w40, w45) =>
  bif decide (w45 < (((q33.getD []).length : Nat) : Int)) then
    kA0 (kC3 (w40.getD []) w45) fun a54 =>
    kA0 (sortCO kF8 kC0 boxes_ a54.items) fun w71 =>
    some (.inl ((kC4 w40 w45 (⟨a54.top, a54.bottom, w71⟩ : Line)), wr (w45 + 1)))
  else
    some (.inr w40)
def kGu (boxes_ : Sl Box) (gap_ : Int) (w18 : Sl Int) : ((Sl Line) × Int) → Option (Sum ((Sl Line) × Int) (Sl Line)) := fun (w24, w29) =>
  bif decide (w29 < (((w18.getD []).length : Nat) : Int)) then
    kA0 (kC3 (w18.getD []) w29) fun a82 =>
    kA0 (kC3 (boxes_.getD []) a82) fun a86 =>
    kA0 (bif decide ((wr ((((w24.getD []).length : Nat) : Int) - 1)) < 0) then some false else (kA0 (kC3 (w24.getD []) (wr ((((w24.getD []).length : Nat) : Int) - 1))) fun a97 => some (decide ((wr (a97.bottom + gap_)) < a86.y1)))) fun c103 =>
    bif (bif decide ((wr ((((w24.getD []).length : Nat) : Int) - 1)) < 0) then true else c103) then
      kA0 (appO w24 ([(⟨a86.y1, a86.y2, (none : Sl Int)⟩ : Line)] : List Line)) fun _ =>
      kA0 (kC3 ((kDm w24 ([(⟨a86.y1, a86.y2, (none : Sl Int)⟩ : Line)] : List Line)).getD []) (wr (((((kDm w24 ([(⟨a86.y1, a86.y2, (none : Sl Int)⟩ : Line)] : List Line)).getD []).length : Nat) : Int) - 1))) fun a128 =>
      kA0 (appO ((⟨a128.top, max a128.bottom a86.y2, a128.items⟩ : Line).items) ([a82] : List Int)) fun _ =>
      some (.inl ((kC4 (kC4 (kDm w24 ([(⟨a86.y1, a86.y2, (none : Sl Int)⟩ : Line)] : List Line)) (wr (((((kDm w24 ([(⟨a86.y1, a86.y2, (none : Sl Int)⟩ : Line)] : List Line)).getD []).length : Nat) : Int) - 1)) (⟨a128.top, max a128.bottom a86.y2, a128.items⟩ : Line)) (wr (((((kDm w24 ([(⟨a86.y1, a86.y2, (none : Sl Int)⟩ : Line)] : List Line)).getD []).length : Nat) : Int) - 1)) (⟨(⟨a128.top, max a128.bottom a86.y2, a128.items⟩ : Line).top, (⟨a128.top, max a128.bottom a86.y2, a128.items⟩ : Line).bottom, (kDm ((⟨a128.top, max a128.bottom a86.y2, a128.items⟩ : Line).items) ([a82] : List Int))⟩ : Line)), wr (w29 + 1)))
    else
      kA0 (kC3 (w24.getD []) (wr ((((w24.getD []).length : Nat) : Int) - 1))) fun a154 =>
      kA0 (appO ((⟨a154.top, max a154.bottom a86.y2, a154.items⟩ : Line).items) ([a82] : List Int)) fun _ =>
      some (.inl ((kC4 (kC4 w24 (wr ((((w24.getD []).length : Nat) : Int) - 1)) (⟨a154.top, max a154.bottom a86.y2, a154.items⟩ : Line)) (wr ((((w24.getD []).length : Nat) : Int) - 1)) (⟨(⟨a154.top, max a154.bottom a86.y2, a154.items⟩ : Line).top, (⟨a154.top, max a154.bottom a86.y2, a154.items⟩ : Line).bottom, (kDm ((⟨a154.top, max a154.bottom a86.y2, a154.items⟩ : Line).items) ([a82] : List Int))⟩ : Line)), wr (w29 + 1)))
  else
    some (.inr w24)
def s0_q10 (boxes_ : Sl Box) : ((Sl Int) × Int) → Option (Sum ((Sl Int) × Int) (Sl Int)) := fun (w8, w11) =>
  bif decide (w11 < (((boxes_.getD []).length : Nat) : Int)) then
    kA0 (appO w8 ([w11] : List Int)) fun _ =>
    some (.inl ((kDm w8 ([w11] : List Int)), wr (w11 + 1)))
  else
    some (.inr w8)
def t_q10 (boxes_ : Sl Box) (gap_ : Int) : Option (Sl Line) :=
  kA0 (kB6 (s0_q10 boxes_) ((none : Sl Int), 0)) fun q15 =>
  kA0 (t_q30 (fun a b => kE0 a b boxes_) q15) fun w18 =>
  kA0 (kB6 (kGu boxes_ gap_ w18) ((none : Sl Line), 0)) fun q33 =>
  kA0 (kB6 (s2_q10 boxes_ q33) (q33, 0)) fun q48 =>
  some q48
theorem tl2_q10 (env : Nat → Contract) {B : Base} (he_q8 : env n_q8 = .pure (R1 fun q : Sl Box => some (.fn n_q9 [.np 1 [[Sl.enc q]] 0 0]))) (he_q29 : env n_q29 = .gen (kFu kF8 n_q9 kC0)) (he_q30 : env kGl = .gen (kAm Try.prog kGt kGl)) (boxes_ : Sl Box) (gap_ : Int) (o1 : Nat) (z14 : AV) (z16 : AV) (w18 : Sl Int) (z32 : AV) (q33 : Sl Line) (z36 : AV) (z37 : AV) (z38 : AV) (z39 : AV)  : kHw (fun (st : (Sl Line) × Int) tm h43 => match st with | (w40, w45) => ∃ ps41 : PS Line, tm = ((Sl.enc boxes_) :: (iv gap_) :: (AV.ptr o1 1 0 0) :: und :: kBi :: z14 :: z16 :: z32 :: und :: z36 :: z37 :: z38 :: z39 :: und :: .top :: (Sl.enc boxes_) :: (iv (((boxes_.getD []).length : Nat) : Int)) :: .top :: .top :: .top :: .top :: .top :: .top :: .top :: .top :: z14 :: (AV.fn kDc [AV.ptr o1 1 0 0]) :: (AV.tup []) :: z14 :: (iv (((w18.getD []).length : Nat) : Int)) :: .top :: .top :: .top :: .top :: .top :: .top :: .top :: .top :: .top :: .top :: .top :: .top :: .top :: .top :: .top :: .top :: .top :: .top :: .top :: .top :: .top :: .top :: .top :: .top :: .top :: .top :: .top :: .top :: .top :: .top :: .top :: .top :: .top :: .top :: .top :: .top :: .top :: .top :: .top :: .top :: .top :: .top :: .top :: .top :: .top :: .top :: .top :: .top :: .top :: .top :: .top :: .top :: .top :: .top :: .top :: .top :: .top :: .top :: .top :: z32 :: (iv (((q33.getD []).length : Nat) : Int)) :: (iv w45) :: tZ9 9 [und]) ∧ pj ps41 = w40 ∧ Hold B h43 ([(z14, obS (w18 : Sl Int)), pZ9 o1 1 [Sl.enc boxes_]] ++ D2 (A := Line) z32 ps41)) hm2_q10 xm2_q10 (lb2_q10 env) (s2_q10 boxes_ q33) (fun (q : Sl Line) (r : Res) => match q with | q48 => ∃ (z51 : AV) (ps49 : PS Line) (h46 : kA4), r = (.exit 4, ((Sl.enc boxes_) :: (iv gap_) :: (AV.ptr o1 1 0 0) :: und :: kBi :: z14 :: z16 :: z32 :: und :: z36 :: z37 :: z38 :: z39 :: und :: z51 :: (Sl.enc boxes_) :: (iv (((boxes_.getD []).length : Nat) : Int)) :: .top :: .top :: .top :: .top :: .top :: .top :: .top :: .top :: z14 :: (AV.fn kDc [AV.ptr o1 1 0 0]) :: (AV.tup []) :: z14 :: (iv (((w18.getD []).length : Nat) : Int)) :: .top :: .top :: .top :: .top :: .top :: .top :: .top :: .top :: .top :: .top :: .top :: .top :: .top :: .top :: .top :: .top :: .top :: .top :: .top :: .top :: .top :: .top :: .top :: .top :: .top :: .top :: .top :: .top :: .top :: .top :: .top :: .top :: .top :: .top :: .top :: .top :: .top :: .top :: .top :: .top :: .top :: .top :: .top :: .top :: .top :: .top :: .top :: .top :: .top :: .top :: .top :: .top :: .top :: .top :: .top :: .top :: .top :: .top :: .top :: z32 :: (iv (((q33.getD []).length : Nat) : Int)) :: tZ9 10 [und]), h46) ∧ pj ps49 = q48 ∧ Hold B h46 ([(z14, obS (w18 : Sl Int)), pZ9 o1 1 [Sl.enc boxes_]] ++ D2 (A := Line) z32 ps49)) := by
  refine @lpZ9 _ _ _ _ _ _ _ _ (fun st tm h43 R => ?_)
  obtain ⟨w40, w45⟩ := st
  obtain ⟨ps41, rfl, hp42, O44⟩ := R
  rw [e_lb2_q10]
  unfold s2_q10
  dsimp only
  refine kA1 (kAb _ _) ?_
  refine kA9 (fun c53 => ?_) (fun c53 => ?_)
  · refine kFk (l := [(z14, obS (w18 : Sl Int)), pZ9 o1 1 [Sl.enc boxes_]]) (x := z32) (ps := ps41) (A := Line) O44 hp42 (fun m55 a54 x58 hi56 hm57 hg59 => ?_)
    refine kA1 (v := AV.agg [iv a54.top, iv a54.bottom, x58]) (D2.ld (l := [(z14, obS (w18 : Sl Int)), pZ9 o1 1 [Sl.enc boxes_]]) (x := z32) (ps := ps41) (A := Line) O44 hm57 true 3 0) ?_
    refine kFc O44 (cs := [iv 0, iv 0, kBi]) (by first | rfl | simp) (fun o60 h61 O62 => ?_)
    replace O62 : Hold B h61 ([(z14, obS (w18 : Sl Int)), pZ9 o1 1 [Sl.enc boxes_], pZ9 o60 3 [iv 0, iv 0, kBi]] ++ D2 (A := Line) z32 ps41) := Hold.rot O62
    have jZ0 := D2.one (l := [(z14, obS (w18 : Sl Int)), pZ9 o1 1 [Sl.enc boxes_], pZ9 o60 3 [iv 0, iv 0, kBi]]) (x := z32) (ps := ps41) (A := Line) O62 hm57
    refine kEx O62 2 (cs' := [iv a54.top, iv a54.bottom, x58]) rfl (by first | rfl | simp [jZ0.1, jZ0.2]) (by simp) (by first | rfl | simp [jZ0.1, jZ0.2]) (by first | rfl | simp [kB9, jZ0.1, jZ0.2]) (fun h64 O65 => ?_)
    replace O65 : Hold B h64 ([(z14, obS (w18 : Sl Int)), pZ9 o1 1 [Sl.enc boxes_], pZ9 o60 3 [iv a54.top, iv a54.bottom, x58]] ++ D2 (A := Line) z32 ps41) := O65
    refine kA1 (v := AV.ptr o60 1 0 2) rfl ?_
    refine kA1 (v := x58) (O65.ld 2 rfl false 1 2) ?_
    refine kA1 (v := Sl.enc boxes_) (O65.ld 1 rfl false 1 0) ?_
    refine kF1 ⟨⟨(at_of (v := Sl.enc boxes_) (O65.ld 1 rfl false 1 0)), trivial⟩, trivial⟩ ?_
    refine sim_ltr O65 boxes_ he_q8 (fun o66 h67 hl68 O69 => ?_)
    replace O69 : Hold B h67 ([(z14, obS (w18 : Sl Int)), pZ9 o1 1 [Sl.enc boxes_], pZ9 o60 3 [iv a54.top, iv a54.bottom, x58], pZ9 o66 1 [Sl.enc boxes_]] ++ D2 (A := Line) z32 ps41) := Hold.rot O69
    refine kF1 hl68 ?_
    refine kF1 ⟨⟨(at_of (v := x58) (O65.ld 2 rfl false 1 2)), ⟨(at_of (v := x58) (O69.ld 2 rfl false 1 2)), trivial⟩⟩, trivial⟩ ?_
    refine sim_sortRow (a := a54) (q := boxes_) (l := [(z14, obS (w18 : Sl Int)), pZ9 o1 1 [Sl.enc boxes_], pZ9 o60 3 [iv a54.top, iv a54.bottom, x58], pZ9 o66 1 [Sl.enc boxes_]]) (x := z32) (ps := ps41) (A := Line) O69 hp42 hi56 hm57 3 rfl he_q29 (fun w71 => (⟨a54.top, a54.bottom, w71⟩ : Line)) (fun _ => rfl) (fun _ => by first | rfl | simp [Inn.row]) (fun w71 ps72 h73 hp74 hl75 O76 => ?_)
    refine kF1 hl75 ?_
    refine kF1 trivial ?_
    refine kA1 (kAl _ _) ?_
    have O77 : Hold B h73 ([(z14, obS (w18 : Sl Int)), pZ9 o1 1 [Sl.enc boxes_]] ++ D2 (A := Line) z32 ps72) := O76.selD [0, 1] (by decide) rfl
    exact kA6 ⟨rfl, _, rfl, hp74, O77⟩
  · exact kA6 ⟨nofun, _, _, _, rfl, hp42, O44⟩
theorem tl1_q10 (env : Nat → Contract) {B : Base} (he_q8 : env n_q8 = .pure (R1 fun q : Sl Box => some (.fn n_q9 [.np 1 [[Sl.enc q]] 0 0]))) (he_q29 : env n_q29 = .gen (kFu kF8 n_q9 kC0)) (he_q30 : env kGl = .gen (kAm Try.prog kGt kGl)) (boxes_ : Sl Box) (gap_ : Int) (o1 : Nat) (z14 : AV) (z16 : AV) (w18 : Sl Int)  : kHw (fun (st : (Sl Line) × Int) tm h27 => match st with | (w24, w29) => ∃ z23, ∃ ps25 : PS Line, tm = ((Sl.enc boxes_) :: (iv gap_) :: (AV.ptr o1 1 0 0) :: und :: kBi :: z14 :: z16 :: z23 :: und :: tZ9 4 (und :: und :: (Sl.enc boxes_) :: (iv (((boxes_.getD []).length : Nat) : Int)) :: .top :: .top :: .top :: .top :: .top :: .top :: .top :: .top :: z14 :: (AV.fn kDc [AV.ptr o1 1 0 0]) :: (AV.tup []) :: z14 :: (iv (((w18.getD []).length : Nat) : Int)) :: (iv w29) :: tZ9 58 [und, und, und, und, und, und, und, und, und, und, und, und, und])) ∧ pj ps25 = w24 ∧ Hold B h27 ([(z14, obS (w18 : Sl Int)), pZ9 o1 1 [Sl.enc boxes_]] ++ D2 (A := Line) z23 ps25)) hm1_q10 xm1_q10 (lb1_q10 env) (kGu boxes_ gap_ w18) (fun (q : Sl Line) (r : Res) => match q with | q33 => ∃ (z32 : AV) (z36 : AV) (z37 : AV) (z38 : AV) (z39 : AV) (ps34 : PS Line) (h30 : kA4), r = (.exit 2, ((Sl.enc boxes_) :: (iv gap_) :: (AV.ptr o1 1 0 0) :: und :: kBi :: z14 :: z16 :: z32 :: und :: z36 :: z37 :: z38 :: z39 :: und :: und :: (Sl.enc boxes_) :: (iv (((boxes_.getD []).length : Nat) : Int)) :: .top :: .top :: .top :: .top :: .top :: .top :: .top :: .top :: z14 :: (AV.fn kDc [AV.ptr o1 1 0 0]) :: (AV.tup []) :: z14 :: (iv (((w18.getD []).length : Nat) : Int)) :: tZ9 59 [und, und, und, und, und, und, und, und, und, und, und, und, und]), h30) ∧ pj ps34 = q33 ∧ Hold B h30 ([(z14, obS (w18 : Sl Int)), pZ9 o1 1 [Sl.enc boxes_]] ++ D2 (A := Line) z32 ps34)) := by
  refine @lpZ9 _ _ _ _ _ _ _ _ (fun st tm h27 R => ?_)
  obtain ⟨w24, w29⟩ := st
  obtain ⟨z23, ps25, rfl, hp26, O28⟩ := R
  rw [e_lb1_q10]
  unfold kGu
  dsimp only
  refine kA1 (kAb _ _) ?_
  refine kA9 (fun c81 => ?_) (fun c81 => ?_)
  · refine kAk (O28.tab (A := Int) (s := w18) 0 rfl) (fun m83 a82 hi84 hm85 => ?_)
    refine kA1 (v := iv a82) ((O28.tab (A := Int) (s := w18) 0 rfl).ld hm85 false 1 0) ?_
    refine kA1 (v := Sl.enc boxes_) (O28.ld 1 rfl false 1 0) ?_
    refine kAk (Tab.enc h27 boxes_) (fun m87 a86 hi88 hm89 => ?_)
    refine kA1 (v := AV.agg [iv a86.x1, iv a86.y1, iv a86.x2, iv a86.y2]) ((Tab.enc h27 boxes_).ld hm89 true 4 0) ?_
    refine kFc O28 (cs := [iv 0, iv 0, iv 0, iv 0]) (by first | rfl | simp) (fun o90 h91 O92 => ?_)
    replace O92 : Hold B h91 ([(z14, obS (w18 : Sl Int)), pZ9 o1 1 [Sl.enc boxes_], pZ9 o90 4 [iv 0, iv 0, iv 0, iv 0]] ++ D2 (A := Line) z23 ps25) := Hold.rot O92
    refine kEx O92 2 (cs' := [iv a86.x1, iv a86.y1, iv a86.x2, iv a86.y2]) rfl (by first | rfl | simp) (by simp) (by first | rfl | simp) (by first | rfl | simp [kB9]) (fun h94 O95 => ?_)
    replace O95 : Hold B h94 ([(z14, obS (w18 : Sl Int)), pZ9 o1 1 [Sl.enc boxes_], pZ9 o90 4 [iv a86.x1, iv a86.y1, iv a86.x2, iv a86.y2]] ++ D2 (A := Line) z23 ps25) := O95
    refine kA1 (D2.lenS (l := [(z14, obS (w18 : Sl Int)), pZ9 o1 1 [Sl.enc boxes_], pZ9 o90 4 [iv a86.x1, iv a86.y1, iv a86.x2, iv a86.y2]]) (x := z23) (ps := ps25) (A := Line) O95 hp26) ?_
    refine kA1 (kAx _ _) ?_
    refine kA1 (kAb _ _) ?_
    refine sim_g10F (e := bv) (fun hb96 => ?_) (fun y104 y105 y106 y107 y108 y109 y110 y111 y112 c103 => ?_)
    · refine kDh ?_
      refine kA1 (v := AV.ptr o90 1 0 1) rfl ?_
      refine kBz ?_
      refine kDh ?_
      refine kA1 (v := iv a86.y1) (O95.ld 2 rfl false 1 1) ?_
      refine kBz ?_
      refine kBz ?_
      refine kBz ?_
      refine kDh ?_
      refine kFk (l := [(z14, obS (w18 : Sl Int)), pZ9 o1 1 [Sl.enc boxes_], pZ9 o90 4 [iv a86.x1, iv a86.y1, iv a86.x2, iv a86.y2]]) (x := z23) (ps := ps25) (A := Line) O95 hp26 (fun m98 a97 x101 hi99 hm100 hg102 => ?_)
      refine kBz ?_
      refine kDh ?_
      refine kA1 (v := elp z23 m98 1) (D2.fld (l := [(z14, obS (w18 : Sl Int)), pZ9 o1 1 [Sl.enc boxes_], pZ9 o90 4 [iv a86.x1, iv a86.y1, iv a86.x2, iv a86.y2]]) (x := z23) (ps := ps25) (A := Line) O95 hm100 _ _) ?_
      refine kBz ?_
      refine kDh ?_
      refine kA1 (v := iv a97.bottom) (D2.ld (l := [(z14, obS (w18 : Sl Int)), pZ9 o1 1 [Sl.enc boxes_], pZ9 o90 4 [iv a86.x1, iv a86.y1, iv a86.x2, iv a86.y2]]) (x := z23) (ps := ps25) (A := Line) O95 hm100 false 1 1) ?_
      refine kBz ?_
      refine kBz ?_
      refine kDh ?_
      refine kA1 (kAl _ _) ?_
      refine kBz ?_
      refine kA1 (kFi _ _) ?_
      exact kA6 rfl
    · refine kA1 (v := bv (bif decide ((wr ((((w24.getD []).length : Nat) : Int) - 1)) < 0) then true else c103)) (pick_b' _ _ _) ?_
      refine kA9 (fun c113 => ?_) (fun c113 => ?_)
      · refine kA1 (v := AV.ptr o90 1 0 1) rfl ?_
        refine kA1 (v := iv a86.y1) (O95.ld 2 rfl false 1 1) ?_
        refine kA1 (v := AV.ptr o90 1 0 3) rfl ?_
        refine kA1 (v := iv a86.y2) (O95.ld 2 rfl false 1 3) ?_
        refine kA1 (v := AV.agg [iv a86.y1, iv a86.y2, kBi]) (by first | rfl | simp [kHl, aFill, kB9]) ?_
        have O114 : Hold B h94 ([(z14, obS (w18 : Sl Int)), pZ9 o1 1 [Sl.enc boxes_], pZ9 o90 4 [iv a86.x1, iv a86.y1, iv a86.x2, iv a86.y2], (kBi, obS ((none : Sl Int) : Sl Int))] ++ D2 (A := Line) z23 ps25) := Hold.rot O95.addnil
        have jZ0 := O114.one (A := Int) (s := (none : Sl Int)) 3 rfl
        refine kG2 O114 [[iv a86.y1, iv a86.y2, kBi]] 3 rfl (by first | rfl | simp [kBj, kE7, jZ0.1, jZ0.2]) rfl (fun x116 h117 O118 => ?_)
        replace O118 : Hold B h117 ([(z14, obS (w18 : Sl Int)), pZ9 o1 1 [Sl.enc boxes_], pZ9 o90 4 [iv a86.x1, iv a86.y1, iv a86.x2, iv a86.y2], (kBi, obS ((none : Sl Int) : Sl Int)), (x116, .sl 3 [[iv a86.y1, iv a86.y2, kBi]])] ++ D2 (A := Line) z23 ps25) := Hold.rot O118
        have O120 : Hold B h117 ([(z14, obS (w18 : Sl Int)), pZ9 o1 1 [Sl.enc boxes_], pZ9 o90 4 [iv a86.x1, iv a86.y1, iv a86.x2, iv a86.y2], (kBi, obS ((none : Sl Int) : Sl Int)), (x116, .sl 3 [[iv a86.y1, iv a86.y2, kBi]])] ++ D2 (A := Line) z23 ps25) := O118.selD [0, 1, 2, 3, 4] (by decide) rfl
        refine sim_push (l := [(z14, obS (w18 : Sl Int)), pZ9 o1 1 [Sl.enc boxes_], pZ9 o90 4 [iv a86.x1, iv a86.y1, iv a86.x2, iv a86.y2]]) (a := (⟨a86.y1, a86.y2, (none : Sl Int)⟩ : Line)) (y := kBi) (x := z23) (ps := ps25) O120 hp26 (by decide) (fun x121 ps124 h122 hp125 hm126 O123 => ?_)
        refine kA1 (D2.lenS (l := [(z14, obS (w18 : Sl Int)), pZ9 o1 1 [Sl.enc boxes_], pZ9 o90 4 [iv a86.x1, iv a86.y1, iv a86.x2, iv a86.y2]]) (x := x121) (ps := ps124) (A := Line) O123 hp125) ?_
        refine kA1 (kAx _ _) ?_
        refine kFk (l := [(z14, obS (w18 : Sl Int)), pZ9 o1 1 [Sl.enc boxes_], pZ9 o90 4 [iv a86.x1, iv a86.y1, iv a86.x2, iv a86.y2]]) (x := x121) (ps := ps124) (A := Line) O123 hp125 (fun m129 a128 x132 hi130 hm131 hg133 => ?_)
        refine kA1 (v := elp x121 m129 0) (nc_elp _ _ _) ?_
        refine kA1 (v := elp x121 m129 1) (D2.fld (l := [(z14, obS (w18 : Sl Int)), pZ9 o1 1 [Sl.enc boxes_], pZ9 o90 4 [iv a86.x1, iv a86.y1, iv a86.x2, iv a86.y2]]) (x := x121) (ps := ps124) (A := Line) O123 hm131 _ _) ?_
        refine kA1 (v := iv a128.bottom) (D2.ld (l := [(z14, obS (w18 : Sl Int)), pZ9 o1 1 [Sl.enc boxes_], pZ9 o90 4 [iv a86.x1, iv a86.y1, iv a86.x2, iv a86.y2]]) (x := x121) (ps := ps124) (A := Line) O123 hm131 false 1 1) ?_
        refine kA1 (v := AV.ptr o90 1 0 3) rfl ?_
        refine kA1 (v := iv a86.y2) (O123.ld 2 rfl false 1 3) ?_
        refine kA1 (v := iv (max a128.bottom a86.y2)) (aFold_max _ _) ?_
        refine kA1 (v := elp x121 m129 0) (nc_elp _ _ _) ?_
        refine kA1 (v := elp x121 m129 1) (D2.fld (l := [(z14, obS (w18 : Sl Int)), pZ9 o1 1 [Sl.enc boxes_], pZ9 o90 4 [iv a86.x1, iv a86.y1, iv a86.x2, iv a86.y2]]) (x := x121) (ps := ps124) (A := Line) O123 hm131 _ _) ?_
        refine sim_setCell (a := a128) (a' := (⟨a128.top, max a128.bottom a86.y2, a128.items⟩ : Line)) (l := [(z14, obS (w18 : Sl Int)), pZ9 o1 1 [Sl.enc boxes_], pZ9 o90 4 [iv a86.x1, iv a86.y1, iv a86.x2, iv a86.y2]]) (x := x121) (ps := ps124) (A := Line) O123 hp125 hi130 hm131 rfl rfl (by first | exact Nat.le_of_ble_eq_true rfl | simp) rfl (by first | rfl | simp [kB9, Inn.row]) (fun ps136 h134 hp137 hm138 O135 => ?_)
        refine kA1 (v := elp x121 m129 0) (nc_elp _ _ _) ?_
        refine kA1 (v := elp x121 m129 2) (D2.fld (l := [(z14, obS (w18 : Sl Int)), pZ9 o1 1 [Sl.enc boxes_], pZ9 o90 4 [iv a86.x1, iv a86.y1, iv a86.x2, iv a86.y2]]) (x := x121) (ps := ps136) (A := Line) O135 hm138 _ _) ?_
        refine kA1 (v := x132) (D2.ld (l := [(z14, obS (w18 : Sl Int)), pZ9 o1 1 [Sl.enc boxes_], pZ9 o90 4 [iv a86.x1, iv a86.y1, iv a86.x2, iv a86.y2]]) (x := x121) (ps := ps136) (A := Line) O135 hm138 false 1 2) ?_
        refine kDw (A := Int) O135 ([a82] : List Int) rfl (by first | rfl | simp [kBj, kE7]) rfl (fun x139 h140 O141 => ?_)
        replace O141 : Hold B h140 ([(z14, obS (w18 : Sl Int)), pZ9 o1 1 [Sl.enc boxes_], pZ9 o90 4 [iv a86.x1, iv a86.y1, iv a86.x2, iv a86.y2], (x139, obS ((some ([a82] : List Int)) : Sl Int))] ++ D2 (A := Line) x121 ps136) := Hold.rot O141
        refine sim_appF (bytes := 8) (C := Int) (a := (⟨a128.top, max a128.bottom a86.y2, a128.items⟩ : Line)) (l := [(z14, obS (w18 : Sl Int)), pZ9 o1 1 [Sl.enc boxes_], pZ9 o90 4 [iv a86.x1, iv a86.y1, iv a86.x2, iv a86.y2], (x139, obS ((some ([a82] : List Int)) : Sl Int))]) (x := x121) (ps := ps136) (A := Line) O141 hp137 hi130 hm138 ([a82] : List Int) (O141.src (A := Int) (s := (some ([a82] : List Int))) 3 rfl) (by decide) (⟨(⟨a128.top, max a128.bottom a86.y2, a128.items⟩ : Line).top, (⟨a128.top, max a128.bottom a86.y2, a128.items⟩ : Line).bottom, (kDm ((⟨a128.top, max a128.bottom a86.y2, a128.items⟩ : Line).items) ([a82] : List Int))⟩ : Line) (by first | exact Nat.le_of_ble_eq_true rfl | simp) (by first | rfl | simp) (fun _ => by first | rfl | simp [kB9, Inn.row]) (fun v151 v152 v153 ps147 h145 hp148 O146 => ?_)
        replace O146 : Hold B h145 ([(z14, obS (w18 : Sl Int)), pZ9 o1 1 [Sl.enc boxes_], pZ9 o90 4 [iv a86.x1, iv a86.y1, iv a86.x2, iv a86.y2], (x139, obS ((some ([a82] : List Int)) : Sl Int))] ++ D2 (A := Line) x121 ps147) := O146
        have O149 : Hold B h145 ([(z14, obS (w18 : Sl Int)), pZ9 o1 1 [Sl.enc boxes_], pZ9 o90 4 [iv a86.x1, iv a86.y1, iv a86.x2, iv a86.y2]] ++ D2 (A := Line) x121 ps147) := O146.selD [0, 1, 2] (by decide) rfl
        refine kA1 (kAl _ _) ?_
        have O150 : Hold B h145 ([(z14, obS (w18 : Sl Int)), pZ9 o1 1 [Sl.enc boxes_]] ++ D2 (A := Line) x121 ps147) := O149.selD [0, 1] (by decide) rfl
        exact kA6 ⟨rfl, _, _, rfl, hp148, O150⟩
      · refine kA1 (D2.lenS (l := [(z14, obS (w18 : Sl Int)), pZ9 o1 1 [Sl.enc boxes_], pZ9 o90 4 [iv a86.x1, iv a86.y1, iv a86.x2, iv a86.y2]]) (x := z23) (ps := ps25) (A := Line) O95 hp26) ?_
        refine kA1 (kAx _ _) ?_
        refine kFk (l := [(z14, obS (w18 : Sl Int)), pZ9 o1 1 [Sl.enc boxes_], pZ9 o90 4 [iv a86.x1, iv a86.y1, iv a86.x2, iv a86.y2]]) (x := z23) (ps := ps25) (A := Line) O95 hp26 (fun m155 a154 x158 hi156 hm157 hg159 => ?_)
        refine kA1 (v := elp z23 m155 0) (nc_elp _ _ _) ?_
        refine kA1 (v := elp z23 m155 1) (D2.fld (l := [(z14, obS (w18 : Sl Int)), pZ9 o1 1 [Sl.enc boxes_], pZ9 o90 4 [iv a86.x1, iv a86.y1, iv a86.x2, iv a86.y2]]) (x := z23) (ps := ps25) (A := Line) O95 hm157 _ _) ?_
        refine kA1 (v := iv a154.bottom) (D2.ld (l := [(z14, obS (w18 : Sl Int)), pZ9 o1 1 [Sl.enc boxes_], pZ9 o90 4 [iv a86.x1, iv a86.y1, iv a86.x2, iv a86.y2]]) (x := z23) (ps := ps25) (A := Line) O95 hm157 false 1 1) ?_
        refine kA1 (v := AV.ptr o90 1 0 3) rfl ?_
        refine kA1 (v := iv a86.y2) (O95.ld 2 rfl false 1 3) ?_
        refine kA1 (v := iv (max a154.bottom a86.y2)) (aFold_max _ _) ?_
        refine kA1 (v := elp z23 m155 0) (nc_elp _ _ _) ?_
        refine kA1 (v := elp z23 m155 1) (D2.fld (l := [(z14, obS (w18 : Sl Int)), pZ9 o1 1 [Sl.enc boxes_], pZ9 o90 4 [iv a86.x1, iv a86.y1, iv a86.x2, iv a86.y2]]) (x := z23) (ps := ps25) (A := Line) O95 hm157 _ _) ?_
        refine sim_setCell (a := a154) (a' := (⟨a154.top, max a154.bottom a86.y2, a154.items⟩ : Line)) (l := [(z14, obS (w18 : Sl Int)), pZ9 o1 1 [Sl.enc boxes_], pZ9 o90 4 [iv a86.x1, iv a86.y1, iv a86.x2, iv a86.y2]]) (x := z23) (ps := ps25) (A := Line) O95 hp26 hi156 hm157 rfl rfl (by first | exact Nat.le_of_ble_eq_true rfl | simp) rfl (by first | rfl | simp [kB9, Inn.row]) (fun ps162 h160 hp163 hm164 O161 => ?_)
        refine kA1 (v := elp z23 m155 0) (nc_elp _ _ _) ?_
        refine kA1 (v := elp z23 m155 2) (D2.fld (l := [(z14, obS (w18 : Sl Int)), pZ9 o1 1 [Sl.enc boxes_], pZ9 o90 4 [iv a86.x1, iv a86.y1, iv a86.x2, iv a86.y2]]) (x := z23) (ps := ps162) (A := Line) O161 hm164 _ _) ?_
        refine kA1 (v := x158) (D2.ld (l := [(z14, obS (w18 : Sl Int)), pZ9 o1 1 [Sl.enc boxes_], pZ9 o90 4 [iv a86.x1, iv a86.y1, iv a86.x2, iv a86.y2]]) (x := z23) (ps := ps162) (A := Line) O161 hm164 false 1 2) ?_
        refine kDw (A := Int) O161 ([a82] : List Int) rfl (by first | rfl | simp [kBj, kE7]) rfl (fun x165 h166 O167 => ?_)
        replace O167 : Hold B h166 ([(z14, obS (w18 : Sl Int)), pZ9 o1 1 [Sl.enc boxes_], pZ9 o90 4 [iv a86.x1, iv a86.y1, iv a86.x2, iv a86.y2], (x165, obS ((some ([a82] : List Int)) : Sl Int))] ++ D2 (A := Line) z23 ps162) := Hold.rot O167
        refine sim_appF (bytes := 8) (C := Int) (a := (⟨a154.top, max a154.bottom a86.y2, a154.items⟩ : Line)) (l := [(z14, obS (w18 : Sl Int)), pZ9 o1 1 [Sl.enc boxes_], pZ9 o90 4 [iv a86.x1, iv a86.y1, iv a86.x2, iv a86.y2], (x165, obS ((some ([a82] : List Int)) : Sl Int))]) (x := z23) (ps := ps162) (A := Line) O167 hp163 hi156 hm164 ([a82] : List Int) (O167.src (A := Int) (s := (some ([a82] : List Int))) 3 rfl) (by decide) (⟨(⟨a154.top, max a154.bottom a86.y2, a154.items⟩ : Line).top, (⟨a154.top, max a154.bottom a86.y2, a154.items⟩ : Line).bottom, (kDm ((⟨a154.top, max a154.bottom a86.y2, a154.items⟩ : Line).items) ([a82] : List Int))⟩ : Line) (by first | exact Nat.le_of_ble_eq_true rfl | simp) (by first | rfl | simp) (fun _ => by first | rfl | simp [kB9, Inn.row]) (fun v177 v178 v179 ps173 h171 hp174 O172 => ?_)
        replace O172 : Hold B h171 ([(z14, obS (w18 : Sl Int)), pZ9 o1 1 [Sl.enc boxes_], pZ9 o90 4 [iv a86.x1, iv a86.y1, iv a86.x2, iv a86.y2], (x165, obS ((some ([a82] : List Int)) : Sl Int))] ++ D2 (A := Line) z23 ps173) := O172
        have O175 : Hold B h171 ([(z14, obS (w18 : Sl Int)), pZ9 o1 1 [Sl.enc boxes_], pZ9 o90 4 [iv a86.x1, iv a86.y1, iv a86.x2, iv a86.y2]] ++ D2 (A := Line) z23 ps173) := O172.selD [0, 1, 2] (by decide) rfl
        refine kA1 (kAl _ _) ?_
        have O176 : Hold B h171 ([(z14, obS (w18 : Sl Int)), pZ9 o1 1 [Sl.enc boxes_]] ++ D2 (A := Line) z23 ps173) := O175.selD [0, 1] (by decide) rfl
        exact kA6 ⟨rfl, _, _, rfl, hp174, O176⟩
  · exact kA6 ⟨nofun, _, _, _, _, _, _, _, rfl, hp26, O28⟩
theorem tl0_q10 (env : Nat → Contract) {B : Base} (he_q8 : env n_q8 = .pure (R1 fun q : Sl Box => some (.fn n_q9 [.np 1 [[Sl.enc q]] 0 0]))) (he_q29 : env n_q29 = .gen (kFu kF8 n_q9 kC0)) (he_q30 : env kGl = .gen (kAm Try.prog kGt kGl)) (boxes_ : Sl Box) (gap_ : Int) (o1 : Nat)  : kHw (fun (st : (Sl Int) × Int) tm h9 => match st with | (w8, w11) => ∃ z7, tm = ((Sl.enc boxes_) :: (iv gap_) :: (AV.ptr o1 1 0 0) :: und :: kBi :: z7 :: .top :: und :: und :: und :: und :: und :: und :: und :: und :: (Sl.enc boxes_) :: (iv (((boxes_.getD []).length : Nat) : Int)) :: (iv w11) :: tZ9 7 [und, und, und, und, und, und, und, und, und, und, und, und, und, und, und, und, und, und, und, und, und, und, und, und, und, und, und, und, und, und, und, und, und, und, und, und, und, und, und, und, und, und, und, und, und, und, und, und, und, und, und, und, und, und, und, und, und, und, und, und, und, und, und, und, und, und, und, und, und, und, und, und, und, und, und, und, und]) ∧ Hold B h9 [pZ9 o1 1 [Sl.enc boxes_], (z7, obS (w8 : Sl Int))]) hm0_q10 xm0_q10 (lb0_q10 env) (s0_q10 boxes_) (fun (q : Sl Int) (r : Res) => match q with | q15 => ∃ (z14 : AV) (z16 : AV) (h12 : kA4), r = (.exit 0, ((Sl.enc boxes_) :: (iv gap_) :: (AV.ptr o1 1 0 0) :: und :: kBi :: z14 :: z16 :: und :: und :: und :: und :: und :: und :: und :: und :: (Sl.enc boxes_) :: (iv (((boxes_.getD []).length : Nat) : Int)) :: tZ9 8 [und, und, und, und, und, und, und, und, und, und, und, und, und, und, und, und, und, und, und, und, und, und, und, und, und, und, und, und, und, und, und, und, und, und, und, und, und, und, und, und, und, und, und, und, und, und, und, und, und, und, und, und, und, und, und, und, und, und, und, und, und, und, und, und, und, und, und, und, und, und, und, und, und, und, und, und, und]), h12) ∧ Hold B h12 [pZ9 o1 1 [Sl.enc boxes_], (z14, obS (q15 : Sl Int))]) := by
  refine @lpZ9 _ _ _ _ _ _ _ _ (fun st tm h9 R => ?_)
  obtain ⟨w8, w11⟩ := st
  obtain ⟨z7, rfl, O10⟩ := R
  rw [e_lb0_q10]
  unfold s0_q10
  dsimp only
  refine kA1 (kAb _ _) ?_
  refine kA9 (fun c183 => ?_) (fun c183 => ?_)
  · refine kDw (A := Int) O10 ([w11] : List Int) rfl (by first | rfl | simp [kBj, kE7]) rfl (fun x184 h185 O186 => ?_)
    replace O186 : Hold B h185 [pZ9 o1 1 [Sl.enc boxes_], (z7, obS (w8 : Sl Int)), (x184, obS ((some ([w11] : List Int)) : Sl Int))] := O186
    refine kGj (A := Int) (s := w8) O186 1 ([w11] : List Int) rfl (O186.src (A := Int) (s := (some ([w11] : List Int))) 2 rfl) (by decide) (fun x189 h190 O191 => ?_)
    replace O191 : Hold B h190 [pZ9 o1 1 [Sl.enc boxes_], (x189, obS ((kDm w8 ([w11] : List Int)) : Sl Int)), (x184, obS ((some ([w11] : List Int)) : Sl Int))] := O191
    have O193 : Hold B h190 [pZ9 o1 1 [Sl.enc boxes_], (x189, obS ((kDm w8 ([w11] : List Int)) : Sl Int))] := O191.sel [0, 1] (by decide) rfl
    refine kA1 (kAl _ _) ?_
    exact kA6 ⟨rfl, _, rfl, O193⟩
  · exact kA6 ⟨nofun, _, _, _, rfl, O10⟩
theorem ts_q10 (env : Nat → Contract) (he_q8 : env n_q8 = .pure (R1 fun q : Sl Box => some (.fn n_q9 [.np 1 [[Sl.enc q]] 0 0]))) (he_q29 : env n_q29 = .gen (kFu kF8 n_q9 kC0)) (he_q30 : env kGl = .gen (kAm Try.prog kGt kGl)) (boxes_ : Sl Box) (gap_ : Int) : Sim (denFnM true Try.prog env n_q10 [Sl.enc boxes_, iv gap_] []) (t_q10 boxes_ gap_) fun c p => release p.2 depth p.1 = some ((fun c : (Sl Line) => rD c) c) := by
  have O := Hold.nil []
  generalize hB : (⟨[], []⟩ : Base) = B at O
  clear hB
  rw [e_q10]
  unfold t_q10
  rw [cells_slenc]
  refine kFc O (cs := [Sl.enc boxes_]) (by first | rfl | simp) (fun o1 h2 O3 => ?_)
  replace O3 : Hold B h2 [pZ9 o1 1 [Sl.enc boxes_]] := O3
  refine kA1 (v := Sl.enc boxes_) (O3.ld 0 rfl false 1 0) ?_
  refine kA1 (Tab.enc h2 boxes_).len ?_
  have O5 : Hold B h2 [pZ9 o1 1 [Sl.enc boxes_], (kBi, obS ((none : Sl Int) : Sl Int))] := O3.addnil
  refine kB7 ((tl0_q10 env he_q8 he_q29 he_q30 boxes_ gap_ o1) ⟨_, rfl, O5⟩) (fun qq197 r hq => ?_)
  revert hq
  revert qq197
  intro q15 hq
  obtain ⟨z14, z16, h12, rfl, O13⟩ := hq
  rw [e_lk0x0_q10]
  have O17 : Hold B h12 [(z14, obS (q15 : Sl Int)), pZ9 o1 1 [Sl.enc boxes_]] := O13.sel [1, 0] (by decide) rfl
  refine sim_stb (R := []) (boxes := boxes_) (d := q15) O17 he_q30 (fun w18 h19 O20 => ?_)
  replace O20 : Hold B h19 [(z14, obS (w18 : Sl Int)), pZ9 o1 1 [Sl.enc boxes_]] := O20
  refine kA1 (v := iv (((w18.getD []).length : Nat) : Int)) (O20.tab (A := Int) (s := w18) 0 rfl).len ?_
  have O21 : Hold B h19 ([(z14, obS (w18 : Sl Int)), pZ9 o1 1 [Sl.enc boxes_]] ++ D2 (A := Line) kBi (none : PS Line)) := O20.addnil
  refine kB7 ((tl1_q10 env he_q8 he_q29 he_q30 boxes_ gap_ o1 z14 z16 w18) ⟨_, _, rfl, (rfl : pj (none : PS Line) = (none : Sl Line)), O21⟩) (fun qq182 r hq => ?_)
  revert hq
  revert qq182
  intro q33 hq
  obtain ⟨z32, z36, z37, z38, z39, ps34, h30, rfl, hp35, O31⟩ := hq
  rw [e_lk1x2_q10]
  refine kA1 (D2.lenS (l := [(z14, obS (w18 : Sl Int)), pZ9 o1 1 [Sl.enc boxes_]]) (x := z32) (ps := ps34) (A := Line) O31 hp35) ?_
  refine kB7 ((tl2_q10 env he_q8 he_q29 he_q30 boxes_ gap_ o1 z14 z16 w18 z32 q33 z36 z37 z38 z39) ⟨_, rfl, hp35, O31⟩) (fun qq80 r hq => ?_)
  revert hq
  revert qq80
  intro q48 hq
  obtain ⟨z51, ps49, h46, rfl, hp50, O47⟩ := hq
  rw [e_lk2x4_q10]
  have O52 : Hold B h46 ([] ++ D2 (A := Line) z32 ps49) := O47.selD [] (by decide) rfl
  exact kA6 (kGi (by simp only [ids_tup, ids_aggD, ids_agg, ids_iv, ids_bv, ids_sv, ids_bt, ids_nilS, ids_enc, D2.ids8 (l := []) (x := z32) (ps := ps49) (A := Line) O52, List.map_append, List.map_nil, List.flatMap_cons, List.flatMap_nil, List.append_nil, List.nil_append]; simpa only [List.flatMap_cons, List.flatMap_nil, List.append_nil, List.nil_append] using O52.nd2) (by simp only [rel_tup, rel_aggD, rel_agg, rel_iv, rel_bv, rel_sv, rel_bt, rel_nilS, rel_enc, D2.rel8 (l := []) (x := z32) (ps := ps49) (A := Line) O52 hp50, omapc, omapn, kA2] <;> rfl))
theorem tt_q10 : kAo Try.prog n_q10 (C2 (fun c : (Sl Line) => rD c) t_q10) := pureCW2 (kC7 ok_q8 (kG7 kDr (kG7 (kCy kD1 mixed hb_q30) E0))) mixed hb_q10 fun boxes_ gap_ => ts_q10 _ (by simp [kC8]) (by simp [kC8]) (by simp [kC8]) boxes_ gap_
def t_q3 (boxes_ : Sl Box) (gap_ : Int) : Option ((Sl Line) × Int) :=
  kA0 (t_q6 boxes_) fun c1 =>
  bif !c1 then
    some ((none : Sl Line), 1)
  else
    kA0 (t_q5 gap_) fun c3 =>
    bif !c3 then
      some ((none : Sl Line), 2)
    else
      kA0 (t_q10 boxes_ gap_) fun c5 =>
      some (c5, 0)
theorem ts_q3 (env : Nat → Contract) (he_q5 : env n_q5 = .pure (C1 (fun c : Bool => enc c) t_q5)) (he_q6 : env n_q6 = .pure (C1 (fun c : Bool => enc c) t_q6)) (he_q10 : env n_q10 = .pure (C2 (fun c : (Sl Line) => rD c) t_q10)) (boxes_ : Sl Box) (gap_ : Int) : Sim (kAm Try.prog env n_q3 [Sl.enc boxes_, iv gap_] []) (t_q3 boxes_ gap_) fun c p => release p.2 depth p.1 = some ((fun c : (Sl Line) × Int => AV.tup [rD c.1, enc c.2]) c) := by
  have O := Hold.nil []
  generalize hB : (⟨[], []⟩ : Base) = B at O
  clear hB
  rw [e_q3]
  unfold t_q3
  refine kDb he_q6 (kBf _ _) (fun c1 => ?_)
  refine kBq (kAf (by rfl) _ _) ?_
  refine kA1 (v := bv (!c1)) (kCg _) ?_
  refine kA9 (fun c2 => ?_) (fun c2 => ?_)
  · exact kA6 (kA8 (by rfl) _)
  · refine kDb he_q5 (kAp _ _) (fun c3 => ?_)
    refine kBq (kAf (by rfl) _ _) ?_
    refine kA1 (v := bv (!c3)) (kCg _) ?_
    refine kA9 (fun c4 => ?_) (fun c4 => ?_)
    · exact kA6 (kA8 (by rfl) _)
    · refine kBo he_q10 (kBf _ _) (kAp _ _) (fun c5 => ?_)
      refine sim_handN (l := []) (A := Line) O (fun x7 ps10 h8 hp11 O9 => ?_)
      have O12 : Hold B h8 ([] ++ D2 (A := Line) x7 ps10) := O9.selD [] (by decide) rfl
      exact kA6 (kGi (by simp only [ids_tup, ids_aggD, ids_agg, ids_iv, ids_bv, ids_sv, ids_bt, ids_nilS, ids_enc, D2.idsN (l := []) (x := x7) (ps := ps10) (A := Line) O12, List.map_append, List.map_nil, List.flatMap_cons, List.flatMap_nil, List.append_nil, List.nil_append]; simpa only [List.flatMap_cons, List.flatMap_nil, List.append_nil, List.nil_append] using O12.nd2) (by simp only [rel_tup, rel_aggD, rel_agg, rel_iv, rel_bv, rel_sv, rel_bt, rel_nilS, rel_enc, D2.relN (l := []) (x := x7) (ps := ps10) (A := Line) O12 hp11, omapc, omapn, kA2] <;> rfl))
theorem tt_q3 : kAo Try.prog n_q3 (C2 (fun c : (Sl Line) × Int => AV.tup [rD c.1, enc c.2]) t_q3) := kF0 (kC7 tt_q5 (kC7 tt_q6 (kC7 tt_q10 E0))) mixed hb_q3 fun boxes_ gap_ => ts_q3 _ (by simp [kC8]) (by simp [kC8]) (by simp [kC8]) boxes_ gap_
def t_q13 (aBoxes_ : Sl Box) (aGap_ : Int) : Option Bool :=
  kA0 (t_q24 aBoxes_ 1048576) fun c1 =>
  bif decide (c1 < 0) then
    some true
  else
    kA0 (t_q26 aBoxes_) fun c3 =>
    kA0 (t_q36 c3 aGap_) fun c8 =>
    kA0 (t_q26 aBoxes_) fun c15 =>
    kA0 (t_q3 c15 aGap_) fun c20 =>
    kA0 (t_q18 c20.1 c8.1) fun c27 =>
    kA0 (bif !c27 then some false else (some (!decide (c20.2 = c8.2)))) fun c29 =>
    bif (bif !c27 then true else c29) then
      some false
    else
      kA0 (t_q26 aBoxes_) fun c31 =>
      kA0 (t_q15 c15 c31) fun c36 =>
      bif !c36 then
        some false
      else
        kA0 (t_q21 c15 1) fun (r38, w39) =>
        kA0 (bif decide (r38 < 0) then some false else (kA0 (t_q18 c20.1 c8.1) fun c43 => some (!c43))) fun c44 =>
        kA0 (bif (bif decide (r38 < 0) then true else c44) then some false else (some (!decide (c20.2 = c8.2)))) fun c46 =>
        bif (bif (bif decide (r38 < 0) then true else c44) then true else c46) then
          some false
        else
          kA0 (t_q23 c20.1 1) fun (r48, w49) =>
          kA0 (t_q20 w49 1) fun c54 =>
          bif decide (c54 < 0) then
            some false
          else
            bif !decide (c54 = r48) then
              some false
            else
              kA0 (t_q26 aBoxes_) fun c57 =>
              kA0 (t_q3 c57 aGap_) fun c62 =>
              kA0 (t_q18 c62.1 c8.1) fun c69 =>
              kA0 (bif !c69 then some false else (some (!decide (c62.2 = c8.2)))) fun c71 =>
              bif (bif !c69 then true else c71) then
                some false
              else
                kA0 (t_q20 w49 1) fun c73 =>
                bif decide (c73 < 0) then
                  some false
                else
                  bif !decide (c73 = r48) then
                    some false
                  else
                    some true
theorem ts_q13 (env : Nat → Contract) (he_q3 : env n_q3 = .pure (C2 (fun c : (Sl Line) × Int => AV.tup [rD c.1, enc c.2]) t_q3)) (he_q15 : env n_q15 = .pure (C2 (fun c : Bool => enc c) t_q15)) (he_q18 : env n_q18 = .pure (C2 (fun c : Bool => enc c) t_q18)) (he_q20 : env n_q20 = .pure (C2 (fun c : Int => enc c) t_q20)) (he_q21 : env n_q21 = .gen (kAm Try.prog (kC8 []) n_q21)) (he_q23 : env n_q23 = .gen (kAm Try.prog ev_q23 n_q23)) (he_q24 : env n_q24 = .pure (C2 (fun c : Int => enc c) t_q24)) (he_q26 : env n_q26 = .pure (C1 (fun c : (Sl Box) => rS c) t_q26)) (he_q36 : env n_q36 = .pure (C2 (fun c : (Sl Line) × Int => AV.tup [rD c.1, enc c.2]) t_q36)) (aBoxes_ : Sl Box) (aGap_ : Int) : Sim (kAm Try.prog env n_q13 [Sl.enc aBoxes_, iv aGap_] []) (t_q13 aBoxes_ aGap_) fun c p => release p.2 depth p.1 = some ((fun c : Bool => enc c) c) := by
  have O := Hold.nil []
  generalize hB : (⟨[], []⟩ : Base) = B at O
  clear hB
  rw [e_q13]
  unfold t_q13
  refine kBo he_q24 (kBf _ _) (kAp _ _) (fun c1 => ?_)
  refine kBq (kAf (by rfl) _ _) ?_
  refine kA1 (kAb _ _) ?_
  refine kA9 (fun c2 => ?_) (fun c2 => ?_)
  · exact kA6 (kA8 (by rfl) _)
  · refine kDb he_q26 (kBf _ _) (fun c3 => ?_)
    refine kFa (A := Box) O (fun x5 h6 O7 => ?_)
    replace O7 : Hold B h6 [(x5, obS (c3 : Sl Box))] := O7
    refine kBo he_q36 ((O7.tab (A := Box) (s := c3) 0 rfl).snap) (kAp _ _) (fun c8 => ?_)
    refine sim_handNC (l := [(x5, obS (c3 : Sl Box))]) (A := Line) 5 O7 (s := c8.1) (fun z1 => AV.tup [z1, iv c8.2]) (by intro b; simp only [mat_tup, mat_aggD, mat_agg, matLc, matLn, mat_iv, mat_bv, mat_sv, mat_bt, mat_nilS, List.append_nil, List.nil_append]) (fun hn => by have hn : noF 7 (rD c8.1) = true := hn; simp only [noF_tup, noF_aggD, noF_agg, noF_iv, noF_bv, noF_sv, noF_bt, noF_nilS, hn, List.all_cons, List.all_nil, Bool.and_self]) (fun x10 ps13 h11 hp14 O12 => ?_)
    refine kA1 (v := x10) rfl ?_
    refine kA1 (v := iv c8.2) rfl ?_
    refine kDb he_q26 (kBf _ _) (fun c15 => ?_)
    refine kFa (A := Box) O12 (fun x17 h18 O19 => ?_)
    replace O19 : Hold B h18 ([(x5, obS (c3 : Sl Box)), (x17, obS (c15 : Sl Box))] ++ D2 (A := Line) x10 ps13) := Hold.rot O19
    refine kBo he_q3 ((O19.tab (A := Box) (s := c15) 1 rfl).snap) (kAp _ _) (fun c20 => ?_)
    refine sim_handNC (l := ([(x5, obS (c3 : Sl Box)), (x17, obS (c15 : Sl Box))] ++ D2 (A := Line) x10 ps13)) (A := Line) 5 O19 (s := c20.1) (fun z1 => AV.tup [z1, iv c20.2]) (by intro b; simp only [mat_tup, mat_aggD, mat_agg, matLc, matLn, mat_iv, mat_bv, mat_sv, mat_bt, mat_nilS, List.append_nil, List.nil_append]) (fun hn => by have hn : noF 7 (rD c20.1) = true := hn; simp only [noF_tup, noF_aggD, noF_agg, noF_iv, noF_bv, noF_sv, noF_bt, noF_nilS, hn, List.all_cons, List.all_nil, Bool.and_self]) (fun x22 ps25 h23 hp26 O24 => ?_)
    refine kA1 (v := x22) rfl ?_
    refine kA1 (v := iv c20.2) rfl ?_
    refine kBo he_q18 ((D2.snapD (l := ([(x5, obS (c3 : Sl Box)), (x17, obS (c15 : Sl Box))] ++ D2 (A := Line) x10 ps13)) (x := x22) (ps := ps25) (A := Line) O24 hp26).2) ((D2.snapD (l := ([(x5, obS (c3 : Sl Box)), (x17, obS (c15 : Sl Box))] ++ D2 (A := Line) x22 ps25)) (x := x10) (ps := ps13) (A := Line) (Hold.sw20 O24) hp14).2) (fun c27 => ?_)
    refine kBq (kAf (by rfl) _ _) ?_
    refine kA1 (v := bv (!c27)) (kCg _) ?_
    refine kGh (e := bv) (fun hb28 => ?_) (fun c29 => ?_)
    · refine kA1 (kC9 _ _) ?_
      exact kA6 rfl
    · refine kA1 (v := bv (bif !c27 then true else c29)) (pick_b' _ _ _) ?_
      refine kA9 (fun c30 => ?_) (fun c30 => ?_)
      · exact kA6 (kA8 (by rfl) _)
      · refine kDb he_q26 (kBf _ _) (fun c31 => ?_)
        refine kFa (A := Box) O24 (fun x33 h34 O35 => ?_)
        replace O35 : Hold B h34 ([(x5, obS (c3 : Sl Box)), (x17, obS (c15 : Sl Box)), (x33, obS (c31 : Sl Box))] ++ D2 (A := Line) x10 ps13 ++ D2 (A := Line) x22 ps25) := Hold.rot2 O35
        refine kBo he_q15 ((O35.tab (A := Box) (s := c15) 1 rfl).snap) ((O35.tab (A := Box) (s := c31) 2 rfl).snap) (fun c36 => ?_)
        refine kBq (kAf (by rfl) _ _) ?_
        refine kA1 (v := bv (!c36)) (kCg _) ?_
        refine kA9 (fun c37 => ?_) (fun c37 => ?_)
        · exact kA6 (kA8 (by rfl) _)
        · refine sim_mark (A := Box) O35 1 rfl he_q21 mk_laws_markBoxS (fun r38 w39 h40 O41 => ?_)
          replace O41 : Hold B h40 ([(x5, obS (c3 : Sl Box)), (x17, obS (w39 : Sl Box)), (x33, obS (c31 : Sl Box))] ++ D2 (A := Line) x10 ps13 ++ D2 (A := Line) x22 ps25) := O41
          refine kA1 (kAb _ _) ?_
          refine kGh (e := bv) (fun hb42 => ?_) (fun c44 => ?_)
          · refine kBo he_q18 ((D2.snapD (l := ([(x5, obS (c3 : Sl Box)), (x17, obS (w39 : Sl Box)), (x33, obS (c31 : Sl Box))] ++ D2 (A := Line) x10 ps13)) (x := x22) (ps := ps25) (A := Line) O41 hp26).2) ((D2.snapD (l := ([(x5, obS (c3 : Sl Box)), (x17, obS (w39 : Sl Box)), (x33, obS (c31 : Sl Box))] ++ D2 (A := Line) x22 ps25)) (x := x10) (ps := ps13) (A := Line) (Hold.sw20 O41) hp14).2) (fun c43 => ?_)
            refine kBq (kAf (by rfl) _ _) ?_
            refine kA1 (v := bv (!c43)) (kCg _) ?_
            exact kA6 rfl
          · refine kA1 (v := bv (bif decide (r38 < 0) then true else c44)) (pick_b' _ _ _) ?_
            refine kGh (e := bv) (fun hb45 => ?_) (fun c46 => ?_)
            · refine kA1 (kC9 _ _) ?_
              exact kA6 rfl
            · refine kA1 (v := bv (bif (bif decide (r38 < 0) then true else c44) then true else c46)) (pick_b' _ _ _) ?_
              refine kA9 (fun c47 => ?_) (fun c47 => ?_)
              · exact kA6 (kA8 (by rfl) _)
              · refine sim_markD (l := ([(x5, obS (c3 : Sl Box)), (x17, obS (w39 : Sl Box)), (x33, obS (c31 : Sl Box))] ++ D2 (A := Line) x10 ps13)) (x := x22) (ps := ps25) (A := Line) O41 hp26 he_q23 mk_laws_markLineS (fun r48 w49 ps52 h50 hp53 O51 => ?_)
                refine kBo he_q20 ((D2.snapD (l := ([(x5, obS (c3 : Sl Box)), (x17, obS (w39 : Sl Box)), (x33, obS (c31 : Sl Box))] ++ D2 (A := Line) x10 ps13)) (x := x22) (ps := ps52) (A := Line) O51 hp53).2) (kAp _ _) (fun c54 => ?_)
                refine kBq (kAf (by rfl) _ _) ?_
                refine kA1 (kAb _ _) ?_
                refine kA9 (fun c55 => ?_) (fun c55 => ?_)
                · exact kA6 (kA8 (by rfl) _)
                · refine kA1 (kC9 _ _) ?_
                  refine kA9 (fun c56 => ?_) (fun c56 => ?_)
                  · exact kA6 (kA8 (by rfl) _)
                  · refine kDb he_q26 (kBf _ _) (fun c57 => ?_)
                    refine kFa (A := Box) O51 (fun x59 h60 O61 => ?_)
                    replace O61 : Hold B h60 ([(x5, obS (c3 : Sl Box)), (x17, obS (w39 : Sl Box)), (x33, obS (c31 : Sl Box)), (x59, obS (c57 : Sl Box))] ++ D2 (A := Line) x10 ps13 ++ D2 (A := Line) x22 ps52) := Hold.rot2 O61
                    refine kBo he_q3 ((O61.tab (A := Box) (s := c57) 3 rfl).snap) (kAp _ _) (fun c62 => ?_)
                    refine sim_handNC (l := ([(x5, obS (c3 : Sl Box)), (x17, obS (w39 : Sl Box)), (x33, obS (c31 : Sl Box)), (x59, obS (c57 : Sl Box))] ++ D2 (A := Line) x10 ps13 ++ D2 (A := Line) x22 ps52)) (A := Line) 5 O61 (s := c62.1) (fun z1 => AV.tup [z1, iv c62.2]) (by intro b; simp only [mat_tup, mat_aggD, mat_agg, matLc, matLn, mat_iv, mat_bv, mat_sv, mat_bt, mat_nilS, List.append_nil, List.nil_append]) (fun hn => by have hn : noF 7 (rD c62.1) = true := hn; simp only [noF_tup, noF_aggD, noF_agg, noF_iv, noF_bv, noF_sv, noF_bt, noF_nilS, hn, List.all_cons, List.all_nil, Bool.and_self]) (fun x64 ps67 h65 hp68 O66 => ?_)
                    refine kA1 (v := x64) rfl ?_
                    refine kA1 (v := iv c62.2) rfl ?_
                    refine kBo he_q18 ((D2.snapD (l := ([(x5, obS (c3 : Sl Box)), (x17, obS (w39 : Sl Box)), (x33, obS (c31 : Sl Box)), (x59, obS (c57 : Sl Box))] ++ D2 (A := Line) x10 ps13 ++ D2 (A := Line) x22 ps52)) (x := x64) (ps := ps67) (A := Line) O66 hp68).2) ((D2.snapD (l := ([(x5, obS (c3 : Sl Box)), (x17, obS (w39 : Sl Box)), (x33, obS (c31 : Sl Box)), (x59, obS (c57 : Sl Box))] ++ D2 (A := Line) x22 ps52 ++ D2 (A := Line) x64 ps67)) (x := x10) (ps := ps13) (A := Line) (Hold.sw30 O66) hp14).2) (fun c69 => ?_)
                    refine kBq (kAf (by rfl) _ _) ?_
                    refine kA1 (v := bv (!c69)) (kCg _) ?_
                    refine kGh (e := bv) (fun hb70 => ?_) (fun c71 => ?_)
                    · refine kA1 (kC9 _ _) ?_
                      exact kA6 rfl
                    · refine kA1 (v := bv (bif !c69 then true else c71)) (pick_b' _ _ _) ?_
                      refine kA9 (fun c72 => ?_) (fun c72 => ?_)
                      · exact kA6 (kA8 (by rfl) _)
                      · refine kBo he_q20 ((D2.snapD (l := ([(x5, obS (c3 : Sl Box)), (x17, obS (w39 : Sl Box)), (x33, obS (c31 : Sl Box)), (x59, obS (c57 : Sl Box))] ++ D2 (A := Line) x10 ps13 ++ D2 (A := Line) x64 ps67)) (x := x22) (ps := ps52) (A := Line) (Hold.sw31 O66) hp53).2) (kAp _ _) (fun c73 => ?_)
                        refine kBq (kAf (by rfl) _ _) ?_
                        refine kA1 (kAb _ _) ?_
                        refine kA9 (fun c74 => ?_) (fun c74 => ?_)
                        · exact kA6 (kA8 (by rfl) _)
                        · refine kA1 (kC9 _ _) ?_
                          refine kA9 (fun c75 => ?_) (fun c75 => ?_)
                          · exact kA6 (kA8 (by rfl) _)
                          · exact kA6 (kA8 (by rfl) _)
theorem tt_q13 : kAo Try.prog n_q13 (C2 (fun c : Bool => enc c) t_q13) := kF0 (kC7 tt_q3 (kC7 tt_q15 (kC7 tt_q18 (kC7 tt_q20 (kG7 (kCy E0 mixed hb_q21) (kG7 (kCy eo_laws_markLineS mixed hb_q23) (kC7 tt_q24 (kC7 tt_q26 (kC7 tt_q36 E0))))))))) mixed hb_q13 fun aBoxes_ aGap_ => ts_q13 _ (by simp [kC8]) (by simp [kC8]) (by simp [kC8]) (by simp [kC8]) (by simp [kC8]) (by simp [kC8]) (by simp [kC8]) (by simp [kC8]) (by simp [kC8]) aBoxes_ aGap_
def kHf (l : List Box) (x y : Int) : Prop := leftP l x.toNat y.toNat
def highP (l : List Box) (x y : Nat) : Prop := ∃ a b, l[x]? = some a ∧ l[y]? = some b ∧ (a.y1 < b.y1 ∨ a.y1 = b.y1 ∧ x < y)
def kFs (l : List Box) (x y : Int) : Prop := highP l x.toNat y.toNat
theorem leftT_tr {l : List Box} {x y z : Int} (h : kHf l x y) (g : kHf l y z) : kHf l x z := leftP_tr h g
theorem leftT_irr {l : List Box} (x : Int) : ¬ kHf l x x := leftP_irr _ _
theorem highT_irr {l : List Box} (x : Int) : ¬ kFs l x x := fun ⟨a, b, h1, h2, h3⟩ => by
  rw [h1] at h2
  cases h2
  omega
theorem highT_tr {l : List Box} {x y z : Int} (h : kFs l x y) (g : kFs l y z) : kFs l x z := by
  obtain ⟨a, b, h1, h2, h3⟩ := h
  obtain ⟨b', c, g1, g2, g3⟩ := g
  rw [h2] at g1
  cases g1
  exact ⟨a, c, h1, g2, by omega⟩
def InL (n : Nat) (x : Int) : Prop := 0 ≤ x ∧ x < (n : Int)
theorem leftT_tri {l : List Box} {x y : Int} (hx : InL l.length x) (hy : InL l.length y) : kHf l x y ∨ x = y ∨ kHf l y x := by
  obtain ⟨n, rfl⟩ := Int.eq_ofNat_of_zero_le hx.1
  obtain ⟨m, rfl⟩ := Int.eq_ofNat_of_zero_le hy.1
  rcases leftP_tri (l := l) (x := n) (y := m) (by have := hx.2; omega) (by have := hy.2; omega) with h | h | h
  · exact .inl h
  · exact .inr (.inl (by omega))
  · exact .inr (.inr h)
theorem highT_tri {l : List Box} {x y : Int} (hx : InL l.length x) (hy : InL l.length y) : kFs l x y ∨ x = y ∨ kFs l y x := by
  obtain ⟨n, rfl⟩ := Int.eq_ofNat_of_zero_le hx.1
  obtain ⟨m, rfl⟩ := Int.eq_ofNat_of_zero_le hy.1
  have k1 : n < l.length := by have := hx.2; omega
  have k2 : m < l.length := by have := hy.2; omega
  have e1 : l[n]? = some l[n] := List.getElem?_eq_getElem k1
  have e2 : l[m]? = some l[m] := List.getElem?_eq_getElem k2
  generalize l[n] = a at e1
  generalize l[m] = b at e2
  by_cases c1 : a.y1 < b.y1 ∨ a.y1 = b.y1 ∧ n < m
  · exact .inl ⟨a, b, e1, e2, c1⟩
  · by_cases c2 : n = m
    · exact .inr (.inl (by omega))
    · exact .inr (.inr ⟨b, a, e2, e1, by omega⟩)
theorem specLeft_ok {q : Sl Box} {x y : Int} (hx : InL (q.getD []).length x) (hy : InL (q.getD []).length y) : ∃ c, t_q44 q x y = some c ∧ (c = true ↔ kHf (q.getD []) x y) := by
  obtain ⟨n, rfl⟩ := Int.eq_ofNat_of_zero_le hx.1
  obtain ⟨m, rfl⟩ := Int.eq_ofNat_of_zero_le hy.1
  have k1 : n < (q.getD []).length := by have := hx.2; omega
  have k2 : m < (q.getD []).length := by have := hy.2; omega
  have e1 : (q.getD [])[n]? = some (q.getD [])[n] := List.getElem?_eq_getElem k1
  have e2 : (q.getD [])[m]? = some (q.getD [])[m] := List.getElem?_eq_getElem k2
  unfold kHf leftP
  rw [Int.toNat_natCast, Int.toNat_natCast]
  generalize (q.getD [])[n] = a at e1
  generalize (q.getD [])[m] = b at e2
  have hP : (∃ a' b', (q.getD [])[n]? = some a' ∧ (q.getD [])[m]? = some b' ∧ (a'.x1 < b'.x1 ∨ a'.x1 = b'.x1 ∧ (a'.x2 < b'.x2 ∨ a'.x2 = b'.x2 ∧ n < m))) ↔ (a.x1 < b.x1 ∨ a.x1 = b.x1 ∧ (a.x2 < b.x2 ∨ a.x2 = b.x2 ∧ n < m)) := by
    constructor
    · rintro ⟨a', b', h1, h2, h3⟩
      rw [e1] at h1
      rw [e2] at h2
      cases h1
      cases h2
      exact h3
    · exact fun h => ⟨a, b, e1, e2, h⟩
  rw [hP]
  unfold t_q44
  rw [kB5 e1, kA2, kB5 e2, kA2]
  by_cases c1 : a.x1 = b.x1
  · by_cases c2 : a.x2 = b.x2
    · exact ⟨decide ((n : Int) < (m : Int)), by simp [c1, c2], by rw [decide_eq_true_eq]; omega⟩
    · exact ⟨decide (a.x2 < b.x2), by simp [c1, c2], by rw [decide_eq_true_eq]; omega⟩
  · exact ⟨decide (a.x1 < b.x1), by simp [c1], by rw [decide_eq_true_eq]; omega⟩
theorem specHigh_ok {q : Sl Box} {x y : Int} (hx : InL (q.getD []).length x) (hy : InL (q.getD []).length y) : ∃ c, t_q43 q x y = some c ∧ (c = true ↔ kFs (q.getD []) x y) := by
  obtain ⟨n, rfl⟩ := Int.eq_ofNat_of_zero_le hx.1
  obtain ⟨m, rfl⟩ := Int.eq_ofNat_of_zero_le hy.1
  have k1 : n < (q.getD []).length := by have := hx.2; omega
  have k2 : m < (q.getD []).length := by have := hy.2; omega
  have e1 : (q.getD [])[n]? = some (q.getD [])[n] := List.getElem?_eq_getElem k1
  have e2 : (q.getD [])[m]? = some (q.getD [])[m] := List.getElem?_eq_getElem k2
  unfold kFs highP
  rw [Int.toNat_natCast, Int.toNat_natCast]
  generalize (q.getD [])[n] = a at e1
  generalize (q.getD [])[m] = b at e2
  have hP : (∃ a' b', (q.getD [])[n]? = some a' ∧ (q.getD [])[m]? = some b' ∧ (a'.y1 < b'.y1 ∨ a'.y1 = b'.y1 ∧ n < m)) ↔ (a.y1 < b.y1 ∨ a.y1 = b.y1 ∧ n < m) := by
    constructor
    · rintro ⟨a', b', h1, h2, h3⟩
      rw [e1] at h1
      rw [e2] at h2
      cases h1
      cases h2
      exact h3
    · exact fun h => ⟨a, b, e1, e2, h⟩
  rw [hP]
  unfold t_q43
  rw [kB5 e1, kA2, kB5 e2, kA2]
  by_cases c1 : a.y1 = b.y1
  · exact ⟨decide ((n : Int) < (m : Int)), by simp [c1], by rw [decide_eq_true_eq]; omega⟩
  · exact ⟨decide (a.y1 < b.y1), by simp [c1], by rw [decide_eq_true_eq]; omega⟩
def ordT (l : List Box) (high : Bool) (x y : Int) : Prop := if high = true then kFs l x y else kHf l x y
theorem ordT_tr {l : List Box} {high : Bool} {x y z : Int} (h : ordT l high x y) (g : ordT l high y z) : ordT l high x z := by
  unfold ordT at *
  cases high
  · exact leftT_tr h g
  · exact highT_tr h g
theorem ordT_tri {l : List Box} {high : Bool} {x y : Int} (hx : InL l.length x) (hy : InL l.length y) : ordT l high x y ∨ x = y ∨ ordT l high y x := by
  unfold ordT
  cases high
  · exact leftT_tri hx hy
  · exact highT_tri hx hy
theorem putO_ok {q : Sl Box} {W : List Int} {k : Int} {high : Bool} (hW : W.Pairwise (ordT (q.getD []) high)) (hi : ∀ x ∈ W, InL (q.getD []).length x) (hk : InL (q.getD []).length k) (hn : k ∉ W) (hl : W.length ≤ 1000) :
    ∃ r, t_q46 q (some W) k high = some (some r) ∧ r.Pairwise (ordT (q.getD []) high) ∧ r.Perm (k :: W) := by
  have key : ∀ (t : Nat), t ≤ W.length → (∀ x ∈ W.drop t, ordT (q.getD []) high k x) → ∃ p : Nat, kB6 (s0_q46 q (some W) k high) ((t : Nat) : Int) = some ((p : Nat) : Int) ∧ p ≤ W.length ∧ (∀ x ∈ W.drop p, ordT (q.getD []) high k x) ∧ ∀ x ∈ W.take p, ordT (q.getD []) high x k := fun t => by
    induction t with
    | zero =>
      intro _ hd
      refine ⟨0, kB2 ?_, by omega, hd, by simp⟩
      unfold s0_q46
      have d : decide ((0 : Int) < ((0 : Nat) : Int)) = false := decide_eq_false (by omega)
      rw [d, cond_false]
    | succ t ih =>
      intro ht hd
      have hxt : W[t]? = some W[t] := List.getElem?_eq_getElem (by omega)
      generalize hv : W[t] = v at hxt
      have hvm : v ∈ W := List.mem_of_getElem? hxt
      obtain ⟨c1, f1, f2⟩ := specLeft_ok hk (hi v hvm)
      obtain ⟨c2, g1, g2⟩ := specHigh_ok hk (hi v hvm)
      have w1 : wr (((t + 1 : Nat) : Int) - 1) = ((t : Nat) : Int) := by rw [kBg (by omega) (by omega)]; omega
      have d : decide ((0 : Int) < ((t + 1 : Nat) : Int)) = true := decide_eq_true (by omega)
      have hdr : W.drop t = v :: W.drop (t + 1) := by rw [List.drop_eq_getElem_cons (by omega), hv]
      obtain ⟨c, hc, hc2⟩ : ∃ c, s0_q46 q (some W) k high ((t + 1 : Nat) : Int) = (bif !c then some (.inr ((t + 1 : Nat) : Int)) else some (.inl ((t : Nat) : Int))) ∧ (c = true ↔ ordT (q.getD []) high k v) := by
        unfold s0_q46 ordT
        simp only [d, cond_true, w1, Option.getD_some, kB5 hxt, kA2, f1, g1]
        cases high
        · exact ⟨c1, rfl, f2⟩
        · exact ⟨c2, rfl, g2⟩
      cases c with
      | true =>
        obtain ⟨p, p1, p2⟩ := ih (by omega) (fun x hx => by
          rw [hdr] at hx
          rcases List.mem_cons.1 hx with rfl | hx
          · exact hc2.1 rfl
          · exact hd x hx)
        exact ⟨p, (kBa hc).trans p1, p2⟩
      | false =>
        refine ⟨t + 1, kB2 hc, ht, hd, fun x hx => ?_⟩
        have hvk : ordT (q.getD []) high v k := by
          rcases ordT_tri (high := high) hk (hi v hvm) with h | h | h
          · have := hc2.2 h
            cases this
          · subst h
            exact absurd hvm hn
          · exact h
        rw [List.take_add_one, hxt] at hx
        rcases List.mem_append.1 hx with hx | hx
        · obtain ⟨i, hi1, hi2⟩ := List.getElem_of_mem hx
          have hi3 : i < t := by simp at hi1; omega
          have : W[i]? = some x := by
            rw [List.getElem_take] at hi2
            rw [List.getElem?_eq_getElem (by omega), hi2]
          have hp := List.pairwise_iff_getElem.1 hW i t (by omega) (by omega) hi3
          have e : W[i] = x := by rw [List.getElem?_eq_getElem (by omega)] at this; exact Option.some.inj this
          rw [e, hv] at hp
          exact ordT_tr hp hvk
        · simp at hx
          subst hx
          exact hvk
  obtain ⟨p, e1, h1, h2, h3⟩ := key W.length (Nat.le_refl _) (by simp)
  have o1 := own_ints (W.take p) (by simp; omega)
  have a1 : appO (some (W.take p)) [k] = some (some (W.take p ++ [k])) := by
    rw [appO_big _ _ (by simp; omega)]
    rfl
  have a2 : appO (some (W.take p ++ [k])) (W.drop p) = some (some (W.take p ++ [k] ++ W.drop p)) := by
    rw [kF4 (by simp; omega)]
    rfl
  have a3 : kDm (some (W.take p)) [k] = some (W.take p ++ [k]) := rfl
  have a4 : kDm (some (W.take p ++ [k])) (W.drop p) = some (W.take p ++ [k] ++ W.drop p) := rfl
  refine ⟨W.take p ++ [k] ++ W.drop p, ?_, ?_, perm_ins⟩
  · unfold t_q46
    simp only [Option.getD_some, e1, kA2, subS_to h1, subS_from h1, o1, a1, a2, a3, a4]
  · have hW' : (W.take p ++ W.drop p).Pairwise (ordT (q.getD []) high) := by rw [List.take_append_drop]; exact hW
    rw [List.pairwise_append] at hW'
    obtain ⟨x1, x2, x3⟩ := hW'
    rw [List.append_assoc, List.pairwise_append]
    refine ⟨x1, ?_, fun a ha b hb => ?_⟩
    · rw [List.singleton_append, List.pairwise_cons]
      exact ⟨h2, x2⟩
    · rw [List.singleton_append] at hb
      rcases List.mem_cons.1 hb with rfl | hb
      · exact h3 a ha
      · exact x3 a ha b hb
theorem uniqT {T : Int → Int → Prop} (ir : ∀ x, ¬ T x x) (tr : ∀ x y z, T x y → T y z → T x z) : ∀ {l1 l2 : List Int}, l1.Pairwise T → l2.Pairwise T → l1.Perm l2 → l1 = l2
  | [], l2, _, _, h => (List.Perm.nil_eq h)
  | a :: t, [], _, _, h => by simpa using h.length_eq
  | a :: t, b :: t2, h1, h2, h => by
    rw [List.pairwise_cons] at h1 h2
    have e : a = b := by
      have ha : a ∈ b :: t2 := h.mem_iff.1 List.mem_cons_self
      have hb : b ∈ a :: t := h.mem_iff.2 List.mem_cons_self
      rcases List.mem_cons.1 ha with e | ha
      · exact e
      · rcases List.mem_cons.1 hb with e | hb
        · exact e.symm
        · exact absurd (tr _ _ _ (h1.1 b hb) (h2.1 a ha)) (ir a)
    subst e
    rw [uniqT ir tr h1.2 h2.2 ((List.perm_cons a).1 h)]
def idsL (n : Nat) : List Int := (List.range n).map Int.ofNat
theorem kGa (n : Nat) : (idsL n).length = n := by simp [idsL]
theorem idsL_succ (n : Nat) : idsL (n + 1) = idsL n ++ [(n : Int)] := by
  unfold idsL
  rw [List.range_succ, List.map_append]
  rfl
theorem kG9 {n : Nat} {x : Int} (h : x ∈ idsL n) : InL n x := by
  unfold idsL at h
  obtain ⟨k, hk, rfl⟩ := List.mem_map.1 h
  rw [List.mem_range] at hk
  exact ⟨by simp, by simpa using hk⟩
theorem idsL_at {n p : Nat} (h : p < n) : atL (idsL n) p = (p : Int) := by
  unfold atL idsL
  rw [List.getElem?_map, List.getElem?_range h]
  rfl
theorem InL.mono {n m : Nat} {x : Int} (h : InL n x) (hm : n ≤ m) : InL m x := ⟨h.1, by have := h.2; omega⟩
theorem specOrd_both {B : List Box} (hn : B.length ≤ 60) : ∃ O, kB6 (s0_q45 (some B)) ((some ([] : List Int)), 0) = some (some O) ∧ O.Pairwise (kFs B) ∧ O.Perm (idsL B.length) := by
  obtain ⟨r, e, h⟩ := loopT_ex (step := s0_q45 (some B)) (fun k s => ∃ W, s = (some W, (k : Int)) ∧ W.Pairwise (kFs B) ∧ W.Perm (idsL k)) B.length
    (fun r => ∃ O, r = some O ∧ O.Pairwise (kFs B) ∧ O.Perm (idsL B.length))
    (fun k s hk ⟨W, hs, h1, h2⟩ => by
      subst hs
      have c : decide ((k : Int) < ((B.length : Nat) : Int)) = true := decide_eq_true (by omega)
      have hlen : W.length = k := by rw [h2.length_eq, kGa]
      obtain ⟨r, p1, p2, p3⟩ := putO_ok (q := some B) (W := W) (k := (k : Int)) (high := true) h1 (fun x hx => (kG9 (h2.mem_iff.1 hx)).mono (by simp; omega)) ⟨by omega, by simp; omega⟩ (fun hx => by have := (kG9 (h2.mem_iff.1 hx)).2; omega) (by omega)
      refine .inl ⟨(some r, ((k + 1 : Nat) : Int)), ?_, r, rfl, p2, ?_⟩
      · unfold s0_q45
        simp only [Option.getD_some, c, cond_true, p1, kA2, kDn hk (show B.length ≤ 4294967296 by omega)]
      · rw [idsL_succ]
        exact p3.trans ((h2.cons _).trans (List.perm_append_singleton _ _).symm))
    (fun s ⟨W, hs, h1, h2⟩ => by
      subst hs
      refine ⟨some W, ?_, W, rfl, h1, h2⟩
      unfold s0_q45
      simp only [Option.getD_some, Int.lt_irrefl, decide_false, cond_false])
    (s := ((some ([] : List Int)), 0)) ⟨[], rfl, List.Pairwise.nil, List.Perm.refl _⟩
  obtain ⟨O, rfl, h⟩ := h
  exact ⟨O, e, h⟩
def topB (l : List Box) (x : Int) : Int := ((l[x.toNat]?).map fun b => b.y1).getD 0
def cHigh (l : List Box) (x y : Int) : Bool := decide (topB l x < topB l y)
def tHigh (l : List Box) (x y : Int) : Prop := topB l x < topB l y ∨ topB l x = topB l y ∧ x < y
theorem stb_high (l : List Box) : StbOrd (tHigh l) (cHigh l) := fun u v h => by
  unfold cHigh tHigh
  refine ⟨fun h2 => .inl (of_decide_eq_true h2), fun h2 => ?_⟩
  have := of_decide_eq_false h2
  omega
theorem okP_high (B : List Box) : OkP (fun a b => kE0 a b (some B)) (cHigh B) B.length := fun u v h1 h2 h3 h4 => by
  obtain ⟨n, rfl⟩ := Int.eq_ofNat_of_zero_le h1
  obtain ⟨m, rfl⟩ := Int.eq_ofNat_of_zero_le h3
  have e1 : B[n]? = some B[n] := List.getElem?_eq_getElem (by omega)
  have e2 : B[m]? = some B[m] := List.getElem?_eq_getElem (by omega)
  generalize B[n] = a at e1
  generalize B[m] = b at e2
  refine ⟨cmpI a.y1 b.y1, ?_, ?_⟩
  · show kE0 _ _ _ = _
    unfold kE0
    rw [Option.getD_some, kB5 e1, kA2, kB5 e2, kA2, kA2]
  · unfold cHigh topB cmpI
    rw [Int.toNat_natCast, Int.toNat_natCast, e1, e2]
    simp only [Option.map_some, Option.getD_some]
    by_cases c1 : a.y1 < b.y1
    · simp [c1]
    · by_cases c2 : b.y1 < a.y1 <;> simp [c1, c2]
theorem tHigh_high {B : List Box} {x y : Int} (hx : InL B.length x) (hy : InL B.length y) (h : tHigh B x y) : kFs B x y := by
  obtain ⟨n, rfl⟩ := Int.eq_ofNat_of_zero_le hx.1
  obtain ⟨m, rfl⟩ := Int.eq_ofNat_of_zero_le hy.1
  have k1 : n < B.length := by have := hx.2; omega
  have k2 : m < B.length := by have := hy.2; omega
  have e1 : B[n]? = some B[n] := List.getElem?_eq_getElem k1
  have e2 : B[m]? = some B[m] := List.getElem?_eq_getElem k2
  unfold tHigh topB at h
  unfold kFs
  rw [Int.toNat_natCast, Int.toNat_natCast] at *
  refine ⟨_, _, e1, e2, ?_⟩
  rw [e1, e2] at h
  simp only [Option.map_some, Option.getD_some] at h
  omega
theorem implIds {B : List Box} (hn : B.length ≤ 60) : ∃ q, kB6 (s0_q10 (some B)) ((none : Sl Int), 0) = some q ∧ (q = none ∧ B.length = 0 ∨ q = some (idsL B.length)) := by
  obtain ⟨r, e, h⟩ := loopT_ex (step := s0_q10 (some B)) (fun k s => s.2 = (k : Int) ∧ (s.1 = none ∧ k = 0 ∨ s.1 = some (idsL k))) B.length
    (fun q => q = none ∧ B.length = 0 ∨ q = some (idsL B.length))
    (fun k ⟨w, i⟩ hk ⟨h1, h2⟩ => by
      simp only at h1 h2
      subst h1
      have c : decide ((k : Int) < ((B.length : Nat) : Int)) = true := decide_eq_true (by omega)
      have hw : w.getD [] = idsL k := by
        rcases h2 with ⟨rfl, rfl⟩ | rfl
        · rfl
        · rfl
      have a : appO w [(k : Int)] = some (some (idsL k ++ [(k : Int)])) := by rw [appO_big _ _ (by rw [hw, kGa]; omega), hw]
      have a2 : kDm w [(k : Int)] = some (idsL k ++ [(k : Int)]) := by
        rcases h2 with ⟨rfl, rfl⟩ | rfl
        · rfl
        · rfl
      refine .inl ⟨(some (idsL (k + 1)), ((k + 1 : Nat) : Int)), ?_, rfl, .inr rfl⟩
      unfold s0_q10
      simp only [Option.getD_some, c, cond_true, a, kA2, a2, kDn hk (show B.length ≤ 4294967296 by omega), idsL_succ])
    (fun ⟨w, i⟩ ⟨h1, h2⟩ => by
      simp only at h1 h2
      subst h1
      refine ⟨w, ?_, h2⟩
      unfold s0_q10
      simp only [Option.getD_some, Int.lt_irrefl, decide_false, cond_false])
    (s := ((none : Sl Int), 0)) ⟨rfl, .inl ⟨rfl, rfl⟩⟩
  exact ⟨r, e, h⟩
theorem stable_none (P : Int → Int → Option Int) : t_q30 P none = some none := by
  have w1 : wr ((0 : Int) + 1) = 1 := kBg (by omega) (by omega)
  have e1 : kB6 (kH1 P (0 : Int)) ((none : Sl Int), 0, 20) = some ((none : Sl Int), 0) := kB2 rfl
  have e2 : kB6 (kF5 P (0 : Int) (0 : Int)) ((none : Sl Int), 1) = some (none : Sl Int) := kB2 rfl
  have e3 : kB6 (kGw P (0 : Int)) ((none : Sl Int), 20) = some (none : Sl Int) := kB2 rfl
  unfold t_q30 t_q33
  rw [show ((((none : Sl Int).getD []).length : Nat) : Int) = 0 from rfl, e1, kA2]
  dsimp only
  unfold t_q31
  rw [w1, e2, kA2, kA2, e3, kA2, kA2]
theorem orders_both {B : List Box} (hn : B.length ≤ 60) : ∃ (O : List Int) (q w : Sl Int), kB6 (s0_q45 (some B)) ((some ([] : List Int)), 0) = some (some O) ∧ kB6 (s0_q10 (some B)) ((none : Sl Int), 0) = some q ∧ t_q30 (fun a b => kE0 a b (some B)) q = some w ∧ w.getD [] = O ∧ O.Pairwise (kFs B) ∧ O.Perm (idsL B.length) := by
  obtain ⟨O, e1, h1, h2⟩ := specOrd_both hn
  obtain ⟨q, e2, h3⟩ := implIds hn
  rcases h3 with ⟨rfl, h3⟩ | rfl
  · rw [h3] at h2
    have hO : O = [] := List.length_eq_zero_iff.1 (by rw [h2.length_eq, kGa])
    exact ⟨O, none, none, e1, e2, stable_none _, hO.symm, h1, by rw [h3]; exact h2⟩
  · obtain ⟨l', k1, k2, k3⟩ := stable_ok (okP_high B) (T := tHigh B) (fun x y z a b => by unfold tHigh at *; omega) (fun x a => by unfold tHigh at a; omega) (stb_high B) (l := idsL B.length) (kGa _) (by omega) (fun x hx => kG9 hx) (fun p hp => idsL_at hp)
    have hl : l'.length = B.length := by rw [k2.length_eq, kGa]
    have hp : l'.Pairwise (kFs B) := by
      rw [List.pairwise_iff_getElem]
      intro i j hi hj hij
      have g : ∀ (i : Nat) (hi : i < l'.length), atL l' i = l'[i] := fun i hi => by
        unfold atL
        rw [List.getElem?_eq_getElem hi]
        rfl
      have h := k3 i j (by omega) hij (by omega)
      rw [g i hi, g j hj] at h
      exact tHigh_high (kG9 (k2.mem_iff.1 (List.getElem_mem _))) (kG9 (k2.mem_iff.1 (List.getElem_mem _))) h
    have e : l' = O := uniqT highT_irr (fun x y z => highT_tr) hp h1 (k2.trans h2.symm)
    exact ⟨O, _, some l', e1, e2, k1, e, h1, h2⟩
def LineR (B : List Box) (D : List Int) (k : Nat) (p : Line × Line) : Prop := p.1.top = p.2.top ∧ p.1.bottom = p.2.bottom ∧ ∃ W, p.1.items = some W ∧ W.Pairwise (kHf B) ∧ W.Perm (p.2.items.getD []) ∧ (∀ x ∈ W, x ∈ D) ∧ W.length ≤ k
def LinesR (B : List Box) (O : List Int) (k : Nat) (s t : Sl Line) : Prop := ∃ P : List (Line × Line), s.getD [] = P.map Prod.fst ∧ t.getD [] = P.map Prod.snd ∧ P.length ≤ k ∧ ∀ p ∈ P, LineR B (O.take k) k p
theorem LineR.up {B : List Box} {O : List Int} {k : Nat} {p : Line × Line} (h : LineR B (O.take k) k p) : LineR B (O.take (k + 1)) (k + 1) p := by
  obtain ⟨h1, h2, W, h3, h4, h5, h6, h7⟩ := h
  refine ⟨h1, h2, W, h3, h4, h5, fun x hx => ?_, by omega⟩
  rw [List.take_add_one]
  exact List.mem_append_left _ (h6 x hx)
theorem lastA {A : Type} {s : Sl A} {L : List A} {a : A} (h : s.getD [] = L ++ [a]) (hl : L.length ≤ 2000000) : wr ((((s.getD []).length : Nat) : Int) - 1) = ((L.length : Nat) : Int) ∧ kC3 (s.getD []) ((L.length : Nat) : Int) = some a ∧ ∀ v, (kC4 s ((L.length : Nat) : Int) v).getD [] = L ++ [v] := by
  have e : (s.getD []).length = L.length + 1 := by rw [h]; simp
  have g : (s.getD [])[L.length]? = some a := by rw [h]; simp
  refine ⟨by rw [e, kBg (by omega) (by omega)]; omega, kB5 g, fun v => ?_⟩
  cases s with
  | none => simp at h
  | some l =>
    have h' : l = L ++ [a] := h
    subst h'
    simp [kC4]
theorem step_both {B : List Box} {gap : Int} {O : List Int} {w : Sl Int} {k : Nat} (hw : w.getD [] = O) (hO : O.Pairwise (kFs B)) (hi : ∀ x ∈ O, InL B.length x) (hl : O.length ≤ 60) (hk : k < O.length) {S T : Sl Line} (hr : LinesR B O k S T) :
    ∃ S' T', kGp (some B) gap (some O) (S, (k : Int)) = some (.inl (S', ((k + 1 : Nat) : Int))) ∧ kGu (some B) gap w (T, (k : Int)) = some (.inl (T', ((k + 1 : Nat) : Int))) ∧ LinesR B O (k + 1) S' T' := by
  obtain ⟨P, h1, h2, h3, h4⟩ := hr
  have gx : O[k]? = some O[k] := List.getElem?_eq_getElem hk
  have nin : O[k] ∉ O.take k := fun hm => by
    obtain ⟨i, hi1, hi2⟩ := List.getElem_of_mem hm
    have hi3 : i < k := by simp at hi1; omega
    rw [List.getElem_take] at hi2
    have hp := List.pairwise_iff_getElem.1 hO i k (by omega) hk hi3
    rw [hi2] at hp
    exact highT_irr _ hp
  have hx := hi _ (List.getElem_mem hk)
  generalize O[k] = x at gx nin hx
  have xin : x ∈ O.take (k + 1) := by
    rw [List.take_add_one, gx]
    exact List.mem_append_right _ (by simp)
  obtain ⟨m, rfl⟩ := Int.eq_ofNat_of_zero_le hx.1
  have hm : m < B.length := by have := hx.2; omega
  have gb : B[m]? = some B[m] := List.getElem?_eq_getElem hm
  generalize B[m] = b at gb
  have c : decide ((k : Int) < ((O.length : Nat) : Int)) = true := decide_eq_true (by omega)
  have ws := kDn hk (show O.length ≤ 4294967296 by omega)
  have gx' := kB5 gx
  have gb' := kB5 gb
  have lS : (S.getD []).length = P.length := by rw [h1, List.length_map]
  have lT : (T.getD []).length = P.length := by rw [h2, List.length_map]
  have fresh : ∀ (S' T' : Sl Line), S' = kDm S [(⟨b.y1, b.y2, some [(m : Int)]⟩ : Line)] → T'.getD [] = T.getD [] ++ [(⟨b.y1, max b.y2 b.y2, some [(m : Int)]⟩ : Line)] → LinesR B O (k + 1) S' T' := fun S' T' e1 e2 => by
    refine ⟨P ++ [(⟨b.y1, b.y2, some [(m : Int)]⟩, ⟨b.y1, max b.y2 b.y2, some [(m : Int)]⟩)], ?_, ?_, by simp; omega, fun p hp => ?_⟩
    · rw [e1, appS_getD, h1]
      simp
    · rw [e2, h2]
      simp
    · rcases List.mem_append.1 hp with hp | hp
      · exact (h4 p hp).up
      · rw [List.mem_singleton] at hp
        subst hp
        refine ⟨rfl, (Int.max_self _).symm, [(m : Int)], rfl, by simp, List.Perm.refl _, fun y hy => ?_, by simp⟩
        rw [List.mem_singleton] at hy
        subst hy
        exact xin
  have aT : appO T [(⟨b.y1, b.y2, (none : Sl Int)⟩ : Line)] = some (kDm T [(⟨b.y1, b.y2, (none : Sl Int)⟩ : Line)]) := kF4 (by rw [lT]; simp; omega)
  have gT : (kDm T [(⟨b.y1, b.y2, (none : Sl Int)⟩ : Line)]).getD [] = P.map Prod.snd ++ [(⟨b.y1, b.y2, (none : Sl Int)⟩ : Line)] := by rw [appS_getD, h2]
  obtain ⟨u1, u2, u3⟩ := lastA gT (by simp; omega)
  have aS : appO S [(⟨b.y1, b.y2, some [(m : Int)]⟩ : Line)] = some (kDm S [(⟨b.y1, b.y2, some [(m : Int)]⟩ : Line)]) := kF4 (by rw [lS]; simp; omega)
  have aI : appO (none : Sl Int) [(m : Int)] = some (some [(m : Int)]) := appO_big _ _ (by simp)
  have aJ : kDm (none : Sl Int) [(m : Int)] = some [(m : Int)] := rfl
  have setT : (kC4 (kC4 (kDm T [(⟨b.y1, b.y2, (none : Sl Int)⟩ : Line)]) (((P.map Prod.snd).length : Nat) : Int) (⟨b.y1, max b.y2 b.y2, (none : Sl Int)⟩ : Line)) (((P.map Prod.snd).length : Nat) : Int) (⟨b.y1, max b.y2 b.y2, some [(m : Int)]⟩ : Line)).getD [] = T.getD [] ++ [(⟨b.y1, max b.y2 b.y2, some [(m : Int)]⟩ : Line)] := by
    obtain ⟨_, _, u4⟩ := lastA (u3 (⟨b.y1, max b.y2 b.y2, (none : Sl Int)⟩ : Line)) (by simp; omega)
    rw [u4, h2]
  rcases List.eq_nil_or_concat P with e | ⟨P', p, e⟩
  · subst e
    have d0 : decide ((((S.getD []).length : Nat) : Int) = 0) = true := decide_eq_true (by rw [lS]; rfl)
    have d1 : decide (wr ((((T.getD []).length : Nat) : Int) - 1) < 0) = true := decide_eq_true (by rw [lT, kBg (by simp) (by simp)]; simp)
    refine ⟨_, _, ?_, ?_, fresh _ _ rfl setT⟩
    · unfold kGp
      simp only [Option.getD_some, c, cond_true, gx', gb', kA2, d0, aS, ws]
    · unfold kGu
      simp only [hw, Option.getD_some, c, cond_true, gx', gb', kA2, d1, aT, u1, u2, aI, aJ, ws]
  · rw [List.concat_eq_append] at e
    have lP : P.length = P'.length + 1 := by rw [e]; simp
    have hS : S.getD [] = P'.map Prod.fst ++ [p.1] := by rw [h1, e]; simp
    have hT : T.getD [] = P'.map Prod.snd ++ [p.2] := by rw [h2, e]; simp
    obtain ⟨s1, s2, s3⟩ := lastA hS (by simp; omega)
    obtain ⟨t1, t2, t3⟩ := lastA hT (by simp; omega)
    have hp := h4 p (by rw [e]; simp)
    obtain ⟨q1, q2, W, q3, q4, q5, q6, q7⟩ := hp
    have d0 : decide ((((S.getD []).length : Nat) : Int) = 0) = false := decide_eq_false (by rw [lS]; omega)
    have d1 : decide ((((P'.map Prod.snd).length : Nat) : Int) < 0) = false := decide_eq_false (by omega)
    cases cc : decide (wr (p.1.bottom + gap) < b.y1) with
    | true =>
      have cc2 : decide (wr (p.2.bottom + gap) < b.y1) = true := by rw [← q2]; exact cc
      refine ⟨_, _, ?_, ?_, fresh _ _ rfl setT⟩
      · unfold kGp
        simp only [Option.getD_some, c, cond_true, gx', gb', kA2, d0, cond_false, s1, s2, cc, aS, ws]
      · unfold kGu
        simp only [hw, Option.getD_some, c, cond_true, gx', gb', kA2, t1, d1, cond_false, t2, cc2, aT, u1, u2, aI, aJ, ws]
    | false =>
      have cc2 : decide (wr (p.2.bottom + gap) < b.y1) = false := by rw [← q2]; exact cc
      obtain ⟨r, f1, f2, f3⟩ := putO_ok (q := some B) (W := W) (k := (m : Int)) (high := false) q4 (fun y hy => hi y (List.mem_of_mem_take (q6 y hy))) hx (fun hy => nin (q6 _ hy)) (by omega)
      have il : (p.2.items.getD []).length = W.length := q5.length_eq.symm
      have aI : appO p.2.items [(m : Int)] = some (kDm p.2.items [(m : Int)]) := kF4 (by rw [il]; simp; omega)
      refine ⟨kC4 S (((P'.map Prod.fst).length : Nat) : Int) ⟨p.1.top, max p.1.bottom b.y2, some r⟩, kC4 (kC4 T (((P'.map Prod.snd).length : Nat) : Int) ⟨p.2.top, max p.2.bottom b.y2, p.2.items⟩) (((P'.map Prod.snd).length : Nat) : Int) ⟨p.2.top, max p.2.bottom b.y2, kDm p.2.items [(m : Int)]⟩, ?_, ?_, ?_⟩
      · unfold kGp
        simp only [Option.getD_some, c, cond_true, gx', gb', kA2, d0, cond_false, s1, s2, cc, q3, f1, ws]
      · unfold kGu
        simp only [hw, Option.getD_some, c, cond_true, gx', gb', kA2, t1, d1, cond_false, t2, cc2, aI, ws]
      · obtain ⟨_, _, t4⟩ := lastA (t3 (⟨p.2.top, max p.2.bottom b.y2, p.2.items⟩ : Line)) (by simp; omega)
        refine ⟨P' ++ [(⟨p.1.top, max p.1.bottom b.y2, some r⟩, ⟨p.2.top, max p.2.bottom b.y2, kDm p.2.items [(m : Int)]⟩)], ?_, ?_, by simp; omega, fun p' hp' => ?_⟩
        · rw [s3]
          simp
        · rw [t4]
          simp
        · rcases List.mem_append.1 hp' with hp' | hp'
          · exact (h4 p' (by rw [e]; exact List.mem_append_left _ hp')).up
          · rw [List.mem_singleton] at hp'
            subst hp'
            refine ⟨q1, by show max p.1.bottom b.y2 = max p.2.bottom b.y2; rw [q2], r, rfl, f2, ?_, fun y hy => ?_, ?_⟩
            · show r.Perm ((kDm p.2.items [(m : Int)]).getD [])
              rw [appS_getD]
              exact f3.trans ((q5.cons _).trans (List.perm_append_singleton _ _).symm)
            · rcases List.mem_cons.1 (f3.mem_iff.1 hy) with rfl | hy
              · exact xin
              · rw [List.take_add_one]
                exact List.mem_append_left _ (q6 y hy)
            · rw [f3.length_eq]
              simp
              omega
theorem loops_both {B : List Box} {gap : Int} {O : List Int} {w : Sl Int} (hw : w.getD [] = O) (hO : O.Pairwise (kFs B)) (hi : ∀ x ∈ O, InL B.length x) (hl : O.length ≤ 60) : ∀ (j k : Nat) {S T : Sl Line}, k + j = O.length → LinesR B O k S T → ∃ S' T', kB6 (kGp (some B) gap (some O)) (S, (k : Int)) = some S' ∧ kB6 (kGu (some B) gap w) (T, (k : Int)) = some T' ∧ LinesR B O O.length S' T'
  | 0, k, S, T, hk, hr => by
    have e : k = O.length := by omega
    subst e
    refine ⟨S, T, kB2 ?_, kB2 ?_, hr⟩
    · unfold kGp
      simp only [Option.getD_some, Int.lt_irrefl, decide_false, cond_false]
    · unfold kGu
      simp only [hw, Int.lt_irrefl, decide_false, cond_false]
  | j + 1, k, S, T, hk, hr => by
    obtain ⟨S1, T1, e1, e2, h⟩ := step_both (gap := gap) hw hO hi hl (k := k) (by omega) hr
    obtain ⟨S', T', f1, f2, h'⟩ := loops_both hw hO hi hl j (k + 1) (by omega) h
    exact ⟨S', T', (kBa e1).trans f1, (kBa e2).trans f2, h'⟩
theorem setS_getD {A : Type} (s : Sl A) (k : Nat) (v : A) : (kC4 s (k : Int) v).getD [] = (s.getD []).set k v := by
  cases s with
  | none => rfl
  | some l => rfl
theorem mem_sub {n : Nat} : ∀ {zs : List Int}, (∀ z ∈ zs, InL n z) → ∃ xs : List {i : Int // InL n i}, zs = xs.map (·.1)
  | [], _ => ⟨[], rfl⟩
  | z :: zs, h => by
    obtain ⟨xs, e⟩ := mem_sub (zs := zs) fun y hy => h y (List.mem_cons_of_mem _ hy)
    exact ⟨⟨z, h z List.mem_cons_self⟩ :: xs, by rw [List.map_cons, ← e]⟩
theorem kEm {B : List Box} {x y : Int} (hx : InL B.length x) (hy : InL B.length y) : ltC (kC0 (some B)) x y = true ↔ kHf B x y := by
  obtain ⟨n, rfl⟩ := Int.eq_ofNat_of_zero_le hx.1
  obtain ⟨m, rfl⟩ := Int.eq_ofNat_of_zero_le hy.1
  exact kEg (q := some B) (by unfold kF8; have := hx.2; simp; omega) (by unfold kF8; have := hy.2; simp; omega)
theorem sortC_left {B : List Box} {zs W : List Int} (hz : ∀ z ∈ zs, InL B.length z) (hW : W.Pairwise (kHf B)) (hp : W.Perm zs) : kGo (kC0 (some B)) zs = W := by
  obtain ⟨xs, rfl⟩ := mem_sub hz
  have e : kGo (kC0 (some B)) (xs.map (·.1)) = (xs.mergeSort fun x y => !ltC (kC0 (some B)) y.1 x.1).map (·.1) :=
    (List.map_mergeSort (r := fun x y : {i : Int // InL B.length i} => !ltC (kC0 (some B)) y.1 x.1) (s := fun x y => !ltC (kC0 (some B)) y x) (f := fun x : {i : Int // InL B.length i} => x.1) (l := xs) (fun a _ b _ => rfl)).symm
  have tri : ∀ x y : {i : Int // InL B.length i}, ltC (kC0 (some B)) x.1 y.1 = true ∨ x = y ∨ ltC (kC0 (some B)) y.1 x.1 = true := fun x y => by
    rcases leftT_tri x.2 y.2 with h | h | h
    · exact .inl ((kEm x.2 y.2).2 h)
    · exact .inr (.inl (Subtype.ext h))
    · exact .inr (.inr ((kEm y.2 x.2).2 h))
  have asy : ∀ x y : {i : Int // InL B.length i}, ltC (kC0 (some B)) x.1 y.1 = true → ltC (kC0 (some B)) y.1 x.1 = false := fun x y h => by
    cases h2 : ltC (kC0 (some B)) y.1 x.1 with
    | false => rfl
    | true => exact absurd (leftT_tr ((kEm x.2 y.2).1 h) ((kEm y.2 x.2).1 h2)) (leftT_irr _)
  have srt := List.pairwise_mergeSort (le := fun x y : {i : Int // InL B.length i} => !ltC (kC0 (some B)) y.1 x.1)
    (fun a b c h1 h2 => by
      simp only [Bool.not_eq_true'] at h1 h2 ⊢
      cases h3 : ltC (kC0 (some B)) c.1 a.1 with
      | false => rfl
      | true =>
        rcases tri a b with h | h | h
        · have := (kEm c.2 b.2).2 (leftT_tr ((kEm c.2 a.2).1 h3) ((kEm a.2 b.2).1 h))
          rw [this] at h2
          cases h2
        · subst h
          rw [h3] at h2
          cases h2
        · rw [h] at h1
          cases h1)
    (fun a b => by
      rcases tri a b with h | h | h
      · simp [asy a b h]
      · subst h
        cases h3 : ltC (kC0 (some B)) a.1 a.1 with
        | false => rfl
        | true => have := asy a a h3; rw [h3] at this; cases this
      · simp [asy b a h]) xs
  have pm := List.mergeSort_perm xs fun x y : {i : Int // InL B.length i} => !ltC (kC0 (some B)) y.1 x.1
  rw [e]
  generalize (xs.mergeSort fun x y : {i : Int // InL B.length i} => !ltC (kC0 (some B)) y.1 x.1) = R at srt pm
  have pR : W.Perm (R.map (·.1)) := hp.trans (pm.map (·.1)).symm
  have ndW : W.Nodup := hW.imp fun {a b} h e => by
    subst e
    exact leftT_irr _ h
  have nd : (R.map (·.1)).Nodup := pR.nodup_iff.1 ndW
  refine uniqT (T := kHf B) leftT_irr (fun x y z => leftT_tr) ?_ hW pR.symm
  rw [List.pairwise_iff_getElem]
  intro i j h1 h2 hij
  have h1' : i < R.length := by simpa using h1
  have h2' : j < R.length := by simpa using h2
  have g := List.pairwise_iff_getElem.1 srt i j h1' h2' hij
  have ne := List.pairwise_iff_getElem.1 nd i j h1 h2 hij
  rw [List.getElem_map, List.getElem_map] at *
  rcases tri R[i] R[j] with h | h | h
  · exact (kEm R[i].2 R[j].2).1 h
  · exact absurd (congrArg Subtype.val h) ne
  · simp [h] at g
theorem sortCO_left {B : List Box} {s : Sl Int} {W : List Int} (hW : W.Pairwise (kHf B)) (hp : W.Perm (s.getD [])) (hi : ∀ x ∈ W, InL B.length x) (hl : W.length ≤ 1000) : ∃ r, sortCO kF8 kC0 (some B) s = some r ∧ r.getD [] = W := by
  cases s with
  | none => exact ⟨none, rfl, (List.Perm.eq_nil hp).symm⟩
  | some l =>
    have hp' : W.Perm l := hp
    have hz : ∀ z ∈ l, InL B.length z := fun z hz => hi z (hp'.mem_iff.2 hz)
    refine ⟨some W, ?_, rfl⟩
    have d : (decide (l.length ≤ 4294967296) && l.all fun z => decide (0 ≤ z) && decide (z < (kF8 (some B) : Int))) = true := by
      rw [Bool.and_eq_true, decide_eq_true_eq, List.all_eq_true]
      refine ⟨by have := hp'.length_eq; omega, fun z h => ?_⟩
      rw [Bool.and_eq_true, decide_eq_true_eq, decide_eq_true_eq]
      exact ⟨(hz z h).1, (hz z h).2⟩
    unfold sortCO
    simp only [d, cond_true, sortC_left hz hW hp']
def rowLn (l : Line) : Int × Int × List Int := (l.top, l.bottom, l.items.getD [])
def kBu (s : Sl Line) : List (Int × Int × List Int) := (s.getD []).map rowLn
theorem lines_both {B : List Box} {gap : Int} (hn : B.length ≤ 60) : ∃ G S, t_q10 (some B) gap = some G ∧ t_q45 (some B) gap = some S ∧ kBu G = kBu S ∧ (kBu S).length ≤ 60 ∧ ∀ r ∈ kBu S, r.2.2.length ≤ 60 ∧ r.2.2.Pairwise (kHf B) ∧ ∀ x ∈ r.2.2, InL B.length x := by
  obtain ⟨O, q, w, e1, e2, e3, hw, hO, hp⟩ := orders_both hn
  have hi : ∀ x ∈ O, InL B.length x := fun x hx => kG9 (hp.mem_iff.1 hx)
  have hl : O.length ≤ 60 := by rw [hp.length_eq, kGa]; exact hn
  obtain ⟨S, T, f1, f2, P, r1, r2, r3, r4⟩ := loops_both (gap := gap) hw hO hi hl O.length 0 (S := some []) (T := none) (by omega) ⟨[], rfl, rfl, by simp, by simp⟩
  have lT : (T.getD []).length = P.length := by rw [r2, List.length_map]
  obtain ⟨G, g1, g2, g3⟩ := loopT_ex (step := s2_q10 (some B) T) (fun k s => s.2 = (k : Int) ∧ (s.1.getD []).length = P.length ∧ ∀ (j : Nat) (p : Line × Line), P[j]? = some p → ∃ a, (s.1.getD [])[j]? = some a ∧ (j < k → rowLn a = rowLn p.1) ∧ (k ≤ j → a = p.2)) P.length
    (fun G => (G.getD []).length = P.length ∧ ∀ (j : Nat) (p : Line × Line), P[j]? = some p → ∃ a, (G.getD [])[j]? = some a ∧ rowLn a = rowLn p.1)
    (fun k ⟨s, i⟩ hk ⟨h1, h2, h3⟩ => by
      simp only at h1 h2 h3
      subst h1
      obtain ⟨p, hpk⟩ : ∃ p, P[k]? = some p := ⟨P[k], List.getElem?_eq_getElem hk⟩
      obtain ⟨a, ha, _, ha2⟩ := h3 k p hpk
      have ha2 := ha2 (Nat.le_refl _)
      subst ha2
      obtain ⟨b1, b2, W, b3, b4, b5, b6, b7⟩ := r4 p (List.mem_of_getElem? hpk)
      obtain ⟨r, c1, c2⟩ := sortCO_left b4 b5 (fun x hx => hi x (List.mem_of_mem_take (b6 x hx))) (by omega)
      have c : decide ((k : Int) < (((T.getD []).length : Nat) : Int)) = true := decide_eq_true (by rw [lT]; omega)
      refine .inl ⟨(kC4 s (k : Int) ⟨p.2.top, p.2.bottom, r⟩, ((k + 1 : Nat) : Int)), ?_, rfl, ?_, fun j p' hj => ?_⟩
      · unfold s2_q10
        simp only [c, cond_true, kB5 ha, kA2, c1, kDn hk (show P.length ≤ 4294967296 by omega)]
      · show ((kC4 s (k : Int) _).getD []).length = _
        rw [setS_getD, List.length_set, h2]
      · show ∃ a, ((kC4 s (k : Int) _).getD [])[j]? = some a ∧ _
        rw [setS_getD]
        by_cases ej : j = k
        · subst ej
          rw [hpk] at hj
          cases hj
          refine ⟨_, List.getElem?_set_self (by omega), fun _ => ?_, fun h => by omega⟩
          unfold rowLn
          rw [b1, b2, b3]
          simp only [c2, Option.getD_some]
        · rw [List.getElem?_set_ne (Ne.symm ej)]
          obtain ⟨a', d1, d2, d3⟩ := h3 j p' hj
          exact ⟨a', d1, fun h => d2 (by omega), fun h => d3 (by omega)⟩)
    (fun ⟨s, i⟩ ⟨h1, h2, h3⟩ => by
      simp only at h1 h2 h3
      subst h1
      refine ⟨s, ?_, h2, fun j p hj => ?_⟩
      · unfold s2_q10
        simp only [lT, Int.lt_irrefl, decide_false, cond_false]
      · obtain ⟨a, a1, a2, _⟩ := h3 j p hj
        exact ⟨a, a1, a2 (kFp hj)⟩)
    (s := (T, 0)) ⟨rfl, lT, fun j p hj => ⟨p.2, by
      show (T.getD [])[j]? = _
      rw [r2, List.getElem?_map, hj]
      rfl, fun h => absurd h (Nat.not_lt_zero _), fun _ => rfl⟩⟩
  refine ⟨G, S, ?_, ?_, ?_, ?_, ?_⟩
  · unfold t_q10
    have f2' : kB6 (kGu (some B) gap w) ((none : Sl Line), 0) = some T := f2
    rw [e2, kA2, e3, kA2, f2', kA2, g1, kA2]
  · unfold t_q45
    have f1' : kB6 (kGp (some B) gap (some O)) ((some ([] : List Line)), 0) = some S := f1
    rw [e1, kA2, f1', kA2]
  · unfold kBu
    rw [r1]
    apply List.ext_getElem?
    intro j
    rw [List.getElem?_map, List.getElem?_map, List.getElem?_map]
    by_cases hj : j < P.length
    · have hpj : P[j]? = some P[j] := List.getElem?_eq_getElem hj
      obtain ⟨a, a1, a2⟩ := g3 j _ hpj
      rw [a1, hpj]
      simp only [Option.map_some, a2]
    · rw [List.getElem?_eq_none (by omega), List.getElem?_eq_none (by omega)]
      rfl
  · unfold kBu
    rw [r1]
    simp
    omega
  · intro r hr
    unfold kBu at hr
    rw [r1, List.map_map] at hr
    obtain ⟨p, hp1, rfl⟩ := List.mem_map.1 hr
    obtain ⟨_, _, W, b3, b4, _, b6, b7⟩ := r4 p hp1
    show (p.1.items.getD []).length ≤ 60 ∧ (p.1.items.getD []).Pairwise _ ∧ ∀ x ∈ p.1.items.getD [], _
    rw [b3]
    exact ⟨by show W.length ≤ 60; omega, b4, fun x hx => hi x (List.mem_of_mem_take (b6 x hx))⟩
theorem eqLine_ok {a b : Line} (h : rowLn a = rowLn b) (hl : (a.items.getD []).length ≤ 4294967296) : t_q17 a b = some true := by
  unfold rowLn at h
  obtain ⟨h1, h2⟩ := Prod.mk.inj h
  obtain ⟨h3, h4⟩ := Prod.mk.inj h2
  unfold t_q17
  rw [eqI_ok h4 hl, h1, h3]
  simp
theorem eqLn_ok {a b : Sl Line} (h : kBu a = kBu b) (hl : (kBu a).length ≤ 4294967296) (hr : ∀ r ∈ kBu a, r.2.2.length ≤ 4294967296) : t_q18 a b = some true := by
  have la : (kBu a).length = (a.getD []).length := by simp [kBu]
  have lb : (kBu b).length = (b.getD []).length := by simp [kBu]
  have ll : (a.getD []).length = (b.getD []).length := by rw [← la, ← lb, h]
  rw [la] at hl
  have lp := kEk (step := s0_q18 a b) (a.getD []) (fun _ _ => (none : Option Bool)) (.inl ()) .inr
    (fun k x hx => by
      have hk := kFp hx
      have c : (k : Int) < ((a.getD []).length : Nat) := by omega
      have hR : (kBu a)[k]? = some (rowLn x) := by
        unfold kBu
        rw [List.getElem?_map, hx]
        rfl
      have hy : (b.getD [])[k]? = some ((b.getD [])[k]'(by omega)) := List.getElem?_eq_getElem (by omega)
      generalize (b.getD [])[k]'(by omega) = y at hy
      have e : rowLn x = rowLn y := by
        have hR2 := hR
        rw [h] at hR2
        unfold kBu at hR2
        rw [List.getElem?_map, hy] at hR2
        exact (Option.some.inj hR2).symm
      have q := eqLine_ok e (hr _ (List.mem_of_getElem? hR))
      unfold s0_q18
      simp only [c, decide_true, cond_true, kB5 hx, kB5 hy, kA2, q, Bool.not_true, cond_false, kDn hk hl])
    (by
      unfold s0_q18
      simp only [Int.lt_irrefl, decide_false, cond_false])
  rw [kFd (fun _ _ _ => rfl)] at lp
  unfold t_q18
  rw [lp, ← ll]
  simp
def kCf (l : List Line) : Nat := (l.map fun a => 2 + (a.items.getD []).length).sum
theorem mkLN_ok : ∀ (l : List Line) (k : Int), 0 ≤ k → k + kCf l ≤ 1000000000 → ∃ l', mkLN l k = some (k + kCf l, l') ∧ l'.length = l.length ∧ ∀ (i : Nat) (k' : Int), k' = k + kCf (l.take i) → i < l.length → ∃ a, l'[i]? = some a ∧ a.top = k' ∧ a.bottom = k' + 1 ∧ t_q19 a.items (k' + 2) = some (k + kCf (l.take (i + 1)))
  | [], k, _, _ => ⟨[], by simp [mkLN, kCf], rfl, fun i _ _ h => by simp at h⟩
  | a :: l, k, h0, h1 => by
    have e : kCf (a :: l) = 2 + (a.items.getD []).length + kCf l := by simp [kCf]
    rw [e] at h1
    have w1 : wr (k + 1) = k + 1 := kBg (by omega) (by omega)
    have w2 : wr (k + 1 + 1) = k + 2 := by rw [kBg (by omega) (by omega)]; omega
    have m1 : t_q22 a.items (k + 2) = some (k + 2 + 1 * (((a.items.getD []).length : Nat) : Int), a.items.map fun l => mkI (k + 2) l.length) := by
      unfold t_q22
      have d1 : decide ((0 : Int) ≤ k + 2) = true := decide_eq_true (by omega)
      have d2 : decide (k + 2 + 1 * (((a.items.getD []).length : Nat) : Int) ≤ 1000000000) = true := decide_eq_true (by omega)
      rw [d1, d2]
      rfl
    have hv : (a.items.map fun l => mkI (k + 2) l.length).getD [] = mkI (k + 2) (a.items.getD []).length := by cases a.items <;> rfl
    have hh := held_k (k := k + 2) (by omega) hv (by omega)
    obtain ⟨l', g1, g2, g3⟩ := mkLN_ok l (k + 2 + 1 * (((a.items.getD []).length : Nat) : Int)) (by omega) (by omega)
    refine ⟨(⟨k, k + 1, a.items.map fun l => mkI (k + 2) l.length⟩ : Line) :: l', ?_, by simp [g2], fun i k' hk hi => ?_⟩
    · simp only [mkLN, w1, w2, m1, kA2, g1]
      rw [e]
      congr 2
      omega
    · cases i with
      | zero =>
        have : k' = k := by simpa [kCf] using hk
        refine ⟨_, rfl, this.symm, by rw [this], ?_⟩
        rw [this, hh]
        simp [kCf]
        omega
      | succ i =>
        have t1 : ∀ j, kCf ((a :: l).take (j + 1)) = 2 + (a.items.getD []).length + kCf (l.take j) := fun j => by simp [kCf]
        obtain ⟨y, y1, y2, y3, y4⟩ := g3 i k' (by rw [hk, t1]; omega) (by simpa using hi)
        refine ⟨y, by simpa using y1, y2, y3, ?_⟩
        rw [y4, t1]
        congr 1
        omega
theorem marksLn (g : Sl Line) (hl : (g.getD []).length ≤ 4294967296) (ht : kCf (g.getD []) ≤ 900000000) : ∃ v r, t_q23 g 1 = some (r, v) ∧ t_q20 v 1 = some r ∧ 0 ≤ r := by
  obtain ⟨l', g1, g2, g3⟩ := mkLN_ok (g.getD []) 1 (by omega) (by omega)
  have hm : ∃ v, t_q23 g 1 = some (1 + (kCf (g.getD []) : Int), v) ∧ v.getD [] = l' := by
    unfold t_q23
    have d : decide ((g.getD []).length ≤ 4294967296) = true := decide_eq_true hl
    rw [d]
    cases g with
    | none =>
      refine ⟨none, rfl, ?_⟩
      cases g1
      rfl
    | some l =>
      have g1' : mkLN l 1 = some (1 + (kCf l : Int), l') := g1
      refine ⟨some l', ?_, rfl⟩
      simp only [cond_true, g1', kA2]
      rfl
  obtain ⟨v, m1, m2⟩ := hm
  refine ⟨v, _, m1, ?_, by omega⟩
  have mono : ∀ j, kCf ((g.getD []).take j) ≤ kCf (g.getD []) := fun j => by
    have e : kCf (g.getD []) = kCf ((g.getD []).take j) + kCf ((g.getD []).drop j) := by
      unfold kCf
      rw [← List.sum_append, ← List.map_append, List.take_append_drop]
    omega
  have lp := kHx (step := s0_q20 v) (g.getD []).length (fun j => (1 + (kCf ((g.getD []).take j) : Int), (j : Int))) (.inl (1 + (kCf (g.getD []) : Int)))
    (fun j hk => by
      obtain ⟨y, y1, y2, y3, y4⟩ := g3 j _ rfl hk
      have mj := mono j
      have c : (j : Int) < (((v.getD []).length : Nat) : Int) := by rw [m2, g2]; omega
      have c2 : decide (1 + (kCf ((g.getD []).take (j + 1)) : Int) < 0) = false := decide_eq_false (by omega)
      have w1 : wr (1 + (kCf ((g.getD []).take j) : Int) + 1) = 1 + (kCf ((g.getD []).take j) : Int) + 1 := kBg (by omega) (by omega)
      have w2 : wr (1 + (kCf ((g.getD []).take j) : Int) + 1 + 1) = 1 + (kCf ((g.getD []).take j) : Int) + 2 := by rw [kBg (by omega) (by omega)]; omega
      rw [← m2] at y1
      unfold s0_q20
      simp only [c, decide_true, cond_true, kB5 y1, kA2, y2, y3, w1, w2, Bool.not_true, cond_false, y4, c2, kDn hk hl])
    (by
      have c : ¬ (((g.getD []).length : Nat) : Int) < (((v.getD []).length : Nat) : Int) := by rw [m2, g2]; omega
      unfold s0_q20
      simp only [c, decide_false, cond_false, List.take_length])
    0 (Nat.zero_le _)
  have lp' : kB6 (s0_q20 v) (1, 0) = some (.inl (1 + (kCf (g.getD []) : Int))) := by
    simpa [kCf] using lp
  unfold t_q20
  rw [lp', kA2]
theorem linesOf_both (B : List Box) (gap : Int) (hB : B.length ≤ 1048576) : ∃ g w n, t_q3 (some B) gap = some (g, n) ∧ t_q36 (some B) gap = some (w, n) ∧ kBu g = kBu w ∧ (kBu g).length ≤ 60 ∧ ∀ r ∈ kBu g, r.2.2.length ≤ 60 := by
  have p1 := isPage_ok (some B) (by simp only [Option.getD_some]; omega)
  have p2 := l19Boxes_ok (some B) (by simp only [Option.getD_some]; omega)
  unfold t_q3 t_q36 t_q5 t_q42
  rw [p1, p2]
  simp only [Option.getD_some, kA2]
  cases h1 : pageB B with
  | false => exact ⟨_, _, _, rfl, rfl, rfl, by simp [kBu], by simp [kBu]⟩
  | true =>
    cases h2 : kEv gap 0 4095 with
    | false => exact ⟨_, _, _, rfl, rfl, rfl, by simp [kBu], by simp [kBu]⟩
    | true =>
      obtain ⟨hn, _⟩ := pageB_true h1
      obtain ⟨G, S, e1, e2, e3, e4, e5⟩ := lines_both (gap := gap) hn
      refine ⟨G, S, 0, ?_, ?_, e3, by rw [e3]; exact e4, fun r hr => (e5 r (e3 ▸ hr)).1⟩
      · simp only [Bool.not_true, cond_false, kA2, e1]
      · simp only [Bool.not_true, cond_false, kA2, e2]
theorem totLn_le {g : Sl Line} (h1 : (kBu g).length ≤ 60) (h2 : ∀ r ∈ kBu g, r.2.2.length ≤ 60) : kCf (g.getD []) ≤ 60 * 62 := by
  have key : ∀ (l : List Line), (∀ a ∈ l, (a.items.getD []).length ≤ 60) → kCf l ≤ l.length * 62 := fun l => by
    induction l with
    | nil => intro _; simp [kCf]
    | cons a l ih =>
      intro h
      have e : kCf (a :: l) = 2 + (a.items.getD []).length + kCf l := by simp [kCf]
      have := ih fun b hb => h b (List.mem_cons_of_mem _ hb)
      have := h a List.mem_cons_self
      rw [e, List.length_cons]
      omega
  have hl : (g.getD []).length ≤ 60 := by simpa [kBu] using h1
  have := key (g.getD []) fun a ha => h2 _ (List.mem_map_of_mem (f := rowLn) ha)
  omega
theorem kH6 (a : Sl Box) (gap : Int) (ha : (a.getD []).length ≤ maxLen) : t_q13 a gap = some true := by
  rw [maxLen_eq] at ha
  unfold t_q13
  have ws : wr (1048576 - (((a.getD []).length : Nat) : Int)) = 1048576 - (((a.getD []).length : Nat) : Int) := kBg (by omega) (by omega)
  by_cases c1 : 1048576 - (((a.getD []).length : Nat) : Int) < 0
  · have sz : t_q24 a 1048576 = some (-1) := by
      unfold t_q24
      rw [ws]
      simp [c1]
    rw [sz, kA2]
    rfl
  have sz : t_q24 a 1048576 = some (1048576 - (((a.getD []).length : Nat) : Int)) := by
    unfold t_q24
    rw [ws]
    simp [c1]
  have d1 : decide (1048576 - (((a.getD []).length : Nat) : Int) < 0) = false := decide_eq_false c1
  rw [sz, kA2, d1, cond_false]
  obtain ⟨B, hB⟩ : ∃ B, a.getD [] = B := ⟨_, rfl⟩
  have tb := toBoxS_ok a (by omega)
  rw [hB] at tb c1 ha
  obtain ⟨g, w, n, G1, G2, hgw, hgl, hgt⟩ := linesOf_both B gap (by omega)
  have E1 := eqLn_ok hgw (by omega) (fun r hr => by have := hgt r hr; omega)
  have E2 := eqB_ok (a := some B) (b := some B) rfl (by simp only [Option.getD_some]; omega)
  have M1 : t_q21 (some B) 1 = some (1 + 4 * ((B.length : Nat) : Int), some (mkB 1 B.length)) := by
    unfold t_q21
    have d1 : decide ((0 : Int) ≤ 1) = true := by decide
    have d2 : decide (1 + 4 * ((((some B : Sl Box).getD []).length : Nat) : Int) ≤ 1000000000) = true := decide_eq_true (by simp only [Option.getD_some]; omega)
    rw [d1, d2]
    rfl
  have tl := totLn_le hgl hgt
  obtain ⟨v, r, M3, H, r0⟩ := marksLn g (by have : (kBu g).length = (g.getD []).length := by simp [kBu]
                                            omega) (by omega)
  have z1 : decide (1 + 4 * ((B.length : Nat) : Int) < 0) = false := decide_eq_false (by omega)
  have z2 : decide (r < 0) = false := decide_eq_false (by omega)
  simp only [tb, kA2, G1, G2, E1, E2, decide_true, Bool.not_true, cond_false, M1, z1, M3, H, z2]
theorem ok_q13 : kAo Try.prog n_q13 (G2 (fun (a : Sl Box) (_ : Int) => Wt.big a) fun _ _ => bv true) := lawC2 tt_q13 fun a b h => kH6 a b (big_len h)
theorem kHn (a : Sl Box) (b : Int) (ha : Row.fine a) (_ : Row.fine b) : G2 (fun (a : Sl Box) (_ : Int) => Wt.big a) (fun _ _ => bv true) [enc a, enc b] = some (bv true) := G2_enc _ _ a b (Wt.fb a ha)
theorem isC_2 {cs : List AV} (h : IsC Try.prog 2 cs) : ∃ x : Int, cs = Row.cells x ∧ Row.fine x := by
  obtain ⟨n, rfl, hn⟩ := IsC.intE Try.underlying2 h
  exact ⟨n, rfl, fine_int hn⟩
theorem isC_46 {cs : List AV} (h : IsC Try.prog 46 cs) : ∃ x : Box, cs = Row.cells x ∧ Row.fine x := by
  replace h := IsC.structE Try.underlying46 h
  obtain ⟨c0, r0, rfl, q0, k0⟩ := IsFs.consE h
  obtain ⟨c1, r1, rfl, q1, k1⟩ := IsFs.consE k0
  obtain ⟨c2, r2, rfl, q2, k2⟩ := IsFs.consE k1
  obtain ⟨c3, r3, rfl, q3, k3⟩ := IsFs.consE k2
  cases IsFs.nilE k3
  obtain ⟨v0, rfl, w0⟩ := isC_2 q0
  obtain ⟨v1, rfl, w1⟩ := isC_2 q1
  obtain ⟨v2, rfl, w2⟩ := isC_2 q2
  obtain ⟨v3, rfl, w3⟩ := isC_2 q3
  exact ⟨⟨v0, v1, v2, v3⟩, rfl, w0, w1, w2, w3⟩
theorem isC_22 {cs : List AV} (h : IsC Try.prog 22 cs) : ∃ x : (Sl Box), cs = Row.cells x ∧ Row.fine x := by
  rcases IsC.sliceE Try.underlying22 h with rfl | ⟨rows, rfl, h1, h2⟩
  · exact ⟨none, rfl, Sl.fineNil⟩
  · exact Sl.isC (by kernel_rfl) h1 fun row hr => isC_46 (h2 row hr)
theorem own : ownKnob Try.prog.godebug = none := by kernel_rfl
theorem laidOut : laidOutB Try.prog = true := by kernel_rfl
set_option maxRecDepth 100000 in
theorem holds : Rows.FnExactLinesOfSaid :=
  OpenClaim.holds_of_wide 3 Try.f3 rfl rfl rfl rfl rfl rfl rfl ⟨rfl, rfl, rfl, rfl, rfl⟩ rfl rfl rfl rfl rfl (by kernel_rfl) Try.func3 (by kernel_rfl)
    (of_decide_eq_true (by kernel_rfl)) (by unfold Func.isWrapper; rw [if_neg (by decide +kernel)]; exact ⟨rfl, rfl⟩)
    (fun os started H enc _ => law_lifted (C := Try.checked) (s := Rows.fnExactLinesOfSpec) own started (by kernel_rfl) Try.func3
      (ChangeSpec.witness6 (enc := enc) (C := Try.checked) false ⟨#[], #[.slice none 0 0, .int .i64 0], []⟩ 8 (by kernel_rfl) (by kernel_rfl) (by kernel_rfl) (by kernel_rfl))
      laidOut rfl (tb := 4) rfl Try.underlying4 (ts := [22, 46, 2]) (by kernel_rfl)
      (fun ds h => by match ds, h with | [d0, d1], _ => rfl)
      hb_q13 ok_q13 (by
    intro l h
    obtain ⟨a0, l0, rfl, g0, k0⟩ := h
    obtain ⟨a1, l1, rfl, g1, k1⟩ := k0
    cases k1
    obtain ⟨b0, e0, w0⟩ := isC_22 (isV_one (by kernel_rfl) g0)
    obtain rfl := one_enc e0
    obtain ⟨b1, e1, w1⟩ := isC_2 (isV_one (by kernel_rfl) g1)
    obtain rfl := one_enc e1
    exact kHn b0 b1 w0 w1) (by kernel_rfl))
#print axioms holds
end Go.Proofs.Ytfhffgfbnlikjaa
