import Derived.Test.YtokbncnochagaaaFnExactParseSymbolsPartA
namespace Go.Proofs.Ytokbncnochagaaa
open Go Go.Eng Go.Eng.Cod
set_option maxRecDepth 100000
set_option linter.unusedVariables false
set_option linter.unusedSimpArgs false
theorem ts_q19 (env : Nat → Contract) (he_q12 : env n_q12 = .pure (C2 (fun c : Int => enc c) t_q12)) (he_q15 : env n_q15 = .pure (C4 (fun c : Int × Bool => AV.tup [enc c.1, enc c.2]) t_q15)) {B : Base} {h : kA6} {o_ : Nat} {x_boxes_ : AV} {x_best_ : AV} {x_count_ : AV} (p_ : Parser) (set_ : Int) (c_ : Choice) (sign_ : Box) (O : Hold B h [(AV.ptr o_ 1 0 0, .pt 4 [Sl.enc p_.list, x_boxes_, x_best_, x_count_]), (x_boxes_, obS (p_.boxes : Sl Box)), (x_best_, obS (p_.best : Sl Choice)), (x_count_, obS (p_.count : Sl Int))]) : Sim (kAh Try.prog env kFq [AV.ptr o_ 1 0 0, iv set_, AV.agg [iv c_.kind, iv c_.sign, iv c_.a, iv c_.b, iv c_.cost], AV.agg [iv sign_.x1, iv sign_.y1, iv sign_.x2, iv sign_.y2]] h) (t_q19 p_ set_ c_ sign_) (fun c p => ∃ x1, ∃ x2, ∃ x3, p.1 = und ∧ Hold B p.2 ([(AV.ptr o_ 1 0 0, .pt 4 [Sl.enc c.list, x1, x2, x3]), (x1, obS (c.boxes : Sl Box)), (x2, obS (c.best : Sl Choice)), (x3, obS (c.count : Sl Int))])) := by
  rw [e_q19]
  unfold t_q19
  refine kBd O (cs := [iv c_.kind, iv c_.sign, iv c_.a, iv c_.b, iv c_.cost]) (by first | rfl | simp) (fun o1 h2 O3 => ?_)
  replace O3 : Hold B h2 [(AV.ptr o_ 1 0 0, .pt 4 [Sl.enc p_.list, x_boxes_, x_best_, x_count_]), (x_boxes_, obS (p_.boxes : Sl Box)), (x_best_, obS (p_.best : Sl Choice)), (x_count_, obS (p_.count : Sl Int)), (AV.ptr o1 1 0 0, .pt 5 [iv c_.kind, iv c_.sign, iv c_.a, iv c_.b, iv c_.cost])] := O3
  refine kBd O3 (cs := [iv sign_.x1, iv sign_.y1, iv sign_.x2, iv sign_.y2]) (by first | rfl | simp) (fun o5 h6 O7 => ?_)
  replace O7 : Hold B h6 [(AV.ptr o_ 1 0 0, .pt 4 [Sl.enc p_.list, x_boxes_, x_best_, x_count_]), (x_boxes_, obS (p_.boxes : Sl Box)), (x_best_, obS (p_.best : Sl Choice)), (x_count_, obS (p_.count : Sl Int)), (AV.ptr o1 1 0 0, .pt 5 [iv c_.kind, iv c_.sign, iv c_.a, iv c_.b, iv c_.cost]), (AV.ptr o5 1 0 0, .pt 4 [iv sign_.x1, iv sign_.y1, iv sign_.x2, iv sign_.y2])] := O7
  refine kA1 (v := AV.ptr o_ 1 0 0) rfl ?_
  refine kA1 (v := AV.ptr o_ 1 0 3) rfl ?_
  refine kA1 (v := x_count_) (O7.ld 0 rfl false 1 3) ?_
  refine kA1 (v := AV.ptr o1 1 0 2) rfl ?_
  refine kA1 (v := iv c_.a) (O7.ld 4 rfl false 1 2) ?_
  refine kAo (O7.tab (A := Int) (s := p_.count) 3 rfl) (fun m10 a9 hi11 hm12 => ?_)
  refine kA1 (v := iv a9) ((O7.tab (A := Int) (s := p_.count) 3 rfl).ld hm12 false 1 0) ?_
  refine kA1 (v := bv (decide (a9 = 0))) (kAv _ _) ?_
  refine sim_g4F (e := bv) (fun hb13 => ?_) (fun y15 y16 y17 c14 => ?_)
  · refine kCh ?_
    refine kA1 (v := AV.ptr o1 1 0 3) rfl ?_
    refine kBp ?_
    refine kCh ?_
    refine kA1 (v := iv c_.b) (O7.ld 4 rfl false 1 3) ?_
    refine kBp ?_
    refine kCh ?_
    refine kA1 (v := bv (!decide (c_.b = 0))) (kCi _ _) ?_
    refine kBp ?_
    exact kA8 rfl
  · simp only [gv_FT]
    refine sim_g9T (e := bv) (fun hb18 => ?_) (fun y24 y25 y26 y27 y28 y29 y30 y31 c23 => ?_)
    · refine kBp ?_
      refine kCh ?_
      refine kA1 (v := AV.ptr o_ 1 0 0) rfl ?_
      refine kBp ?_
      refine kCh ?_
      refine kA1 (v := AV.ptr o_ 1 0 3) rfl ?_
      refine kBp ?_
      refine kCh ?_
      refine kA1 (v := x_count_) (O7.ld 0 rfl false 1 3) ?_
      refine kBp ?_
      refine kCh ?_
      refine kA1 (v := AV.ptr o1 1 0 3) rfl ?_
      refine kBp ?_
      refine kCh ?_
      refine kA1 (v := iv c_.b) (O7.ld 4 rfl false 1 3) ?_
      refine kBp ?_
      refine kCh ?_
      refine kAo (O7.tab (A := Int) (s := p_.count) 3 rfl) (fun m20 a19 hi21 hm22 => ?_)
      refine kBp ?_
      refine kCh ?_
      refine kA1 (v := iv a19) ((O7.tab (A := Int) (s := p_.count) 3 rfl).ld hm22 false 1 0) ?_
      refine kBp ?_
      refine kA1 (v := bv (decide (a19 = 0))) (kAv _ _) ?_
      exact kA8 rfl
    · refine kBr (e := bv) (fun hb32 => ?_) (fun c33 => ?_)
      · simp only [hb32, cond_true, cond_false, Bool.not_true, Bool.not_false, Bool.true_and, Bool.and_true, Bool.false_and, Bool.not_not]
        refine kA1 (v := bv (bif c14 then c23 else false)) (pick_b _ _ _) ?_
        exact kA8 rfl
      · refine kA1 (v := bv (bif decide (a9 = 0) then true else c33)) (kCt _ _ _) ?_
        refine kAc (fun c34 => ?_) (fun c34 => ?_)
        · have O35 : Hold B h6 [(AV.ptr o_ 1 0 0, .pt 4 [Sl.enc p_.list, x_boxes_, x_best_, x_count_]), (x_boxes_, obS (p_.boxes : Sl Box)), (x_best_, obS (p_.best : Sl Choice)), (x_count_, obS (p_.count : Sl Int))] := O7.sel [0, 1, 2, 3] (by decide) rfl
          exact kA8 ⟨_, _, _, rfl, O35⟩
        · refine kA1 (v := AV.ptr o_ 1 0 0) rfl ?_
          refine kA1 (v := AV.ptr o_ 1 0 3) rfl ?_
          refine kA1 (v := x_count_) (O7.ld 0 rfl false 1 3) ?_
          refine kA1 (v := AV.ptr o1 1 0 2) rfl ?_
          refine kA1 (v := iv c_.a) (O7.ld 4 rfl false 1 2) ?_
          refine kAo (O7.tab (A := Int) (s := p_.count) 3 rfl) (fun m37 a36 hi38 hm39 => ?_)
          refine kA1 (v := iv a36) ((O7.tab (A := Int) (s := p_.count) 3 rfl).ld hm39 false 1 0) ?_
          refine kA1 (v := AV.ptr o_ 1 0 0) rfl ?_
          refine kA1 (v := AV.ptr o_ 1 0 2) rfl ?_
          refine kA1 (v := x_best_) (O7.ld 0 rfl false 1 2) ?_
          refine kA1 (v := AV.ptr o1 1 0 2) rfl ?_
          refine kA1 (v := iv c_.a) (O7.ld 4 rfl false 1 2) ?_
          refine kAo (O7.tab (A := Choice) (s := p_.best) 2 rfl) (fun m41 a40 hi42 hm43 => ?_)
          refine kA1 (v := elp x_best_ m41 4) ((O7.tab (A := Choice) (s := p_.best) 2 rfl).fld _ _ _) ?_
          refine kA1 (v := iv a40.cost) ((O7.tab (A := Choice) (s := p_.best) 2 rfl).ld hm43 false 1 4) ?_
          refine kA1 (v := AV.ptr o_ 1 0 0) rfl ?_
          refine kA1 (v := AV.ptr o_ 1 0 1) rfl ?_
          refine kA1 (v := x_boxes_) (O7.ld 0 rfl false 1 1) ?_
          refine kA1 (v := AV.ptr o1 1 0 2) rfl ?_
          refine kA1 (v := iv c_.a) (O7.ld 4 rfl false 1 2) ?_
          refine kAo (O7.tab (A := Box) (s := p_.boxes) 1 rfl) (fun m45 a44 hi46 hm47 => ?_)
          refine kA1 (v := AV.agg [iv a44.x1, iv a44.y1, iv a44.x2, iv a44.y2]) ((O7.tab (A := Box) (s := p_.boxes) 1 rfl).ld hm47 true 4 0) ?_
          refine kBd O7 (cs := [iv 0, iv 0, iv 0, iv 0]) (by first | rfl | simp) (fun o48 h49 O50 => ?_)
          replace O50 : Hold B h49 [(AV.ptr o_ 1 0 0, .pt 4 [Sl.enc p_.list, x_boxes_, x_best_, x_count_]), (x_boxes_, obS (p_.boxes : Sl Box)), (x_best_, obS (p_.best : Sl Choice)), (x_count_, obS (p_.count : Sl Int)), (AV.ptr o1 1 0 0, .pt 5 [iv c_.kind, iv c_.sign, iv c_.a, iv c_.b, iv c_.cost]), (AV.ptr o5 1 0 0, .pt 4 [iv sign_.x1, iv sign_.y1, iv sign_.x2, iv sign_.y2]), (AV.ptr o48 1 0 0, .pt 4 [iv 0, iv 0, iv 0, iv 0])] := O50
          refine kAy O50 6 (cs' := [iv a44.x1, iv a44.y1, iv a44.x2, iv a44.y2]) rfl (by first | rfl | simp) (by simp) (by first | rfl | simp) (by first | rfl | simp [kAi]) (fun h52 O53 => ?_)
          replace O53 : Hold B h52 [(AV.ptr o_ 1 0 0, .pt 4 [Sl.enc p_.list, x_boxes_, x_best_, x_count_]), (x_boxes_, obS (p_.boxes : Sl Box)), (x_best_, obS (p_.best : Sl Choice)), (x_count_, obS (p_.count : Sl Int)), (AV.ptr o1 1 0 0, .pt 5 [iv c_.kind, iv c_.sign, iv c_.a, iv c_.b, iv c_.cost]), (AV.ptr o5 1 0 0, .pt 4 [iv sign_.x1, iv sign_.y1, iv sign_.x2, iv sign_.y2]), (AV.ptr o48 1 0 0, .pt 4 [iv a44.x1, iv a44.y1, iv a44.x2, iv a44.y2])] := O53
          refine kA1 (v := AV.ptr o1 1 0 3) rfl ?_
          refine kA1 (v := iv c_.b) (O53.ld 4 rfl false 1 3) ?_
          refine kA1 (v := bv (!decide (c_.b = 0))) (kCi _ _) ?_
          refine kAc (fun c54 => ?_) (fun c54 => ?_)
          · refine kA1 (v := AV.ptr o_ 1 0 0) rfl ?_
            refine kA1 (v := AV.ptr o_ 1 0 3) rfl ?_
            refine kA1 (v := x_count_) (O53.ld 0 rfl false 1 3) ?_
            refine kA1 (v := AV.ptr o1 1 0 3) rfl ?_
            refine kA1 (v := iv c_.b) (O53.ld 4 rfl false 1 3) ?_
            refine kAo (O53.tab (A := Int) (s := p_.count) 3 rfl) (fun m56 a55 hi57 hm58 => ?_)
            refine kA1 (v := iv a55) ((O53.tab (A := Int) (s := p_.count) 3 rfl).ld hm58 false 1 0) ?_
            refine kA1 (v := iv (wr (a36 * a55))) (aBin_mul _ _) ?_
            refine kA1 (v := AV.ptr o_ 1 0 0) rfl ?_
            refine kA1 (v := AV.ptr o_ 1 0 2) rfl ?_
            refine kA1 (v := x_best_) (O53.ld 0 rfl false 1 2) ?_
            refine kA1 (v := AV.ptr o1 1 0 3) rfl ?_
            refine kA1 (v := iv c_.b) (O53.ld 4 rfl false 1 3) ?_
            refine kAo (O53.tab (A := Choice) (s := p_.best) 2 rfl) (fun m60 a59 hi61 hm62 => ?_)
            refine kA1 (v := elp x_best_ m60 4) ((O53.tab (A := Choice) (s := p_.best) 2 rfl).fld _ _ _) ?_
            refine kA1 (v := iv a59.cost) ((O53.tab (A := Choice) (s := p_.best) 2 rfl).ld hm62 false 1 4) ?_
            refine kA1 (v := iv (wr (a40.cost + a59.cost))) (kAd _ _) ?_
            refine kA1 (v := AV.ptr o_ 1 0 0) rfl ?_
            refine kA1 (v := AV.ptr o_ 1 0 1) rfl ?_
            refine kA1 (v := x_boxes_) (O53.ld 0 rfl false 1 1) ?_
            refine kA1 (v := AV.ptr o1 1 0 3) rfl ?_
            refine kA1 (v := iv c_.b) (O53.ld 4 rfl false 1 3) ?_
            refine kAo (O53.tab (A := Box) (s := p_.boxes) 1 rfl) (fun m64 a63 hi65 hm66 => ?_)
            refine kA1 (v := AV.agg [iv a63.x1, iv a63.y1, iv a63.x2, iv a63.y2]) ((O53.tab (A := Box) (s := p_.boxes) 1 rfl).ld hm66 true 4 0) ?_
            refine kAy O53 6 (cs' := [iv a63.x1, iv a63.y1, iv a63.x2, iv a63.y2]) rfl (by first | rfl | simp) (by simp) (by first | rfl | simp) (by first | rfl | simp [kAi]) (fun h67 O68 => ?_)
            replace O68 : Hold B h67 [(AV.ptr o_ 1 0 0, .pt 4 [Sl.enc p_.list, x_boxes_, x_best_, x_count_]), (x_boxes_, obS (p_.boxes : Sl Box)), (x_best_, obS (p_.best : Sl Choice)), (x_count_, obS (p_.count : Sl Int)), (AV.ptr o1 1 0 0, .pt 5 [iv c_.kind, iv c_.sign, iv c_.a, iv c_.b, iv c_.cost]), (AV.ptr o5 1 0 0, .pt 4 [iv sign_.x1, iv sign_.y1, iv sign_.x2, iv sign_.y2]), (AV.ptr o48 1 0 0, .pt 4 [iv a63.x1, iv a63.y1, iv a63.x2, iv a63.y2])] := O68
            refine kA1 (v := AV.ptr o1 1 0 0) rfl ?_
            refine kA1 (v := iv c_.kind) (O68.ld 4 rfl false 1 0) ?_
            refine kA1 (v := AV.ptr o_ 1 0 0) rfl ?_
            refine kA1 (v := AV.ptr o_ 1 0 1) rfl ?_
            refine kA1 (v := x_boxes_) (O68.ld 0 rfl false 1 1) ?_
            refine kA1 (v := AV.ptr o1 1 0 2) rfl ?_
            refine kA1 (v := iv c_.a) (O68.ld 4 rfl false 1 2) ?_
            refine kAo (O68.tab (A := Box) (s := p_.boxes) 1 rfl) (fun m70 a69 hi71 hm72 => ?_)
            refine kA1 (v := AV.agg [iv a69.x1, iv a69.y1, iv a69.x2, iv a69.y2]) ((O68.tab (A := Box) (s := p_.boxes) 1 rfl).ld hm72 true 4 0) ?_
            refine kA1 (v := AV.agg [iv a63.x1, iv a63.y1, iv a63.x2, iv a63.y2]) (O68.ld 6 rfl true 4 0) ?_
            refine kA1 (v := AV.agg [iv sign_.x1, iv sign_.y1, iv sign_.x2, iv sign_.y2]) (O68.ld 5 rfl true 4 0) ?_
            refine kEx he_q15 (kAm _ _) (kAf _ a69 rfl) (kAf _ a63 rfl) (kAf _ sign_ rfl) (fun c73 => ?_)
            refine kB4 (kAe (by rfl) _ _) ?_
            refine kA1 (v := iv c73.1) rfl ?_
            refine kA1 (v := bv c73.2) rfl ?_
            refine kA1 (v := bv (!c73.2)) (kD4 _) ?_
            refine kAc (fun c74 => ?_) (fun c74 => ?_)
            · have O75 : Hold B h67 [(AV.ptr o_ 1 0 0, .pt 4 [Sl.enc p_.list, x_boxes_, x_best_, x_count_]), (x_boxes_, obS (p_.boxes : Sl Box)), (x_best_, obS (p_.best : Sl Choice)), (x_count_, obS (p_.count : Sl Int))] := O68.sel [0, 1, 2, 3] (by decide) rfl
              exact kA8 ⟨_, _, _, rfl, O75⟩
            · refine kA1 (v := iv (wr ((wr (a40.cost + a59.cost)) + c73.1))) (kAd _ _) ?_
              refine kA1 (v := AV.ptr o1 1 0 4) rfl ?_
              refine kAy O68 4 (cs' := [iv c_.kind, iv c_.sign, iv c_.a, iv c_.b, iv (wr ((wr (a40.cost + a59.cost)) + c73.1))]) rfl (by first | rfl | simp) (by simp) (by first | rfl | simp) (by first | rfl | simp [kAi]) (fun h76 O77 => ?_)
              replace O77 : Hold B h76 [(AV.ptr o_ 1 0 0, .pt 4 [Sl.enc p_.list, x_boxes_, x_best_, x_count_]), (x_boxes_, obS (p_.boxes : Sl Box)), (x_best_, obS (p_.best : Sl Choice)), (x_count_, obS (p_.count : Sl Int)), (AV.ptr o1 1 0 0, .pt 5 [iv c_.kind, iv c_.sign, iv c_.a, iv c_.b, iv (wr ((wr (a40.cost + a59.cost)) + c73.1))]), (AV.ptr o5 1 0 0, .pt 4 [iv sign_.x1, iv sign_.y1, iv sign_.x2, iv sign_.y2]), (AV.ptr o48 1 0 0, .pt 4 [iv a63.x1, iv a63.y1, iv a63.x2, iv a63.y2])] := O77
              refine kA1 (v := AV.ptr o_ 1 0 0) rfl ?_
              refine kA1 (v := AV.ptr o_ 1 0 3) rfl ?_
              refine kA1 (v := x_count_) (O77.ld 0 rfl false 1 3) ?_
              refine kAo (O77.tab (A := Int) (s := p_.count) 3 rfl) (fun m79 a78 hi80 hm81 => ?_)
              refine kA1 (v := iv a78) ((O77.tab (A := Int) (s := p_.count) 3 rfl).ld hm81 false 1 0) ?_
              refine kA1 (v := bv (decide (a78 = 0))) (kAv _ _) ?_
              refine sim_g10F (e := bv) (fun hb82 => ?_) (fun y89 y90 y91 y92 y93 y94 y95 y96 y97 c88 => ?_)
              · refine kCh ?_
                refine kA1 (v := AV.agg [iv c_.kind, iv c_.sign, iv c_.a, iv c_.b, iv (wr ((wr (a40.cost + a59.cost)) + c73.1))]) (O77.ld 4 rfl true 5 0) ?_
                refine kBp ?_
                refine kBp ?_
                refine kCh ?_
                refine kA1 (v := AV.ptr o_ 1 0 0) rfl ?_
                refine kBp ?_
                refine kCh ?_
                refine kA1 (v := AV.ptr o_ 1 0 2) rfl ?_
                refine kBp ?_
                refine kCh ?_
                refine kA1 (v := x_best_) (O77.ld 0 rfl false 1 2) ?_
                refine kBp ?_
                refine kBp ?_
                refine kCh ?_
                refine kAo (O77.tab (A := Choice) (s := p_.best) 2 rfl) (fun m84 a83 hi85 hm86 => ?_)
                refine kBp ?_
                refine kCh ?_
                refine kA1 (v := AV.agg [iv a83.kind, iv a83.sign, iv a83.a, iv a83.b, iv a83.cost]) ((O77.tab (A := Choice) (s := p_.best) 2 rfl).ld hm86 true 5 0) ?_
                refine kBp ?_
                refine sim_o2 ?_
                refine kHq he_q12 (kAf _ (⟨c_.kind, c_.sign, c_.a, c_.b, wr ((wr (a40.cost + a59.cost)) + c73.1)⟩ : Choice) rfl) (kAf _ a83 rfl) (fun c87 => ?_)
                refine kB4 (kAe (by rfl) _ _) ?_
                refine kBp ?_
                refine kA1 (v := bv (decide (c87 < 0))) (kB8 _ _) ?_
                exact kA8 rfl
              · refine kA1 (v := bv (bif decide (a78 = 0) then true else c88)) (kCt _ _ _) ?_
                refine kAc (fun c98 => ?_) (fun c98 => ?_)
                · refine kA1 (v := AV.ptr o_ 1 0 0) rfl ?_
                  refine kA1 (v := AV.ptr o_ 1 0 2) rfl ?_
                  refine kA1 (v := x_best_) (O77.ld 0 rfl false 1 2) ?_
                  refine kA1 (v := AV.agg [iv c_.kind, iv c_.sign, iv c_.a, iv c_.b, iv (wr ((wr (a40.cost + a59.cost)) + c73.1))]) (O77.ld 4 rfl true 5 0) ?_
                  refine kAo (O77.tab (A := Choice) (s := p_.best) 2 rfl) (fun m100 a99 hi101 hm102 => ?_)
                  refine kB6 (A := Choice) O77 2 (⟨c_.kind, c_.sign, c_.a, c_.b, wr ((wr (a40.cost + a59.cost)) + c73.1)⟩ : Choice) rfl hi101 hm102 rfl (by simp) (by first | rfl | simp) (by first | rfl | simp [kAi]) (fun h103 O104 => ?_)
                  replace O104 : Hold B h103 [(AV.ptr o_ 1 0 0, .pt 4 [Sl.enc p_.list, x_boxes_, x_best_, x_count_]), (x_boxes_, obS (p_.boxes : Sl Box)), (x_best_, obS ((kB1 p_.best set_ (⟨c_.kind, c_.sign, c_.a, c_.b, wr ((wr (a40.cost + a59.cost)) + c73.1)⟩ : Choice)) : Sl Choice)), (x_count_, obS (p_.count : Sl Int)), (AV.ptr o1 1 0 0, .pt 5 [iv c_.kind, iv c_.sign, iv c_.a, iv c_.b, iv (wr ((wr (a40.cost + a59.cost)) + c73.1))]), (AV.ptr o5 1 0 0, .pt 4 [iv sign_.x1, iv sign_.y1, iv sign_.x2, iv sign_.y2]), (AV.ptr o48 1 0 0, .pt 4 [iv a63.x1, iv a63.y1, iv a63.x2, iv a63.y2])] := O104
                  refine kA1 (v := AV.ptr o_ 1 0 0) rfl ?_
                  refine kA1 (v := AV.ptr o_ 1 0 3) rfl ?_
                  refine kA1 (v := x_count_) (O104.ld 0 rfl false 1 3) ?_
                  refine kAo (O104.tab (A := Int) (s := p_.count) 3 rfl) (fun m106 a105 hi107 hm108 => ?_)
                  refine kA1 (v := iv a105) ((O104.tab (A := Int) (s := p_.count) 3 rfl).ld hm108 false 1 0) ?_
                  refine kA1 (v := iv (wr (a105 + (wr (a36 * a55))))) (kAd _ _) ?_
                  refine kAo (O104.tab (A := Int) (s := p_.count) 3 rfl) (fun m110 a109 hi111 hm112 => ?_)
                  refine kB6 (A := Int) O104 3 (wr (a105 + (wr (a36 * a55)))) rfl hi111 hm112 rfl (by simp) (by first | rfl | simp) (by first | rfl | simp [kAi]) (fun h113 O114 => ?_)
                  replace O114 : Hold B h113 [(AV.ptr o_ 1 0 0, .pt 4 [Sl.enc p_.list, x_boxes_, x_best_, x_count_]), (x_boxes_, obS (p_.boxes : Sl Box)), (x_best_, obS ((kB1 p_.best set_ (⟨c_.kind, c_.sign, c_.a, c_.b, wr ((wr (a40.cost + a59.cost)) + c73.1)⟩ : Choice)) : Sl Choice)), (x_count_, obS ((kB1 p_.count set_ (wr (a105 + (wr (a36 * a55))))) : Sl Int)), (AV.ptr o1 1 0 0, .pt 5 [iv c_.kind, iv c_.sign, iv c_.a, iv c_.b, iv (wr ((wr (a40.cost + a59.cost)) + c73.1))]), (AV.ptr o5 1 0 0, .pt 4 [iv sign_.x1, iv sign_.y1, iv sign_.x2, iv sign_.y2]), (AV.ptr o48 1 0 0, .pt 4 [iv a63.x1, iv a63.y1, iv a63.x2, iv a63.y2])] := O114
                  have O115 : Hold B h113 [(AV.ptr o_ 1 0 0, .pt 4 [Sl.enc p_.list, x_boxes_, x_best_, x_count_]), (x_boxes_, obS (p_.boxes : Sl Box)), (x_best_, obS ((kB1 p_.best set_ (⟨c_.kind, c_.sign, c_.a, c_.b, wr ((wr (a40.cost + a59.cost)) + c73.1)⟩ : Choice)) : Sl Choice)), (x_count_, obS ((kB1 p_.count set_ (wr (a105 + (wr (a36 * a55))))) : Sl Int))] := O114.sel [0, 1, 2, 3] (by decide) rfl
                  exact kA8 ⟨_, _, _, rfl, O115⟩
                · refine kA1 (v := AV.ptr o_ 1 0 0) rfl ?_
                  refine kA1 (v := AV.ptr o_ 1 0 3) rfl ?_
                  refine kA1 (v := x_count_) (O77.ld 0 rfl false 1 3) ?_
                  refine kAo (O77.tab (A := Int) (s := p_.count) 3 rfl) (fun m117 a116 hi118 hm119 => ?_)
                  refine kA1 (v := iv a116) ((O77.tab (A := Int) (s := p_.count) 3 rfl).ld hm119 false 1 0) ?_
                  refine kA1 (v := iv (wr (a116 + (wr (a36 * a55))))) (kAd _ _) ?_
                  refine kAo (O77.tab (A := Int) (s := p_.count) 3 rfl) (fun m121 a120 hi122 hm123 => ?_)
                  refine kB6 (A := Int) O77 3 (wr (a116 + (wr (a36 * a55)))) rfl hi122 hm123 rfl (by simp) (by first | rfl | simp) (by first | rfl | simp [kAi]) (fun h124 O125 => ?_)
                  replace O125 : Hold B h124 [(AV.ptr o_ 1 0 0, .pt 4 [Sl.enc p_.list, x_boxes_, x_best_, x_count_]), (x_boxes_, obS (p_.boxes : Sl Box)), (x_best_, obS (p_.best : Sl Choice)), (x_count_, obS ((kB1 p_.count set_ (wr (a116 + (wr (a36 * a55))))) : Sl Int)), (AV.ptr o1 1 0 0, .pt 5 [iv c_.kind, iv c_.sign, iv c_.a, iv c_.b, iv (wr ((wr (a40.cost + a59.cost)) + c73.1))]), (AV.ptr o5 1 0 0, .pt 4 [iv sign_.x1, iv sign_.y1, iv sign_.x2, iv sign_.y2]), (AV.ptr o48 1 0 0, .pt 4 [iv a63.x1, iv a63.y1, iv a63.x2, iv a63.y2])] := O125
                  have O126 : Hold B h124 [(AV.ptr o_ 1 0 0, .pt 4 [Sl.enc p_.list, x_boxes_, x_best_, x_count_]), (x_boxes_, obS (p_.boxes : Sl Box)), (x_best_, obS (p_.best : Sl Choice)), (x_count_, obS ((kB1 p_.count set_ (wr (a116 + (wr (a36 * a55))))) : Sl Int))] := O125.sel [0, 1, 2, 3] (by decide) rfl
                  exact kA8 ⟨_, _, _, rfl, O126⟩
          · refine kA1 (v := AV.ptr o1 1 0 0) rfl ?_
            refine kA1 (v := iv c_.kind) (O53.ld 4 rfl false 1 0) ?_
            refine kA1 (v := AV.ptr o_ 1 0 0) rfl ?_
            refine kA1 (v := AV.ptr o_ 1 0 1) rfl ?_
            refine kA1 (v := x_boxes_) (O53.ld 0 rfl false 1 1) ?_
            refine kA1 (v := AV.ptr o1 1 0 2) rfl ?_
            refine kA1 (v := iv c_.a) (O53.ld 4 rfl false 1 2) ?_
            refine kAo (O53.tab (A := Box) (s := p_.boxes) 1 rfl) (fun m128 a127 hi129 hm130 => ?_)
            refine kA1 (v := AV.agg [iv a127.x1, iv a127.y1, iv a127.x2, iv a127.y2]) ((O53.tab (A := Box) (s := p_.boxes) 1 rfl).ld hm130 true 4 0) ?_
            refine kA1 (v := AV.agg [iv a44.x1, iv a44.y1, iv a44.x2, iv a44.y2]) (O53.ld 6 rfl true 4 0) ?_
            refine kA1 (v := AV.agg [iv sign_.x1, iv sign_.y1, iv sign_.x2, iv sign_.y2]) (O53.ld 5 rfl true 4 0) ?_
            refine kEx he_q15 (kAm _ _) (kAf _ a127 rfl) (kAf _ a44 rfl) (kAf _ sign_ rfl) (fun c131 => ?_)
            refine kB4 (kAe (by rfl) _ _) ?_
            refine kA1 (v := iv c131.1) rfl ?_
            refine kA1 (v := bv c131.2) rfl ?_
            refine kA1 (v := bv (!c131.2)) (kD4 _) ?_
            refine kAc (fun c132 => ?_) (fun c132 => ?_)
            · have O133 : Hold B h52 [(AV.ptr o_ 1 0 0, .pt 4 [Sl.enc p_.list, x_boxes_, x_best_, x_count_]), (x_boxes_, obS (p_.boxes : Sl Box)), (x_best_, obS (p_.best : Sl Choice)), (x_count_, obS (p_.count : Sl Int))] := O53.sel [0, 1, 2, 3] (by decide) rfl
              exact kA8 ⟨_, _, _, rfl, O133⟩
            · refine kA1 (v := iv (wr (a40.cost + c131.1))) (kAd _ _) ?_
              refine kA1 (v := AV.ptr o1 1 0 4) rfl ?_
              refine kAy O53 4 (cs' := [iv c_.kind, iv c_.sign, iv c_.a, iv c_.b, iv (wr (a40.cost + c131.1))]) rfl (by first | rfl | simp) (by simp) (by first | rfl | simp) (by first | rfl | simp [kAi]) (fun h134 O135 => ?_)
              replace O135 : Hold B h134 [(AV.ptr o_ 1 0 0, .pt 4 [Sl.enc p_.list, x_boxes_, x_best_, x_count_]), (x_boxes_, obS (p_.boxes : Sl Box)), (x_best_, obS (p_.best : Sl Choice)), (x_count_, obS (p_.count : Sl Int)), (AV.ptr o1 1 0 0, .pt 5 [iv c_.kind, iv c_.sign, iv c_.a, iv c_.b, iv (wr (a40.cost + c131.1))]), (AV.ptr o5 1 0 0, .pt 4 [iv sign_.x1, iv sign_.y1, iv sign_.x2, iv sign_.y2]), (AV.ptr o48 1 0 0, .pt 4 [iv a44.x1, iv a44.y1, iv a44.x2, iv a44.y2])] := O135
              refine kA1 (v := AV.ptr o_ 1 0 0) rfl ?_
              refine kA1 (v := AV.ptr o_ 1 0 3) rfl ?_
              refine kA1 (v := x_count_) (O135.ld 0 rfl false 1 3) ?_
              refine kAo (O135.tab (A := Int) (s := p_.count) 3 rfl) (fun m137 a136 hi138 hm139 => ?_)
              refine kA1 (v := iv a136) ((O135.tab (A := Int) (s := p_.count) 3 rfl).ld hm139 false 1 0) ?_
              refine kA1 (v := bv (decide (a136 = 0))) (kAv _ _) ?_
              refine sim_g10F (e := bv) (fun hb140 => ?_) (fun y147 y148 y149 y150 y151 y152 y153 y154 y155 c146 => ?_)
              · refine kCh ?_
                refine kA1 (v := AV.agg [iv c_.kind, iv c_.sign, iv c_.a, iv c_.b, iv (wr (a40.cost + c131.1))]) (O135.ld 4 rfl true 5 0) ?_
                refine kBp ?_
                refine kBp ?_
                refine kCh ?_
                refine kA1 (v := AV.ptr o_ 1 0 0) rfl ?_
                refine kBp ?_
                refine kCh ?_
                refine kA1 (v := AV.ptr o_ 1 0 2) rfl ?_
                refine kBp ?_
                refine kCh ?_
                refine kA1 (v := x_best_) (O135.ld 0 rfl false 1 2) ?_
                refine kBp ?_
                refine kBp ?_
                refine kCh ?_
                refine kAo (O135.tab (A := Choice) (s := p_.best) 2 rfl) (fun m142 a141 hi143 hm144 => ?_)
                refine kBp ?_
                refine kCh ?_
                refine kA1 (v := AV.agg [iv a141.kind, iv a141.sign, iv a141.a, iv a141.b, iv a141.cost]) ((O135.tab (A := Choice) (s := p_.best) 2 rfl).ld hm144 true 5 0) ?_
                refine kBp ?_
                refine sim_o2 ?_
                refine kHq he_q12 (kAf _ (⟨c_.kind, c_.sign, c_.a, c_.b, wr (a40.cost + c131.1)⟩ : Choice) rfl) (kAf _ a141 rfl) (fun c145 => ?_)
                refine kB4 (kAe (by rfl) _ _) ?_
                refine kBp ?_
                refine kA1 (v := bv (decide (c145 < 0))) (kB8 _ _) ?_
                exact kA8 rfl
              · refine kA1 (v := bv (bif decide (a136 = 0) then true else c146)) (kCt _ _ _) ?_
                refine kAc (fun c156 => ?_) (fun c156 => ?_)
                · refine kA1 (v := AV.ptr o_ 1 0 0) rfl ?_
                  refine kA1 (v := AV.ptr o_ 1 0 2) rfl ?_
                  refine kA1 (v := x_best_) (O135.ld 0 rfl false 1 2) ?_
                  refine kA1 (v := AV.agg [iv c_.kind, iv c_.sign, iv c_.a, iv c_.b, iv (wr (a40.cost + c131.1))]) (O135.ld 4 rfl true 5 0) ?_
                  refine kAo (O135.tab (A := Choice) (s := p_.best) 2 rfl) (fun m158 a157 hi159 hm160 => ?_)
                  refine kB6 (A := Choice) O135 2 (⟨c_.kind, c_.sign, c_.a, c_.b, wr (a40.cost + c131.1)⟩ : Choice) rfl hi159 hm160 rfl (by simp) (by first | rfl | simp) (by first | rfl | simp [kAi]) (fun h161 O162 => ?_)
                  replace O162 : Hold B h161 [(AV.ptr o_ 1 0 0, .pt 4 [Sl.enc p_.list, x_boxes_, x_best_, x_count_]), (x_boxes_, obS (p_.boxes : Sl Box)), (x_best_, obS ((kB1 p_.best set_ (⟨c_.kind, c_.sign, c_.a, c_.b, wr (a40.cost + c131.1)⟩ : Choice)) : Sl Choice)), (x_count_, obS (p_.count : Sl Int)), (AV.ptr o1 1 0 0, .pt 5 [iv c_.kind, iv c_.sign, iv c_.a, iv c_.b, iv (wr (a40.cost + c131.1))]), (AV.ptr o5 1 0 0, .pt 4 [iv sign_.x1, iv sign_.y1, iv sign_.x2, iv sign_.y2]), (AV.ptr o48 1 0 0, .pt 4 [iv a44.x1, iv a44.y1, iv a44.x2, iv a44.y2])] := O162
                  refine kA1 (v := AV.ptr o_ 1 0 0) rfl ?_
                  refine kA1 (v := AV.ptr o_ 1 0 3) rfl ?_
                  refine kA1 (v := x_count_) (O162.ld 0 rfl false 1 3) ?_
                  refine kAo (O162.tab (A := Int) (s := p_.count) 3 rfl) (fun m164 a163 hi165 hm166 => ?_)
                  refine kA1 (v := iv a163) ((O162.tab (A := Int) (s := p_.count) 3 rfl).ld hm166 false 1 0) ?_
                  refine kA1 (v := iv (wr (a163 + a36))) (kAd _ _) ?_
                  refine kAo (O162.tab (A := Int) (s := p_.count) 3 rfl) (fun m168 a167 hi169 hm170 => ?_)
                  refine kB6 (A := Int) O162 3 (wr (a163 + a36)) rfl hi169 hm170 rfl (by simp) (by first | rfl | simp) (by first | rfl | simp [kAi]) (fun h171 O172 => ?_)
                  replace O172 : Hold B h171 [(AV.ptr o_ 1 0 0, .pt 4 [Sl.enc p_.list, x_boxes_, x_best_, x_count_]), (x_boxes_, obS (p_.boxes : Sl Box)), (x_best_, obS ((kB1 p_.best set_ (⟨c_.kind, c_.sign, c_.a, c_.b, wr (a40.cost + c131.1)⟩ : Choice)) : Sl Choice)), (x_count_, obS ((kB1 p_.count set_ (wr (a163 + a36))) : Sl Int)), (AV.ptr o1 1 0 0, .pt 5 [iv c_.kind, iv c_.sign, iv c_.a, iv c_.b, iv (wr (a40.cost + c131.1))]), (AV.ptr o5 1 0 0, .pt 4 [iv sign_.x1, iv sign_.y1, iv sign_.x2, iv sign_.y2]), (AV.ptr o48 1 0 0, .pt 4 [iv a44.x1, iv a44.y1, iv a44.x2, iv a44.y2])] := O172
                  have O173 : Hold B h171 [(AV.ptr o_ 1 0 0, .pt 4 [Sl.enc p_.list, x_boxes_, x_best_, x_count_]), (x_boxes_, obS (p_.boxes : Sl Box)), (x_best_, obS ((kB1 p_.best set_ (⟨c_.kind, c_.sign, c_.a, c_.b, wr (a40.cost + c131.1)⟩ : Choice)) : Sl Choice)), (x_count_, obS ((kB1 p_.count set_ (wr (a163 + a36))) : Sl Int))] := O172.sel [0, 1, 2, 3] (by decide) rfl
                  exact kA8 ⟨_, _, _, rfl, O173⟩
                · refine kA1 (v := AV.ptr o_ 1 0 0) rfl ?_
                  refine kA1 (v := AV.ptr o_ 1 0 3) rfl ?_
                  refine kA1 (v := x_count_) (O135.ld 0 rfl false 1 3) ?_
                  refine kAo (O135.tab (A := Int) (s := p_.count) 3 rfl) (fun m175 a174 hi176 hm177 => ?_)
                  refine kA1 (v := iv a174) ((O135.tab (A := Int) (s := p_.count) 3 rfl).ld hm177 false 1 0) ?_
                  refine kA1 (v := iv (wr (a174 + a36))) (kAd _ _) ?_
                  refine kAo (O135.tab (A := Int) (s := p_.count) 3 rfl) (fun m179 a178 hi180 hm181 => ?_)
                  refine kB6 (A := Int) O135 3 (wr (a174 + a36)) rfl hi180 hm181 rfl (by simp) (by first | rfl | simp) (by first | rfl | simp [kAi]) (fun h182 O183 => ?_)
                  replace O183 : Hold B h182 [(AV.ptr o_ 1 0 0, .pt 4 [Sl.enc p_.list, x_boxes_, x_best_, x_count_]), (x_boxes_, obS (p_.boxes : Sl Box)), (x_best_, obS (p_.best : Sl Choice)), (x_count_, obS ((kB1 p_.count set_ (wr (a174 + a36))) : Sl Int)), (AV.ptr o1 1 0 0, .pt 5 [iv c_.kind, iv c_.sign, iv c_.a, iv c_.b, iv (wr (a40.cost + c131.1))]), (AV.ptr o5 1 0 0, .pt 4 [iv sign_.x1, iv sign_.y1, iv sign_.x2, iv sign_.y2]), (AV.ptr o48 1 0 0, .pt 4 [iv a44.x1, iv a44.y1, iv a44.x2, iv a44.y2])] := O183
                  have O184 : Hold B h182 [(AV.ptr o_ 1 0 0, .pt 4 [Sl.enc p_.list, x_boxes_, x_best_, x_count_]), (x_boxes_, obS (p_.boxes : Sl Box)), (x_best_, obS (p_.best : Sl Choice)), (x_count_, obS ((kB1 p_.count set_ (wr (a174 + a36))) : Sl Int))] := O183.sel [0, 1, 2, 3] (by decide) rfl
                  exact kA8 ⟨_, _, _, rfl, O184⟩
noncomputable def kGj : Nat → Contract := kC4 [(n_q12, .pure (C2 (fun c : Int => enc c) t_q12)), (n_q15, .pure (C4 (fun c : Int × Bool => AV.tup [enc c.1, enc c.2]) t_q15))]
theorem kFc : kBz Try.prog kGj := (kCq tt_q12 (kCq tt_q15 E0))
theorem tg_q19 {B : Base} {h : kA6} {o_ : Nat} {x_boxes_ : AV} {x_best_ : AV} {x_count_ : AV} (p_ : Parser) (set_ : Int) (c_ : Choice) (sign_ : Box) (O : Hold B h [(AV.ptr o_ 1 0 0, .pt 4 [Sl.enc p_.list, x_boxes_, x_best_, x_count_]), (x_boxes_, obS (p_.boxes : Sl Box)), (x_best_, obS (p_.best : Sl Choice)), (x_count_, obS (p_.count : Sl Int))]) : Sim (kAh Try.prog kGj kFq [AV.ptr o_ 1 0 0, iv set_, AV.agg [iv c_.kind, iv c_.sign, iv c_.a, iv c_.b, iv c_.cost], AV.agg [iv sign_.x1, iv sign_.y1, iv sign_.x2, iv sign_.y2]] h) (t_q19 p_ set_ c_ sign_) (fun c p => ∃ x1, ∃ x2, ∃ x3, p.1 = und ∧ Hold B p.2 ([(AV.ptr o_ 1 0 0, .pt 4 [Sl.enc c.list, x1, x2, x3]), (x1, obS (c.boxes : Sl Box)), (x2, obS (c.best : Sl Choice)), (x3, obS (c.count : Sl Int))])) := ts_q19 kGj (by simp [kGj, kC4]) (by simp [kGj, kC4]) p_ set_ c_ sign_  O
def s1_q18 (set_ : Int) (rest_ : Int) (kinds_ : Sl Int) (sign_ : Int) (box_ : Box) (w14 : Int) : ((Sl Symbol) × (Sl Box) × (Sl Choice) × (Sl Int) × Int) → Option (Sum ((Sl Symbol) × (Sl Box) × (Sl Choice) × (Sl Int) × Int) ((Sl Symbol) × (Sl Box) × (Sl Choice) × (Sl Int))) := fun (w28, w30, w32, w34, w37) =>
  bif decide (w37 < (((kinds_.getD []).length : Nat) : Int)) then
    kA0 (kCo (kinds_.getD []) w37) fun a50 =>
    kA0 (t_q19 (⟨w28, w30, w32, w34⟩ : Parser) set_ (⟨a50, sign_, w14, kC3 rest_ w14, 0⟩ : Choice) box_) fun c55 =>
    some (.inl (c55.list, c55.boxes, c55.best, c55.count, wr (w37 + 1)))
  else
    some (.inr (w28, w30, w32, w34))
def s0_q18 (set_ : Int) (rest_ : Int) (kinds_ : Sl Int) (sign_ : Int) (box_ : Box) : ((Sl Symbol) × (Sl Box) × (Sl Choice) × (Sl Int) × Int) → Option (Sum ((Sl Symbol) × (Sl Box) × (Sl Choice) × (Sl Int) × Int) ((Sl Symbol) × (Sl Box) × (Sl Choice) × (Sl Int))) := fun (w5, w7, w9, w11, w14) =>
  bif decide (0 < w14) then
    kA0 (kBq (s1_q18 set_ rest_ kinds_ sign_ box_ w14) (w5, w7, w9, w11, 0)) fun (q40, q42, q44, q46) =>
    some (.inl (q40, q42, q44, q46, kF3 (wr (w14 - 1)) rest_))
  else
    some (.inr (w5, w7, w9, w11))
def t_q18 (p_ : Parser) (set_ : Int) (rest_ : Int) (kinds_ : Sl Int) (sign_ : Int) (box_ : Box) : Option Parser :=
  kA0 (kBq (s0_q18 set_ rest_ kinds_ sign_ box_) (p_.list, p_.boxes, p_.best, p_.count, kF3 (wr (rest_ - 1)) rest_)) fun (q17, q19, q21, q23) =>
  some (⟨q17, q19, q21, q23⟩ : Parser)
theorem tl1_q18 (env : Nat → Contract) {B : Base} (he_q19 : env kFq = .gen (kAh Try.prog kGj kFq)) (o_ : Nat) (set_ : Int) (rest_ : Int) (kinds_ : Sl Int) (sign_ : Int) (box_ : Box) (kinds_x : AV) (T_kinds_ : ∀ h, (∀ o, o < B.h0.length → o ∉ B.F → h[o]? = B.h0[o]?) → Tab h kinds_x kinds_) (o1 : Nat) (w14 : Int)  {st : (Sl Symbol) × (Sl Box) × (Sl Choice) × (Sl Int) × Int} {tm : TM} {h : kA6} (R : (fun (st : (Sl Symbol) × (Sl Box) × (Sl Choice) × (Sl Int) × Int) tm h35 => match st with | (w28, w30, w32, w34, w37) => ∃ z29 z31 z33, tm = [AV.ptr o_ 1 0 0, iv set_, iv rest_, kinds_x, iv sign_, AV.agg [iv box_.x1, iv box_.y1, iv box_.x2, iv box_.y2], und, und, und, und, und, AV.ptr o1 1 0 0, iv w14, und, .top, iv rest_, iv (wr (rest_ - 1)), iv rest_, iv (kF3 (wr (rest_ - 1)) rest_), iv w14, bv (decide (0 < w14)), .top, .top, .top, .top, kinds_x, iv (((kinds_.getD []).length : Nat) : Int), iv w37, .top, .top, .top, .top, .top, .top, .top, .top, .top, .top, .top, .top, .top, .top, .top] ∧ Hold B h35 [(AV.ptr o_ 1 0 0, .pt 4 [Sl.enc w28, z29, z31, z33]), (z29, obS (w30 : Sl Box)), (z31, obS (w32 : Sl Choice)), (z33, obS (w34 : Sl Int)), (AV.ptr o1 1 0 0, .pt 4 [iv box_.x1, iv box_.y1, iv box_.x2, iv box_.y2])]) st tm h) : Sim (kBx hm1_q18 xm1_q18 (lb1_q18 env) tm h) (kBq (s1_q18 set_ rest_ kinds_ sign_ box_ w14) st) (fun (q : (Sl Symbol) × (Sl Box) × (Sl Choice) × (Sl Int)) (r : Res) => match q with | (q40, q42, q44, q46) => ∃ (z41 : AV) (z43 : AV) (z45 : AV) (z47 : AV) (h38 : kA6), r = (.exit 2, [AV.ptr o_ 1 0 0, iv set_, iv rest_, kinds_x, iv sign_, AV.agg [iv box_.x1, iv box_.y1, iv box_.x2, iv box_.y2], und, und, und, und, und, AV.ptr o1 1 0 0, iv w14, und, z47, iv rest_, iv (wr (rest_ - 1)), iv rest_, iv (kF3 (wr (rest_ - 1)) rest_), iv w14, bv (decide (0 < w14)), .top, .top, .top, .top, kinds_x, iv (((kinds_.getD []).length : Nat) : Int), .top, .top, .top, .top, .top, .top, .top, .top, .top, .top, .top, .top, .top, .top, .top, .top], h38) ∧ Hold B h38 [(AV.ptr o_ 1 0 0, .pt 4 [Sl.enc q40, z41, z43, z45]), (z41, obS (q42 : Sl Box)), (z43, obS (q44 : Sl Choice)), (z45, obS (q46 : Sl Int)), (AV.ptr o1 1 0 0, .pt 4 [iv box_.x1, iv box_.y1, iv box_.x2, iv box_.y2])]) := by
  refine kCe (Rel := fun (st : (Sl Symbol) × (Sl Box) × (Sl Choice) × (Sl Int) × Int) tm h35 => match st with | (w28, w30, w32, w34, w37) => ∃ z29 z31 z33, tm = [AV.ptr o_ 1 0 0, iv set_, iv rest_, kinds_x, iv sign_, AV.agg [iv box_.x1, iv box_.y1, iv box_.x2, iv box_.y2], und, und, und, und, und, AV.ptr o1 1 0 0, iv w14, und, .top, iv rest_, iv (wr (rest_ - 1)), iv rest_, iv (kF3 (wr (rest_ - 1)) rest_), iv w14, bv (decide (0 < w14)), .top, .top, .top, .top, kinds_x, iv (((kinds_.getD []).length : Nat) : Int), iv w37, .top, .top, .top, .top, .top, .top, .top, .top, .top, .top, .top, .top, .top, .top, .top] ∧ Hold B h35 [(AV.ptr o_ 1 0 0, .pt 4 [Sl.enc w28, z29, z31, z33]), (z29, obS (w30 : Sl Box)), (z31, obS (w32 : Sl Choice)), (z33, obS (w34 : Sl Int)), (AV.ptr o1 1 0 0, .pt 4 [iv box_.x1, iv box_.y1, iv box_.x2, iv box_.y2])]) (fun st tm h35 R => ?_) R
  obtain ⟨w28, w30, w32, w34, w37⟩ := st
  obtain ⟨z29, z31, z33, rfl, O36⟩ := R
  rw [e_lb1_q18]
  unfold s1_q18
  dsimp only
  refine kA1 (v := bv (decide (w37 < (((kinds_.getD []).length : Nat) : Int)))) (kB8 _ _) ?_
  refine kAc (fun c49 => ?_) (fun c49 => ?_)
  · refine kAo (T_kinds_ _ O36.keep) (fun m51 a50 hi52 hm53 => ?_)
    refine kA1 (v := iv a50) ((T_kinds_ _ O36.keep).ld hm53 false 1 0) ?_
    refine kA1 (v := iv (kC3 rest_ w14)) (kG3 _ _) ?_
    refine kA1 (v := AV.agg [iv a50, iv sign_, iv w14, iv (kC3 rest_ w14), iv 0]) (by first | rfl | simp [kBv, kF7, kAi]) ?_
    refine kA1 (v := AV.agg [iv box_.x1, iv box_.y1, iv box_.x2, iv box_.y2]) (O36.ld 4 rfl true 4 0) ?_
    have O54 := O36
    refine kCj he_q19 (tg_q19 (⟨w28, w30, w32, w34⟩ : Parser) set_ (⟨a50, sign_, w14, kC3 rest_ w14, 0⟩ : Choice) box_ (Hold.startL (L := [(AV.ptr o_ 1 0 0, .pt 4 [Sl.enc w28, z29, z31, z33]), (z29, obS (w30 : Sl Box)), (z31, obS (w32 : Sl Choice)), (z33, obS (w34 : Sl Int))]) (R := [(AV.ptr o1 1 0 0, .pt 4 [iv box_.x1, iv box_.y1, iv box_.x2, iv box_.y2])]) O54)) (fun c55 v56 h57 hq58 => ?_)
    obtain ⟨x61, x63, x65, e_v56, O59⟩ := hq58
    dsimp only at e_v56
    subst v56
    have O60 : Hold B h57 [(AV.ptr o_ 1 0 0, .pt 4 [Sl.enc c55.list, x61, x63, x65]), (x61, obS (c55.boxes : Sl Box)), (x63, obS (c55.best : Sl Choice)), (x65, obS (c55.count : Sl Int)), (AV.ptr o1 1 0 0, .pt 4 [iv box_.x1, iv box_.y1, iv box_.x2, iv box_.y2])] := Hold.mergeL (L := [(AV.ptr o_ 1 0 0, .pt 4 [Sl.enc w28, z29, z31, z33]), (z29, obS (w30 : Sl Box)), (z31, obS (w32 : Sl Choice)), (z33, obS (w34 : Sl Int))]) (R := [(AV.ptr o1 1 0 0, .pt 4 [iv box_.x1, iv box_.y1, iv box_.x2, iv box_.y2])]) O54 O59
    refine kA1 (v := iv (wr (w37 + 1))) (kAd _ _) ?_
    exact kA8 ⟨rfl, _, _, _, rfl, O60⟩
  · exact kA8 ⟨nofun, _, _, _, _, _, rfl, O36⟩
theorem tl0_q18 (env : Nat → Contract) {B : Base} (he_q19 : env kFq = .gen (kAh Try.prog kGj kFq)) (o_ : Nat) (set_ : Int) (rest_ : Int) (kinds_ : Sl Int) (sign_ : Int) (box_ : Box) (kinds_x : AV) (T_kinds_ : ∀ h, (∀ o, o < B.h0.length → o ∉ B.F → h[o]? = B.h0[o]?) → Tab h kinds_x kinds_) (o1 : Nat)  {st : (Sl Symbol) × (Sl Box) × (Sl Choice) × (Sl Int) × Int} {tm : TM} {h : kA6} (R : (fun (st : (Sl Symbol) × (Sl Box) × (Sl Choice) × (Sl Int) × Int) tm h12 => match st with | (w5, w7, w9, w11, w14) => ∃ z6 z8 z10, tm = [AV.ptr o_ 1 0 0, iv set_, iv rest_, kinds_x, iv sign_, AV.agg [iv box_.x1, iv box_.y1, iv box_.x2, iv box_.y2], und, und, und, und, und, AV.ptr o1 1 0 0, iv w14, und, .top, iv rest_, iv (wr (rest_ - 1)), iv rest_, iv (kF3 (wr (rest_ - 1)) rest_), .top, .top, .top, .top, .top, .top, .top, .top, .top, .top, .top, .top, .top, .top, .top, .top, .top, .top, .top, .top, .top, .top, .top, .top] ∧ Hold B h12 [(AV.ptr o_ 1 0 0, .pt 4 [Sl.enc w5, z6, z8, z10]), (z6, obS (w7 : Sl Box)), (z8, obS (w9 : Sl Choice)), (z10, obS (w11 : Sl Int)), (AV.ptr o1 1 0 0, .pt 4 [iv box_.x1, iv box_.y1, iv box_.x2, iv box_.y2])]) st tm h) : Sim (kBx hm0_q18 xm0_q18 (lb0_q18 env) tm h) (kBq (s0_q18 set_ rest_ kinds_ sign_ box_) st) (fun (q : (Sl Symbol) × (Sl Box) × (Sl Choice) × (Sl Int)) (r : Res) => match q with | (q17, q19, q21, q23) => ∃ (q24 : Int) (z18 : AV) (z20 : AV) (z22 : AV) (z25 : AV) (h15 : kA6), r = (.exit 0, [AV.ptr o_ 1 0 0, iv set_, iv rest_, kinds_x, iv sign_, AV.agg [iv box_.x1, iv box_.y1, iv box_.x2, iv box_.y2], und, und, und, und, und, AV.ptr o1 1 0 0, iv q24, und, z25, iv rest_, iv (wr (rest_ - 1)), iv rest_, iv (kF3 (wr (rest_ - 1)) rest_), .top, .top, .top, .top, .top, .top, .top, .top, .top, .top, .top, .top, .top, .top, .top, .top, .top, .top, .top, .top, .top, .top, .top, .top], h15) ∧ Hold B h15 [(AV.ptr o_ 1 0 0, .pt 4 [Sl.enc q17, z18, z20, z22]), (z18, obS (q19 : Sl Box)), (z20, obS (q21 : Sl Choice)), (z22, obS (q23 : Sl Int)), (AV.ptr o1 1 0 0, .pt 4 [iv box_.x1, iv box_.y1, iv box_.x2, iv box_.y2])]) := by
  refine kCe (Rel := fun (st : (Sl Symbol) × (Sl Box) × (Sl Choice) × (Sl Int) × Int) tm h12 => match st with | (w5, w7, w9, w11, w14) => ∃ z6 z8 z10, tm = [AV.ptr o_ 1 0 0, iv set_, iv rest_, kinds_x, iv sign_, AV.agg [iv box_.x1, iv box_.y1, iv box_.x2, iv box_.y2], und, und, und, und, und, AV.ptr o1 1 0 0, iv w14, und, .top, iv rest_, iv (wr (rest_ - 1)), iv rest_, iv (kF3 (wr (rest_ - 1)) rest_), .top, .top, .top, .top, .top, .top, .top, .top, .top, .top, .top, .top, .top, .top, .top, .top, .top, .top, .top, .top, .top, .top, .top, .top] ∧ Hold B h12 [(AV.ptr o_ 1 0 0, .pt 4 [Sl.enc w5, z6, z8, z10]), (z6, obS (w7 : Sl Box)), (z8, obS (w9 : Sl Choice)), (z10, obS (w11 : Sl Int)), (AV.ptr o1 1 0 0, .pt 4 [iv box_.x1, iv box_.y1, iv box_.x2, iv box_.y2])]) (fun st tm h12 R => ?_) R
  obtain ⟨w5, w7, w9, w11, w14⟩ := st
  obtain ⟨z6, z8, z10, rfl, O13⟩ := R
  rw [e_lb0_q18]
  unfold s0_q18
  dsimp only
  refine kA1 (v := bv (decide (0 < w14))) (aBin_gtr _ _) ?_
  refine kAc (fun c27 => ?_) (fun c27 => ?_)
  · refine kA1 (v := iv (((kinds_.getD []).length : Nat) : Int)) (T_kinds_ _ O13.keep).len ?_
    refine kCd ((tl1_q18 env he_q19 o_ set_ rest_ kinds_ sign_ box_ kinds_x T_kinds_ o1 w14) ⟨_, _, _, rfl, O13⟩) (fun qq70 r hq => ?_)
    obtain ⟨q40, q42, q44, q46⟩ := qq70
    obtain ⟨z41, z43, z45, z47, h38, rfl, O39⟩ := hq
    rw [e_lk1x2_q18]
    refine kA1 (v := iv (wr (w14 - 1))) (kB2 _ _) ?_
    refine kA1 (v := iv (kF3 (wr (w14 - 1)) rest_)) (kGb _ _) ?_
    exact kA8 ⟨rfl, _, _, _, rfl, O39⟩
  · exact kA8 ⟨nofun, _, _, _, _, _, _, rfl, O13⟩
theorem ts_q18 (env : Nat → Contract) (he_q19 : env kFq = .gen (kAh Try.prog kGj kFq)) {B : Base} {h : kA6} {o_ : Nat} {x_boxes_ : AV} {x_best_ : AV} {x_count_ : AV} (p_ : Parser) (set_ : Int) (rest_ : Int) (kinds_ : Sl Int) (sign_ : Int) (box_ : Box) {kinds_x : AV} (T_kinds_ : ∀ h, (∀ o, o < B.h0.length → o ∉ B.F → h[o]? = B.h0[o]?) → Tab h kinds_x kinds_) (O : Hold B h [(AV.ptr o_ 1 0 0, .pt 4 [Sl.enc p_.list, x_boxes_, x_best_, x_count_]), (x_boxes_, obS (p_.boxes : Sl Box)), (x_best_, obS (p_.best : Sl Choice)), (x_count_, obS (p_.count : Sl Int))]) : Sim (kAh Try.prog env n_q18 [AV.ptr o_ 1 0 0, iv set_, iv rest_, kinds_x, iv sign_, AV.agg [iv box_.x1, iv box_.y1, iv box_.x2, iv box_.y2]] h) (t_q18 p_ set_ rest_ kinds_ sign_ box_) (fun c p => ∃ x1, ∃ x2, ∃ x3, p.1 = und ∧ Hold B p.2 ([(AV.ptr o_ 1 0 0, .pt 4 [Sl.enc c.list, x1, x2, x3]), (x1, obS (c.boxes : Sl Box)), (x2, obS (c.best : Sl Choice)), (x3, obS (c.count : Sl Int))])) := by
  rw [e_q18]
  unfold t_q18
  refine kBd O (cs := [iv box_.x1, iv box_.y1, iv box_.x2, iv box_.y2]) (by first | rfl | simp) (fun o1 h2 O3 => ?_)
  replace O3 : Hold B h2 [(AV.ptr o_ 1 0 0, .pt 4 [Sl.enc p_.list, x_boxes_, x_best_, x_count_]), (x_boxes_, obS (p_.boxes : Sl Box)), (x_best_, obS (p_.best : Sl Choice)), (x_count_, obS (p_.count : Sl Int)), (AV.ptr o1 1 0 0, .pt 4 [iv box_.x1, iv box_.y1, iv box_.x2, iv box_.y2])] := O3
  refine kA1 (v := iv (wr (rest_ - 1))) (kB2 _ _) ?_
  refine kA1 (v := iv (kF3 (wr (rest_ - 1)) rest_)) (kGb _ _) ?_
  refine kCd ((tl0_q18 env he_q19 o_ set_ rest_ kinds_ sign_ box_ kinds_x T_kinds_ o1) ⟨_, _, _, rfl, O3⟩) (fun qq73 r hq => ?_)
  obtain ⟨q17, q19, q21, q23⟩ := qq73
  obtain ⟨q24, z18, z20, z22, z25, h15, rfl, O16⟩ := hq
  rw [e_lk0x0_q18]
  have O26 : Hold B h15 [(AV.ptr o_ 1 0 0, .pt 4 [Sl.enc q17, z18, z20, z22]), (z18, obS (q19 : Sl Box)), (z20, obS (q21 : Sl Choice)), (z22, obS (q23 : Sl Int))] := O16.sel [0, 1, 2, 3] (by decide) rfl
  exact kA8 ⟨_, _, _, rfl, O26⟩
noncomputable def ev_q18 : Nat → Contract := kC4 [(kFq, .gen (kAh Try.prog kGj kFq))]
theorem kHr : kBz Try.prog ev_q18 := (kE5 (kBk kFc kBh hb_q19) E0)
theorem tg_q18 {B : Base} {h : kA6} {o_ : Nat} {x_boxes_ : AV} {x_best_ : AV} {x_count_ : AV} (p_ : Parser) (set_ : Int) (rest_ : Int) (kinds_ : Sl Int) (sign_ : Int) (box_ : Box) {kinds_x : AV} (T_kinds_ : ∀ h, (∀ o, o < B.h0.length → o ∉ B.F → h[o]? = B.h0[o]?) → Tab h kinds_x kinds_) (O : Hold B h [(AV.ptr o_ 1 0 0, .pt 4 [Sl.enc p_.list, x_boxes_, x_best_, x_count_]), (x_boxes_, obS (p_.boxes : Sl Box)), (x_best_, obS (p_.best : Sl Choice)), (x_count_, obS (p_.count : Sl Int))]) : Sim (kAh Try.prog ev_q18 n_q18 [AV.ptr o_ 1 0 0, iv set_, iv rest_, kinds_x, iv sign_, AV.agg [iv box_.x1, iv box_.y1, iv box_.x2, iv box_.y2]] h) (t_q18 p_ set_ rest_ kinds_ sign_ box_) (fun c p => ∃ x1, ∃ x2, ∃ x3, p.1 = und ∧ Hold B p.2 ([(AV.ptr o_ 1 0 0, .pt 4 [Sl.enc c.list, x1, x2, x3]), (x1, obS (c.boxes : Sl Box)), (x2, obS (c.best : Sl Choice)), (x3, obS (c.count : Sl Int))])) := ts_q18 ev_q18 (by simp [ev_q18, kC4]) p_ set_ rest_ kinds_ sign_ box_ T_kinds_ O
def t_q21 (kind_ : Int) : Option ByteArray :=
  bif decide (kind_ = 2) then
    some (⟨#[45]⟩ : ByteArray)
  else
    bif decide (kind_ = 5) then
      some (⟨#[114]⟩ : ByteArray)
    else
      some (⟨#[]⟩ : ByteArray)
theorem ts_q21 (env : Nat → Contract)  (kind_ : Int) : Sim (kAh Try.prog env n_q21 [iv kind_] []) (t_q21 kind_) fun c p => release p.2 depth p.1 = some ((fun c : ByteArray => enc c) c) := by
  have O := Hold.nil []
  generalize hB : (⟨[], []⟩ : Base) = B at O
  clear hB
  rw [e_q21]
  unfold t_q21
  refine kA1 (v := bv (decide (kind_ = 2))) (kAv _ _) ?_
  refine kAc (fun c1 => ?_) (fun c1 => ?_)
  · exact kA8 (kA7 (by rfl) _)
  · refine kA1 (v := bv (decide (kind_ = 5))) (kAv _ _) ?_
    refine kAc (fun c2 => ?_) (fun c2 => ?_)
    · exact kA8 (kA7 (by rfl) _)
    · exact kA8 (kA7 (by rfl) _)
theorem tt_q21 : kAp Try.prog n_q21 (C1 (fun c : ByteArray => enc c) t_q21) := pureC1 E0 kBh hb_q21 fun kind_ => ts_q21 _  kind_
def kI6 (set_ : Int) (c21 : Parser) : ((Sl Symbol) × (Sl Box) × (Sl Choice) × (Sl Int) × Int) → Option (Sum ((Sl Symbol) × (Sl Box) × (Sl Choice) × (Sl Int) × Int) ((Sl Symbol) × (Sl Box) × (Sl Choice) × (Sl Int))) := fun (w33, w35, w37, w39, w42) =>
  bif decide (w42 < (((c21.list.getD []).length : Nat) : Int)) then
    kA0 (kCo (c21.list.getD []) w42) fun a57 =>
    kA0 (shlO 1 w42) fun q67 =>
    bif decide (kC3 set_ q67 = set_) then
      some (.inl (w33, w35, w37, w39, wr (w42 + 1)))
    else
      kA0 (t_q21 2) fun c70 =>
      bif decide (a57.label = c70) then
        kA0 (t_q18 (⟨w33, w35, w37, w39⟩ : Parser) set_ (kC3 set_ q67) (some ([2] : List Int)) w42 a57.box) fun c77 =>
        some (.inl (c77.list, c77.boxes, c77.best, c77.count, wr (w42 + 1)))
      else
        kA0 (t_q21 5) fun c90 =>
        bif decide (a57.label = c90) then
          kA0 (t_q19 (⟨w33, w35, w37, w39⟩ : Parser) set_ (⟨5, w42, kC3 set_ q67, 0, 0⟩ : Choice) a57.box) fun c93 =>
          some (.inl (c93.list, c93.boxes, c93.best, c93.count, wr (w42 + 1)))
        else
          some (.inl (w33, w35, w37, w39, wr (w42 + 1)))
  else
    some (.inr (w33, w35, w37, w39))
def t_q17 (p_ : Parser) (set_ : Int) : Option Parser :=
  kA0 (t_q11 p_.list set_) fun c1 =>
  kA0 (kCo (p_.boxes.getD []) set_) fun a2 =>
  bif decide (kF3 set_ (wr (set_ - 1)) = 0) then
    kA0 (kCo (p_.count.getD []) set_) fun a9 =>
    some (⟨p_.list, (kB1 p_.boxes set_ c1), p_.best, (kB1 p_.count set_ 1)⟩ : Parser)
  else
    kA0 (t_q18 (⟨p_.list, (kB1 p_.boxes set_ c1), p_.best, p_.count⟩ : Parser) set_ set_ (some ([1, 3, 4] : List Int)) 0 (⟨0, 0, 0, 0⟩ : Box)) fun c21 =>
    kA0 (kBq (kI6 set_ c21) (c21.list, c21.boxes, c21.best, c21.count, 0)) fun (q45, q47, q49, q51) =>
    some (⟨q45, q47, q49, q51⟩ : Parser)
theorem tl0_q17 (env : Nat → Contract) {B : Base} (he_q11 : env n_q11 = .pure (C2 (fun c : Box => enc c) t_q11)) (he_q18 : env n_q18 = .gen (kAh Try.prog ev_q18 n_q18)) (he_q19 : env kFq = .gen (kAh Try.prog kGj kFq)) (he_q21 : env n_q21 = .pure (C1 (fun c : ByteArray => enc c) t_q21)) (p_ : Parser) (o_ : Nat) (set_ : Int) (x_boxes_ : AV) (c1 : Box) (m3 : Nat) (x16 : AV) (c21 : Parser)  {st : (Sl Symbol) × (Sl Box) × (Sl Choice) × (Sl Int) × Int} {tm : TM} {h : kA6} (R : (fun (st : (Sl Symbol) × (Sl Box) × (Sl Choice) × (Sl Int) × Int) tm h40 => match st with | (w33, w35, w37, w39, w42) => ∃ z34 z36 z38, tm = ((AV.ptr o_ 1 0 0) :: (iv set_) :: und :: und :: .top :: .top :: .top :: (AV.ptr o_ 1 0 0) :: (AV.ptr o_ 1 0 0) :: (AV.ptr o_ 1 0 1) :: x_boxes_ :: (iv set_) :: (AV.ptr o_ 1 0 0) :: (AV.ptr o_ 1 0 0) :: (AV.ptr o_ 1 0 0) :: (Sl.enc p_.list) :: (iv set_) :: (AV.agg [iv c1.x1, iv c1.y1, iv c1.x2, iv c1.y2]) :: (elp x_boxes_ m3 0) :: (iv set_) :: (iv set_) :: (iv (wr (set_ - 1))) :: (iv (kF3 set_ (wr (set_ - 1)))) :: (bv (decide (kF3 set_ (wr (set_ - 1)) = 0))) :: und :: und :: und :: und :: und :: und :: (AV.ptr o_ 1 0 0) :: (iv set_) :: (iv set_) :: x16 :: (AV.agg [iv 0, iv 0, iv 0, iv 0]) :: und :: (AV.ptr o_ 1 0 0) :: (AV.ptr o_ 1 0 0) :: (AV.ptr o_ 1 0 0) :: (Sl.enc c21.list) :: (iv (((c21.list.getD []).length : Nat) : Int)) :: (iv w42) :: .top :: .top :: .top :: .top :: .top :: .top :: .top :: .top :: .top :: .top :: .top :: .top :: .top :: .top :: .top :: .top :: .top :: .top :: .top :: .top :: .top :: .top :: .top :: .top :: .top :: .top :: .top :: .top :: .top :: .top :: .top :: .top :: .top :: .top :: .top :: .top :: []) ∧ Hold B h40 [(AV.ptr o_ 1 0 0, .pt 4 [Sl.enc w33, z34, z36, z38]), (z34, obS (w35 : Sl Box)), (z36, obS (w37 : Sl Choice)), (z38, obS (w39 : Sl Int)), (x16, obS ((some ([1, 3, 4] : List Int)) : Sl Int))]) st tm h) : Sim (kBx hm0_q17 xm0_q17 (lb0_q17 env) tm h) (kBq (kI6 set_ c21) st) (fun (q : (Sl Symbol) × (Sl Box) × (Sl Choice) × (Sl Int)) (r : Res) => match q with | (q45, q47, q49, q51) => ∃ (z46 : AV) (z48 : AV) (z50 : AV) (z52 : AV) (z53 : AV) (z54 : AV) (h43 : kA6), r = (.exit 0, ((AV.ptr o_ 1 0 0) :: (iv set_) :: und :: und :: z52 :: z53 :: z54 :: (AV.ptr o_ 1 0 0) :: (AV.ptr o_ 1 0 0) :: (AV.ptr o_ 1 0 1) :: x_boxes_ :: (iv set_) :: (AV.ptr o_ 1 0 0) :: (AV.ptr o_ 1 0 0) :: (AV.ptr o_ 1 0 0) :: (Sl.enc p_.list) :: (iv set_) :: (AV.agg [iv c1.x1, iv c1.y1, iv c1.x2, iv c1.y2]) :: (elp x_boxes_ m3 0) :: (iv set_) :: (iv set_) :: (iv (wr (set_ - 1))) :: (iv (kF3 set_ (wr (set_ - 1)))) :: (bv (decide (kF3 set_ (wr (set_ - 1)) = 0))) :: und :: und :: und :: und :: und :: und :: (AV.ptr o_ 1 0 0) :: (iv set_) :: (iv set_) :: x16 :: (AV.agg [iv 0, iv 0, iv 0, iv 0]) :: und :: (AV.ptr o_ 1 0 0) :: (AV.ptr o_ 1 0 0) :: (AV.ptr o_ 1 0 0) :: (Sl.enc c21.list) :: (iv (((c21.list.getD []).length : Nat) : Int)) :: .top :: .top :: .top :: .top :: .top :: .top :: .top :: .top :: .top :: .top :: .top :: .top :: .top :: .top :: .top :: .top :: .top :: .top :: .top :: .top :: .top :: .top :: .top :: .top :: .top :: .top :: .top :: .top :: .top :: .top :: .top :: .top :: .top :: .top :: .top :: .top :: .top :: []), h43) ∧ Hold B h43 [(AV.ptr o_ 1 0 0, .pt 4 [Sl.enc q45, z46, z48, z50]), (z46, obS (q47 : Sl Box)), (z48, obS (q49 : Sl Choice)), (z50, obS (q51 : Sl Int)), (x16, obS ((some ([1, 3, 4] : List Int)) : Sl Int))]) := by
  refine kCe (Rel := fun (st : (Sl Symbol) × (Sl Box) × (Sl Choice) × (Sl Int) × Int) tm h40 => match st with | (w33, w35, w37, w39, w42) => ∃ z34 z36 z38, tm = ((AV.ptr o_ 1 0 0) :: (iv set_) :: und :: und :: .top :: .top :: .top :: (AV.ptr o_ 1 0 0) :: (AV.ptr o_ 1 0 0) :: (AV.ptr o_ 1 0 1) :: x_boxes_ :: (iv set_) :: (AV.ptr o_ 1 0 0) :: (AV.ptr o_ 1 0 0) :: (AV.ptr o_ 1 0 0) :: (Sl.enc p_.list) :: (iv set_) :: (AV.agg [iv c1.x1, iv c1.y1, iv c1.x2, iv c1.y2]) :: (elp x_boxes_ m3 0) :: (iv set_) :: (iv set_) :: (iv (wr (set_ - 1))) :: (iv (kF3 set_ (wr (set_ - 1)))) :: (bv (decide (kF3 set_ (wr (set_ - 1)) = 0))) :: und :: und :: und :: und :: und :: und :: (AV.ptr o_ 1 0 0) :: (iv set_) :: (iv set_) :: x16 :: (AV.agg [iv 0, iv 0, iv 0, iv 0]) :: und :: (AV.ptr o_ 1 0 0) :: (AV.ptr o_ 1 0 0) :: (AV.ptr o_ 1 0 0) :: (Sl.enc c21.list) :: (iv (((c21.list.getD []).length : Nat) : Int)) :: (iv w42) :: .top :: .top :: .top :: .top :: .top :: .top :: .top :: .top :: .top :: .top :: .top :: .top :: .top :: .top :: .top :: .top :: .top :: .top :: .top :: .top :: .top :: .top :: .top :: .top :: .top :: .top :: .top :: .top :: .top :: .top :: .top :: .top :: .top :: .top :: .top :: .top :: []) ∧ Hold B h40 [(AV.ptr o_ 1 0 0, .pt 4 [Sl.enc w33, z34, z36, z38]), (z34, obS (w35 : Sl Box)), (z36, obS (w37 : Sl Choice)), (z38, obS (w39 : Sl Int)), (x16, obS ((some ([1, 3, 4] : List Int)) : Sl Int))]) (fun st tm h40 R => ?_) R
  obtain ⟨w33, w35, w37, w39, w42⟩ := st
  obtain ⟨z34, z36, z38, rfl, O41⟩ := R
  rw [e_lb0_q17]
  unfold kI6
  dsimp only
  refine kA1 (v := bv (decide (w42 < (((c21.list.getD []).length : Nat) : Int)))) (kB8 _ _) ?_
  refine kAc (fun c56 => ?_) (fun c56 => ?_)
  · refine kAo (Tab.enc h40 c21.list) (fun m58 a57 hi59 hm60 => ?_)
    refine kA1 (v := AV.agg [sv a57.label, iv a57.box.x1, iv a57.box.y1, iv a57.box.x2, iv a57.box.y2]) ((Tab.enc h40 c21.list).ld hm60 true 5 0) ?_
    refine kBd O41 (cs := [sv (⟨#[]⟩ : ByteArray), iv 0, iv 0, iv 0, iv 0]) (by first | rfl | simp) (fun o61 h62 O63 => ?_)
    replace O63 : Hold B h62 [(AV.ptr o_ 1 0 0, .pt 4 [Sl.enc w33, z34, z36, z38]), (z34, obS (w35 : Sl Box)), (z36, obS (w37 : Sl Choice)), (z38, obS (w39 : Sl Int)), (x16, obS ((some ([1, 3, 4] : List Int)) : Sl Int)), (AV.ptr o61 1 0 0, .pt 5 [sv (⟨#[]⟩ : ByteArray), iv 0, iv 0, iv 0, iv 0])] := O63
    refine kAy O63 5 (cs' := [sv a57.label, iv a57.box.x1, iv a57.box.y1, iv a57.box.x2, iv a57.box.y2]) rfl (by first | rfl | simp) (by simp) (by first | rfl | simp) (by first | rfl | simp [kAi]) (fun h65 O66 => ?_)
    replace O66 : Hold B h65 [(AV.ptr o_ 1 0 0, .pt 4 [Sl.enc w33, z34, z36, z38]), (z34, obS (w35 : Sl Box)), (z36, obS (w37 : Sl Choice)), (z38, obS (w39 : Sl Int)), (x16, obS ((some ([1, 3, 4] : List Int)) : Sl Int)), (AV.ptr o61 1 0 0, .pt 5 [sv a57.label, iv a57.box.x1, iv a57.box.y1, iv a57.box.x2, iv a57.box.y2])] := O66
    refine sim_shl (fun q67 => ?_)
    refine kA1 (v := iv (kC3 set_ q67)) (kG3 _ _) ?_
    refine kA1 (v := bv (decide (kC3 set_ q67 = set_))) (kAv _ _) ?_
    refine kAc (fun c68 => ?_) (fun c68 => ?_)
    · refine kA1 (v := iv (wr (w42 + 1))) (kAd _ _) ?_
      have O69 : Hold B h65 [(AV.ptr o_ 1 0 0, .pt 4 [Sl.enc w33, z34, z36, z38]), (z34, obS (w35 : Sl Box)), (z36, obS (w37 : Sl Choice)), (z38, obS (w39 : Sl Int)), (x16, obS ((some ([1, 3, 4] : List Int)) : Sl Int))] := O66.sel [0, 1, 2, 3, 4] (by decide) rfl
      exact kA8 ⟨rfl, _, _, _, rfl, O69⟩
    · refine kA1 (v := AV.ptr o61 1 0 0) rfl ?_
      refine kA1 (v := sv a57.label) (O66.ld 5 rfl false 1 0) ?_
      refine kCc he_q21 (kAm _ _) (fun c70 => ?_)
      refine kB4 (kAe (by rfl) _ _) ?_
      refine kA1 (v := bv (decide (a57.label = c70))) (aCmp_eqS _ _) ?_
      refine kAc (fun c71 => ?_) (fun c71 => ?_)
      · refine kDq (A := Int) O66 ([2] : List Int) rfl (by first | rfl | simp [kC5, kF6]) rfl (fun x72 h73 O74 => ?_)
        replace O74 : Hold B h73 [(AV.ptr o_ 1 0 0, .pt 4 [Sl.enc w33, z34, z36, z38]), (z34, obS (w35 : Sl Box)), (z36, obS (w37 : Sl Choice)), (z38, obS (w39 : Sl Int)), (x16, obS ((some ([1, 3, 4] : List Int)) : Sl Int)), (AV.ptr o61 1 0 0, .pt 5 [sv a57.label, iv a57.box.x1, iv a57.box.y1, iv a57.box.x2, iv a57.box.y2]), (x72, obS ((some ([2] : List Int)) : Sl Int))] := O74
        refine kA1 (v := AV.ptr o61 1 0 1) rfl ?_
        refine kA1 (v := AV.agg [iv a57.box.x1, iv a57.box.y1, iv a57.box.x2, iv a57.box.y2]) (O74.ld 5 rfl true 4 1) ?_
        have O76 := O74
        refine kCj he_q18 (tg_q18 (⟨w33, w35, w37, w39⟩ : Parser) set_ (kC3 set_ q67) (some ([2] : List Int)) w42 a57.box (Hold.tabKL (L := [(AV.ptr o_ 1 0 0, .pt 4 [Sl.enc w33, z34, z36, z38]), (z34, obS (w35 : Sl Box)), (z36, obS (w37 : Sl Choice)), (z38, obS (w39 : Sl Int))]) (R := [(x16, obS ((some ([1, 3, 4] : List Int)) : Sl Int)), (AV.ptr o61 1 0 0, .pt 5 [sv a57.label, iv a57.box.x1, iv a57.box.y1, iv a57.box.x2, iv a57.box.y2]), (x72, obS ((some ([2] : List Int)) : Sl Int))]) (A := Int) (s := (some ([2] : List Int))) O76 2 rfl) (Hold.startL (L := [(AV.ptr o_ 1 0 0, .pt 4 [Sl.enc w33, z34, z36, z38]), (z34, obS (w35 : Sl Box)), (z36, obS (w37 : Sl Choice)), (z38, obS (w39 : Sl Int))]) (R := [(x16, obS ((some ([1, 3, 4] : List Int)) : Sl Int)), (AV.ptr o61 1 0 0, .pt 5 [sv a57.label, iv a57.box.x1, iv a57.box.y1, iv a57.box.x2, iv a57.box.y2]), (x72, obS ((some ([2] : List Int)) : Sl Int))]) O76)) (fun c77 v78 h79 hq80 => ?_)
        obtain ⟨x83, x85, x87, e_v78, O81⟩ := hq80
        dsimp only at e_v78
        subst v78
        have O82 : Hold B h79 [(AV.ptr o_ 1 0 0, .pt 4 [Sl.enc c77.list, x83, x85, x87]), (x83, obS (c77.boxes : Sl Box)), (x85, obS (c77.best : Sl Choice)), (x87, obS (c77.count : Sl Int)), (x16, obS ((some ([1, 3, 4] : List Int)) : Sl Int)), (AV.ptr o61 1 0 0, .pt 5 [sv a57.label, iv a57.box.x1, iv a57.box.y1, iv a57.box.x2, iv a57.box.y2]), (x72, obS ((some ([2] : List Int)) : Sl Int))] := Hold.mergeL (L := [(AV.ptr o_ 1 0 0, .pt 4 [Sl.enc w33, z34, z36, z38]), (z34, obS (w35 : Sl Box)), (z36, obS (w37 : Sl Choice)), (z38, obS (w39 : Sl Int))]) (R := [(x16, obS ((some ([1, 3, 4] : List Int)) : Sl Int)), (AV.ptr o61 1 0 0, .pt 5 [sv a57.label, iv a57.box.x1, iv a57.box.y1, iv a57.box.x2, iv a57.box.y2]), (x72, obS ((some ([2] : List Int)) : Sl Int))]) O76 O81
        refine kA1 (v := iv (wr (w42 + 1))) (kAd _ _) ?_
        have O89 : Hold B h79 [(AV.ptr o_ 1 0 0, .pt 4 [Sl.enc c77.list, x83, x85, x87]), (x83, obS (c77.boxes : Sl Box)), (x85, obS (c77.best : Sl Choice)), (x87, obS (c77.count : Sl Int)), (x16, obS ((some ([1, 3, 4] : List Int)) : Sl Int))] := O82.sel [0, 1, 2, 3, 4] (by decide) rfl
        exact kA8 ⟨rfl, _, _, _, rfl, O89⟩
      · refine kCc he_q21 (kAm _ _) (fun c90 => ?_)
        refine kB4 (kAe (by rfl) _ _) ?_
        refine kA1 (v := bv (decide (a57.label = c90))) (aCmp_eqS _ _) ?_
        refine kAc (fun c91 => ?_) (fun c91 => ?_)
        · refine kA1 (v := AV.agg [iv 5, iv w42, iv (kC3 set_ q67), iv 0, iv 0]) (by first | rfl | simp [kBv, kF7, kAi]) ?_
          refine kA1 (v := AV.ptr o61 1 0 1) rfl ?_
          refine kA1 (v := AV.agg [iv a57.box.x1, iv a57.box.y1, iv a57.box.x2, iv a57.box.y2]) (O66.ld 5 rfl true 4 1) ?_
          have O92 := O66
          refine kCj he_q19 (tg_q19 (⟨w33, w35, w37, w39⟩ : Parser) set_ (⟨5, w42, kC3 set_ q67, 0, 0⟩ : Choice) a57.box (Hold.startL (L := [(AV.ptr o_ 1 0 0, .pt 4 [Sl.enc w33, z34, z36, z38]), (z34, obS (w35 : Sl Box)), (z36, obS (w37 : Sl Choice)), (z38, obS (w39 : Sl Int))]) (R := [(x16, obS ((some ([1, 3, 4] : List Int)) : Sl Int)), (AV.ptr o61 1 0 0, .pt 5 [sv a57.label, iv a57.box.x1, iv a57.box.y1, iv a57.box.x2, iv a57.box.y2])]) O92)) (fun c93 v94 h95 hq96 => ?_)
          obtain ⟨x99, x101, x103, e_v94, O97⟩ := hq96
          dsimp only at e_v94
          subst v94
          have O98 : Hold B h95 [(AV.ptr o_ 1 0 0, .pt 4 [Sl.enc c93.list, x99, x101, x103]), (x99, obS (c93.boxes : Sl Box)), (x101, obS (c93.best : Sl Choice)), (x103, obS (c93.count : Sl Int)), (x16, obS ((some ([1, 3, 4] : List Int)) : Sl Int)), (AV.ptr o61 1 0 0, .pt 5 [sv a57.label, iv a57.box.x1, iv a57.box.y1, iv a57.box.x2, iv a57.box.y2])] := Hold.mergeL (L := [(AV.ptr o_ 1 0 0, .pt 4 [Sl.enc w33, z34, z36, z38]), (z34, obS (w35 : Sl Box)), (z36, obS (w37 : Sl Choice)), (z38, obS (w39 : Sl Int))]) (R := [(x16, obS ((some ([1, 3, 4] : List Int)) : Sl Int)), (AV.ptr o61 1 0 0, .pt 5 [sv a57.label, iv a57.box.x1, iv a57.box.y1, iv a57.box.x2, iv a57.box.y2])]) O92 O97
          refine kA1 (v := iv (wr (w42 + 1))) (kAd _ _) ?_
          have O105 : Hold B h95 [(AV.ptr o_ 1 0 0, .pt 4 [Sl.enc c93.list, x99, x101, x103]), (x99, obS (c93.boxes : Sl Box)), (x101, obS (c93.best : Sl Choice)), (x103, obS (c93.count : Sl Int)), (x16, obS ((some ([1, 3, 4] : List Int)) : Sl Int))] := O98.sel [0, 1, 2, 3, 4] (by decide) rfl
          exact kA8 ⟨rfl, _, _, _, rfl, O105⟩
        · refine kA1 (v := iv (wr (w42 + 1))) (kAd _ _) ?_
          have O106 : Hold B h65 [(AV.ptr o_ 1 0 0, .pt 4 [Sl.enc w33, z34, z36, z38]), (z34, obS (w35 : Sl Box)), (z36, obS (w37 : Sl Choice)), (z38, obS (w39 : Sl Int)), (x16, obS ((some ([1, 3, 4] : List Int)) : Sl Int))] := O66.sel [0, 1, 2, 3, 4] (by decide) rfl
          exact kA8 ⟨rfl, _, _, _, rfl, O106⟩
  · exact kA8 ⟨nofun, _, _, _, _, _, _, _, rfl, O41⟩
theorem ts_q17 (env : Nat → Contract) (he_q11 : env n_q11 = .pure (C2 (fun c : Box => enc c) t_q11)) (he_q18 : env n_q18 = .gen (kAh Try.prog ev_q18 n_q18)) (he_q19 : env kFq = .gen (kAh Try.prog kGj kFq)) (he_q21 : env n_q21 = .pure (C1 (fun c : ByteArray => enc c) t_q21)) {B : Base} {h : kA6} {o_ : Nat} {x_boxes_ : AV} {x_best_ : AV} {x_count_ : AV} (p_ : Parser) (set_ : Int) (O : Hold B h [(AV.ptr o_ 1 0 0, .pt 4 [Sl.enc p_.list, x_boxes_, x_best_, x_count_]), (x_boxes_, obS (p_.boxes : Sl Box)), (x_best_, obS (p_.best : Sl Choice)), (x_count_, obS (p_.count : Sl Int))]) : Sim (kAh Try.prog env n_q17 [AV.ptr o_ 1 0 0, iv set_] h) (t_q17 p_ set_) (fun c p => ∃ x1, ∃ x2, ∃ x3, p.1 = und ∧ Hold B p.2 ([(AV.ptr o_ 1 0 0, .pt 4 [Sl.enc c.list, x1, x2, x3]), (x1, obS (c.boxes : Sl Box)), (x2, obS (c.best : Sl Choice)), (x3, obS (c.count : Sl Int))])) := by
  rw [e_q17]
  unfold t_q17
  refine kA1 (v := AV.ptr o_ 1 0 0) rfl ?_
  refine kA1 (v := AV.ptr o_ 1 0 1) rfl ?_
  refine kA1 (v := x_boxes_) (O.ld 0 rfl false 1 1) ?_
  refine kA1 (v := AV.ptr o_ 1 0 0) rfl ?_
  refine kA1 (v := AV.ptr o_ 1 0 0) rfl ?_
  refine kA1 (v := Sl.enc p_.list) (O.ld 0 rfl false 1 0) ?_
  refine kHq he_q11 (kCu _ _) (kAm _ _) (fun c1 => ?_)
  refine kB4 (kAe (by rfl) _ _) ?_
  refine kAo (O.tab (A := Box) (s := p_.boxes) 1 rfl) (fun m3 a2 hi4 hm5 => ?_)
  refine kB6 (A := Box) O 1 c1 rfl hi4 hm5 rfl (by simp) (by first | rfl | simp) (by first | rfl | simp [kAi]) (fun h6 O7 => ?_)
  replace O7 : Hold B h6 [(AV.ptr o_ 1 0 0, .pt 4 [Sl.enc p_.list, x_boxes_, x_best_, x_count_]), (x_boxes_, obS ((kB1 p_.boxes set_ c1) : Sl Box)), (x_best_, obS (p_.best : Sl Choice)), (x_count_, obS (p_.count : Sl Int))] := O7
  refine kA1 (v := iv (wr (set_ - 1))) (kB2 _ _) ?_
  refine kA1 (v := iv (kF3 set_ (wr (set_ - 1)))) (kGb _ _) ?_
  refine kA1 (v := bv (decide (kF3 set_ (wr (set_ - 1)) = 0))) (kAv _ _) ?_
  refine kAc (fun c8 => ?_) (fun c8 => ?_)
  · refine kA1 (v := AV.ptr o_ 1 0 0) rfl ?_
    refine kA1 (v := AV.ptr o_ 1 0 3) rfl ?_
    refine kA1 (v := x_count_) (O7.ld 0 rfl false 1 3) ?_
    refine kAo (O7.tab (A := Int) (s := p_.count) 3 rfl) (fun m10 a9 hi11 hm12 => ?_)
    refine kB6 (A := Int) O7 3 1 rfl hi11 hm12 rfl (by simp) (by first | rfl | simp) (by first | rfl | simp [kAi]) (fun h13 O14 => ?_)
    replace O14 : Hold B h13 [(AV.ptr o_ 1 0 0, .pt 4 [Sl.enc p_.list, x_boxes_, x_best_, x_count_]), (x_boxes_, obS ((kB1 p_.boxes set_ c1) : Sl Box)), (x_best_, obS (p_.best : Sl Choice)), (x_count_, obS ((kB1 p_.count set_ 1) : Sl Int))] := O14
    exact kA8 ⟨_, _, _, rfl, O14⟩
  · refine kDq (A := Int) O7 ([1, 3, 4] : List Int) rfl (by first | rfl | simp [kC5, kF6]) rfl (fun x16 h17 O18 => ?_)
    replace O18 : Hold B h17 [(AV.ptr o_ 1 0 0, .pt 4 [Sl.enc p_.list, x_boxes_, x_best_, x_count_]), (x_boxes_, obS ((kB1 p_.boxes set_ c1) : Sl Box)), (x_best_, obS (p_.best : Sl Choice)), (x_count_, obS (p_.count : Sl Int)), (x16, obS ((some ([1, 3, 4] : List Int)) : Sl Int))] := O18
    refine kA1 (v := AV.agg [iv 0, iv 0, iv 0, iv 0]) (by first | rfl | simp [kBv, kF7, kAi]) ?_
    have O20 := O18
    refine kCj he_q18 (tg_q18 (⟨p_.list, (kB1 p_.boxes set_ c1), p_.best, p_.count⟩ : Parser) set_ set_ (some ([1, 3, 4] : List Int)) 0 (⟨0, 0, 0, 0⟩ : Box) (Hold.tabKL (L := [(AV.ptr o_ 1 0 0, .pt 4 [Sl.enc p_.list, x_boxes_, x_best_, x_count_]), (x_boxes_, obS ((kB1 p_.boxes set_ c1) : Sl Box)), (x_best_, obS (p_.best : Sl Choice)), (x_count_, obS (p_.count : Sl Int))]) (R := [(x16, obS ((some ([1, 3, 4] : List Int)) : Sl Int))]) (A := Int) (s := (some ([1, 3, 4] : List Int))) O20 0 rfl) (Hold.startL (L := [(AV.ptr o_ 1 0 0, .pt 4 [Sl.enc p_.list, x_boxes_, x_best_, x_count_]), (x_boxes_, obS ((kB1 p_.boxes set_ c1) : Sl Box)), (x_best_, obS (p_.best : Sl Choice)), (x_count_, obS (p_.count : Sl Int))]) (R := [(x16, obS ((some ([1, 3, 4] : List Int)) : Sl Int))]) O20)) (fun c21 v22 h23 hq24 => ?_)
    obtain ⟨x27, x29, x31, e_v22, O25⟩ := hq24
    dsimp only at e_v22
    subst v22
    have O26 : Hold B h23 [(AV.ptr o_ 1 0 0, .pt 4 [Sl.enc c21.list, x27, x29, x31]), (x27, obS (c21.boxes : Sl Box)), (x29, obS (c21.best : Sl Choice)), (x31, obS (c21.count : Sl Int)), (x16, obS ((some ([1, 3, 4] : List Int)) : Sl Int))] := Hold.mergeL (L := [(AV.ptr o_ 1 0 0, .pt 4 [Sl.enc p_.list, x_boxes_, x_best_, x_count_]), (x_boxes_, obS ((kB1 p_.boxes set_ c1) : Sl Box)), (x_best_, obS (p_.best : Sl Choice)), (x_count_, obS (p_.count : Sl Int))]) (R := [(x16, obS ((some ([1, 3, 4] : List Int)) : Sl Int))]) O20 O25
    refine kA1 (v := AV.ptr o_ 1 0 0) rfl ?_
    refine kA1 (v := AV.ptr o_ 1 0 0) rfl ?_
    refine kA1 (v := Sl.enc c21.list) (O26.ld 0 rfl false 1 0) ?_
    refine kA1 (v := iv (((c21.list.getD []).length : Nat) : Int)) (Tab.enc h23 c21.list).len ?_
    refine kCd ((tl0_q17 env he_q11 he_q18 he_q19 he_q21 p_ o_ set_ x_boxes_ c1 m3 x16 c21) ⟨_, _, _, rfl, O26⟩) (fun qq109 r hq => ?_)
    obtain ⟨q45, q47, q49, q51⟩ := qq109
    obtain ⟨z46, z48, z50, z52, z53, z54, h43, rfl, O44⟩ := hq
    rw [e_lk0x0_q17]
    have O55 : Hold B h43 [(AV.ptr o_ 1 0 0, .pt 4 [Sl.enc q45, z46, z48, z50]), (z46, obS (q47 : Sl Box)), (z48, obS (q49 : Sl Choice)), (z50, obS (q51 : Sl Int))] := O44.sel [0, 1, 2, 3] (by decide) rfl
    exact kA8 ⟨_, _, _, rfl, O55⟩
noncomputable def kHx : Nat → Contract := kC4 [(n_q11, .pure (C2 (fun c : Box => enc c) t_q11)), (n_q18, .gen (kAh Try.prog ev_q18 n_q18)), (kFq, .gen (kAh Try.prog kGj kFq)), (n_q21, .pure (C1 (fun c : ByteArray => enc c) t_q21))]
theorem kHu : kBz Try.prog kHx := (kCq tt_q11 (kE5 (kBk kHr kBh hb_q18) (kE5 (kBk kFc kBh hb_q19) (kCq tt_q21 E0))))
theorem tg_q17 {B : Base} {h : kA6} {o_ : Nat} {x_boxes_ : AV} {x_best_ : AV} {x_count_ : AV} (p_ : Parser) (set_ : Int) (O : Hold B h [(AV.ptr o_ 1 0 0, .pt 4 [Sl.enc p_.list, x_boxes_, x_best_, x_count_]), (x_boxes_, obS (p_.boxes : Sl Box)), (x_best_, obS (p_.best : Sl Choice)), (x_count_, obS (p_.count : Sl Int))]) : Sim (kAh Try.prog kHx n_q17 [AV.ptr o_ 1 0 0, iv set_] h) (t_q17 p_ set_) (fun c p => ∃ x1, ∃ x2, ∃ x3, p.1 = und ∧ Hold B p.2 ([(AV.ptr o_ 1 0 0, .pt 4 [Sl.enc c.list, x1, x2, x3]), (x1, obS (c.boxes : Sl Box)), (x2, obS (c.best : Sl Choice)), (x3, obS (c.count : Sl Int))])) := ts_q17 kHx (by simp [kHx, kC4]) (by simp [kHx, kC4]) (by simp [kHx, kC4]) (by simp [kHx, kC4]) p_ set_  O
def s0_q22 (q1 : Int) : ((Sl Box) × (Sl Choice) × (Sl Int) × (Sl Symbol) × Int) → Option (Sum ((Sl Box) × (Sl Choice) × (Sl Int) × (Sl Symbol) × Int) ((Sl Box) × (Sl Choice) × (Sl Int) × (Sl Symbol))) := fun (w22, w24, w26, w27, w30) =>
  bif decide (w30 < q1) then
    kA0 (t_q17 (⟨w27, w22, w24, w26⟩ : Parser) w30) fun c44 =>
    some (.inl (c44.boxes, c44.best, c44.count, c44.list, wr (w30 + 1)))
  else
    some (.inr (w22, w24, w26, w27))
def t_q22 (list_ : Sl Symbol) : Option Parser :=
  kA0 (shlO 1 (((list_.getD []).length : Nat) : Int)) fun q1 =>
  kA0 (makeO (⟨0, 0, 0, 0⟩ : Box) q1) fun l6 =>
  kA0 (makeO (⟨0, 0, 0, 0, 0⟩ : Choice) q1) fun l11 =>
  kA0 (makeO 0 q1) fun l16 =>
  kA0 (kBq (s0_q22 q1) ((some l6), (some l11), (some l16), list_, 1)) fun (q34, q36, q38, q39) =>
  some (⟨q39, q34, q36, q38⟩ : Parser)
theorem tl0_q22 (env : Nat → Contract) {B : Base} (he_q17 : env n_q17 = .gen (kAh Try.prog kHx n_q17)) (list_ : Sl Symbol) (q1 : Int) (x2 : AV) (x7 : AV) (x12 : AV) (o17 : Nat)  {st : (Sl Box) × (Sl Choice) × (Sl Int) × (Sl Symbol) × Int} {tm : TM} {h : kA6} (R : (fun (st : (Sl Box) × (Sl Choice) × (Sl Int) × (Sl Symbol) × Int) tm h28 => match st with | (w22, w24, w26, w27, w30) => ∃ z21 z23 z25, tm = [Sl.enc list_, und, (AV.sc (.pointer none)), iv q1, AV.ptr o17 1 0 0, iv w30, Sl.enc list_, iv (((list_.getD []).length : Nat) : Int), iv q1, Sl.enc list_, iv q1, x2, iv q1, x7, iv q1, x12, AV.agg [Sl.enc list_, x2, x7, x12], AV.ptr o17 1 0 0, .top, .top, .top, .top, .top, .top, .top, .top, und] ∧ Hold B h28 [(z21, obS (w22 : Sl Box)), (z23, obS (w24 : Sl Choice)), (z25, obS (w26 : Sl Int)), (AV.ptr o17 1 0 0, .pt 4 [Sl.enc w27, z21, z23, z25])]) st tm h) : Sim (kBx hm0_q22 xm0_q22 (lb0_q22 env) tm h) (kBq (s0_q22 q1) st) (fun (q : (Sl Box) × (Sl Choice) × (Sl Int) × (Sl Symbol)) (r : Res) => match q with | (q34, q36, q38, q39) => ∃ (q40 : Int) (z33 : AV) (z35 : AV) (z37 : AV) (h31 : kA6), r = (.exit 0, [Sl.enc list_, und, (AV.sc (.pointer none)), iv q1, AV.ptr o17 1 0 0, iv q40, Sl.enc list_, iv (((list_.getD []).length : Nat) : Int), iv q1, Sl.enc list_, iv q1, x2, iv q1, x7, iv q1, x12, AV.agg [Sl.enc list_, x2, x7, x12], AV.ptr o17 1 0 0, .top, .top, .top, .top, .top, .top, .top, .top, und], h31) ∧ Hold B h31 [(z33, obS (q34 : Sl Box)), (z35, obS (q36 : Sl Choice)), (z37, obS (q38 : Sl Int)), (AV.ptr o17 1 0 0, .pt 4 [Sl.enc q39, z33, z35, z37])]) := by
  refine kCe (Rel := fun (st : (Sl Box) × (Sl Choice) × (Sl Int) × (Sl Symbol) × Int) tm h28 => match st with | (w22, w24, w26, w27, w30) => ∃ z21 z23 z25, tm = [Sl.enc list_, und, (AV.sc (.pointer none)), iv q1, AV.ptr o17 1 0 0, iv w30, Sl.enc list_, iv (((list_.getD []).length : Nat) : Int), iv q1, Sl.enc list_, iv q1, x2, iv q1, x7, iv q1, x12, AV.agg [Sl.enc list_, x2, x7, x12], AV.ptr o17 1 0 0, .top, .top, .top, .top, .top, .top, .top, .top, und] ∧ Hold B h28 [(z21, obS (w22 : Sl Box)), (z23, obS (w24 : Sl Choice)), (z25, obS (w26 : Sl Int)), (AV.ptr o17 1 0 0, .pt 4 [Sl.enc w27, z21, z23, z25])]) (fun st tm h28 R => ?_) R
  obtain ⟨w22, w24, w26, w27, w30⟩ := st
  obtain ⟨z21, z23, z25, rfl, O29⟩ := R
  rw [e_lb0_q22]
  unfold s0_q22
  dsimp only
  refine kA1 (v := bv (decide (w30 < q1))) (kB8 _ _) ?_
  refine kAc (fun c42 => ?_) (fun c42 => ?_)
  · have O43 : Hold B h28 [(AV.ptr o17 1 0 0, .pt 4 [Sl.enc w27, z21, z23, z25]), (z21, obS (w22 : Sl Box)), (z23, obS (w24 : Sl Choice)), (z25, obS (w26 : Sl Int))] := O29.sel [3, 0, 1, 2] (by decide) rfl
    refine kCj he_q17 (tg_q17 (⟨w27, w22, w24, w26⟩ : Parser) w30 (Hold.startL (L := [(AV.ptr o17 1 0 0, .pt 4 [Sl.enc w27, z21, z23, z25]), (z21, obS (w22 : Sl Box)), (z23, obS (w24 : Sl Choice)), (z25, obS (w26 : Sl Int))]) (R := []) O43)) (fun c44 v45 h46 hq47 => ?_)
    obtain ⟨x50, x52, x54, e_v45, O48⟩ := hq47
    dsimp only at e_v45
    subst v45
    have O49 : Hold B h46 [(AV.ptr o17 1 0 0, .pt 4 [Sl.enc c44.list, x50, x52, x54]), (x50, obS (c44.boxes : Sl Box)), (x52, obS (c44.best : Sl Choice)), (x54, obS (c44.count : Sl Int))] := Hold.mergeL (L := [(AV.ptr o17 1 0 0, .pt 4 [Sl.enc w27, z21, z23, z25]), (z21, obS (w22 : Sl Box)), (z23, obS (w24 : Sl Choice)), (z25, obS (w26 : Sl Int))]) (R := []) O43 O48
    refine kA1 (v := iv (wr (w30 + 1))) (kAd _ _) ?_
    have O56 : Hold B h46 [(x50, obS (c44.boxes : Sl Box)), (x52, obS (c44.best : Sl Choice)), (x54, obS (c44.count : Sl Int)), (AV.ptr o17 1 0 0, .pt 4 [Sl.enc c44.list, x50, x52, x54])] := O49.sel [1, 2, 3, 0] (by decide) rfl
    exact kA8 ⟨rfl, _, _, _, rfl, O56⟩
  · exact kA8 ⟨nofun, _, _, _, _, _, rfl, O29⟩
theorem ts_q22 (env : Nat → Contract) (he_q17 : env n_q17 = .gen (kAh Try.prog kHx n_q17)) {B : Base} {h : kA6} (list_ : Sl Symbol) (O : Hold B h []) : Sim (kAh Try.prog env n_q22 [Sl.enc list_] h) (t_q22 list_) (fun c p => ∃ x1 : Nat, ∃ x2, ∃ x3, ∃ x4, p.1 = AV.ptr x1 1 0 0 ∧ Hold B p.2 ([(AV.ptr x1 1 0 0, .pt 4 [Sl.enc c.list, x2, x3, x4]), (x2, obS (c.boxes : Sl Box)), (x3, obS (c.best : Sl Choice)), (x4, obS (c.count : Sl Int))])) := by
  rw [e_q22]
  unfold t_q22
  refine kA1 (v := iv (((list_.getD []).length : Nat) : Int)) (Tab.enc h list_).len ?_
  refine sim_shl (fun q1 => ?_)
  refine kJ3 (A := Box) O (⟨0, 0, 0, 0⟩ : Box) rfl (by decide) (fun l6 x2 h3 O4 => ?_)
  replace O4 : Hold B h3 [(x2, obS ((some l6) : Sl Box))] := O4
  refine kJ3 (A := Choice) O4 (⟨0, 0, 0, 0, 0⟩ : Choice) rfl (by decide) (fun l11 x7 h8 O9 => ?_)
  replace O9 : Hold B h8 [(x2, obS ((some l6) : Sl Box)), (x7, obS ((some l11) : Sl Choice))] := O9
  refine kJ3 (A := Int) O9 0 rfl (by decide) (fun l16 x12 h13 O14 => ?_)
  replace O14 : Hold B h13 [(x2, obS ((some l6) : Sl Box)), (x7, obS ((some l11) : Sl Choice)), (x12, obS ((some l16) : Sl Int))] := O14
  refine kA1 (v := AV.agg [Sl.enc list_, x2, x7, x12]) (by first | rfl | simp [kBv, kF7, kAi, (O14.one (A := Box) (s := (some l6)) 0 rfl).1, (O14.one (A := Box) (s := (some l6)) 0 rfl).2, (O14.one (A := Choice) (s := (some l11)) 1 rfl).1, (O14.one (A := Choice) (s := (some l11)) 1 rfl).2, (O14.one (A := Int) (s := (some l16)) 2 rfl).1, (O14.one (A := Int) (s := (some l16)) 2 rfl).2]) ?_
  refine kBd O14 (cs := [Sl.enc list_, x2, x7, x12]) (by first | rfl | simp [(O14.one (A := Box) (s := (some l6)) 0 rfl).1, (O14.one (A := Box) (s := (some l6)) 0 rfl).2, (O14.one (A := Choice) (s := (some l11)) 1 rfl).1, (O14.one (A := Choice) (s := (some l11)) 1 rfl).2, (O14.one (A := Int) (s := (some l16)) 2 rfl).1, (O14.one (A := Int) (s := (some l16)) 2 rfl).2]) (fun o17 h18 O19 => ?_)
  replace O19 : Hold B h18 [(x2, obS ((some l6) : Sl Box)), (x7, obS ((some l11) : Sl Choice)), (x12, obS ((some l16) : Sl Int)), (AV.ptr o17 1 0 0, .pt 4 [Sl.enc list_, x2, x7, x12])] := O19
  refine kCd ((tl0_q22 env he_q17 list_ q1 x2 x7 x12 o17) ⟨_, _, _, rfl, O19⟩) (fun qq59 r hq => ?_)
  obtain ⟨q34, q36, q38, q39⟩ := qq59
  obtain ⟨q40, z33, z35, z37, h31, rfl, O32⟩ := hq
  rw [e_lk0x0_q22]
  have O41 : Hold B h31 [(AV.ptr o17 1 0 0, .pt 4 [Sl.enc q39, z33, z35, z37]), (z33, obS (q34 : Sl Box)), (z35, obS (q36 : Sl Choice)), (z37, obS (q38 : Sl Int))] := O32.sel [3, 0, 1, 2] (by decide) rfl
  exact kA8 ⟨_, _, _, _, rfl, O41⟩
noncomputable def ev_q22 : Nat → Contract := kC4 [(n_q17, .gen (kAh Try.prog kHx n_q17))]
theorem eo_impl_solved : kBz Try.prog ev_q22 := (kE5 (kBk kHu kBh hb_q17) E0)
theorem tg_q22 {B : Base} {h : kA6} (list_ : Sl Symbol) (O : Hold B h []) : Sim (kAh Try.prog ev_q22 n_q22 [Sl.enc list_] h) (t_q22 list_) (fun c p => ∃ x1 : Nat, ∃ x2, ∃ x3, ∃ x4, p.1 = AV.ptr x1 1 0 0 ∧ Hold B p.2 ([(AV.ptr x1 1 0 0, .pt 4 [Sl.enc c.list, x2, x3, x4]), (x2, obS (c.boxes : Sl Box)), (x3, obS (c.best : Sl Choice)), (x4, obS (c.count : Sl Int))])) := ts_q22 ev_q22 (by simp [ev_q22, kC4]) list_  O
def s0_q32 (a_ : Sl TreeNode) (b_ : Sl TreeNode) : Int → Option (Sum Int (Sum Unit Bool)) := fun w4 =>
  bif decide (w4 < (((a_.getD []).length : Nat) : Int)) then
    kA0 (kCo (a_.getD []) w4) fun a14 =>
    kA0 (kCo (b_.getD []) w4) fun a18 =>
    kA0 (some ((fun a b : TreeNode => decide (a = b)) a14 a18)) fun c22 =>
    bif !c22 then
      some (.inr (.inr false))
    else
      some (.inl (wr (w4 + 1)))
  else
    some (.inr (.inl ()))
def t_q32 (a_ : Sl TreeNode) (b_ : Sl TreeNode) : Option Bool :=
  bif !decide ((((a_.getD []).length : Nat) : Int) = (((b_.getD []).length : Nat) : Int)) then
    some false
  else
    kA0 (kBq (s0_q32 a_ b_) 0) fun qq28 => match qq28 with
    | (.inl _) =>
        some true
    | (.inr q11) =>
        some q11
theorem tl0_q32 (env : Nat → Contract) {B : Base} (he_q31 : env n_q31 = .pure (T2 (fun a b : TreeNode => decide (a = b)))) (a_ : Sl TreeNode) (b_ : Sl TreeNode)  {st : Int} {tm : TM} {h : kA6} (R : (fun (st : Int) tm h2 => match st with | w4 => tm = [Sl.enc a_, Sl.enc b_, und, und, .top, iv w4, Sl.enc a_, iv (((a_.getD []).length : Nat) : Int), Sl.enc b_, iv (((b_.getD []).length : Nat) : Int), bv (!decide ((((a_.getD []).length : Nat) : Int) = (((b_.getD []).length : Nat) : Int))), .top, .top, .top, .top, .top, .top, .top, .top, .top, .top, .top, .top, .top, .top, .top, .top] ∧ Hold B h2 []) st tm h) : Sim (kBx hm0_q32 xm0_q32 (lb0_q32 env) tm h) (kBq (s0_q32 a_ b_) st) (fun (q : Sum Unit Bool) (r : Res) => match q with | .inl _ => ∃ (q8 : Int) (z7 : AV) (h5 : kA6), r = (.exit 0, [Sl.enc a_, Sl.enc b_, und, und, z7, iv q8, Sl.enc a_, iv (((a_.getD []).length : Nat) : Int), Sl.enc b_, iv (((b_.getD []).length : Nat) : Int), bv (!decide ((((a_.getD []).length : Nat) : Int) = (((b_.getD []).length : Nat) : Int))), .top, .top, .top, .top, .top, .top, .top, .top, .top, .top, .top, .top, .top, .top, .top, .top], h5) ∧ Hold B h5 [] | .inr q11 => ∃ (q12 : Int) (h9 : kA6), r = (.ret, [Sl.enc a_, Sl.enc b_, und, und, bv q11, iv q12, Sl.enc a_, iv (((a_.getD []).length : Nat) : Int), Sl.enc b_, iv (((b_.getD []).length : Nat) : Int), bv (!decide ((((a_.getD []).length : Nat) : Int) = (((b_.getD []).length : Nat) : Int))), .top, .top, .top, .top, .top, .top, .top, .top, .top, .top, .top, .top, .top, .top, .top, .top], h9) ∧ Hold B h9 []) := by
  refine kCe (Rel := fun (st : Int) tm h2 => match st with | w4 => tm = [Sl.enc a_, Sl.enc b_, und, und, .top, iv w4, Sl.enc a_, iv (((a_.getD []).length : Nat) : Int), Sl.enc b_, iv (((b_.getD []).length : Nat) : Int), bv (!decide ((((a_.getD []).length : Nat) : Int) = (((b_.getD []).length : Nat) : Int))), .top, .top, .top, .top, .top, .top, .top, .top, .top, .top, .top, .top, .top, .top, .top, .top] ∧ Hold B h2 []) (fun w4 tm h2 R => ?_) R
  obtain ⟨rfl, O3⟩ := R
  rw [e_lb0_q32]
  unfold s0_q32
  dsimp only
  refine kA1 (v := iv (((a_.getD []).length : Nat) : Int)) (Tab.enc h2 a_).len ?_
  refine kA1 (v := bv (decide (w4 < (((a_.getD []).length : Nat) : Int)))) (kB8 _ _) ?_
  refine kAc (fun c13 => ?_) (fun c13 => ?_)
  · refine kAo (Tab.enc h2 a_) (fun m15 a14 hi16 hm17 => ?_)
    refine kA1 (v := AV.agg [iv a14.kind, iv a14.a, iv a14.b, iv a14.sign]) ((Tab.enc h2 a_).ld hm17 true 4 0) ?_
    refine kAo (Tab.enc h2 b_) (fun m19 a18 hi20 hm21 => ?_)
    refine kA1 (v := AV.agg [iv a18.kind, iv a18.a, iv a18.b, iv a18.sign]) ((Tab.enc h2 b_).ld hm21 true 4 0) ?_
    refine kC2 (t := (fun a b : TreeNode => decide (a = b))) he_q31 (kAf _ a14 rfl) (kAf _ a18 rfl) (fun c22 => ?_)
    refine kA1 (v := bv (!c22)) (kD4 _) ?_
    refine kAc (fun c23 => ?_) (fun c23 => ?_)
    · exact kA8 ⟨nofun, _, _, rfl, O3⟩
    · refine kA1 (v := iv (wr (w4 + 1))) (kAd _ _) ?_
      exact kA8 ⟨rfl, rfl, O3⟩
  · exact kA8 ⟨nofun, _, _, _, rfl, O3⟩
theorem ts_q32 (env : Nat → Contract) (he_q31 : env n_q31 = .pure (T2 (fun a b : TreeNode => decide (a = b)))) (a_ : Sl TreeNode) (b_ : Sl TreeNode) : Sim (kAh Try.prog env n_q32 [Sl.enc a_, Sl.enc b_] []) (t_q32 a_ b_) fun c p => release p.2 depth p.1 = some ((fun c : Bool => enc c) c) := by
  have O := Hold.nil []
  generalize hB : (⟨[], []⟩ : Base) = B at O
  clear hB
  rw [e_q32]
  unfold t_q32
  refine kA1 (v := iv (((a_.getD []).length : Nat) : Int)) (Tab.enc [] a_).len ?_
  refine kA1 (v := iv (((b_.getD []).length : Nat) : Int)) (Tab.enc [] b_).len ?_
  refine kA1 (v := bv (!decide ((((a_.getD []).length : Nat) : Int) = (((b_.getD []).length : Nat) : Int)))) (kCi _ _) ?_
  refine kAc (fun c1 => ?_) (fun c1 => ?_)
  · exact kA8 (kA7 (by rfl) _)
  · refine kCd ((tl0_q32 env he_q31 a_ b_) ⟨rfl, O⟩) (fun qq28 r hq => ?_)
    rcases qq28 with _ | q11
    · obtain ⟨q8, z7, h5, rfl, O6⟩ := hq
      rw [e_lk0x0_q32]
      exact kA8 (kA7 (by rfl) _)
    · obtain ⟨q12, h9, rfl, O10⟩ := hq
      rw [e_lk0r_q32]
      exact kA8 (kA7 (by rfl) _)
theorem tt_q32 : kAp Try.prog n_q32 (C2 (fun c : Bool => enc c) t_q32) := kGo (kCq ok_q31 E0) kBh hb_q32 fun a_ b_ => ts_q32 _ (by simp [kC4]) a_ b_
def t_q30 (a_ : Tree) (b_ : Tree) : Option Bool :=
  kA0 (t_q32 a_.nodes b_.nodes) fun c9 =>
  bif !c9 then
    some false
  else
    some true
theorem ts_q30 (env : Nat → Contract) (he_q32 : env n_q32 = .pure (C2 (fun c : Bool => enc c) t_q32)) (a_ : Tree) (b_ : Tree) : Sim (kAh Try.prog env n_q30 [AV.agg [Sl.enc a_.nodes], AV.agg [Sl.enc b_.nodes]] []) (t_q30 a_ b_) fun c p => release p.2 depth p.1 = some ((fun c : Bool => enc c) c) := by
  have O := Hold.nil []
  generalize hB : (⟨[], []⟩ : Base) = B at O
  clear hB
  rw [e_q30]
  unfold t_q30
  refine kBd O (cs := [Sl.enc a_.nodes]) (by first | rfl | simp) (fun o1 h2 O3 => ?_)
  replace O3 : Hold B h2 [(AV.ptr o1 1 0 0, .pt 1 [Sl.enc a_.nodes])] := O3
  refine kBd O3 (cs := [Sl.enc b_.nodes]) (by first | rfl | simp) (fun o5 h6 O7 => ?_)
  replace O7 : Hold B h6 [(AV.ptr o1 1 0 0, .pt 1 [Sl.enc a_.nodes]), (AV.ptr o5 1 0 0, .pt 1 [Sl.enc b_.nodes])] := O7
  refine kA1 (v := AV.ptr o1 1 0 0) rfl ?_
  refine kA1 (v := Sl.enc a_.nodes) (O7.ld 0 rfl false 1 0) ?_
  refine kA1 (v := AV.ptr o5 1 0 0) rfl ?_
  refine kA1 (v := Sl.enc b_.nodes) (O7.ld 1 rfl false 1 0) ?_
  refine kD0 he_q32 (kCu _ _) (kCu _ _) (fun c9 => ?_)
  refine kB4 (kAe (by rfl) _ _) ?_
  refine kA1 (v := bv (!c9)) (kD4 _) ?_
  refine kAc (fun c10 => ?_) (fun c10 => ?_)
  · exact kA8 (kA7 (by rfl) _)
  · exact kA8 (kA7 (by rfl) _)
theorem tt_q30 : kAp Try.prog n_q30 (C2 (fun c : Bool => enc c) t_q30) := kGo (kCq tt_q32 E0) kBh hb_q30 fun a_ b_ => ts_q30 _ (by simp [kC4]) a_ b_
def s0_q29 (a_ : Sl Symbol) (b_ : Sl Symbol) : Int → Option (Sum Int (Sum Unit Bool)) := fun w4 =>
  bif decide (w4 < (((a_.getD []).length : Nat) : Int)) then
    kA0 (kCo (a_.getD []) w4) fun a14 =>
    kA0 (kCo (b_.getD []) w4) fun a18 =>
    kA0 (some ((fun a b : Symbol => decide (a = b)) a14 a18)) fun c22 =>
    bif !c22 then
      some (.inr (.inr false))
    else
      some (.inl (wr (w4 + 1)))
  else
    some (.inr (.inl ()))
def t_q29 (a_ : Sl Symbol) (b_ : Sl Symbol) : Option Bool :=
  bif !decide ((((a_.getD []).length : Nat) : Int) = (((b_.getD []).length : Nat) : Int)) then
    some false
  else
    kA0 (kBq (s0_q29 a_ b_) 0) fun qq28 => match qq28 with
    | (.inl _) =>
        some true
    | (.inr q11) =>
        some q11
theorem tl0_q29 (env : Nat → Contract) {B : Base} (he_q28 : env n_q28 = .pure (T2 (fun a b : Symbol => decide (a = b)))) (a_ : Sl Symbol) (b_ : Sl Symbol)  {st : Int} {tm : TM} {h : kA6} (R : (fun (st : Int) tm h2 => match st with | w4 => tm = [Sl.enc a_, Sl.enc b_, und, und, .top, iv w4, Sl.enc a_, iv (((a_.getD []).length : Nat) : Int), Sl.enc b_, iv (((b_.getD []).length : Nat) : Int), bv (!decide ((((a_.getD []).length : Nat) : Int) = (((b_.getD []).length : Nat) : Int))), .top, .top, .top, .top, .top, .top, .top, .top, .top, .top, .top, .top, .top, .top, .top, .top] ∧ Hold B h2 []) st tm h) : Sim (kBx hm0_q29 xm0_q29 (lb0_q29 env) tm h) (kBq (s0_q29 a_ b_) st) (fun (q : Sum Unit Bool) (r : Res) => match q with | .inl _ => ∃ (q8 : Int) (z7 : AV) (h5 : kA6), r = (.exit 0, [Sl.enc a_, Sl.enc b_, und, und, z7, iv q8, Sl.enc a_, iv (((a_.getD []).length : Nat) : Int), Sl.enc b_, iv (((b_.getD []).length : Nat) : Int), bv (!decide ((((a_.getD []).length : Nat) : Int) = (((b_.getD []).length : Nat) : Int))), .top, .top, .top, .top, .top, .top, .top, .top, .top, .top, .top, .top, .top, .top, .top, .top], h5) ∧ Hold B h5 [] | .inr q11 => ∃ (q12 : Int) (h9 : kA6), r = (.ret, [Sl.enc a_, Sl.enc b_, und, und, bv q11, iv q12, Sl.enc a_, iv (((a_.getD []).length : Nat) : Int), Sl.enc b_, iv (((b_.getD []).length : Nat) : Int), bv (!decide ((((a_.getD []).length : Nat) : Int) = (((b_.getD []).length : Nat) : Int))), .top, .top, .top, .top, .top, .top, .top, .top, .top, .top, .top, .top, .top, .top, .top, .top], h9) ∧ Hold B h9 []) := by
  refine kCe (Rel := fun (st : Int) tm h2 => match st with | w4 => tm = [Sl.enc a_, Sl.enc b_, und, und, .top, iv w4, Sl.enc a_, iv (((a_.getD []).length : Nat) : Int), Sl.enc b_, iv (((b_.getD []).length : Nat) : Int), bv (!decide ((((a_.getD []).length : Nat) : Int) = (((b_.getD []).length : Nat) : Int))), .top, .top, .top, .top, .top, .top, .top, .top, .top, .top, .top, .top, .top, .top, .top, .top] ∧ Hold B h2 []) (fun w4 tm h2 R => ?_) R
  obtain ⟨rfl, O3⟩ := R
  rw [e_lb0_q29]
  unfold s0_q29
  dsimp only
  refine kA1 (v := iv (((a_.getD []).length : Nat) : Int)) (Tab.enc h2 a_).len ?_
  refine kA1 (v := bv (decide (w4 < (((a_.getD []).length : Nat) : Int)))) (kB8 _ _) ?_
  refine kAc (fun c13 => ?_) (fun c13 => ?_)
  · refine kAo (Tab.enc h2 a_) (fun m15 a14 hi16 hm17 => ?_)
    refine kA1 (v := AV.agg [sv a14.label, iv a14.box.x1, iv a14.box.y1, iv a14.box.x2, iv a14.box.y2]) ((Tab.enc h2 a_).ld hm17 true 5 0) ?_
    refine kAo (Tab.enc h2 b_) (fun m19 a18 hi20 hm21 => ?_)
    refine kA1 (v := AV.agg [sv a18.label, iv a18.box.x1, iv a18.box.y1, iv a18.box.x2, iv a18.box.y2]) ((Tab.enc h2 b_).ld hm21 true 5 0) ?_
    refine kC2 (t := (fun a b : Symbol => decide (a = b))) he_q28 (kAf _ a14 rfl) (kAf _ a18 rfl) (fun c22 => ?_)
    refine kA1 (v := bv (!c22)) (kD4 _) ?_
    refine kAc (fun c23 => ?_) (fun c23 => ?_)
    · exact kA8 ⟨nofun, _, _, rfl, O3⟩
    · refine kA1 (v := iv (wr (w4 + 1))) (kAd _ _) ?_
      exact kA8 ⟨rfl, rfl, O3⟩
  · exact kA8 ⟨nofun, _, _, _, rfl, O3⟩
theorem ts_q29 (env : Nat → Contract) (he_q28 : env n_q28 = .pure (T2 (fun a b : Symbol => decide (a = b)))) (a_ : Sl Symbol) (b_ : Sl Symbol) : Sim (kAh Try.prog env n_q29 [Sl.enc a_, Sl.enc b_] []) (t_q29 a_ b_) fun c p => release p.2 depth p.1 = some ((fun c : Bool => enc c) c) := by
  have O := Hold.nil []
  generalize hB : (⟨[], []⟩ : Base) = B at O
  clear hB
  rw [e_q29]
  unfold t_q29
  refine kA1 (v := iv (((a_.getD []).length : Nat) : Int)) (Tab.enc [] a_).len ?_
  refine kA1 (v := iv (((b_.getD []).length : Nat) : Int)) (Tab.enc [] b_).len ?_
  refine kA1 (v := bv (!decide ((((a_.getD []).length : Nat) : Int) = (((b_.getD []).length : Nat) : Int)))) (kCi _ _) ?_
  refine kAc (fun c1 => ?_) (fun c1 => ?_)
  · exact kA8 (kA7 (by rfl) _)
  · refine kCd ((tl0_q29 env he_q28 a_ b_) ⟨rfl, O⟩) (fun qq28 r hq => ?_)
    rcases qq28 with _ | q11
    · obtain ⟨q8, z7, h5, rfl, O6⟩ := hq
      rw [e_lk0x0_q29]
      exact kA8 (kA7 (by rfl) _)
    · obtain ⟨q12, h9, rfl, O10⟩ := hq
      rw [e_lk0r_q29]
      exact kA8 (kA7 (by rfl) _)
theorem tt_q29 : kAp Try.prog n_q29 (C2 (fun c : Bool => enc c) t_q29) := kGo (kCq ok_q28 E0) kBh hb_q29 fun a_ b_ => ts_q29 _ (by simp [kC4]) a_ b_
def s0_q34 (a_ : Sl TreeNode) : (Int × Int) → Option (Sum (Int × Int) (Sum Int Int)) := fun (w3, w4) =>
  bif decide (w4 < (((a_.getD []).length : Nat) : Int)) then
    kA0 (kCo (a_.getD []) w4) fun a16 =>
    bif !decide (a16.kind = w3) then
      some (.inr (.inr (-1)))
    else
      kA0 (kCo (a_.getD []) w4) fun a22 =>
      bif !decide (a22.a = wr (w3 + 1)) then
        some (.inr (.inr (-1)))
      else
        kA0 (kCo (a_.getD []) w4) fun a28 =>
        bif !decide (a28.b = wr ((wr (w3 + 1)) + 1)) then
          some (.inr (.inr (-1)))
        else
          kA0 (kCo (a_.getD []) w4) fun a34 =>
          bif !decide (a34.sign = wr ((wr ((wr (w3 + 1)) + 1)) + 1)) then
            some (.inr (.inr (-1)))
          else
            some (.inl (wr ((wr ((wr ((wr (w3 + 1)) + 1)) + 1)) + 1), wr (w4 + 1)))
  else
    some (.inr (.inl w3))
def t_q34 (a_ : Sl TreeNode) (k_ : Int) : Option Int :=
  kA0 (kBq (s0_q34 a_) (k_, 0)) fun qq43 => match qq43 with
  | (.inl q7) =>
      some q7
  | (.inr q13) =>
      some q13
theorem tl0_q34 (env : Nat → Contract) {B : Base}  (a_ : Sl TreeNode)  {st : Int × Int} {tm : TM} {h : kA6} (R : (fun (st : Int × Int) tm h1 => match st with | (w3, w4) => tm = [Sl.enc a_, iv w3, und, und, .top, iv w4, .top, .top, .top, .top, .top, .top, .top, .top, .top, .top, .top, .top, .top, .top, .top, .top, .top, .top, .top, .top, .top, .top, .top, .top, .top, .top, .top, .top, .top, .top, .top, .top, .top, .top, .top, .top, .top, .top, .top, .top, .top, .top, und] ∧ Hold B h1 []) st tm h) : Sim (kBx hm0_q34 xm0_q34 (lb0_q34 env) tm h) (kBq (s0_q34 a_) st) (fun (q : Sum Int Int) (r : Res) => match q with | .inl q7 => ∃ (q9 : Int) (z8 : AV) (h5 : kA6), r = (.exit 0, [Sl.enc a_, iv q7, und, und, z8, iv q9, .top, .top, .top, .top, .top, .top, .top, .top, .top, .top, .top, .top, .top, .top, .top, .top, .top, .top, .top, .top, .top, .top, .top, .top, .top, .top, .top, .top, .top, .top, .top, .top, .top, .top, .top, .top, .top, .top, .top, .top, .top, .top, und], h5) ∧ Hold B h5 [] | .inr q13 => ∃ (q12 : Int) (q14 : Int) (h10 : kA6), r = (.ret, [Sl.enc a_, iv q12, und, und, iv q13, iv q14, .top, .top, .top, .top, .top, .top, .top, .top, .top, .top, .top, .top, .top, .top, .top, .top, .top, .top, .top, .top, .top, .top, .top, .top, .top, .top, .top, .top, .top, .top, .top, .top, .top, .top, .top, .top, .top, .top, .top, .top, .top, .top, und], h10) ∧ Hold B h10 []) := by
  refine kCe (Rel := fun (st : Int × Int) tm h1 => match st with | (w3, w4) => tm = [Sl.enc a_, iv w3, und, und, .top, iv w4, .top, .top, .top, .top, .top, .top, .top, .top, .top, .top, .top, .top, .top, .top, .top, .top, .top, .top, .top, .top, .top, .top, .top, .top, .top, .top, .top, .top, .top, .top, .top, .top, .top, .top, .top, .top, .top, .top, .top, .top, .top, .top, und] ∧ Hold B h1 []) (fun st tm h1 R => ?_) R
  obtain ⟨w3, w4⟩ := st
  obtain ⟨rfl, O2⟩ := R
  rw [e_lb0_q34]
  unfold s0_q34
  dsimp only
  refine kA1 (v := iv (((a_.getD []).length : Nat) : Int)) (Tab.enc h1 a_).len ?_
  refine kA1 (v := bv (decide (w4 < (((a_.getD []).length : Nat) : Int)))) (kB8 _ _) ?_
  refine kAc (fun c15 => ?_) (fun c15 => ?_)
  · refine kAo (Tab.enc h1 a_) (fun m17 a16 hi18 hm19 => ?_)
    refine kA1 (v := elp (Sl.enc a_) m17 0) ((Tab.enc h1 a_).fld _ _ _) ?_
    refine kA1 (v := iv a16.kind) ((Tab.enc h1 a_).ld hm19 false 1 0) ?_
    refine kA1 (v := bv (!decide (a16.kind = w3))) (kCi _ _) ?_
    refine kAc (fun c20 => ?_) (fun c20 => ?_)
    · exact kA8 ⟨nofun, _, _, _, rfl, O2⟩
    · refine kA1 (v := iv (wr (w3 + 1))) (kAd _ _) ?_
      refine kAo (Tab.enc h1 a_) (fun m23 a22 hi24 hm25 => ?_)
      refine kA1 (v := elp (Sl.enc a_) m23 1) ((Tab.enc h1 a_).fld _ _ _) ?_
      refine kA1 (v := iv a22.a) ((Tab.enc h1 a_).ld hm25 false 1 1) ?_
      refine kA1 (v := bv (!decide (a22.a = wr (w3 + 1)))) (kCi _ _) ?_
      refine kAc (fun c26 => ?_) (fun c26 => ?_)
      · exact kA8 ⟨nofun, _, _, _, rfl, O2⟩
      · refine kA1 (v := iv (wr ((wr (w3 + 1)) + 1))) (kAd _ _) ?_
        refine kAo (Tab.enc h1 a_) (fun m29 a28 hi30 hm31 => ?_)
        refine kA1 (v := elp (Sl.enc a_) m29 2) ((Tab.enc h1 a_).fld _ _ _) ?_
        refine kA1 (v := iv a28.b) ((Tab.enc h1 a_).ld hm31 false 1 2) ?_
        refine kA1 (v := bv (!decide (a28.b = wr ((wr (w3 + 1)) + 1)))) (kCi _ _) ?_
        refine kAc (fun c32 => ?_) (fun c32 => ?_)
        · exact kA8 ⟨nofun, _, _, _, rfl, O2⟩
        · refine kA1 (v := iv (wr ((wr ((wr (w3 + 1)) + 1)) + 1))) (kAd _ _) ?_
          refine kAo (Tab.enc h1 a_) (fun m35 a34 hi36 hm37 => ?_)
          refine kA1 (v := elp (Sl.enc a_) m35 3) ((Tab.enc h1 a_).fld _ _ _) ?_
          refine kA1 (v := iv a34.sign) ((Tab.enc h1 a_).ld hm37 false 1 3) ?_
          refine kA1 (v := bv (!decide (a34.sign = wr ((wr ((wr (w3 + 1)) + 1)) + 1)))) (kCi _ _) ?_
          refine kAc (fun c38 => ?_) (fun c38 => ?_)
          · exact kA8 ⟨nofun, _, _, _, rfl, O2⟩
          · refine kA1 (v := iv (wr ((wr ((wr ((wr (w3 + 1)) + 1)) + 1)) + 1))) (kAd _ _) ?_
            refine kA1 (v := iv (wr (w4 + 1))) (kAd _ _) ?_
            exact kA8 ⟨rfl, rfl, O2⟩
  · exact kA8 ⟨nofun, _, _, _, rfl, O2⟩
theorem ts_q34 (env : Nat → Contract)  (a_ : Sl TreeNode) (k_ : Int) : Sim (kAh Try.prog env n_q34 [Sl.enc a_, iv k_] []) (t_q34 a_ k_) fun c p => release p.2 depth p.1 = some ((fun c : Int => enc c) c) := by
  have O := Hold.nil []
  generalize hB : (⟨[], []⟩ : Base) = B at O
  clear hB
  rw [e_q34]
  unfold t_q34
  refine kCd ((tl0_q34 env a_) ⟨rfl, O⟩) (fun qq43 r hq => ?_)
  rcases qq43 with q7 | q13
  · obtain ⟨q9, z8, h5, rfl, O6⟩ := hq
    rw [e_lk0x0_q34]
    exact kA8 (kA7 (by rfl) _)
  · obtain ⟨q12, q14, h10, rfl, O11⟩ := hq
    rw [e_lk0r_q34]
    exact kA8 (kA7 (by rfl) _)
theorem tt_q34 : kAp Try.prog n_q34 (C2 (fun c : Int => enc c) t_q34) := kGo E0 kBh hb_q34 fun a_ k_ => ts_q34 _  a_ k_
def t_q33 (a_ : Tree) (k_ : Int) : Option Int :=
  kA0 (t_q34 a_.nodes k_) fun c5 =>
  bif decide (c5 < 0) then
    some (-1)
  else
    some c5
theorem ts_q33 (env : Nat → Contract) (he_q34 : env n_q34 = .pure (C2 (fun c : Int => enc c) t_q34)) (a_ : Tree) (k_ : Int) : Sim (kAh Try.prog env n_q33 [AV.agg [Sl.enc a_.nodes], iv k_] []) (t_q33 a_ k_) fun c p => release p.2 depth p.1 = some ((fun c : Int => enc c) c) := by
  have O := Hold.nil []
  generalize hB : (⟨[], []⟩ : Base) = B at O
  clear hB
  rw [e_q33]
  unfold t_q33
  refine kBd O (cs := [Sl.enc a_.nodes]) (by first | rfl | simp) (fun o1 h2 O3 => ?_)
  replace O3 : Hold B h2 [(AV.ptr o1 1 0 0, .pt 1 [Sl.enc a_.nodes])] := O3
  refine kA1 (v := AV.ptr o1 1 0 0) rfl ?_
  refine kA1 (v := Sl.enc a_.nodes) (O3.ld 0 rfl false 1 0) ?_
  refine kD0 he_q34 (kCu _ _) (kAm _ _) (fun c5 => ?_)
  refine kB4 (kAe (by rfl) _ _) ?_
  refine kA1 (v := bv (decide (c5 < 0))) (kB8 _ _) ?_
  refine kAc (fun c6 => ?_) (fun c6 => ?_)
  · exact kA8 (kA7 (by rfl) _)
  · exact kA8 (kA7 (by rfl) _)
theorem tt_q33 : kAp Try.prog n_q33 (C2 (fun c : Int => enc c) t_q33) := kGo (kCq tt_q34 E0) kBh hb_q33 fun a_ k_ => ts_q33 _ (by simp [kC4]) a_ k_
theorem lp_q38 (env : Nat → Contract) {y2 y3 y4 y40 : AV} (o n : Nat) : ∀ (S P : List (List AV)) (k i : Nat) (h : kA6), i = P.length → P.length + S.length = n → n ≤ 4294967296 → (∀ r ∈ S, r.length = 4) → k + 4 * S.length ≤ 1000000000 → h[o]? = some ⟨4, P ++ S⟩ →
    (kA0 (kBx hm0_q38 xm0_q38 (lb0_q38 env) [.sl o n 0 n, iv (k : Nat), y2, y3, y4, iv (i : Nat), .top, .top, .top, .top, .top, .top, .top, .top, .top, .top, .top, .top, .top, .top, .top, .top, .top, .top, .top, .top, .top, .top, .top, .top, .top, .top, .top, .top, .top, .top, .top, .top, .top, .top, y40] h) fun r => lk0_q38 env r.1 r.2.1 r.2.2) = some (iv ((k + 4 * S.length : Nat) : Int), h.set o ⟨4, P ++ mrows [false, false, false, false] k S.length⟩) := by
  intro S
  induction S with
  | nil =>
    intro P k i h hi hl hn hr hk ho
    have : ¬ i < n := by simp at hl; omega
    have hs := set_same ho
    simp at hs
    rw [kBx.eq_1]
    simp [e_lb0_q38, restr, e_lk0x0_q38, this, mrows, hs]
  | cons r S ih =>
    intro P k i h hi hl hn hr hk ho
    have hl' : P.length + (S.length + 1) = n := by simpa using hl
    simp only [List.length_cons] at hk
    have hlt : i < n := by omega
    have hrl := hr r (by simp)
    obtain ⟨c0, c1, c2, c3, rfl⟩ : ∃ c0 c1 c2 c3, r = [c0, c1, c2, c3] := by
      match r, hrl with
      | [c0, c1, c2, c3], _ => exact ⟨c0, c1, c2, c3, rfl⟩
    have olt := (List.getElem?_eq_some_iff.1 ho).1
    have a0 := kE2 (w := 4) (r := [c0, c1, c2, c3]) ho hi hl'
    have s0 := kDf (j := 0) (v := iv (k : Int)) ho hi hl' rfl rfl (by simp)
    simp only [List.set_cons_zero, List.set_cons_succ, List.set_set] at s0
    have g0 : (h.set o ⟨4, P ++ [(iv (k : Int)), c1, c2, c3] :: S⟩)[o]? = some ⟨4, P ++ [(iv (k : Int)), c1, c2, c3] :: S⟩ := by simp [olt]
    have w0 : wr ((k : Int) + 1) = ((k + 1 : Nat) : Int) := by rw [kD1 (by omega) (by omega)]; omega
    have a1 := kE2 (w := 4) (r := [(iv (k : Int)), c1, c2, c3]) g0 hi hl'
    have s1 := kDf (j := 1) (v := iv ((k + 1 : Nat) : Int)) g0 hi hl' rfl rfl (by simp)
    simp only [List.set_cons_zero, List.set_cons_succ, List.set_set] at s1
    have g1 : (h.set o ⟨4, P ++ [(iv (k : Int)), (iv ((k + 1 : Nat) : Int)), c2, c3] :: S⟩)[o]? = some ⟨4, P ++ [(iv (k : Int)), (iv ((k + 1 : Nat) : Int)), c2, c3] :: S⟩ := by simp [olt]
    have w1 : wr (((k + 1 : Nat) : Int) + 1) = ((k + 2 : Nat) : Int) := by rw [kD1 (by omega) (by omega)]; omega
    have a2 := kE2 (w := 4) (r := [(iv (k : Int)), (iv ((k + 1 : Nat) : Int)), c2, c3]) g1 hi hl'
    have s2 := kDf (j := 2) (v := iv ((k + 2 : Nat) : Int)) g1 hi hl' rfl rfl (by simp)
    simp only [List.set_cons_zero, List.set_cons_succ, List.set_set] at s2
    have g2 : (h.set o ⟨4, P ++ [(iv (k : Int)), (iv ((k + 1 : Nat) : Int)), (iv ((k + 2 : Nat) : Int)), c3] :: S⟩)[o]? = some ⟨4, P ++ [(iv (k : Int)), (iv ((k + 1 : Nat) : Int)), (iv ((k + 2 : Nat) : Int)), c3] :: S⟩ := by simp [olt]
    have w2 : wr (((k + 2 : Nat) : Int) + 1) = ((k + 3 : Nat) : Int) := by rw [kD1 (by omega) (by omega)]; omega
    have a3 := kE2 (w := 4) (r := [(iv (k : Int)), (iv ((k + 1 : Nat) : Int)), (iv ((k + 2 : Nat) : Int)), c3]) g2 hi hl'
    have s3 := kDf (j := 3) (v := iv ((k + 3 : Nat) : Int)) g2 hi hl' rfl rfl (by simp)
    simp only [List.set_cons_zero, List.set_cons_succ, List.set_set] at s3
    have g3 : (h.set o ⟨4, P ++ [(iv (k : Int)), (iv ((k + 1 : Nat) : Int)), (iv ((k + 2 : Nat) : Int)), (iv ((k + 3 : Nat) : Int))] :: S⟩)[o]? = some ⟨4, P ++ [(iv (k : Int)), (iv ((k + 1 : Nat) : Int)), (iv ((k + 2 : Nat) : Int)), (iv ((k + 3 : Nat) : Int))] :: S⟩ := by simp [olt]
    have w3 : wr (((k + 3 : Nat) : Int) + 1) = ((k + 4 : Nat) : Int) := by rw [kD1 (by omega) (by omega)]; omega
    have wi : wr ((i : Int) + 1) = ((i + 1 : Nat) : Int) := by rw [kD1 (by omega) (by omega)]; omega
    have r := ih (P ++ [[(iv (k : Int)), (iv ((k + 1 : Nat) : Int)), (iv ((k + 2 : Nat) : Int)), (iv ((k + 3 : Nat) : Int))]]) (k + 4) (i + 1) (h.set o ⟨4, P ++ [(iv (k : Int)), (iv ((k + 1 : Nat) : Int)), (iv ((k + 2 : Nat) : Int)), (iv ((k + 3 : Nat) : Int))] :: S⟩) (by simp [hi]) (by simp; omega) hn (fun r hr' => hr r (by simp [hr'])) (by omega) (by simp [olt])
    have hlz : ((i : Int) < (n : Nat)) := by omega
    rw [kBx.eq_1]
    simp only [e_lb0_q38, aLenK_sl, kA4, kB8, kIy, hlz, decide_true, cond_true, kHz, Nat.zero_add, a0, s0, w0, a1, s1, w1, a2, s2, w2, a3, s3, w3, wi, kAd, restr, cond_false]
    rw [r]
    simp only [mrows, mrow, List.length_cons, List.set_set, List.append_assoc, List.singleton_append, cond_true, cond_false, Nat.add_assoc]
    congr 3
    · omega
theorem kGu (env : Nat → Contract) (R : List (List AV)) (o n : Nat) (hn : R.length = n) (hl : n ≤ 4294967296) (hr : ∀ r ∈ R, r.length = 4) (k : Nat) (hk : k + 4 * n ≤ 1000000000) (h : kA6) (ho : h[o]? = some ⟨4, R⟩) :
    kAh Try.prog env n_q38 [.sl o n 0 n, iv (k : Nat)] h = some (iv ((k + 4 * n : Nat) : Int), h.set o ⟨4, mrows [false, false, false, false] k n⟩) := by
  have L := fun {y2 y3 y4 y40} => @lp_q38 env y2 y3 y4 y40 o n R [] k 0 h rfl (by simpa using hn) hl hr (by rw [hn]; exact hk) (by simpa using ho)
  rw [hn] at L
  simp [-Int.natCast_add] at L
  simp [-Int.natCast_add, e_q38, L]
def MarkGOK {A : Type} [Row A] (w j : Nat) (f : List AV → kA6 → Option (AV × kA6)) (mk : Sl A → Int → Option (Int × Sl A)) : Prop :=
  ∀ (B : Base) (h : kA6) (L : List Ent) (i : Nat) (x : AV) (s : Sl A) (k r : Int) (s' : Sl A) (cs : List AV), Hold B h L → L[i]? = some (x, obS s) → cs.all AV.flat = true → cs.length = w → cs[j]? = some x → mk s k = some (r, s') → ∃ h', f [AV.agg cs, iv k] h = some (iv r, h') ∧ Hold B h' (L.set i (x, obS s'))
theorem sim_markG {A : Type} [Row A] {B : Base} {h : kA6} {L : List Ent} {γ δ : Type} {env : Nat → Contract} {g w j : Nat} {f : List AV → kA6 → Option (AV × kA6)} {mk : Sl A → Int → Option (Int × Sl A)} {cs : List AV} (O : Hold B h L) (i : Nat) {x : AV} {s : Sl A} (hi : L[i]? = some (x, obS s)) {k : Int} (he : env g = .gen f) (hf : MarkGOK w j f mk) (hc : cs.all AV.flat = true) (hw : cs.length = w) (hj : cs[j]? = some x)
    {F : AV → kA6 → Option γ} {G : Int × Sl A → Option δ} {Q : δ → γ → Prop} (K : ∀ r s' h', Hold B h' (L.set i (x, obS s')) → Sim (F (iv r) h') (G (r, s')) Q) : Sim (kA3 (kAt (env g) [AV.agg cs, iv k] h) F) (kA0 (mk s k) G) Q := by
  rw [he]
  show Sim (kA3 (f [AV.agg cs, iv k] h) F) _ Q
  cases hm : mk s k with
  | none => exact kF5
  | some p =>
    obtain ⟨r, s'⟩ := p
    obtain ⟨h', e1, e2⟩ := hf B h L i x s k r s' cs O hi hc hw hj hm
    rw [kA4, e1, kCv]
    exact K r s' h' e2
theorem markG_of {A : Type} [Row A] {w j g1 : Nat} {env : Nat → Contract} {f : List AV → kA6 → Option (AV × kA6)} {D : List AV → kA6 → Option (AV × kA6)} {mk : Sl A → Int → Option (Int × Sl A)} (he : env g1 = .gen f) (hf : MarkOK f mk)
    (e : ∀ (cs : List AV) (x1 : AV) (h : kA6), D [AV.agg cs, x1] h = kA3 (kCl cs h) fun v1 h2 => kA0 (kA2 j v1) fun v3 => kA0 (kA5 false 1 v3 h2) fun v4 => kA3 (kAt (env g1) [v4, x1] h2) fun v5 h6 => some (v5, h6)) : MarkGOK w j D mk := by
  intro B h L i x s k r s' cs O hi hc hw hj hm
  have hx : x.cells = [x] ∧ x.flat = true := O.one i hi
  have hlt := (List.getElem?_eq_some_iff.1 hi).1
  have O2 : Hold B (h ++ [⟨cs.length, [cs]⟩]) (L ++ [(.ptr h.length 1 0 0, .pt cs.length cs)]) := O.alloc (.pt cs.length cs) rfl
  have hi2 : (L ++ [(AV.ptr h.length 1 0 0, EV.pt cs.length cs)])[i]? = some (x, obS s) := by rw [List.getElem?_append_left hlt]; exact hi
  obtain ⟨h', f1, f2⟩ := O2.mark i hi2 hf hm
  rw [List.set_append_left _ _ hlt] at f2
  refine ⟨h', ?_, f2.left⟩
  have ld := O2.ld (o := h.length) (k := cs.length) (cs := cs) L.length (by simp) false 1 j
  have dr : cs.drop j = x :: cs.drop (j + 1) := by
    obtain ⟨hl, e⟩ := List.getElem?_eq_some_iff.1 hj
    rw [List.drop_eq_getElem_cons hl, e]
  rw [e]
  unfold kCl
  rw [if_pos hc, kCv]
  have fa : kA2 j (AV.ptr h.length 1 0 0) = some (AV.ptr h.length 1 0 j) := by simp [kA2]
  rw [fa, kA4, ld, dr]
  have ct : cut false 1 (x :: cs.drop (j + 1)) = some x := by simp [cut]
  rw [ct, kA4, he]
  show kA3 (f [x, iv k] _) _ = _
  rw [f1, kCv]
def mkTn : Int → Nat → List TreeNode
  | _, 0 => []
  | k, n + 1 => ⟨k, k + 1, k + 2, k + 3⟩ :: mkTn (k + 4) n
theorem mkTn_len : ∀ (n : Nat) (k : Int), (mkTn k n).length = n
  | 0, _ => rfl
  | n + 1, k => by simp [mkTn, mkTn_len n]
def t_q38 (s : Sl TreeNode) (k : Int) : Option (Int × Sl TreeNode) := bif decide (0 ≤ k) && decide (k + 4 * ((s.getD []).length : Nat) ≤ 1000000000) then some (k + 4 * ((s.getD []).length : Nat), s.map fun l => mkTn k l.length) else none
theorem mrows_Tn : ∀ (n k : Nat), mrows [false, false, false, false] k n = (mkTn (k : Int) n).map Row.cells
  | 0, _ => rfl
  | n + 1, k => by
    have ih := mrows_Tn n (k + 4)
    show [iv (k : Int), iv ((k + 1 : Nat) : Int), iv ((k + 1 + 1 : Nat) : Int), iv ((k + 1 + 1 + 1 : Nat) : Int)] :: mrows [false, false, false, false] (k + 4) n = [iv (k : Int), iv ((k : Int) + 1), iv ((k : Int) + 2), iv ((k : Int) + 3)] :: (mkTn ((k : Int) + 4) n).map Row.cells
    rw [ih]
    rfl
theorem kH3 : MarkOK (kAh Try.prog (kC4 []) n_q38) t_q38 := by
  intro s k r s' h
  unfold t_q38 at h
  cases c : decide (0 ≤ k) && decide (k + 4 * ((s.getD []).length : Nat) ≤ 1000000000) with
  | false => rw [c] at h; cases h
  | true =>
    rw [c] at h
    simp only [cond_true, Option.some.injEq, Prod.mk.injEq] at h
    obtain ⟨rfl, rfl⟩ := h
    simp only [Bool.and_eq_true, decide_eq_true_eq] at c
    obtain ⟨m, rfl⟩ := Int.eq_ofNat_of_zero_le c.1
    cases s with
    | none =>
      refine .inl ⟨rfl, rfl, fun h => ?_⟩
      rw [e_q38, kBx.eq_1]
      simp [e_lb0_q38, e_lk0x0_q38, restr]
    | some l =>
      refine .inr ⟨l, mkTn m l.length, rfl, rfl, mkTn_len _ _, fun o h ho => ?_⟩
      have g := kGu (kC4 []) (l.map Row.cells) o l.length (by simp) (by simp only [Option.getD_some] at c; omega) (fun r hr => by
        obtain ⟨a, _, rfl⟩ := List.mem_map.1 hr
        rfl) m (by simp only [Option.getD_some] at c; omega) h ho
      rw [mrows_Tn] at g
      rw [g]
      simp only [Option.getD_some]
      congr 3
noncomputable def ev_q37 : Nat → Contract := kC4 [(n_q38, .gen (kAh Try.prog (kC4 []) n_q38))]
theorem eo_laws_markTree : kBz Try.prog ev_q37 := kE5 (kBk E0 kBh hb_q38) E0
theorem mk_laws_markTree : MarkGOK 1 0 (kAh Try.prog ev_q37 n_q37) t_q38 :=
  markG_of (g1 := n_q38) (env := ev_q37) (by simp [ev_q37, kC4]) kH3 fun cs x1 h => e_q37 _ _ _ _
def s0_q16 (set : Int) : Int → Option (Sum Int Int) := fun w =>
  kA0 (shlO 1 w) fun v =>
  bif !decide (v = set) then
    some (.inl (wr (w + 1)))
  else
    some (.inr w)
def t_q16 : Nat → Parser → Sl TreeNode → Int → Option (Sl TreeNode × Int)
  | 0, _, _, _ => none
  | k + 1, p, t, set =>
    kA0 (kCo (p.best.getD []) set) fun a =>
    bif decide (kF3 set (wr (set - 1)) = 0) then
      kA0 (kBq (s0_q16 set) 0) fun i =>
      kA0 (appO t [(⟨0, i, 0, 0⟩ : TreeNode)]) fun r =>
      some (r, wr ((((r.getD []).length : Nat) : Int) - 1))
    else
      kA0 (t_q16 k p t a.a) fun (q : Sl TreeNode × Int) =>
      bif !decide (a.b = 0) then
        kA0 (t_q16 k p q.1 a.b) fun (q2 : Sl TreeNode × Int) =>
        kA0 (appO q2.1 [(⟨a.kind, q.2, q2.2, a.sign⟩ : TreeNode)]) fun r =>
        some (r, wr ((((r.getD []).length : Nat) : Int) - 1))
      else
        kA0 (appO q.1 [(⟨a.kind, q.2, 0, a.sign⟩ : TreeNode)]) fun r =>
        some (r, wr ((((r.getD []).length : Nat) : Int) - 1))
def t_q61 : Nat → Chart21 → Sl TreeNode → Int → Option (Sl TreeNode × Int)
  | 0, _, _, _ => none
  | k + 1, c, t, set =>
    kA0 (kCo (c.cells.getD []) set) fun a =>
    bif decide (a.kind = 0) then
      kA0 (appO t [(⟨0, a.sign, 0, 0⟩ : TreeNode)]) fun r =>
      some (r, wr ((((r.getD []).length : Nat) : Int) - 1))
    else
      kA0 (t_q61 k c t a.first) fun (q : Sl TreeNode × Int) =>
      bif !decide (a.rest = 0) then
        kA0 (t_q61 k c q.1 a.rest) fun (q2 : Sl TreeNode × Int) =>
        kA0 (appO q2.1 [(⟨a.kind, q.2, q2.2, a.sign⟩ : TreeNode)]) fun r =>
        some (r, wr ((((r.getD []).length : Nat) : Int) - 1))
      else
        kA0 (appO q.1 [(⟨a.kind, q.2, 0, a.sign⟩ : TreeNode)]) fun r =>
        some (r, wr ((((r.getD []).length : Nat) : Int) - 1))
noncomputable def kBa : Nat → Nat → Contract
  | 0 => kC4 []
  | k + 1 => kC4 [(n_q61, .gen (kAh Try.prog (kBa k) n_q61))]
theorem kEn : ∀ k, kBz Try.prog (kBa k)
  | 0 => E0
  | k + 1 => kE5 (kBk (kEn k) kBh hb_q61) E0
theorem kDb : ∀ (k : Nat) {B : Base} {h : kA6} {o_ : Nat} {xc x : AV} (c : Chart21) (t : Sl TreeNode) (set : Int) (O : Hold B h [(AV.ptr o_ 1 0 0, .pt 2 [Sl.enc c.list, xc]), (xc, obS (c.cells : Sl Cell21)), (x, obS (t : Sl TreeNode))]),
    Sim (kAh Try.prog (kBa k) n_q61 [AV.ptr o_ 1 0 0, x, iv set] h) (t_q61 k c t set) (fun r p => ∃ x1, p.1 = AV.tup [x1, iv r.2] ∧ Hold B p.2 [(AV.ptr o_ 1 0 0, .pt 2 [Sl.enc c.list, xc]), (xc, obS (c.cells : Sl Cell21)), (x1, obS (r.1 : Sl TreeNode))])
  | 0, B, h, o_, xc, x, c, t, set, O => kF5
  | k + 1, B, h, o_, xc, x, c, t, set, O => by
    have he : kBa (k + 1) n_q61 = .gen (kAh Try.prog (kBa k) n_q61) := by simp [kBa, kC4]
    generalize kBa (k + 1) = env at he
    rw [e_q61]
    unfold t_q61
    refine kA1 (v := AV.ptr o_ 1 0 0) rfl ?_
    refine kA1 (v := AV.ptr o_ 1 0 1) rfl ?_
    refine kA1 (v := xc) (O.ld 0 rfl false 1 1) ?_
    refine kAo (O.tab (A := Cell21) (s := c.cells) 1 rfl) (fun m a hi hm => ?_)
    refine kA1 (v := AV.agg [iv a.box.x1, iv a.box.y1, iv a.box.x2, iv a.box.y2, iv a.ways, iv a.cost, iv a.kind, iv a.sign, iv a.first, iv a.rest]) ((O.tab (A := Cell21) (s := c.cells) 1 rfl).ld hm true 10 0) ?_
    refine kBd O (cs := [iv 0, iv 0, iv 0, iv 0, iv 0, iv 0, iv 0, iv 0, iv 0, iv 0]) (by first | rfl | simp) (fun o5 h6 O7 => ?_)
    replace O7 : Hold B h6 [(AV.ptr o_ 1 0 0, .pt 2 [Sl.enc c.list, xc]), (xc, obS (c.cells : Sl Cell21)), (x, obS (t : Sl TreeNode)), (AV.ptr o5 1 0 0, .pt 10 [iv 0, iv 0, iv 0, iv 0, iv 0, iv 0, iv 0, iv 0, iv 0, iv 0])] := O7
    refine kAy O7 3 (cs' := [iv a.box.x1, iv a.box.y1, iv a.box.x2, iv a.box.y2, iv a.ways, iv a.cost, iv a.kind, iv a.sign, iv a.first, iv a.rest]) rfl (by first | rfl | simp) (by simp) (by first | rfl | simp) (by first | rfl | simp [kAi]) (fun h9 O10 => ?_)
    replace O10 : Hold B h9 [(AV.ptr o_ 1 0 0, .pt 2 [Sl.enc c.list, xc]), (xc, obS (c.cells : Sl Cell21)), (x, obS (t : Sl TreeNode)), (AV.ptr o5 1 0 0, .pt 10 [iv a.box.x1, iv a.box.y1, iv a.box.x2, iv a.box.y2, iv a.ways, iv a.cost, iv a.kind, iv a.sign, iv a.first, iv a.rest])] := O10
    refine kA1 (v := AV.ptr o5 1 0 6) rfl ?_
    refine kA1 (v := iv a.kind) (O10.ld 3 rfl false 1 6) ?_
    refine kA1 (v := bv (decide (a.kind = 0))) (kAv _ _) ?_
    refine kAc (fun c11 => ?_) (fun c11 => ?_)
    · refine kA1 (v := AV.ptr o5 1 0 7) rfl ?_
      refine kA1 (v := iv a.sign) (O10.ld 3 rfl false 1 7) ?_
      refine kA1 (v := AV.agg [iv 0, iv a.sign, iv 0, iv 0]) (by first | rfl | simp [kBv, kF7, kAi]) ?_
      refine kDq (A := TreeNode) O10 ([(⟨0, a.sign, 0, 0⟩ : TreeNode)] : List TreeNode) rfl (by first | rfl | simp [kC5, kF6]) rfl (fun y20 g20 P20 => ?_)
      replace P20 : Hold B g20 [(AV.ptr o_ 1 0 0, .pt 2 [Sl.enc c.list, xc]), (xc, obS (c.cells : Sl Cell21)), (x, obS (t : Sl TreeNode)), (AV.ptr o5 1 0 0, .pt 10 [iv a.box.x1, iv a.box.y1, iv a.box.x2, iv a.box.y2, iv a.ways, iv a.cost, iv a.kind, iv a.sign, iv a.first, iv a.rest]), (y20, obS ((some ([(⟨0, a.sign, 0, 0⟩ : TreeNode)] : List TreeNode)) : Sl TreeNode))] := P20
      refine kF0 (A := TreeNode) (s := t) P20 2 ([(⟨0, a.sign, 0, 0⟩ : TreeNode)] : List TreeNode) rfl (P20.src (A := TreeNode) (s := (some ([(⟨0, a.sign, 0, 0⟩ : TreeNode)] : List TreeNode))) 4 rfl) (by decide) (fun z21 g21 P21 => ?_)
      replace P21 : Hold B g21 [(AV.ptr o_ 1 0 0, .pt 2 [Sl.enc c.list, xc]), (xc, obS (c.cells : Sl Cell21)), (z21, obS ((kGd t ([(⟨0, a.sign, 0, 0⟩ : TreeNode)] : List TreeNode)) : Sl TreeNode)), (AV.ptr o5 1 0 0, .pt 10 [iv a.box.x1, iv a.box.y1, iv a.box.x2, iv a.box.y2, iv a.ways, iv a.cost, iv a.kind, iv a.sign, iv a.first, iv a.rest]), (y20, obS ((some ([(⟨0, a.sign, 0, 0⟩ : TreeNode)] : List TreeNode)) : Sl TreeNode))] := P21
      refine kA1 (v := iv ((((kGd t ([(⟨0, a.sign, 0, 0⟩ : TreeNode)] : List TreeNode)).getD []).length : Nat) : Int)) (P21.tab (A := TreeNode) (s := (kGd t ([(⟨0, a.sign, 0, 0⟩ : TreeNode)] : List TreeNode))) 2 rfl).len ?_
      refine kA1 (v := iv (wr (((((kGd t ([(⟨0, a.sign, 0, 0⟩ : TreeNode)] : List TreeNode)).getD []).length : Nat) : Int) - 1))) (kB2 _ _) ?_
      exact kA8 ⟨_, rfl, P21.sel [0, 1, 2] (by decide) rfl⟩
    · refine kA1 (v := AV.ptr o5 1 0 8) rfl ?_
      refine kA1 (v := iv a.first) (O10.ld 3 rfl false 1 8) ?_
      refine kCj he (kDb k c t a.first (Hold.startL (L := [(AV.ptr o_ 1 0 0, .pt 2 [Sl.enc c.list, xc]), (xc, obS (c.cells : Sl Cell21)), (x, obS (t : Sl TreeNode))]) (R := [(AV.ptr o5 1 0 0, .pt 10 [iv a.box.x1, iv a.box.y1, iv a.box.x2, iv a.box.y2, iv a.ways, iv a.cost, iv a.kind, iv a.sign, iv a.first, iv a.rest])]) O10)) (fun q v32 h32 hq => ?_)
      obtain ⟨x33, e33, O33⟩ := hq
      dsimp only at e33
      subst v32
      have O34 : Hold B h32 [(AV.ptr o_ 1 0 0, .pt 2 [Sl.enc c.list, xc]), (xc, obS (c.cells : Sl Cell21)), (x33, obS (q.1 : Sl TreeNode)), (AV.ptr o5 1 0 0, .pt 10 [iv a.box.x1, iv a.box.y1, iv a.box.x2, iv a.box.y2, iv a.ways, iv a.cost, iv a.kind, iv a.sign, iv a.first, iv a.rest])] := Hold.mergeL (L := [(AV.ptr o_ 1 0 0, .pt 2 [Sl.enc c.list, xc]), (xc, obS (c.cells : Sl Cell21)), (x, obS (t : Sl TreeNode))]) (R := [(AV.ptr o5 1 0 0, .pt 10 [iv a.box.x1, iv a.box.y1, iv a.box.x2, iv a.box.y2, iv a.ways, iv a.cost, iv a.kind, iv a.sign, iv a.first, iv a.rest])]) O10 O33
      refine kA1 (v := x33) rfl ?_
      refine kA1 (v := iv q.2) rfl ?_
      refine kA1 (v := AV.ptr o5 1 0 9) rfl ?_
      refine kA1 (v := iv a.rest) (O34.ld 3 rfl false 1 9) ?_
      refine kA1 (v := bv (!decide (a.rest = 0))) (kCi _ _) ?_
      refine kAc (fun c12 => ?_) (fun c12 => ?_)
      · refine kA1 (v := AV.ptr o5 1 0 9) rfl ?_
        refine kA1 (v := iv a.rest) (O34.ld 3 rfl false 1 9) ?_
        refine kCj he (kDb k c q.1 a.rest (Hold.startL (L := [(AV.ptr o_ 1 0 0, .pt 2 [Sl.enc c.list, xc]), (xc, obS (c.cells : Sl Cell21)), (x33, obS (q.1 : Sl TreeNode))]) (R := [(AV.ptr o5 1 0 0, .pt 10 [iv a.box.x1, iv a.box.y1, iv a.box.x2, iv a.box.y2, iv a.ways, iv a.cost, iv a.kind, iv a.sign, iv a.first, iv a.rest])]) O34)) (fun q2 v42 h42 hq2 => ?_)
        obtain ⟨x43, e43, O43⟩ := hq2
        dsimp only at e43
        subst v42
        have O44 : Hold B h42 [(AV.ptr o_ 1 0 0, .pt 2 [Sl.enc c.list, xc]), (xc, obS (c.cells : Sl Cell21)), (x43, obS (q2.1 : Sl TreeNode)), (AV.ptr o5 1 0 0, .pt 10 [iv a.box.x1, iv a.box.y1, iv a.box.x2, iv a.box.y2, iv a.ways, iv a.cost, iv a.kind, iv a.sign, iv a.first, iv a.rest])] := Hold.mergeL (L := [(AV.ptr o_ 1 0 0, .pt 2 [Sl.enc c.list, xc]), (xc, obS (c.cells : Sl Cell21)), (x33, obS (q.1 : Sl TreeNode))]) (R := [(AV.ptr o5 1 0 0, .pt 10 [iv a.box.x1, iv a.box.y1, iv a.box.x2, iv a.box.y2, iv a.ways, iv a.cost, iv a.kind, iv a.sign, iv a.first, iv a.rest])]) O34 O43
        refine kA1 (v := x43) rfl ?_
        refine kA1 (v := iv q2.2) rfl ?_
        refine kA1 (v := AV.ptr o5 1 0 6) rfl ?_
        refine kA1 (v := iv a.kind) (O44.ld 3 rfl false 1 6) ?_
        refine kA1 (v := AV.ptr o5 1 0 7) rfl ?_
        refine kA1 (v := iv a.sign) (O44.ld 3 rfl false 1 7) ?_
        refine kA1 (v := AV.agg [iv a.kind, iv q.2, iv q2.2, iv a.sign]) (by first | rfl | simp [kBv, kF7, kAi]) ?_
        refine kDq (A := TreeNode) O44 ([(⟨a.kind, q.2, q2.2, a.sign⟩ : TreeNode)] : List TreeNode) rfl (by first | rfl | simp [kC5, kF6]) rfl (fun y50 g50 P50 => ?_)
        replace P50 : Hold B g50 [(AV.ptr o_ 1 0 0, .pt 2 [Sl.enc c.list, xc]), (xc, obS (c.cells : Sl Cell21)), (x43, obS (q2.1 : Sl TreeNode)), (AV.ptr o5 1 0 0, .pt 10 [iv a.box.x1, iv a.box.y1, iv a.box.x2, iv a.box.y2, iv a.ways, iv a.cost, iv a.kind, iv a.sign, iv a.first, iv a.rest]), (y50, obS ((some ([(⟨a.kind, q.2, q2.2, a.sign⟩ : TreeNode)] : List TreeNode)) : Sl TreeNode))] := P50
        refine kF0 (A := TreeNode) (s := q2.1) P50 2 ([(⟨a.kind, q.2, q2.2, a.sign⟩ : TreeNode)] : List TreeNode) rfl (P50.src (A := TreeNode) (s := (some ([(⟨a.kind, q.2, q2.2, a.sign⟩ : TreeNode)] : List TreeNode))) 4 rfl) (by decide) (fun z51 g51 P51 => ?_)
        replace P51 : Hold B g51 [(AV.ptr o_ 1 0 0, .pt 2 [Sl.enc c.list, xc]), (xc, obS (c.cells : Sl Cell21)), (z51, obS ((kGd q2.1 ([(⟨a.kind, q.2, q2.2, a.sign⟩ : TreeNode)] : List TreeNode)) : Sl TreeNode)), (AV.ptr o5 1 0 0, .pt 10 [iv a.box.x1, iv a.box.y1, iv a.box.x2, iv a.box.y2, iv a.ways, iv a.cost, iv a.kind, iv a.sign, iv a.first, iv a.rest]), (y50, obS ((some ([(⟨a.kind, q.2, q2.2, a.sign⟩ : TreeNode)] : List TreeNode)) : Sl TreeNode))] := P51
        refine kA1 (v := iv ((((kGd q2.1 ([(⟨a.kind, q.2, q2.2, a.sign⟩ : TreeNode)] : List TreeNode)).getD []).length : Nat) : Int)) (P51.tab (A := TreeNode) (s := (kGd q2.1 ([(⟨a.kind, q.2, q2.2, a.sign⟩ : TreeNode)] : List TreeNode))) 2 rfl).len ?_
        refine kA1 (v := iv (wr (((((kGd q2.1 ([(⟨a.kind, q.2, q2.2, a.sign⟩ : TreeNode)] : List TreeNode)).getD []).length : Nat) : Int) - 1))) (kB2 _ _) ?_
        exact kA8 ⟨_, rfl, P51.sel [0, 1, 2] (by decide) rfl⟩
      · refine kA1 (v := AV.ptr o5 1 0 6) rfl ?_
        refine kA1 (v := iv a.kind) (O34.ld 3 rfl false 1 6) ?_
        refine kA1 (v := AV.ptr o5 1 0 7) rfl ?_
        refine kA1 (v := iv a.sign) (O34.ld 3 rfl false 1 7) ?_
        refine kA1 (v := AV.agg [iv a.kind, iv q.2, iv 0, iv a.sign]) (by first | rfl | simp [kBv, kF7, kAi]) ?_
        refine kDq (A := TreeNode) O34 ([(⟨a.kind, q.2, 0, a.sign⟩ : TreeNode)] : List TreeNode) rfl (by first | rfl | simp [kC5, kF6]) rfl (fun y60 g60 P60 => ?_)
        replace P60 : Hold B g60 [(AV.ptr o_ 1 0 0, .pt 2 [Sl.enc c.list, xc]), (xc, obS (c.cells : Sl Cell21)), (x33, obS (q.1 : Sl TreeNode)), (AV.ptr o5 1 0 0, .pt 10 [iv a.box.x1, iv a.box.y1, iv a.box.x2, iv a.box.y2, iv a.ways, iv a.cost, iv a.kind, iv a.sign, iv a.first, iv a.rest]), (y60, obS ((some ([(⟨a.kind, q.2, 0, a.sign⟩ : TreeNode)] : List TreeNode)) : Sl TreeNode))] := P60
        refine kF0 (A := TreeNode) (s := q.1) P60 2 ([(⟨a.kind, q.2, 0, a.sign⟩ : TreeNode)] : List TreeNode) rfl (P60.src (A := TreeNode) (s := (some ([(⟨a.kind, q.2, 0, a.sign⟩ : TreeNode)] : List TreeNode))) 4 rfl) (by decide) (fun z61 g61 P61 => ?_)
        replace P61 : Hold B g61 [(AV.ptr o_ 1 0 0, .pt 2 [Sl.enc c.list, xc]), (xc, obS (c.cells : Sl Cell21)), (z61, obS ((kGd q.1 ([(⟨a.kind, q.2, 0, a.sign⟩ : TreeNode)] : List TreeNode)) : Sl TreeNode)), (AV.ptr o5 1 0 0, .pt 10 [iv a.box.x1, iv a.box.y1, iv a.box.x2, iv a.box.y2, iv a.ways, iv a.cost, iv a.kind, iv a.sign, iv a.first, iv a.rest]), (y60, obS ((some ([(⟨a.kind, q.2, 0, a.sign⟩ : TreeNode)] : List TreeNode)) : Sl TreeNode))] := P61
        refine kA1 (v := iv ((((kGd q.1 ([(⟨a.kind, q.2, 0, a.sign⟩ : TreeNode)] : List TreeNode)).getD []).length : Nat) : Int)) (P61.tab (A := TreeNode) (s := (kGd q.1 ([(⟨a.kind, q.2, 0, a.sign⟩ : TreeNode)] : List TreeNode))) 2 rfl).len ?_
        refine kA1 (v := iv (wr (((((kGd q.1 ([(⟨a.kind, q.2, 0, a.sign⟩ : TreeNode)] : List TreeNode)).getD []).length : Nat) : Int) - 1))) (kB2 _ _) ?_
        exact kA8 ⟨_, rfl, P61.sel [0, 1, 2] (by decide) rfl⟩
noncomputable def kBf : Nat → Nat → Contract
  | 0 => kC4 []
  | k + 1 => kC4 [(n_q16, .gen (kAh Try.prog (kBf k) n_q16))]
theorem kEu : ∀ k, kBz Try.prog (kBf k)
  | 0 => E0
  | k + 1 => kE5 (kBk (kEu k) kBh hb_q16) E0
theorem tl0_q16 (env : Nat → Contract) {B : Base} (p : Parser) (t : Sl TreeNode) (set : Int) (a : Choice) (o_ t_ o1 o8 m : Nat) (xb xs xc x : AV) {st : Int} {tm : TM} {h : kA6} (R : (fun (w : Int) tm h9 => tm = (AV.ptr o_ 1 0 0 :: AV.ptr t_ 1 0 0 :: iv set :: und :: und :: und :: iv 0 :: AV.ptr o1 1 0 0 :: AV.ptr o8 1 0 0 :: AV.ptr o_ 1 0 0 :: AV.ptr o_ 1 0 0 :: AV.ptr o_ 1 0 2 :: xs :: iv set :: elp xs m 0 :: AV.agg [iv a.kind, iv a.sign, iv a.a, iv a.b, iv a.cost] :: iv set :: iv set :: iv (wr (set - 1)) :: iv (kF3 set (wr (set - 1))) :: bv (decide (kF3 set (wr (set - 1)) = 0)) :: .top :: .top :: .top :: .top :: .top :: .top :: .top :: .top :: .top :: und :: und :: und :: und :: und :: und :: und :: und :: und :: und :: und :: und :: und :: und :: und :: und :: und :: und :: und :: und :: und :: und :: und :: und :: und :: und :: und :: und :: und :: und :: und :: und :: und :: und :: und :: und :: []) ∧ Hold B h9 [(AV.ptr o_ 1 0 0, .pt 4 [Sl.enc p.list, xb, xs, xc]), (xb, obS (p.boxes : Sl Box)), (xs, obS (p.best : Sl Choice)), (xc, obS (p.count : Sl Int)), (AV.ptr t_ 1 0 0, .pt 1 [x]), (x, obS (t : Sl TreeNode)), (AV.ptr o1 1 0 0, .pt 4 [iv 0, iv w, iv 0, iv 0]), (AV.ptr o8 1 0 0, .pt 5 [iv a.kind, iv a.sign, iv a.a, iv a.b, iv a.cost])]) st tm h) : Sim (kBx hm0_q16 xm0_q16 (lb0_q16 env) tm h) (kBq (s0_q16 set) st) (fun (q : Int) (r : Res) => ∃ (h9 : kA6), r = (.exit 0, (AV.ptr o_ 1 0 0 :: AV.ptr t_ 1 0 0 :: iv set :: und :: und :: und :: iv 0 :: AV.ptr o1 1 0 0 :: AV.ptr o8 1 0 0 :: AV.ptr o_ 1 0 0 :: AV.ptr o_ 1 0 0 :: AV.ptr o_ 1 0 2 :: xs :: iv set :: elp xs m 0 :: AV.agg [iv a.kind, iv a.sign, iv a.a, iv a.b, iv a.cost] :: iv set :: iv set :: iv (wr (set - 1)) :: iv (kF3 set (wr (set - 1))) :: bv (decide (kF3 set (wr (set - 1)) = 0)) :: .top :: .top :: .top :: .top :: .top :: .top :: .top :: .top :: .top :: und :: und :: und :: und :: und :: und :: und :: und :: und :: und :: und :: und :: und :: und :: und :: und :: und :: und :: und :: und :: und :: und :: und :: und :: und :: und :: und :: und :: und :: und :: und :: und :: und :: und :: und :: und :: []), h9) ∧ Hold B h9 [(AV.ptr o_ 1 0 0, .pt 4 [Sl.enc p.list, xb, xs, xc]), (xb, obS (p.boxes : Sl Box)), (xs, obS (p.best : Sl Choice)), (xc, obS (p.count : Sl Int)), (AV.ptr t_ 1 0 0, .pt 1 [x]), (x, obS (t : Sl TreeNode)), (AV.ptr o1 1 0 0, .pt 4 [iv 0, iv q, iv 0, iv 0]), (AV.ptr o8 1 0 0, .pt 5 [iv a.kind, iv a.sign, iv a.a, iv a.b, iv a.cost])]) := by
  refine kCe (Rel := fun (w : Int) tm h9 => tm = (AV.ptr o_ 1 0 0 :: AV.ptr t_ 1 0 0 :: iv set :: und :: und :: und :: iv 0 :: AV.ptr o1 1 0 0 :: AV.ptr o8 1 0 0 :: AV.ptr o_ 1 0 0 :: AV.ptr o_ 1 0 0 :: AV.ptr o_ 1 0 2 :: xs :: iv set :: elp xs m 0 :: AV.agg [iv a.kind, iv a.sign, iv a.a, iv a.b, iv a.cost] :: iv set :: iv set :: iv (wr (set - 1)) :: iv (kF3 set (wr (set - 1))) :: bv (decide (kF3 set (wr (set - 1)) = 0)) :: .top :: .top :: .top :: .top :: .top :: .top :: .top :: .top :: .top :: und :: und :: und :: und :: und :: und :: und :: und :: und :: und :: und :: und :: und :: und :: und :: und :: und :: und :: und :: und :: und :: und :: und :: und :: und :: und :: und :: und :: und :: und :: und :: und :: und :: und :: und :: und :: []) ∧ Hold B h9 [(AV.ptr o_ 1 0 0, .pt 4 [Sl.enc p.list, xb, xs, xc]), (xb, obS (p.boxes : Sl Box)), (xs, obS (p.best : Sl Choice)), (xc, obS (p.count : Sl Int)), (AV.ptr t_ 1 0 0, .pt 1 [x]), (x, obS (t : Sl TreeNode)), (AV.ptr o1 1 0 0, .pt 4 [iv 0, iv w, iv 0, iv 0]), (AV.ptr o8 1 0 0, .pt 5 [iv a.kind, iv a.sign, iv a.a, iv a.b, iv a.cost])]) (fun w tm h9 R => ?_) R
  obtain ⟨rfl, O⟩ := R
  rw [e_lb0_q16]
  unfold s0_q16
  refine kA1 (v := AV.ptr o1 1 0 1) rfl ?_
  refine kA1 (v := iv w) (O.ld 6 rfl false 1 1) ?_
  refine sim_shl (fun v => ?_)
  refine kA1 (v := bv (!decide (v = set))) (kCi _ _) ?_
  refine kAc (fun c1 => ?_) (fun c1 => ?_)
  · refine kA1 (v := AV.ptr o1 1 0 1) rfl ?_
    refine kA1 (v := iv w) (O.ld 6 rfl false 1 1) ?_
    refine kA1 (v := iv (wr (w + 1))) (kAd _ _) ?_
    refine kA1 (v := AV.ptr o1 1 0 1) rfl ?_
    refine kAy O 6 (cs' := [iv 0, iv (wr (w + 1)), iv 0, iv 0]) rfl (by first | rfl | simp) (by simp) (by first | rfl | simp) (by first | rfl | simp [kAi]) (fun h10 O11 => ?_)
    exact kA8 ⟨rfl, rfl, O11⟩
  · exact kA8 ⟨nofun, _, rfl, O⟩
theorem kDm : ∀ (k : Nat) {B : Base} {h : kA6} {o_ t_ : Nat} {xb xs xc x : AV} (p : Parser) (t : Sl TreeNode) (set : Int) (O : Hold B h [(AV.ptr o_ 1 0 0, .pt 4 [Sl.enc p.list, xb, xs, xc]), (xb, obS (p.boxes : Sl Box)), (xs, obS (p.best : Sl Choice)), (xc, obS (p.count : Sl Int)), (AV.ptr t_ 1 0 0, .pt 1 [x]), (x, obS (t : Sl TreeNode))]),
    Sim (kAh Try.prog (kBf k) n_q16 [AV.ptr o_ 1 0 0, AV.ptr t_ 1 0 0, iv set] h) (t_q16 k p t set) (fun r pp => ∃ x1, pp.1 = iv r.2 ∧ Hold B pp.2 [(AV.ptr o_ 1 0 0, .pt 4 [Sl.enc p.list, xb, xs, xc]), (xb, obS (p.boxes : Sl Box)), (xs, obS (p.best : Sl Choice)), (xc, obS (p.count : Sl Int)), (AV.ptr t_ 1 0 0, .pt 1 [x1]), (x1, obS (r.1 : Sl TreeNode))])
  | 0, B, h, o_, t_, xb, xs, xc, x, p, t, set, O => kF5
  | k + 1, B, h, o_, t_, xb, xs, xc, x, p, t, set, O => by
    have he : kBf (k + 1) n_q16 = .gen (kAh Try.prog (kBf k) n_q16) := by simp [kBf, kC4]
    generalize kBf (k + 1) = env at he
    rw [e_q16]
    unfold t_q16
    refine kBd O (cs := [iv 0, iv 0, iv 0, iv 0]) (by first | rfl | simp) (fun o1 h1 O1 => ?_)
    replace O1 : Hold B h1 [(AV.ptr o_ 1 0 0, .pt 4 [Sl.enc p.list, xb, xs, xc]), (xb, obS (p.boxes : Sl Box)), (xs, obS (p.best : Sl Choice)), (xc, obS (p.count : Sl Int)), (AV.ptr t_ 1 0 0, .pt 1 [x]), (x, obS (t : Sl TreeNode)), (AV.ptr o1 1 0 0, .pt 4 [iv 0, iv 0, iv 0, iv 0])] := O1
    refine kA1 (v := AV.ptr o_ 1 0 0) rfl ?_
    refine kA1 (v := AV.ptr o_ 1 0 2) rfl ?_
    refine kA1 (v := xs) (O1.ld 0 rfl false 1 2) ?_
    refine kAo (O1.tab (A := Choice) (s := p.best) 2 rfl) (fun m a hi hm => ?_)
    refine kA1 (v := AV.agg [iv a.kind, iv a.sign, iv a.a, iv a.b, iv a.cost]) ((O1.tab (A := Choice) (s := p.best) 2 rfl).ld hm true 5 0) ?_
    refine kBd O1 (cs := [iv 0, iv 0, iv 0, iv 0, iv 0]) (by first | rfl | simp) (fun o8 h6 O7 => ?_)
    replace O7 : Hold B h6 [(AV.ptr o_ 1 0 0, .pt 4 [Sl.enc p.list, xb, xs, xc]), (xb, obS (p.boxes : Sl Box)), (xs, obS (p.best : Sl Choice)), (xc, obS (p.count : Sl Int)), (AV.ptr t_ 1 0 0, .pt 1 [x]), (x, obS (t : Sl TreeNode)), (AV.ptr o1 1 0 0, .pt 4 [iv 0, iv 0, iv 0, iv 0]), (AV.ptr o8 1 0 0, .pt 5 [iv 0, iv 0, iv 0, iv 0, iv 0])] := O7
    refine kAy O7 7 (cs' := [iv a.kind, iv a.sign, iv a.a, iv a.b, iv a.cost]) rfl (by first | rfl | simp) (by simp) (by first | rfl | simp) (by first | rfl | simp [kAi]) (fun h9 O10 => ?_)
    replace O10 : Hold B h9 [(AV.ptr o_ 1 0 0, .pt 4 [Sl.enc p.list, xb, xs, xc]), (xb, obS (p.boxes : Sl Box)), (xs, obS (p.best : Sl Choice)), (xc, obS (p.count : Sl Int)), (AV.ptr t_ 1 0 0, .pt 1 [x]), (x, obS (t : Sl TreeNode)), (AV.ptr o1 1 0 0, .pt 4 [iv 0, iv 0, iv 0, iv 0]), (AV.ptr o8 1 0 0, .pt 5 [iv a.kind, iv a.sign, iv a.a, iv a.b, iv a.cost])] := O10
    refine kA1 (v := iv (wr (set - 1))) (kB2 _ _) ?_
    refine kA1 (v := iv (kF3 set (wr (set - 1)))) (kGb _ _) ?_
    refine kA1 (v := bv (decide (kF3 set (wr (set - 1)) = 0))) (kAv _ _) ?_
    refine kAc (fun c11 => ?_) (fun c11 => ?_)
    · refine kCd (tl0_q16 env p t set a o_ t_ o1 o8 m xb xs xc x ⟨rfl, O10⟩) (fun q r hq => ?_)
      obtain ⟨h12, rfl, O12⟩ := hq
      rw [e_lk0x0_q16]
      refine kA1 (v := AV.ptr t_ 1 0 0) rfl ?_
      refine kA1 (v := AV.ptr t_ 1 0 0) rfl ?_
      refine kA1 (v := x) (O12.ld 4 rfl false 1 0) ?_
      refine kA1 (v := AV.agg [iv 0, iv q, iv 0, iv 0]) (O12.ld 6 rfl true 4 0) ?_
      refine kDq (A := TreeNode) O12 ([(⟨0, q, 0, 0⟩ : TreeNode)] : List TreeNode) rfl (by first | rfl | simp [kC5, kF6]) rfl (fun y20 g20 P20 => ?_)
      replace P20 : Hold B g20 [(AV.ptr o_ 1 0 0, .pt 4 [Sl.enc p.list, xb, xs, xc]), (xb, obS (p.boxes : Sl Box)), (xs, obS (p.best : Sl Choice)), (xc, obS (p.count : Sl Int)), (AV.ptr t_ 1 0 0, .pt 1 [x]), (x, obS (t : Sl TreeNode)), (AV.ptr o1 1 0 0, .pt 4 [iv 0, iv q, iv 0, iv 0]), (AV.ptr o8 1 0 0, .pt 5 [iv a.kind, iv a.sign, iv a.a, iv a.b, iv a.cost]), (y20, obS ((some ([(⟨0, q, 0, 0⟩ : TreeNode)] : List TreeNode)) : Sl TreeNode))] := P20
      refine kF0 (A := TreeNode) (s := t) P20 5 ([(⟨0, q, 0, 0⟩ : TreeNode)] : List TreeNode) rfl (P20.src (A := TreeNode) (s := (some ([(⟨0, q, 0, 0⟩ : TreeNode)] : List TreeNode))) 8 rfl) (by decide) (fun z21 g21 P21 => ?_)
      replace P21 : Hold B g21 [(AV.ptr o_ 1 0 0, .pt 4 [Sl.enc p.list, xb, xs, xc]), (xb, obS (p.boxes : Sl Box)), (xs, obS (p.best : Sl Choice)), (xc, obS (p.count : Sl Int)), (AV.ptr t_ 1 0 0, .pt 1 [x]), (z21, obS ((kGd t ([(⟨0, q, 0, 0⟩ : TreeNode)] : List TreeNode)) : Sl TreeNode)), (AV.ptr o1 1 0 0, .pt 4 [iv 0, iv q, iv 0, iv 0]), (AV.ptr o8 1 0 0, .pt 5 [iv a.kind, iv a.sign, iv a.a, iv a.b, iv a.cost]), (y20, obS ((some ([(⟨0, q, 0, 0⟩ : TreeNode)] : List TreeNode)) : Sl TreeNode))] := P21
      refine kA1 (v := AV.ptr t_ 1 0 0) rfl ?_
      refine kA1 (v := AV.ptr t_ 1 0 0) rfl ?_
      have w21 := P21.one (A := TreeNode) (s := (kGd t ([(⟨0, q, 0, 0⟩ : TreeNode)] : List TreeNode))) 5 rfl
      refine kAy P21 4 (cs' := [z21]) rfl (by first | rfl | simp [w21.1, w21.2]) (by simp) (by first | rfl | simp [w21.1, w21.2]) (by first | rfl | simp [kAi, w21.1, w21.2]) (fun g22 P22 => ?_)
      replace P22 : Hold B g22 [(AV.ptr o_ 1 0 0, .pt 4 [Sl.enc p.list, xb, xs, xc]), (xb, obS (p.boxes : Sl Box)), (xs, obS (p.best : Sl Choice)), (xc, obS (p.count : Sl Int)), (AV.ptr t_ 1 0 0, .pt 1 [z21]), (z21, obS ((kGd t ([(⟨0, q, 0, 0⟩ : TreeNode)] : List TreeNode)) : Sl TreeNode)), (AV.ptr o1 1 0 0, .pt 4 [iv 0, iv q, iv 0, iv 0]), (AV.ptr o8 1 0 0, .pt 5 [iv a.kind, iv a.sign, iv a.a, iv a.b, iv a.cost]), (y20, obS ((some ([(⟨0, q, 0, 0⟩ : TreeNode)] : List TreeNode)) : Sl TreeNode))] := P22
      refine kA1 (v := AV.ptr t_ 1 0 0) rfl ?_
      refine kA1 (v := AV.ptr t_ 1 0 0) rfl ?_
      refine kA1 (v := z21) (P22.ld 4 rfl false 1 0) ?_
      refine kA1 (v := iv ((((kGd t ([(⟨0, q, 0, 0⟩ : TreeNode)] : List TreeNode)).getD []).length : Nat) : Int)) (P22.tab (A := TreeNode) (s := (kGd t ([(⟨0, q, 0, 0⟩ : TreeNode)] : List TreeNode))) 5 rfl).len ?_
      refine kA1 (v := iv (wr (((((kGd t ([(⟨0, q, 0, 0⟩ : TreeNode)] : List TreeNode)).getD []).length : Nat) : Int) - 1))) (kB2 _ _) ?_
      exact kA8 ⟨_, rfl, P22.sel [0, 1, 2, 3, 4, 5] (by decide) rfl⟩
    · refine kA1 (v := AV.ptr o8 1 0 0) rfl ?_
      refine kA1 (v := iv a.kind) (O10.ld 7 rfl false 1 0) ?_
      refine kA1 (v := AV.ptr o8 1 0 1) rfl ?_
      refine kA1 (v := iv a.sign) (O10.ld 7 rfl false 1 1) ?_
      refine kA1 (v := AV.agg [iv a.kind, iv 0, iv 0, iv a.sign]) (by first | rfl | simp [kBv, kF7, kAi]) ?_
      refine kAy O10 6 (cs' := [iv a.kind, iv 0, iv 0, iv a.sign]) rfl (by first | rfl | simp) (by simp) (by first | rfl | simp) (by first | rfl | simp [kAi]) (fun h19 O19 => ?_)
      replace O19 : Hold B h19 [(AV.ptr o_ 1 0 0, .pt 4 [Sl.enc p.list, xb, xs, xc]), (xb, obS (p.boxes : Sl Box)), (xs, obS (p.best : Sl Choice)), (xc, obS (p.count : Sl Int)), (AV.ptr t_ 1 0 0, .pt 1 [x]), (x, obS (t : Sl TreeNode)), (AV.ptr o1 1 0 0, .pt 4 [iv a.kind, iv 0, iv 0, iv a.sign]), (AV.ptr o8 1 0 0, .pt 5 [iv a.kind, iv a.sign, iv a.a, iv a.b, iv a.cost])] := O19
      refine kA1 (v := AV.ptr o8 1 0 2) rfl ?_
      refine kA1 (v := iv a.a) (O19.ld 7 rfl false 1 2) ?_
      refine kCj he (kDm k p t a.a (Hold.startL (L := [(AV.ptr o_ 1 0 0, .pt 4 [Sl.enc p.list, xb, xs, xc]), (xb, obS (p.boxes : Sl Box)), (xs, obS (p.best : Sl Choice)), (xc, obS (p.count : Sl Int)), (AV.ptr t_ 1 0 0, .pt 1 [x]), (x, obS (t : Sl TreeNode))]) (R := [(AV.ptr o1 1 0 0, .pt 4 [iv a.kind, iv 0, iv 0, iv a.sign]), (AV.ptr o8 1 0 0, .pt 5 [iv a.kind, iv a.sign, iv a.a, iv a.b, iv a.cost])]) O19)) (fun q v32 h32 hq => ?_)
      obtain ⟨x33, e33, O33⟩ := hq
      dsimp only at e33
      subst v32
      have O34 : Hold B h32 [(AV.ptr o_ 1 0 0, .pt 4 [Sl.enc p.list, xb, xs, xc]), (xb, obS (p.boxes : Sl Box)), (xs, obS (p.best : Sl Choice)), (xc, obS (p.count : Sl Int)), (AV.ptr t_ 1 0 0, .pt 1 [x33]), (x33, obS (q.1 : Sl TreeNode)), (AV.ptr o1 1 0 0, .pt 4 [iv a.kind, iv 0, iv 0, iv a.sign]), (AV.ptr o8 1 0 0, .pt 5 [iv a.kind, iv a.sign, iv a.a, iv a.b, iv a.cost])] := Hold.mergeL (L := [(AV.ptr o_ 1 0 0, .pt 4 [Sl.enc p.list, xb, xs, xc]), (xb, obS (p.boxes : Sl Box)), (xs, obS (p.best : Sl Choice)), (xc, obS (p.count : Sl Int)), (AV.ptr t_ 1 0 0, .pt 1 [x]), (x, obS (t : Sl TreeNode))]) (R := [(AV.ptr o1 1 0 0, .pt 4 [iv a.kind, iv 0, iv 0, iv a.sign]), (AV.ptr o8 1 0 0, .pt 5 [iv a.kind, iv a.sign, iv a.a, iv a.b, iv a.cost])]) O19 O33
      refine kA1 (v := AV.ptr o1 1 0 1) rfl ?_
      refine kAy O34 6 (cs' := [iv a.kind, iv q.2, iv 0, iv a.sign]) rfl (by first | rfl | simp) (by simp) (by first | rfl | simp) (by first | rfl | simp [kAi]) (fun h35 O35 => ?_)
      replace O35 : Hold B h35 [(AV.ptr o_ 1 0 0, .pt 4 [Sl.enc p.list, xb, xs, xc]), (xb, obS (p.boxes : Sl Box)), (xs, obS (p.best : Sl Choice)), (xc, obS (p.count : Sl Int)), (AV.ptr t_ 1 0 0, .pt 1 [x33]), (x33, obS (q.1 : Sl TreeNode)), (AV.ptr o1 1 0 0, .pt 4 [iv a.kind, iv q.2, iv 0, iv a.sign]), (AV.ptr o8 1 0 0, .pt 5 [iv a.kind, iv a.sign, iv a.a, iv a.b, iv a.cost])] := O35
      refine kA1 (v := AV.ptr o8 1 0 3) rfl ?_
      refine kA1 (v := iv a.b) (O35.ld 7 rfl false 1 3) ?_
      refine kA1 (v := bv (!decide (a.b = 0))) (kCi _ _) ?_
      refine kAc (fun c12 => ?_) (fun c12 => ?_)
      · refine kA1 (v := AV.ptr o8 1 0 3) rfl ?_
        refine kA1 (v := iv a.b) (O35.ld 7 rfl false 1 3) ?_
        refine kCj he (kDm k p q.1 a.b (Hold.startL (L := [(AV.ptr o_ 1 0 0, .pt 4 [Sl.enc p.list, xb, xs, xc]), (xb, obS (p.boxes : Sl Box)), (xs, obS (p.best : Sl Choice)), (xc, obS (p.count : Sl Int)), (AV.ptr t_ 1 0 0, .pt 1 [x33]), (x33, obS (q.1 : Sl TreeNode))]) (R := [(AV.ptr o1 1 0 0, .pt 4 [iv a.kind, iv q.2, iv 0, iv a.sign]), (AV.ptr o8 1 0 0, .pt 5 [iv a.kind, iv a.sign, iv a.a, iv a.b, iv a.cost])]) O35)) (fun q2 v42 h42 hq2 => ?_)
        obtain ⟨x43, e43, O43⟩ := hq2
        dsimp only at e43
        subst v42
        have O44 : Hold B h42 [(AV.ptr o_ 1 0 0, .pt 4 [Sl.enc p.list, xb, xs, xc]), (xb, obS (p.boxes : Sl Box)), (xs, obS (p.best : Sl Choice)), (xc, obS (p.count : Sl Int)), (AV.ptr t_ 1 0 0, .pt 1 [x43]), (x43, obS (q2.1 : Sl TreeNode)), (AV.ptr o1 1 0 0, .pt 4 [iv a.kind, iv q.2, iv 0, iv a.sign]), (AV.ptr o8 1 0 0, .pt 5 [iv a.kind, iv a.sign, iv a.a, iv a.b, iv a.cost])] := Hold.mergeL (L := [(AV.ptr o_ 1 0 0, .pt 4 [Sl.enc p.list, xb, xs, xc]), (xb, obS (p.boxes : Sl Box)), (xs, obS (p.best : Sl Choice)), (xc, obS (p.count : Sl Int)), (AV.ptr t_ 1 0 0, .pt 1 [x33]), (x33, obS (q.1 : Sl TreeNode))]) (R := [(AV.ptr o1 1 0 0, .pt 4 [iv a.kind, iv q.2, iv 0, iv a.sign]), (AV.ptr o8 1 0 0, .pt 5 [iv a.kind, iv a.sign, iv a.a, iv a.b, iv a.cost])]) O35 O43
        refine kA1 (v := AV.ptr o1 1 0 2) rfl ?_
        refine kAy O44 6 (cs' := [iv a.kind, iv q.2, iv q2.2, iv a.sign]) rfl (by first | rfl | simp) (by simp) (by first | rfl | simp) (by first | rfl | simp [kAi]) (fun h45 O45 => ?_)
        replace O45 : Hold B h45 [(AV.ptr o_ 1 0 0, .pt 4 [Sl.enc p.list, xb, xs, xc]), (xb, obS (p.boxes : Sl Box)), (xs, obS (p.best : Sl Choice)), (xc, obS (p.count : Sl Int)), (AV.ptr t_ 1 0 0, .pt 1 [x43]), (x43, obS (q2.1 : Sl TreeNode)), (AV.ptr o1 1 0 0, .pt 4 [iv a.kind, iv q.2, iv q2.2, iv a.sign]), (AV.ptr o8 1 0 0, .pt 5 [iv a.kind, iv a.sign, iv a.a, iv a.b, iv a.cost])] := O45
        refine kA1 (v := AV.ptr t_ 1 0 0) rfl ?_
        refine kA1 (v := AV.ptr t_ 1 0 0) rfl ?_
        refine kA1 (v := x43) (O45.ld 4 rfl false 1 0) ?_
        refine kA1 (v := AV.agg [iv a.kind, iv q.2, iv q2.2, iv a.sign]) (O45.ld 6 rfl true 4 0) ?_
        refine kDq (A := TreeNode) O45 ([(⟨a.kind, q.2, q2.2, a.sign⟩ : TreeNode)] : List TreeNode) rfl (by first | rfl | simp [kC5, kF6]) rfl (fun y50 g50 P50 => ?_)
        replace P50 : Hold B g50 [(AV.ptr o_ 1 0 0, .pt 4 [Sl.enc p.list, xb, xs, xc]), (xb, obS (p.boxes : Sl Box)), (xs, obS (p.best : Sl Choice)), (xc, obS (p.count : Sl Int)), (AV.ptr t_ 1 0 0, .pt 1 [x43]), (x43, obS (q2.1 : Sl TreeNode)), (AV.ptr o1 1 0 0, .pt 4 [iv a.kind, iv q.2, iv q2.2, iv a.sign]), (AV.ptr o8 1 0 0, .pt 5 [iv a.kind, iv a.sign, iv a.a, iv a.b, iv a.cost]), (y50, obS ((some ([(⟨a.kind, q.2, q2.2, a.sign⟩ : TreeNode)] : List TreeNode)) : Sl TreeNode))] := P50
        refine kF0 (A := TreeNode) (s := q2.1) P50 5 ([(⟨a.kind, q.2, q2.2, a.sign⟩ : TreeNode)] : List TreeNode) rfl (P50.src (A := TreeNode) (s := (some ([(⟨a.kind, q.2, q2.2, a.sign⟩ : TreeNode)] : List TreeNode))) 8 rfl) (by decide) (fun z51 g51 P51 => ?_)
        replace P51 : Hold B g51 [(AV.ptr o_ 1 0 0, .pt 4 [Sl.enc p.list, xb, xs, xc]), (xb, obS (p.boxes : Sl Box)), (xs, obS (p.best : Sl Choice)), (xc, obS (p.count : Sl Int)), (AV.ptr t_ 1 0 0, .pt 1 [x43]), (z51, obS ((kGd q2.1 ([(⟨a.kind, q.2, q2.2, a.sign⟩ : TreeNode)] : List TreeNode)) : Sl TreeNode)), (AV.ptr o1 1 0 0, .pt 4 [iv a.kind, iv q.2, iv q2.2, iv a.sign]), (AV.ptr o8 1 0 0, .pt 5 [iv a.kind, iv a.sign, iv a.a, iv a.b, iv a.cost]), (y50, obS ((some ([(⟨a.kind, q.2, q2.2, a.sign⟩ : TreeNode)] : List TreeNode)) : Sl TreeNode))] := P51
        refine kA1 (v := AV.ptr t_ 1 0 0) rfl ?_
        refine kA1 (v := AV.ptr t_ 1 0 0) rfl ?_
        have w51 := P51.one (A := TreeNode) (s := (kGd q2.1 ([(⟨a.kind, q.2, q2.2, a.sign⟩ : TreeNode)] : List TreeNode))) 5 rfl
        refine kAy P51 4 (cs' := [z51]) rfl (by first | rfl | simp [w51.1, w51.2]) (by simp) (by first | rfl | simp [w51.1, w51.2]) (by first | rfl | simp [kAi, w51.1, w51.2]) (fun g52 P52 => ?_)
        replace P52 : Hold B g52 [(AV.ptr o_ 1 0 0, .pt 4 [Sl.enc p.list, xb, xs, xc]), (xb, obS (p.boxes : Sl Box)), (xs, obS (p.best : Sl Choice)), (xc, obS (p.count : Sl Int)), (AV.ptr t_ 1 0 0, .pt 1 [z51]), (z51, obS ((kGd q2.1 ([(⟨a.kind, q.2, q2.2, a.sign⟩ : TreeNode)] : List TreeNode)) : Sl TreeNode)), (AV.ptr o1 1 0 0, .pt 4 [iv a.kind, iv q.2, iv q2.2, iv a.sign]), (AV.ptr o8 1 0 0, .pt 5 [iv a.kind, iv a.sign, iv a.a, iv a.b, iv a.cost]), (y50, obS ((some ([(⟨a.kind, q.2, q2.2, a.sign⟩ : TreeNode)] : List TreeNode)) : Sl TreeNode))] := P52
        refine kA1 (v := AV.ptr t_ 1 0 0) rfl ?_
        refine kA1 (v := AV.ptr t_ 1 0 0) rfl ?_
        refine kA1 (v := z51) (P52.ld 4 rfl false 1 0) ?_
        refine kA1 (v := iv ((((kGd q2.1 ([(⟨a.kind, q.2, q2.2, a.sign⟩ : TreeNode)] : List TreeNode)).getD []).length : Nat) : Int)) (P52.tab (A := TreeNode) (s := (kGd q2.1 ([(⟨a.kind, q.2, q2.2, a.sign⟩ : TreeNode)] : List TreeNode))) 5 rfl).len ?_
        refine kA1 (v := iv (wr (((((kGd q2.1 ([(⟨a.kind, q.2, q2.2, a.sign⟩ : TreeNode)] : List TreeNode)).getD []).length : Nat) : Int) - 1))) (kB2 _ _) ?_
        exact kA8 ⟨_, rfl, P52.sel [0, 1, 2, 3, 4, 5] (by decide) rfl⟩
      · refine kA1 (v := AV.ptr t_ 1 0 0) rfl ?_
        refine kA1 (v := AV.ptr t_ 1 0 0) rfl ?_
        refine kA1 (v := x33) (O35.ld 4 rfl false 1 0) ?_
        refine kA1 (v := AV.agg [iv a.kind, iv q.2, iv 0, iv a.sign]) (O35.ld 6 rfl true 4 0) ?_
        refine kDq (A := TreeNode) O35 ([(⟨a.kind, q.2, 0, a.sign⟩ : TreeNode)] : List TreeNode) rfl (by first | rfl | simp [kC5, kF6]) rfl (fun y60 g60 P60 => ?_)
        replace P60 : Hold B g60 [(AV.ptr o_ 1 0 0, .pt 4 [Sl.enc p.list, xb, xs, xc]), (xb, obS (p.boxes : Sl Box)), (xs, obS (p.best : Sl Choice)), (xc, obS (p.count : Sl Int)), (AV.ptr t_ 1 0 0, .pt 1 [x33]), (x33, obS (q.1 : Sl TreeNode)), (AV.ptr o1 1 0 0, .pt 4 [iv a.kind, iv q.2, iv 0, iv a.sign]), (AV.ptr o8 1 0 0, .pt 5 [iv a.kind, iv a.sign, iv a.a, iv a.b, iv a.cost]), (y60, obS ((some ([(⟨a.kind, q.2, 0, a.sign⟩ : TreeNode)] : List TreeNode)) : Sl TreeNode))] := P60
        refine kF0 (A := TreeNode) (s := q.1) P60 5 ([(⟨a.kind, q.2, 0, a.sign⟩ : TreeNode)] : List TreeNode) rfl (P60.src (A := TreeNode) (s := (some ([(⟨a.kind, q.2, 0, a.sign⟩ : TreeNode)] : List TreeNode))) 8 rfl) (by decide) (fun z61 g61 P61 => ?_)
        replace P61 : Hold B g61 [(AV.ptr o_ 1 0 0, .pt 4 [Sl.enc p.list, xb, xs, xc]), (xb, obS (p.boxes : Sl Box)), (xs, obS (p.best : Sl Choice)), (xc, obS (p.count : Sl Int)), (AV.ptr t_ 1 0 0, .pt 1 [x33]), (z61, obS ((kGd q.1 ([(⟨a.kind, q.2, 0, a.sign⟩ : TreeNode)] : List TreeNode)) : Sl TreeNode)), (AV.ptr o1 1 0 0, .pt 4 [iv a.kind, iv q.2, iv 0, iv a.sign]), (AV.ptr o8 1 0 0, .pt 5 [iv a.kind, iv a.sign, iv a.a, iv a.b, iv a.cost]), (y60, obS ((some ([(⟨a.kind, q.2, 0, a.sign⟩ : TreeNode)] : List TreeNode)) : Sl TreeNode))] := P61
        refine kA1 (v := AV.ptr t_ 1 0 0) rfl ?_
        refine kA1 (v := AV.ptr t_ 1 0 0) rfl ?_
        have w61 := P61.one (A := TreeNode) (s := (kGd q.1 ([(⟨a.kind, q.2, 0, a.sign⟩ : TreeNode)] : List TreeNode))) 5 rfl
        refine kAy P61 4 (cs' := [z61]) rfl (by first | rfl | simp [w61.1, w61.2]) (by simp) (by first | rfl | simp [w61.1, w61.2]) (by first | rfl | simp [kAi, w61.1, w61.2]) (fun g62 P62 => ?_)
        replace P62 : Hold B g62 [(AV.ptr o_ 1 0 0, .pt 4 [Sl.enc p.list, xb, xs, xc]), (xb, obS (p.boxes : Sl Box)), (xs, obS (p.best : Sl Choice)), (xc, obS (p.count : Sl Int)), (AV.ptr t_ 1 0 0, .pt 1 [z61]), (z61, obS ((kGd q.1 ([(⟨a.kind, q.2, 0, a.sign⟩ : TreeNode)] : List TreeNode)) : Sl TreeNode)), (AV.ptr o1 1 0 0, .pt 4 [iv a.kind, iv q.2, iv 0, iv a.sign]), (AV.ptr o8 1 0 0, .pt 5 [iv a.kind, iv a.sign, iv a.a, iv a.b, iv a.cost]), (y60, obS ((some ([(⟨a.kind, q.2, 0, a.sign⟩ : TreeNode)] : List TreeNode)) : Sl TreeNode))] := P62
        refine kA1 (v := AV.ptr t_ 1 0 0) rfl ?_
        refine kA1 (v := AV.ptr t_ 1 0 0) rfl ?_
        refine kA1 (v := z61) (P62.ld 4 rfl false 1 0) ?_
        refine kA1 (v := iv ((((kGd q.1 ([(⟨a.kind, q.2, 0, a.sign⟩ : TreeNode)] : List TreeNode)).getD []).length : Nat) : Int)) (P62.tab (A := TreeNode) (s := (kGd q.1 ([(⟨a.kind, q.2, 0, a.sign⟩ : TreeNode)] : List TreeNode))) 5 rfl).len ?_
        refine kA1 (v := iv (wr (((((kGd q.1 ([(⟨a.kind, q.2, 0, a.sign⟩ : TreeNode)] : List TreeNode)).getD []).length : Nat) : Int) - 1))) (kB2 _ _) ?_
        exact kA8 ⟨_, rfl, P62.sel [0, 1, 2, 3, 4, 5] (by decide) rfl⟩
def t_q6 (list_ : Sl Symbol) : Option (Tree × Int × Int) :=
  kA0 (t_q8 list_) fun c1 =>
  bif !c1 then
    some ((⟨(none : Sl TreeNode)⟩ : Tree), 0, 1)
  else
    kA0 (t_q22 list_) fun p =>
    kA0 (kCo (p.count.getD []) (wr ((((p.count.getD []).length : Nat) : Int) - 1))) fun a =>
    bif decide (a = 0) then
      some ((⟨(none : Sl TreeNode)⟩ : Tree), 0, 6)
    else
      kA0 (t_q16 300 p none (wr ((((p.count.getD []).length : Nat) : Int) - 1))) fun (q : Sl TreeNode × Int) =>
      kA0 (kCo (p.best.getD []) (wr ((((p.count.getD []).length : Nat) : Int) - 1))) fun b =>
      some ((⟨q.1⟩ : Tree), b.cost, 0)
def t_q47 (list_ : Sl Symbol) : Option (Tree × Int × Int) :=
  kA0 (t_q56 list_) fun c1 =>
  bif !c1 then
    some ((⟨(none : Sl TreeNode)⟩ : Tree), 0, 1)
  else
    kA0 (t_q63 list_) fun c =>
    kA0 (kCo (c.cells.getD []) (wr ((((c.cells.getD []).length : Nat) : Int) - 1))) fun a =>
    bif decide (a.ways = 0) then
      some ((⟨(none : Sl TreeNode)⟩ : Tree), 0, 6)
    else
      kA0 (t_q61 300 c (some []) (wr ((((c.cells.getD []).length : Nat) : Int) - 1))) fun (q : Sl TreeNode × Int) =>
      kA0 (kCo (c.cells.getD []) (wr ((((c.cells.getD []).length : Nat) : Int) - 1))) fun b =>
      some ((⟨q.1⟩ : Tree), b.cost, 0)
theorem ts_q6 (env : Nat → Contract) (he_q8 : env n_q8 = .pure (C1 (fun c : Bool => enc c) t_q8)) (he_q22 : env n_q22 = .gen (kAh Try.prog ev_q22 n_q22)) (he_q16 : env n_q16 = .gen (kAh Try.prog (kBf 300) n_q16)) (list_ : Sl Symbol) : Sim (kJ4 true Try.prog env n_q6 [Sl.enc list_] []) (t_q6 list_) fun c p => release p.2 depth p.1 = some ((fun c : Tree × Int × Int => AV.tup [AV.agg [rS c.1.nodes], enc c.2.1, enc c.2.2]) c) := by
  have O := Hold.nil []
  generalize hB : (⟨[], []⟩ : Base) = B at O
  clear hB
  rw [e_q6]
  unfold t_q6
  refine kBd O (cs := [kBu]) (by first | rfl | simp) (fun o1 h2 O3 => ?_)
  replace O3 : Hold B h2 [(AV.ptr o1 1 0 0, .pt 1 [kBu])] := O3
  refine kCc he_q8 (kCu _ _) (fun c1 => ?_)
  refine kB4 (kAe (by rfl) _ _) ?_
  refine kA1 (v := bv (!c1)) (kD4 _) ?_
  refine kAc (fun c2 => ?_) (fun c2 => ?_)
  · refine kA1 (v := AV.agg [kBu]) (by first | rfl | simp [kBv, kF7, kAi]) ?_
    refine kAy O3 0 (cs' := [kBu]) rfl (by first | rfl | simp) (by simp) (by first | rfl | simp) (by first | rfl | simp [kAi]) (fun h11 O12 => ?_)
    replace O12 : Hold B h11 [(AV.ptr o1 1 0 0, .pt 1 [kBu])] := O12
    refine kGf (resL_c (v := AV.agg [kBu]) (O12.ld 0 rfl true 1 0) (kGk (v := iv 0) (kGk (v := iv 1) (kG2 _)))) ?_
    dsimp only [pack]
    exact kA8 (kA7 (by rfl) _)
  · refine kCj he_q22 (tg_q22 list_ (Hold.startL (L := []) (R := [(AV.ptr o1 1 0 0, .pt 1 [kBu])]) O3)) (fun p v5 h6 hq7 => ?_)
    obtain ⟨o10, x12, x14, x16, e_v5, O8⟩ := hq7
    dsimp only at e_v5
    subst v5
    have O9 : Hold B h6 [(AV.ptr o10 1 0 0, .pt 4 [Sl.enc p.list, x12, x14, x16]), (x12, obS (p.boxes : Sl Box)), (x14, obS (p.best : Sl Choice)), (x16, obS (p.count : Sl Int)), (AV.ptr o1 1 0 0, .pt 1 [kBu])] := Hold.mergeL (L := []) (R := [(AV.ptr o1 1 0 0, .pt 1 [kBu])]) O3 O8
    refine kA1 (v := AV.ptr o10 1 0 0) rfl ?_
    refine kA1 (v := AV.ptr o10 1 0 3) rfl ?_
    refine kA1 (v := x16) (O9.ld 0 rfl false 1 3) ?_
    refine kA1 (v := iv (((p.count.getD []).length : Nat) : Int)) (O9.tab (A := Int) (s := p.count) 3 rfl).len ?_
    refine kA1 (v := iv (wr ((((p.count.getD []).length : Nat) : Int) - 1))) (kB2 _ _) ?_
    refine kA1 (v := AV.ptr o10 1 0 0) rfl ?_
    refine kA1 (v := AV.ptr o10 1 0 3) rfl ?_
    refine kA1 (v := x16) (O9.ld 0 rfl false 1 3) ?_
    refine kAo (O9.tab (A := Int) (s := p.count) 3 rfl) (fun m19 a hi20 hm21 => ?_)
    refine kA1 (v := iv a) ((O9.tab (A := Int) (s := p.count) 3 rfl).ld hm21 false 1 0) ?_
    refine kA1 (v := bv (decide (a = 0))) (kAv _ _) ?_
    refine kAc (fun c22 => ?_) (fun c22 => ?_)
    · refine kA1 (v := AV.agg [kBu]) (by first | rfl | simp [kBv, kF7, kAi]) ?_
      refine kAy O9 4 (cs' := [kBu]) rfl (by first | rfl | simp) (by simp) (by first | rfl | simp) (by first | rfl | simp [kAi]) (fun h11 O12 => ?_)
      replace O12 : Hold B h11 [(AV.ptr o10 1 0 0, .pt 4 [Sl.enc p.list, x12, x14, x16]), (x12, obS (p.boxes : Sl Box)), (x14, obS (p.best : Sl Choice)), (x16, obS (p.count : Sl Int)), (AV.ptr o1 1 0 0, .pt 1 [kBu])] := O12
      refine kGf (resL_c (v := AV.agg [kBu]) (O12.ld 4 rfl true 1 0) (kGk (v := iv 0) (kGk (v := iv 6) (kG2 _)))) ?_
      dsimp only [pack]
      exact kA8 (kA7 (by rfl) _)
    · refine kBd O9 (cs := [kBu]) (by first | rfl | simp) (fun o23 h24 O24 => ?_)
      replace O24 : Hold B h24 [(AV.ptr o10 1 0 0, .pt 4 [Sl.enc p.list, x12, x14, x16]), (x12, obS (p.boxes : Sl Box)), (x14, obS (p.best : Sl Choice)), (x16, obS (p.count : Sl Int)), (AV.ptr o1 1 0 0, .pt 1 [kBu]), (AV.ptr o23 1 0 0, .pt 1 [kBu])] := O24
      have O25 : Hold B h24 [(AV.ptr o10 1 0 0, .pt 4 [Sl.enc p.list, x12, x14, x16]), (x12, obS (p.boxes : Sl Box)), (x14, obS (p.best : Sl Choice)), (x16, obS (p.count : Sl Int)), (AV.ptr o1 1 0 0, .pt 1 [kBu]), (AV.ptr o23 1 0 0, .pt 1 [kBu]), (kBu, obS (none : Sl TreeNode))] := O24.addnil
      have O26 : Hold B h24 [(AV.ptr o10 1 0 0, .pt 4 [Sl.enc p.list, x12, x14, x16]), (x12, obS (p.boxes : Sl Box)), (x14, obS (p.best : Sl Choice)), (x16, obS (p.count : Sl Int)), (AV.ptr o23 1 0 0, .pt 1 [kBu]), (kBu, obS (none : Sl TreeNode)), (AV.ptr o1 1 0 0, .pt 1 [kBu])] := O25.sel [0, 1, 2, 3, 5, 6, 4] (by decide) rfl
      refine kCj he_q16 (kDm 300 p none (wr ((((p.count.getD []).length : Nat) : Int) - 1)) (Hold.startL (L := [(AV.ptr o10 1 0 0, .pt 4 [Sl.enc p.list, x12, x14, x16]), (x12, obS (p.boxes : Sl Box)), (x14, obS (p.best : Sl Choice)), (x16, obS (p.count : Sl Int)), (AV.ptr o23 1 0 0, .pt 1 [kBu]), (kBu, obS (none : Sl TreeNode))]) (R := [(AV.ptr o1 1 0 0, .pt 1 [kBu])]) O26)) (fun q v32 h32 hq => ?_)
      obtain ⟨x33, e33, O33⟩ := hq
      dsimp only at e33
      subst v32
      have O34 : Hold B h32 [(AV.ptr o10 1 0 0, .pt 4 [Sl.enc p.list, x12, x14, x16]), (x12, obS (p.boxes : Sl Box)), (x14, obS (p.best : Sl Choice)), (x16, obS (p.count : Sl Int)), (AV.ptr o23 1 0 0, .pt 1 [x33]), (x33, obS (q.1 : Sl TreeNode)), (AV.ptr o1 1 0 0, .pt 1 [kBu])] := Hold.mergeL (L := [(AV.ptr o10 1 0 0, .pt 4 [Sl.enc p.list, x12, x14, x16]), (x12, obS (p.boxes : Sl Box)), (x14, obS (p.best : Sl Choice)), (x16, obS (p.count : Sl Int)), (AV.ptr o23 1 0 0, .pt 1 [kBu]), (kBu, obS (none : Sl TreeNode))]) (R := [(AV.ptr o1 1 0 0, .pt 1 [kBu])]) O26 O33
      refine kA1 (v := AV.agg [x33]) (O34.ld 4 rfl true 1 0) ?_
      refine kA1 (v := AV.ptr o10 1 0 0) rfl ?_
      refine kA1 (v := AV.ptr o10 1 0 2) rfl ?_
      refine kA1 (v := x14) (O34.ld 0 rfl false 1 2) ?_
      refine kAo (O34.tab (A := Choice) (s := p.best) 2 rfl) (fun m30 b hi30 hm31 => ?_)
      refine kA1 (v := elp x14 m30 4) ((O34.tab (A := Choice) (s := p.best) 2 rfl).fld _ _ _) ?_
      refine kA1 (v := iv b.cost) ((O34.tab (A := Choice) (s := p.best) 2 rfl).ld hm31 false 1 4) ?_
      have w33 := O34.one (A := TreeNode) (s := q.1) 5 rfl
      refine sim_guardP ⟨⟨at_of (v := AV.agg [x33]) (O34.ld 4 rfl true 1 0), trivial⟩, trivial⟩ ?_
      refine kAy O34 6 (cs' := [x33]) rfl (by first | rfl | simp [w33.1, w33.2]) (by simp) (by first | rfl | simp [w33.1, w33.2]) (by first | rfl | simp [kAi, w33.1, w33.2]) (fun h35 O35 => ?_)
      replace O35 : Hold B h35 [(AV.ptr o10 1 0 0, .pt 4 [Sl.enc p.list, x12, x14, x16]), (x12, obS (p.boxes : Sl Box)), (x14, obS (p.best : Sl Choice)), (x16, obS (p.count : Sl Int)), (AV.ptr o23 1 0 0, .pt 1 [x33]), (x33, obS (q.1 : Sl TreeNode)), (AV.ptr o1 1 0 0, .pt 1 [x33])] := O35
      refine sim_guardP ⟨⟨at_of (v := x14) (O34.ld 0 rfl false 1 2), at_of (v := x14) (O35.ld 0 rfl false 1 2), trivial⟩, ⟨at_of ((O34.tab (A := Choice) (s := p.best) 2 rfl).ixm hi30 hm31), at_of ((O35.tab (A := Choice) (s := p.best) 2 rfl).ixm hi30 hm31), trivial⟩, ⟨at_of ((O34.tab (A := Choice) (s := p.best) 2 rfl).ld hm31 false 1 4), at_of ((O35.tab (A := Choice) (s := p.best) 2 rfl).ld hm31 false 1 4), trivial⟩, trivial⟩ ?_
      refine kGf (resL_c (v := AV.agg [x33]) (O35.ld 6 rfl true 1 0) (kGk (v := iv b.cost) (kGk (v := iv 0) (kG2 _)))) ?_
      dsimp only [pack]
      have O36 : Hold B h35 [(x33, obS (q.1 : Sl TreeNode))] := O35.sel [5] (by decide) rfl
      exact kA8 (release_of (by simp only [ids_tup, ids_aggD, ids_agg, ids_iv, ids_bv, ids_sv, ids_bt, ids_nilS, ids_enc, O36.idsD (A := TreeNode) (s := q.1) 0 rfl, List.map_append, List.map_nil, List.flatMap_cons, List.flatMap_nil, List.append_nil, List.nil_append]; simpa only [List.flatMap_cons, List.flatMap_nil, List.append_nil, List.nil_append] using O36.nd2) (by simp only [rel_tup, rel_aggD, rel_agg, rel_iv, rel_bv, rel_sv, rel_bt, rel_nilS, rel_enc, O36.relD (A := TreeNode) (s := q.1) 0 rfl, omapc, omapn, kA4] <;> rfl))
theorem tt_q6 : kAp Try.prog n_q6 (C1 (fun c : Tree × Int × Int => AV.tup [AV.agg [rS c.1.nodes], enc c.2.1, enc c.2.2]) t_q6) := pureCW1 (kCq tt_q8 (kE5 (kBk eo_impl_solved kBh hb_q22) (kE5 (kBk (kEu 300) kBh hb_q16) E0))) kBh hb_q6 fun list_ => ts_q6 _ (by simp [kC4]) (by simp [kC4]) (by simp [kC4]) list_
theorem ts_q47 (env : Nat → Contract) (he_q56 : env n_q56 = .pure (C1 (fun c : Bool => enc c) t_q56)) (he_q63 : env n_q63 = .gen (kAh Try.prog ev_q63 n_q63)) (he_q61 : env n_q61 = .gen (kAh Try.prog (kBa 300) n_q61)) (list_ : Sl Symbol) : Sim (kJ4 true Try.prog env n_q47 [Sl.enc list_] []) (t_q47 list_) fun c p => release p.2 depth p.1 = some ((fun c : Tree × Int × Int => AV.tup [AV.agg [rS c.1.nodes], enc c.2.1, enc c.2.2]) c) := by
  have O := Hold.nil []
  generalize hB : (⟨[], []⟩ : Base) = B at O
  clear hB
  rw [e_q47]
  unfold t_q47
  refine kBd O (cs := [kBu]) (by first | rfl | simp) (fun o1 h2 O3 => ?_)
  replace O3 : Hold B h2 [(AV.ptr o1 1 0 0, .pt 1 [kBu])] := O3
  refine kCc he_q56 (kCu _ _) (fun c1 => ?_)
  refine kB4 (kAe (by rfl) _ _) ?_
  refine kA1 (v := bv (!c1)) (kD4 _) ?_
  refine kAc (fun c2 => ?_) (fun c2 => ?_)
  · refine kA1 (v := AV.agg [kBu]) (by first | rfl | simp [kBv, kF7, kAi]) ?_
    refine kAy O3 0 (cs' := [kBu]) rfl (by first | rfl | simp) (by simp) (by first | rfl | simp) (by first | rfl | simp [kAi]) (fun h11 O12 => ?_)
    replace O12 : Hold B h11 [(AV.ptr o1 1 0 0, .pt 1 [kBu])] := O12
    refine kGf (resL_c (v := AV.agg [kBu]) (O12.ld 0 rfl true 1 0) (kGk (v := iv 0) (kGk (v := iv 1) (kG2 _)))) ?_
    dsimp only [pack]
    exact kA8 (kA7 (by rfl) _)
  · refine kCj he_q63 (tg_q63 list_ (Hold.startL (L := []) (R := [(AV.ptr o1 1 0 0, .pt 1 [kBu])]) O3)) (fun c v5 h6 hq7 => ?_)
    obtain ⟨o10, x16, e_v5, O8⟩ := hq7
    dsimp only at e_v5
    subst v5
    have O9 : Hold B h6 [(AV.ptr o10 1 0 0, .pt 2 [Sl.enc c.list, x16]), (x16, obS (c.cells : Sl Cell21)), (AV.ptr o1 1 0 0, .pt 1 [kBu])] := Hold.mergeL (L := []) (R := [(AV.ptr o1 1 0 0, .pt 1 [kBu])]) O3 O8
    refine kA1 (v := AV.ptr o10 1 0 0) rfl ?_
    refine kA1 (v := AV.ptr o10 1 0 1) rfl ?_
    refine kA1 (v := x16) (O9.ld 0 rfl false 1 1) ?_
    refine kA1 (v := iv (((c.cells.getD []).length : Nat) : Int)) (O9.tab (A := Cell21) (s := c.cells) 1 rfl).len ?_
    refine kA1 (v := iv (wr ((((c.cells.getD []).length : Nat) : Int) - 1))) (kB2 _ _) ?_
    refine kA1 (v := AV.ptr o10 1 0 0) rfl ?_
    refine kA1 (v := AV.ptr o10 1 0 1) rfl ?_
    refine kA1 (v := x16) (O9.ld 0 rfl false 1 1) ?_
    refine kAo (O9.tab (A := Cell21) (s := c.cells) 1 rfl) (fun m19 a hi20 hm21 => ?_)
    refine kA1 (v := elp x16 m19 4) ((O9.tab (A := Cell21) (s := c.cells) 1 rfl).fld _ _ _) ?_
    refine kA1 (v := iv a.ways) ((O9.tab (A := Cell21) (s := c.cells) 1 rfl).ld hm21 false 1 4) ?_
    refine kA1 (v := bv (decide (a.ways = 0))) (kAv _ _) ?_
    refine kAc (fun c22 => ?_) (fun c22 => ?_)
    · refine kA1 (v := AV.agg [kBu]) (by first | rfl | simp [kBv, kF7, kAi]) ?_
      refine kAy O9 2 (cs' := [kBu]) rfl (by first | rfl | simp) (by simp) (by first | rfl | simp) (by first | rfl | simp [kAi]) (fun h11 O12 => ?_)
      replace O12 : Hold B h11 [(AV.ptr o10 1 0 0, .pt 2 [Sl.enc c.list, x16]), (x16, obS (c.cells : Sl Cell21)), (AV.ptr o1 1 0 0, .pt 1 [kBu])] := O12
      refine kGf (resL_c (v := AV.agg [kBu]) (O12.ld 2 rfl true 1 0) (kGk (v := iv 0) (kGk (v := iv 6) (kG2 _)))) ?_
      dsimp only [pack]
      exact kA8 (kA7 (by rfl) _)
    · refine kDq (A := TreeNode) O9 ([] : List TreeNode) rfl (by first | rfl | simp [kC5, kF6]) rfl (fun x24 h25 O25 => ?_)
      replace O25 : Hold B h25 [(AV.ptr o10 1 0 0, .pt 2 [Sl.enc c.list, x16]), (x16, obS (c.cells : Sl Cell21)), (AV.ptr o1 1 0 0, .pt 1 [kBu]), (x24, obS ((some []) : Sl TreeNode))] := O25
      have O26 : Hold B h25 [(AV.ptr o10 1 0 0, .pt 2 [Sl.enc c.list, x16]), (x16, obS (c.cells : Sl Cell21)), (x24, obS ((some []) : Sl TreeNode)), (AV.ptr o1 1 0 0, .pt 1 [kBu])] := O25.sel [0, 1, 3, 2] (by decide) rfl
      refine kCj he_q61 (kDb 300 c (some []) (wr ((((c.cells.getD []).length : Nat) : Int) - 1)) (Hold.startL (L := [(AV.ptr o10 1 0 0, .pt 2 [Sl.enc c.list, x16]), (x16, obS (c.cells : Sl Cell21)), (x24, obS ((some []) : Sl TreeNode))]) (R := [(AV.ptr o1 1 0 0, .pt 1 [kBu])]) O26)) (fun q v32 h32 hq => ?_)
      obtain ⟨x33, e33, O33⟩ := hq
      dsimp only at e33
      subst v32
      have O34 : Hold B h32 [(AV.ptr o10 1 0 0, .pt 2 [Sl.enc c.list, x16]), (x16, obS (c.cells : Sl Cell21)), (x33, obS (q.1 : Sl TreeNode)), (AV.ptr o1 1 0 0, .pt 1 [kBu])] := Hold.mergeL (L := [(AV.ptr o10 1 0 0, .pt 2 [Sl.enc c.list, x16]), (x16, obS (c.cells : Sl Cell21)), (x24, obS ((some []) : Sl TreeNode))]) (R := [(AV.ptr o1 1 0 0, .pt 1 [kBu])]) O26 O33
      refine kA1 (v := x33) rfl ?_
      refine kA1 (v := iv q.2) rfl ?_
      have w33 := O34.one (A := TreeNode) (s := q.1) 2 rfl
      refine kA1 (v := AV.agg [x33]) (by first | rfl | simp [kBv, kF7, kAi, w33.1, w33.2]) ?_
      refine kA1 (v := AV.ptr o10 1 0 0) rfl ?_
      refine kA1 (v := AV.ptr o10 1 0 1) rfl ?_
      refine kA1 (v := x16) (O34.ld 0 rfl false 1 1) ?_
      refine kAo (O34.tab (A := Cell21) (s := c.cells) 1 rfl) (fun m30 b hi30 hm31 => ?_)
      refine kA1 (v := elp x16 m30 5) ((O34.tab (A := Cell21) (s := c.cells) 1 rfl).fld _ _ _) ?_
      refine kA1 (v := iv b.cost) ((O34.tab (A := Cell21) (s := c.cells) 1 rfl).ld hm31 false 1 5) ?_
      refine kAy O34 3 (cs' := [x33]) rfl (by first | rfl | simp [w33.1, w33.2]) (by simp) (by first | rfl | simp [w33.1, w33.2]) (by first | rfl | simp [kAi, w33.1, w33.2]) (fun h35 O35 => ?_)
      replace O35 : Hold B h35 [(AV.ptr o10 1 0 0, .pt 2 [Sl.enc c.list, x16]), (x16, obS (c.cells : Sl Cell21)), (x33, obS (q.1 : Sl TreeNode)), (AV.ptr o1 1 0 0, .pt 1 [x33])] := O35
      refine sim_guardP ⟨⟨at_of (v := x16) (O34.ld 0 rfl false 1 1), at_of (v := x16) (O35.ld 0 rfl false 1 1), trivial⟩, ⟨at_of ((O34.tab (A := Cell21) (s := c.cells) 1 rfl).ixm hi30 hm31), at_of ((O35.tab (A := Cell21) (s := c.cells) 1 rfl).ixm hi30 hm31), trivial⟩, ⟨at_of ((O34.tab (A := Cell21) (s := c.cells) 1 rfl).ld hm31 false 1 5), at_of ((O35.tab (A := Cell21) (s := c.cells) 1 rfl).ld hm31 false 1 5), trivial⟩, trivial⟩ ?_
      refine kGf (resL_c (v := AV.agg [x33]) (O35.ld 3 rfl true 1 0) (kGk (v := iv b.cost) (kGk (v := iv 0) (kG2 _)))) ?_
      dsimp only [pack]
      have O36 : Hold B h35 [(x33, obS (q.1 : Sl TreeNode))] := O35.sel [2] (by decide) rfl
      exact kA8 (release_of (by simp only [ids_tup, ids_aggD, ids_agg, ids_iv, ids_bv, ids_sv, ids_bt, ids_nilS, ids_enc, O36.idsD (A := TreeNode) (s := q.1) 0 rfl, List.map_append, List.map_nil, List.flatMap_cons, List.flatMap_nil, List.append_nil, List.nil_append]; simpa only [List.flatMap_cons, List.flatMap_nil, List.append_nil, List.nil_append] using O36.nd2) (by simp only [rel_tup, rel_aggD, rel_agg, rel_iv, rel_bv, rel_sv, rel_bt, rel_nilS, rel_enc, O36.relD (A := TreeNode) (s := q.1) 0 rfl, omapc, omapn, kA4] <;> rfl))
theorem tt_q47 : kAp Try.prog n_q47 (C1 (fun c : Tree × Int × Int => AV.tup [AV.agg [rS c.1.nodes], enc c.2.1, enc c.2.2]) t_q47) := pureCW1 (kCq tt_q56 (kE5 (kBk eo_spec_l21Fill kBh hb_q63) (kE5 (kBk (kEn 300) kBh hb_q61) E0))) kBh hb_q47 fun list_ => ts_q47 _ (by simp [kC4]) (by simp [kC4]) (by simp [kC4]) list_
def t_q26 (aList_ : Sl Symbol) : Option Bool :=
  kA0 (t_q40 aList_ 1048576) fun c1 =>
  bif decide (c1 < 0) then
    some true
  else
    kA0 (t_q43 aList_) fun c3 =>
    kA0 (t_q47 c3) fun c8 =>
    kA0 (t_q43 aList_) fun c19 =>
    kA0 (t_q6 c19) fun c24 =>
    kA0 (t_q30 c24.1 c8.1) fun c35 =>
    kA0 (bif !c35 then some false else (some (!decide (c24.2.1 = c8.2.1)))) fun c37 =>
    kA0 (bif (bif !c35 then true else c37) then some false else (some (!decide (c24.2.2 = c8.2.2)))) fun c39 =>
    bif (bif (bif !c35 then true else c37) then true else c39) then
      some false
    else
      kA0 (t_q43 aList_) fun c41 =>
      kA0 (t_q29 c19 c41) fun c46 =>
      bif !c46 then
        some false
      else
        kA0 (t_q35 c19 1) fun (r48, w49) =>
        kA0 (bif decide (r48 < 0) then some false else (kA0 (t_q30 c24.1 c8.1) fun c53 => some (!c53))) fun c54 =>
        kA0 (bif (bif decide (r48 < 0) then true else c54) then some false else (some (!decide (c24.2.1 = c8.2.1)))) fun c56 =>
        kA0 (bif (bif (bif decide (r48 < 0) then true else c54) then true else c56) then some false else (some (!decide (c24.2.2 = c8.2.2)))) fun c58 =>
        bif (bif (bif (bif decide (r48 < 0) then true else c54) then true else c56) then true else c58) then
          some false
        else
          kA0 (t_q38 c24.1.nodes 1) fun (r60, w61) =>
          kA0 (t_q33 (⟨w61⟩ : Tree) 1) fun c64 =>
          bif decide (c64 < 0) then
            some false
          else
            bif !decide (c64 = r60) then
              some false
            else
              kA0 (t_q43 aList_) fun c67 =>
              kA0 (t_q6 c67) fun c72 =>
              kA0 (t_q30 c72.1 c8.1) fun c83 =>
              kA0 (bif !c83 then some false else (some (!decide (c72.2.1 = c8.2.1)))) fun c85 =>
              kA0 (bif (bif !c83 then true else c85) then some false else (some (!decide (c72.2.2 = c8.2.2)))) fun c87 =>
              bif (bif (bif !c83 then true else c85) then true else c87) then
                some false
              else
                kA0 (t_q33 (⟨w61⟩ : Tree) 1) fun c89 =>
                bif decide (c89 < 0) then
                  some false
                else
                  bif !decide (c89 = r60) then
                    some false
                  else
                    some true
theorem ts_q26 (env : Nat → Contract) (he_q6 : env n_q6 = .pure (C1 (fun c : Tree × Int × Int => AV.tup [AV.agg [rS c.1.nodes], enc c.2.1, enc c.2.2]) t_q6)) (he_q29 : env n_q29 = .pure (C2 (fun c : Bool => enc c) t_q29)) (he_q30 : env n_q30 = .pure (C2 (fun c : Bool => enc c) t_q30)) (he_q33 : env n_q33 = .pure (C2 (fun c : Int => enc c) t_q33)) (he_q35 : env n_q35 = .gen (kAh Try.prog ev_q35 n_q35)) (he_q37 : env n_q37 = .gen (kAh Try.prog ev_q37 n_q37)) (he_q40 : env n_q40 = .pure (C2 (fun c : Int => enc c) t_q40)) (he_q43 : env n_q43 = .pure (C1 (fun c : (Sl Symbol) => rS c) t_q43)) (he_q47 : env n_q47 = .pure (C1 (fun c : Tree × Int × Int => AV.tup [AV.agg [rS c.1.nodes], enc c.2.1, enc c.2.2]) t_q47)) (aList_ : Sl Symbol) : Sim (kAh Try.prog env n_q26 [Sl.enc aList_] []) (t_q26 aList_) fun c p => release p.2 depth p.1 = some ((fun c : Bool => enc c) c) := by
  have O := Hold.nil []
  generalize hB : (⟨[], []⟩ : Base) = B at O
  clear hB
  rw [e_q26]
  unfold t_q26
  refine kD0 he_q40 (kCu _ _) (kAm _ _) (fun c1 => ?_)
  refine kB4 (kAe (by rfl) _ _) ?_
  refine kA1 (v := bv (decide (c1 < 0))) (kB8 _ _) ?_
  refine kAc (fun c2 => ?_) (fun c2 => ?_)
  · exact kA8 (kA7 (by rfl) _)
  · refine kCc he_q43 (kCu _ _) (fun c3 => ?_)
    refine sim_hand (A := Symbol) O (fun x5 h6 O7 => ?_)
    replace O7 : Hold B h6 [(x5, obS (c3 : Sl Symbol))] := O7
    refine kCc he_q47 ((O7.tab (A := Symbol) (s := c3) 0 rfl).snap) (fun c8 => ?_)
    refine sim_hand1 O7 (c8.1.nodes : Sl TreeNode) (fun z1 => AV.tup [AV.agg [z1], iv c8.2.1, iv c8.2.2]) (by intro b; simp only [mat_tup, mat_aggD, mat_agg, matLc, matLn, mat_iv, mat_bv, mat_sv, mat_bt, mat_nilS, mat_rS, List.append_nil, List.nil_append, List.length_nil, Nat.add_zero]) (by simp only [noF_tup, noF_aggD, noF_agg, noF_iv, noF_bv, noF_sv, noF_bt, noF_nilS, noF_rS, List.all_cons, List.all_nil, Bool.and_self]) (fun x10 h11 O12 => ?_)
    replace O12 : Hold B h11 [(x5, obS (c3 : Sl Symbol)), (x10, obS (c8.1.nodes : Sl TreeNode))] := O12
    refine kA1 (v := AV.agg [x10]) rfl ?_
    refine kA1 (v := iv c8.2.1) rfl ?_
    refine kA1 (v := iv c8.2.2) rfl ?_
    refine kBd O12 (cs := [kBu]) (by first | rfl | simp) (fun o13 h14 O15 => ?_)
    replace O15 : Hold B h14 [(x5, obS (c3 : Sl Symbol)), (x10, obS (c8.1.nodes : Sl TreeNode)), (AV.ptr o13 1 0 0, .pt 1 [kBu])] := O15
    refine kAy O15 2 (cs' := [x10]) rfl (by first | rfl | simp [(O15.one (A := TreeNode) (s := c8.1.nodes) 1 rfl).1, (O15.one (A := TreeNode) (s := c8.1.nodes) 1 rfl).2]) (by simp) (by first | rfl | simp [(O15.one (A := TreeNode) (s := c8.1.nodes) 1 rfl).1, (O15.one (A := TreeNode) (s := c8.1.nodes) 1 rfl).2]) (by first | rfl | simp [kAi, (O15.one (A := TreeNode) (s := c8.1.nodes) 1 rfl).1, (O15.one (A := TreeNode) (s := c8.1.nodes) 1 rfl).2]) (fun h17 O18 => ?_)
    replace O18 : Hold B h17 [(x5, obS (c3 : Sl Symbol)), (x10, obS (c8.1.nodes : Sl TreeNode)), (AV.ptr o13 1 0 0, .pt 1 [x10])] := O18
    refine kCc he_q43 (kCu _ _) (fun c19 => ?_)
    refine sim_hand (A := Symbol) O18 (fun x21 h22 O23 => ?_)
    replace O23 : Hold B h22 [(x5, obS (c3 : Sl Symbol)), (x10, obS (c8.1.nodes : Sl TreeNode)), (AV.ptr o13 1 0 0, .pt 1 [x10]), (x21, obS (c19 : Sl Symbol))] := O23
    refine kCc he_q6 ((O23.tab (A := Symbol) (s := c19) 3 rfl).snap) (fun c24 => ?_)
    refine sim_hand1 O23 (c24.1.nodes : Sl TreeNode) (fun z1 => AV.tup [AV.agg [z1], iv c24.2.1, iv c24.2.2]) (by intro b; simp only [mat_tup, mat_aggD, mat_agg, matLc, matLn, mat_iv, mat_bv, mat_sv, mat_bt, mat_nilS, mat_rS, List.append_nil, List.nil_append, List.length_nil, Nat.add_zero]) (by simp only [noF_tup, noF_aggD, noF_agg, noF_iv, noF_bv, noF_sv, noF_bt, noF_nilS, noF_rS, List.all_cons, List.all_nil, Bool.and_self]) (fun x26 h27 O28 => ?_)
    replace O28 : Hold B h27 [(x5, obS (c3 : Sl Symbol)), (x10, obS (c8.1.nodes : Sl TreeNode)), (AV.ptr o13 1 0 0, .pt 1 [x10]), (x21, obS (c19 : Sl Symbol)), (x26, obS (c24.1.nodes : Sl TreeNode))] := O28
    refine kA1 (v := AV.agg [x26]) rfl ?_
    refine kA1 (v := iv c24.2.1) rfl ?_
    refine kA1 (v := iv c24.2.2) rfl ?_
    refine kBd O28 (cs := [kBu]) (by first | rfl | simp) (fun o29 h30 O31 => ?_)
    replace O31 : Hold B h30 [(x5, obS (c3 : Sl Symbol)), (x10, obS (c8.1.nodes : Sl TreeNode)), (AV.ptr o13 1 0 0, .pt 1 [x10]), (x21, obS (c19 : Sl Symbol)), (x26, obS (c24.1.nodes : Sl TreeNode)), (AV.ptr o29 1 0 0, .pt 1 [kBu])] := O31
    refine kAy O31 5 (cs' := [x26]) rfl (by first | rfl | simp [(O31.one (A := TreeNode) (s := c24.1.nodes) 4 rfl).1, (O31.one (A := TreeNode) (s := c24.1.nodes) 4 rfl).2]) (by simp) (by first | rfl | simp [(O31.one (A := TreeNode) (s := c24.1.nodes) 4 rfl).1, (O31.one (A := TreeNode) (s := c24.1.nodes) 4 rfl).2]) (by first | rfl | simp [kAi, (O31.one (A := TreeNode) (s := c24.1.nodes) 4 rfl).1, (O31.one (A := TreeNode) (s := c24.1.nodes) 4 rfl).2]) (fun h33 O34 => ?_)
    replace O34 : Hold B h33 [(x5, obS (c3 : Sl Symbol)), (x10, obS (c8.1.nodes : Sl TreeNode)), (AV.ptr o13 1 0 0, .pt 1 [x10]), (x21, obS (c19 : Sl Symbol)), (x26, obS (c24.1.nodes : Sl TreeNode)), (AV.ptr o29 1 0 0, .pt 1 [x26])] := O34
    refine kA1 (v := AV.agg [x26]) (O34.ld 5 rfl true 1 0) ?_
    refine kA1 (v := AV.agg [x10]) (O34.ld 2 rfl true 1 0) ?_
    refine kD0 he_q30 (kEl h33 c24.1 rfl (by simp [kBj, O34.snap7 (A := TreeNode) (s := c24.1.nodes) 4 rfl])) (kEl h33 c8.1 rfl (by simp [kBj, O34.snap7 (A := TreeNode) (s := c8.1.nodes) 1 rfl])) (fun c35 => ?_)
    refine kB4 (kAe (by rfl) _ _) ?_
    refine kA1 (v := bv (!c35)) (kD4 _) ?_
    refine kBr (e := bv) (fun hb36 => ?_) (fun c37 => ?_)
    · refine kA1 (v := bv (!decide (c24.2.1 = c8.2.1))) (kCi _ _) ?_
      exact kA8 rfl
    · refine kA1 (v := bv (bif !c35 then true else c37)) (kCt _ _ _) ?_
      refine kBr (e := bv) (fun hb38 => ?_) (fun c39 => ?_)
      · refine kA1 (v := bv (!decide (c24.2.2 = c8.2.2))) (kCi _ _) ?_
        exact kA8 rfl
      · refine kA1 (v := bv (bif (bif !c35 then true else c37) then true else c39)) (kCt _ _ _) ?_
        refine kAc (fun c40 => ?_) (fun c40 => ?_)
        · exact kA8 (kA7 (by rfl) _)
        · refine kCc he_q43 (kCu _ _) (fun c41 => ?_)
          refine sim_hand (A := Symbol) O34 (fun x43 h44 O45 => ?_)
          replace O45 : Hold B h44 [(x5, obS (c3 : Sl Symbol)), (x10, obS (c8.1.nodes : Sl TreeNode)), (AV.ptr o13 1 0 0, .pt 1 [x10]), (x21, obS (c19 : Sl Symbol)), (x26, obS (c24.1.nodes : Sl TreeNode)), (AV.ptr o29 1 0 0, .pt 1 [x26]), (x43, obS (c41 : Sl Symbol))] := O45
          refine kD0 he_q29 ((O45.tab (A := Symbol) (s := c19) 3 rfl).snap) ((O45.tab (A := Symbol) (s := c41) 6 rfl).snap) (fun c46 => ?_)
          refine kB4 (kAe (by rfl) _ _) ?_
          refine kA1 (v := bv (!c46)) (kD4 _) ?_
          refine kAc (fun c47 => ?_) (fun c47 => ?_)
          · exact kA8 (kA7 (by rfl) _)
          · refine sim_mark (A := Symbol) O45 3 rfl he_q35 kIg (fun r48 w49 h50 O51 => ?_)
            replace O51 : Hold B h50 [(x5, obS (c3 : Sl Symbol)), (x10, obS (c8.1.nodes : Sl TreeNode)), (AV.ptr o13 1 0 0, .pt 1 [x10]), (x21, obS (w49 : Sl Symbol)), (x26, obS (c24.1.nodes : Sl TreeNode)), (AV.ptr o29 1 0 0, .pt 1 [x26]), (x43, obS (c41 : Sl Symbol))] := O51
            refine kA1 (v := bv (decide (r48 < 0))) (kB8 _ _) ?_
            refine kBr (e := bv) (fun hb52 => ?_) (fun c54 => ?_)
            · refine kA1 (v := AV.agg [x26]) (O51.ld 5 rfl true 1 0) ?_
              refine kA1 (v := AV.agg [x10]) (O51.ld 2 rfl true 1 0) ?_
              refine kD0 he_q30 (kEl h50 c24.1 rfl (by simp [kBj, O51.snap7 (A := TreeNode) (s := c24.1.nodes) 4 rfl])) (kEl h50 c8.1 rfl (by simp [kBj, O51.snap7 (A := TreeNode) (s := c8.1.nodes) 1 rfl])) (fun c53 => ?_)
              refine kB4 (kAe (by rfl) _ _) ?_
              refine kA1 (v := bv (!c53)) (kD4 _) ?_
              exact kA8 rfl
            · refine kA1 (v := bv (bif decide (r48 < 0) then true else c54)) (kCt _ _ _) ?_
              refine kBr (e := bv) (fun hb55 => ?_) (fun c56 => ?_)
              · refine kA1 (v := bv (!decide (c24.2.1 = c8.2.1))) (kCi _ _) ?_
                exact kA8 rfl
              · refine kA1 (v := bv (bif (bif decide (r48 < 0) then true else c54) then true else c56)) (kCt _ _ _) ?_
                refine kBr (e := bv) (fun hb57 => ?_) (fun c58 => ?_)
                · refine kA1 (v := bv (!decide (c24.2.2 = c8.2.2))) (kCi _ _) ?_
                  exact kA8 rfl
                · refine kA1 (v := bv (bif (bif (bif decide (r48 < 0) then true else c54) then true else c56) then true else c58)) (kCt _ _ _) ?_
                  refine kAc (fun c59 => ?_) (fun c59 => ?_)
                  · exact kA8 (kA7 (by rfl) _)
                  · refine kA1 (v := AV.agg [x26]) (O51.ld 5 rfl true 1 0) ?_
                    refine sim_markG (A := TreeNode) (w := 1) (j := 0) O51 4 rfl he_q37 mk_laws_markTree (by simp [(O51.one (A := TreeNode) (s := c24.1.nodes) 4 rfl).2]) rfl rfl (fun r60 w61 h62 O63 => ?_)
                    replace O63 : Hold B h62 [(x5, obS (c3 : Sl Symbol)), (x10, obS (c8.1.nodes : Sl TreeNode)), (AV.ptr o13 1 0 0, .pt 1 [x10]), (x21, obS (w49 : Sl Symbol)), (x26, obS (w61 : Sl TreeNode)), (AV.ptr o29 1 0 0, .pt 1 [x26]), (x43, obS (c41 : Sl Symbol))] := O63
                    refine kA1 (v := AV.agg [x26]) (O63.ld 5 rfl true 1 0) ?_
                    refine kD0 he_q33 (kEl h62 (⟨w61⟩ : Tree) rfl (by simp [kBj, O63.snap7 (A := TreeNode) (s := w61) 4 rfl])) (kAm _ _) (fun c64 => ?_)
                    refine kB4 (kAe (by rfl) _ _) ?_
                    refine kA1 (v := bv (decide (c64 < 0))) (kB8 _ _) ?_
                    refine kAc (fun c65 => ?_) (fun c65 => ?_)
                    · exact kA8 (kA7 (by rfl) _)
                    · refine kA1 (v := bv (!decide (c64 = r60))) (kCi _ _) ?_
                      refine kAc (fun c66 => ?_) (fun c66 => ?_)
                      · exact kA8 (kA7 (by rfl) _)
                      · refine kCc he_q43 (kCu _ _) (fun c67 => ?_)
                        refine sim_hand (A := Symbol) O63 (fun x69 h70 O71 => ?_)
                        replace O71 : Hold B h70 [(x5, obS (c3 : Sl Symbol)), (x10, obS (c8.1.nodes : Sl TreeNode)), (AV.ptr o13 1 0 0, .pt 1 [x10]), (x21, obS (w49 : Sl Symbol)), (x26, obS (w61 : Sl TreeNode)), (AV.ptr o29 1 0 0, .pt 1 [x26]), (x43, obS (c41 : Sl Symbol)), (x69, obS (c67 : Sl Symbol))] := O71
                        refine kCc he_q6 ((O71.tab (A := Symbol) (s := c67) 7 rfl).snap) (fun c72 => ?_)
                        refine sim_hand1 O71 (c72.1.nodes : Sl TreeNode) (fun z1 => AV.tup [AV.agg [z1], iv c72.2.1, iv c72.2.2]) (by intro b; simp only [mat_tup, mat_aggD, mat_agg, matLc, matLn, mat_iv, mat_bv, mat_sv, mat_bt, mat_nilS, mat_rS, List.append_nil, List.nil_append, List.length_nil, Nat.add_zero]) (by simp only [noF_tup, noF_aggD, noF_agg, noF_iv, noF_bv, noF_sv, noF_bt, noF_nilS, noF_rS, List.all_cons, List.all_nil, Bool.and_self]) (fun x74 h75 O76 => ?_)
                        replace O76 : Hold B h75 [(x5, obS (c3 : Sl Symbol)), (x10, obS (c8.1.nodes : Sl TreeNode)), (AV.ptr o13 1 0 0, .pt 1 [x10]), (x21, obS (w49 : Sl Symbol)), (x26, obS (w61 : Sl TreeNode)), (AV.ptr o29 1 0 0, .pt 1 [x26]), (x43, obS (c41 : Sl Symbol)), (x69, obS (c67 : Sl Symbol)), (x74, obS (c72.1.nodes : Sl TreeNode))] := O76
                        refine kA1 (v := AV.agg [x74]) rfl ?_
                        refine kA1 (v := iv c72.2.1) rfl ?_
                        refine kA1 (v := iv c72.2.2) rfl ?_
                        refine kBd O76 (cs := [kBu]) (by first | rfl | simp) (fun o77 h78 O79 => ?_)
                        replace O79 : Hold B h78 [(x5, obS (c3 : Sl Symbol)), (x10, obS (c8.1.nodes : Sl TreeNode)), (AV.ptr o13 1 0 0, .pt 1 [x10]), (x21, obS (w49 : Sl Symbol)), (x26, obS (w61 : Sl TreeNode)), (AV.ptr o29 1 0 0, .pt 1 [x26]), (x43, obS (c41 : Sl Symbol)), (x69, obS (c67 : Sl Symbol)), (x74, obS (c72.1.nodes : Sl TreeNode)), (AV.ptr o77 1 0 0, .pt 1 [kBu])] := O79
                        refine kAy O79 9 (cs' := [x74]) rfl (by first | rfl | simp [(O79.one (A := TreeNode) (s := c72.1.nodes) 8 rfl).1, (O79.one (A := TreeNode) (s := c72.1.nodes) 8 rfl).2]) (by simp) (by first | rfl | simp [(O79.one (A := TreeNode) (s := c72.1.nodes) 8 rfl).1, (O79.one (A := TreeNode) (s := c72.1.nodes) 8 rfl).2]) (by first | rfl | simp [kAi, (O79.one (A := TreeNode) (s := c72.1.nodes) 8 rfl).1, (O79.one (A := TreeNode) (s := c72.1.nodes) 8 rfl).2]) (fun h81 O82 => ?_)
                        replace O82 : Hold B h81 [(x5, obS (c3 : Sl Symbol)), (x10, obS (c8.1.nodes : Sl TreeNode)), (AV.ptr o13 1 0 0, .pt 1 [x10]), (x21, obS (w49 : Sl Symbol)), (x26, obS (w61 : Sl TreeNode)), (AV.ptr o29 1 0 0, .pt 1 [x26]), (x43, obS (c41 : Sl Symbol)), (x69, obS (c67 : Sl Symbol)), (x74, obS (c72.1.nodes : Sl TreeNode)), (AV.ptr o77 1 0 0, .pt 1 [x74])] := O82
                        refine kA1 (v := AV.agg [x74]) (O82.ld 9 rfl true 1 0) ?_
                        refine kA1 (v := AV.agg [x10]) (O82.ld 2 rfl true 1 0) ?_
                        refine kD0 he_q30 (kEl h81 c72.1 rfl (by simp [kBj, O82.snap7 (A := TreeNode) (s := c72.1.nodes) 8 rfl])) (kEl h81 c8.1 rfl (by simp [kBj, O82.snap7 (A := TreeNode) (s := c8.1.nodes) 1 rfl])) (fun c83 => ?_)
                        refine kB4 (kAe (by rfl) _ _) ?_
                        refine kA1 (v := bv (!c83)) (kD4 _) ?_
                        refine kBr (e := bv) (fun hb84 => ?_) (fun c85 => ?_)
                        · refine kA1 (v := bv (!decide (c72.2.1 = c8.2.1))) (kCi _ _) ?_
                          exact kA8 rfl
                        · refine kA1 (v := bv (bif !c83 then true else c85)) (kCt _ _ _) ?_
                          refine kBr (e := bv) (fun hb86 => ?_) (fun c87 => ?_)
                          · refine kA1 (v := bv (!decide (c72.2.2 = c8.2.2))) (kCi _ _) ?_
                            exact kA8 rfl
                          · refine kA1 (v := bv (bif (bif !c83 then true else c85) then true else c87)) (kCt _ _ _) ?_
                            refine kAc (fun c88 => ?_) (fun c88 => ?_)
                            · exact kA8 (kA7 (by rfl) _)
                            · refine kA1 (v := AV.agg [x26]) (O82.ld 5 rfl true 1 0) ?_
                              refine kD0 he_q33 (kEl h81 (⟨w61⟩ : Tree) rfl (by simp [kBj, O82.snap7 (A := TreeNode) (s := w61) 4 rfl])) (kAm _ _) (fun c89 => ?_)
                              refine kB4 (kAe (by rfl) _ _) ?_
                              refine kA1 (v := bv (decide (c89 < 0))) (kB8 _ _) ?_
                              refine kAc (fun c90 => ?_) (fun c90 => ?_)
                              · exact kA8 (kA7 (by rfl) _)
                              · refine kA1 (v := bv (!decide (c89 = r60))) (kCi _ _) ?_
                                refine kAc (fun c91 => ?_) (fun c91 => ?_)
                                · exact kA8 (kA7 (by rfl) _)
                                · exact kA8 (kA7 (by rfl) _)
theorem tt_q26 : kAp Try.prog n_q26 (C1 (fun c : Bool => enc c) t_q26) := pureC1 (kCq tt_q6 (kCq tt_q29 (kCq tt_q30 (kCq tt_q33 (kE5 (kBk kIc kBh hb_q35) (kE5 (kBk eo_laws_markTree kBh hb_q37) (kCq tt_q40 (kCq tt_q43 (kCq tt_q47 E0))))))))) kBh hb_q26 fun aList_ => ts_q26 _ (by simp [kC4]) (by simp [kC4]) (by simp [kC4]) (by simp [kC4]) (by simp [kC4]) (by simp [kC4]) (by simp [kC4]) (by simp [kC4]) (by simp [kC4]) aList_
structure SK (s : l00Src) (k : Int) : Prop where
  lo : 0 ≤ s.pos
  hi : s.pos ≤ k
theorem SK.mono {s : l00Src} {k k' : Int} (h : SK s k) (hk : k ≤ k') : SK s k' := ⟨h.lo, by have := h.hi; omega⟩
theorem kDt {k n : Nat} (h : k < n) (hn : n ≤ 4294967296) : wr ((k : Int) + 1) = ((k + 1 : Nat) : Int) := by
  rw [kD1 (by omega) (by omega)]
  omega
theorem kI5 {A : Type} {l : List A} {k : Nat} {a : A} (h : l[k]? = some a) : k < l.length := (List.getElem?_eq_some_iff.1 h).1
structure PtV (p : Point) : Prop where
  x0 : 0 ≤ p.x
  x1 : p.x ≤ 4095
  y0 : 0 ≤ p.y
  y1 : p.y ≤ 4095
  t0 : 0 ≤ p.t
  t1 : p.t ≤ 3600000
structure StV (l : List Point) : Prop where
  pts : ∀ p ∈ l, PtV p
  inc : ∀ (k : Nat) p q, l[k]? = some p → l[k + 1]? = some q → p.t < q.t
  n1 : 1 ≤ l.length
  n2 : l.length ≤ 60
structure PtB (p : Point) : Prop where
  x0 : -10000000 ≤ p.x
  x1 : p.x ≤ 10000000
  y0 : -10000000 ≤ p.y
  y1 : p.y ≤ 10000000
  t0 : -10000000 ≤ p.t
  t1 : p.t ≤ 10000000
structure StB (s : Stroke) : Prop where
  n : (s.points.getD []).length ≤ 100
  pts : ∀ p ∈ s.points.getD [], PtB p
theorem PtV.b {p : Point} (h : PtV p) : PtB p := by
  obtain ⟨h1, h2, h3, h4, h5, h6⟩ := h
  exact ⟨by omega, by omega, by omega, by omega, by omega, by omega⟩
theorem StV.b {l : List Point} (h : StV l) : StB ⟨some l⟩ := ⟨Nat.le_trans h.n2 (by omega), fun p hp => (h.pts p hp).b⟩
structure InkV (L : List Stroke) : Prop where
  st : ∀ s ∈ L, ∃ l, s = ⟨some l⟩ ∧ StV l
  inc : ∀ (k : Nat) l l', L[k]? = some ⟨some l⟩ → L[k + 1]? = some ⟨some l'⟩ → ∀ p ∈ l, ∀ q ∈ l', p.t < q.t
  n : L.length ≤ 16
theorem InkV.b {L : List Stroke} (h : InkV L) : ∀ x ∈ L, StB x := fun x hx => by
  obtain ⟨l, rfl, hl⟩ := h.st x hx
  exact hl.b
theorem firstL_so {A R : Type} {f : Nat → A → Option R} : ∀ {l : List A} {k : Nat} {r : R}, kE3 f l k = some r → ∃ i a, f i a = some r
  | [], _, _, h => by cases h
  | b :: l, k, r, h => by
    unfold kE3 at h
    cases e : f k b with
    | some r' => rw [e] at h; cases h; exact ⟨k, b, e⟩
    | none => rw [e] at h; exact firstL_so h
def pt (l : List Point) (i : Nat) : Point := l.getD i ⟨0, 0, 0⟩
def Pre (p q i j : Nat) : Prop := (i = p + 1 ∧ j = q + 1) ∨ (i = p + 1 ∧ j = q) ∨ (i = p ∧ j = q + 1)
inductive Pth (C : Nat → Nat → Int) (R : Nat → Nat → Prop) : Nat → Nat → Int → Prop
  | start : R 0 0 → Pth C R 0 0 (C 0 0)
  | step {p q i j : Nat} {c : Int} : Pth C R p q c → Pre p q i j → R i j → Pth C R i j (c + C i j)
theorem Pth.mono {C D : Nat → Nat → Int} {R S : Nat → Nat → Prop} {i j : Nat} {c : Int} (h : Pth C R i j c) (hR : ∀ p q, p ≤ i → q ≤ j → R p q → S p q) (hC : ∀ p q, p ≤ i → q ≤ j → C p q = D p q) : Pth D S i j c := by
  induction h with
  | start h =>
    rw [hC 0 0 (Nat.le_refl _) (Nat.le_refl _)]
    exact .start (hR 0 0 (Nat.le_refl _) (Nat.le_refl _) h)
  | @step p q i j c h1 h2 h3 ih =>
    have hle : p ≤ i ∧ q ≤ j := by rcases h2 with h | h | h <;> omega
    rw [hC i j (Nat.le_refl _) (Nat.le_refl _)]
    exact .step (ih (fun a b h4 h5 => hR a b (by omega) (by omega)) (fun a b h4 h5 => hC a b (by omega) (by omega))) h2 (hR i j (Nat.le_refl _) (Nat.le_refl _) h3)
def Val (T : List (Sl Int)) (p q : Nat) (v : Int) : Prop := ∃ row, T[p]? = some (some row) ∧ row[q]? = some v
theorem Val.set {T : List (Sl Int)} {i j p q : Nat} {row : List Int} {v w : Int} (hr : T[i]? = some (some row)) (hj : j < row.length) :
    Val (T.set i (some (row.set j w))) p q v ↔ (p = i ∧ q = j ∧ v = w) ∨ (¬ (p = i ∧ q = j) ∧ Val T p q v) := by
  have hi := kI5 hr
  unfold Val
  constructor
  · rintro ⟨r, h1, h2⟩
    by_cases c : i = p
    · subst c
      rw [List.getElem?_set_self hi] at h1
      cases h1
      by_cases d : j = q
      · subst d
        rw [List.getElem?_set_self hj] at h2
        cases h2
        exact .inl ⟨rfl, rfl, rfl⟩
      · rw [List.getElem?_set_ne d] at h2
        exact .inr ⟨fun h => d h.2.symm, row, hr, h2⟩
    · rw [List.getElem?_set_ne c] at h1
      exact .inr ⟨fun h => c h.1.symm, r, h1, h2⟩
  · rintro (⟨rfl, rfl, rfl⟩ | ⟨hne, r, h1, h2⟩)
    · exact ⟨_, List.getElem?_set_self hi, List.getElem?_set_self hj⟩
    · by_cases c : i = p
      · subst c
        rw [hr] at h1
        cases h1
        have d : j ≠ q := fun h => hne ⟨rfl, h.symm⟩
        exact ⟨_, List.getElem?_set_self hi, by rw [List.getElem?_set_ne d]; exact h2⟩
      · exact ⟨r, by rw [List.getElem?_set_ne c]; exact h1, h2⟩
def PVal (T : List (Sl Part)) (p q : Nat) (v : Part) : Prop := ∃ row, T[p]? = some (some row) ∧ row[q]? = some v
theorem PVal.set {T : List (Sl Part)} {i j p q : Nat} {row : List Part} {v w : Part} (hr : T[i]? = some (some row)) (hj : j < row.length) :
    PVal (T.set i (some (row.set j w))) p q v ↔ (p = i ∧ q = j ∧ v = w) ∨ (¬ (p = i ∧ q = j) ∧ PVal T p q v) := by
  have hi := kI5 hr
  unfold PVal
  constructor
  · rintro ⟨r, h1, h2⟩
    by_cases c : i = p
    · subst c
      rw [List.getElem?_set_self hi] at h1
      cases h1
      by_cases d : j = q
      · subst d
        rw [List.getElem?_set_self hj] at h2
        cases h2
        exact .inl ⟨rfl, rfl, rfl⟩
      · rw [List.getElem?_set_ne d] at h2
        exact .inr ⟨fun h => d h.2.symm, row, hr, h2⟩
    · rw [List.getElem?_set_ne c] at h1
      exact .inr ⟨fun h => c h.1.symm, r, h1, h2⟩
  · rintro (⟨rfl, rfl, rfl⟩ | ⟨hne, r, h1, h2⟩)
    · exact ⟨_, List.getElem?_set_self hi, List.getElem?_set_self hj⟩
    · by_cases c : i = p
      · subst c
        rw [hr] at h1
        cases h1
        have d : j ≠ q := fun h => hne ⟨rfl, h.symm⟩
        exact ⟨_, List.getElem?_set_self hi, by rw [List.getElem?_set_ne d]; exact h2⟩
      · exact ⟨r, by rw [List.getElem?_set_ne c]; exact h1, h2⟩
def d2 (a b : Point) : Int := (a.x - b.x) * (a.x - b.x) + (a.y - b.y) * (a.y - b.y)
def pbox (p : Point) : Box := ⟨p.x, p.y, p.x, p.y⟩
structure InB (a b : Box) : Prop where
  x1 : b.x1 ≤ a.x1
  y1 : b.y1 ≤ a.y1
  x2 : a.x2 ≤ b.x2
  y2 : a.y2 ≤ b.y2
theorem PtV.box {p : Point} (h : PtV p) : InB (pbox p) ⟨0, 0, 4095, 4095⟩ := ⟨h.x0, h.y0, h.x1, h.y1⟩
def nearQ (n d : Int) : Int := (2 * n + d) / (2 * d)
def nrm1 (w S u : Int) : Int := (255 - w * 255 / S) / 2 + nearQ (u * 255) S
def side (b : Box) : Int := max (max (b.x2 - b.x1) (b.y2 - b.y1)) 1
def nrm (b : Box) (p : Spot) : Spot := ⟨nrm1 (b.x2 - b.x1) (side b) (p.x - b.x1), nrm1 (b.y2 - b.y1) (side b) (p.y - b.y1)⟩
def inQ (b : Box) (p : Spot) : Bool := within p.x b.x1 b.x2 && within p.y b.y1 b.y2
def NR (L : List Spot) (b : Box) (q : Sl Spot) (n : Int) : Prop := (n = 0 ∧ kDe b = true ∧ (∀ p ∈ L, inQ b p = true) ∧ q.getD [] = L.map (nrm b)) ∨ (q = none ∧ ((n = 1 ∧ kDe b = false) ∨ (n = 2 ∧ kDe b = true ∧ ∃ p ∈ L, inQ b p = false)))
theorem NR.same {L : List Spot} {b : Box} {q q' : Sl Spot} {n n' : Int} (h : NR L b q n) (h' : NR L b q' n') : n = n' ∧ q.getD [] = q'.getD [] := by
  rcases h with ⟨rfl, h1, h2, h3⟩ | ⟨rfl, ⟨rfl, h1⟩ | ⟨rfl, h1, p, h2, h3⟩⟩ <;> rcases h' with ⟨rfl, g1, g2, g3⟩ | ⟨rfl, ⟨rfl, g1⟩ | ⟨rfl, g1, p', g2, g3⟩⟩
  · exact ⟨rfl, by rw [h3, g3]⟩
  · rw [h1] at g1; cases g1
  · rw [h2 _ g2] at g3; cases g3
  · rw [h1] at g1; cases g1
  · exact ⟨rfl, rfl⟩
  · rw [h1] at g1; cases g1
  · rw [g2 _ h2] at h3; cases h3
  · rw [h1] at g1; cases g1
  · exact ⟨rfl, rfl⟩
theorem copyLoop {A : Type} (d : A) (l : List A) (hl : l.length ≤ 4294967296) (step : ((Sl A) × Int) → Option (Sum ((Sl A) × Int) (Sl A)))
    (next : ∀ (M : List A) (k : Nat) (a : A), M.length = l.length → l[k]? = some a → step (some M, (k : Int)) = some (.inl (some (M.set k a), wr ((k : Int) + 1))))
    (fin : ∀ w : Sl A, step (w, ((l.length : Nat) : Int)) = some (.inr w)) : kBq step (some (List.replicate l.length d), 0) = some (some l) := by
  obtain ⟨r, h1, h2⟩ := kFb (step := step) (fun k t => ∃ M, t = (some M, (k : Int)) ∧ M.length = l.length ∧ ∀ j, j < k → M[j]? = l[j]?) l.length (fun r => r = some l)
    (fun k t hk ht => by
      obtain ⟨M, rfl, m1, m2⟩ := ht
      obtain ⟨a, ha⟩ : ∃ a, l[k]? = some a := ⟨l[k], List.getElem?_eq_getElem hk⟩
      have e := next M k a m1 ha
      rw [kDt hk hl] at e
      refine .inl ⟨_, e, _, rfl, by rw [List.length_set, m1], fun j hj => ?_⟩
      by_cases c : j = k
      · subst c
        rw [List.getElem?_set_self (by omega), ha]
      · rw [List.getElem?_set_ne (fun h => c h.symm)]
        exact m2 j (by omega))
    (fun t ht => by
      obtain ⟨M, rfl, m1, m2⟩ := ht
      refine ⟨_, fin _, ?_⟩
      congr 1
      apply List.ext_getElem?
      intro j
      by_cases c : j < l.length
      · exact m2 j c
      · rw [List.getElem?_eq_none (by omega), List.getElem?_eq_none (by omega)])
    (s := (some (List.replicate l.length d), 0)) ⟨_, rfl, by simp, fun j hj => by omega⟩
  rw [h1, h2]
def rowsL (s : Sl (Sl Int)) : List (List Int) := (s.getD []).map fun a => a.getD []
theorem rowsL_len (s : Sl (Sl Int)) : (rowsL s).length = (s.getD []).length := by simp [rowsL]
theorem rowsL_get {s : Sl (Sl Int)} {k : Nat} {r : List Int} (h : (rowsL s)[k]? = some r) : ∃ a, (s.getD [])[k]? = some a ∧ a.getD [] = r := by
  unfold rowsL at h
  rw [List.getElem?_map] at h
  cases e : (s.getD [])[k]? with
  | none => rw [e] at h; cases h
  | some a => rw [e] at h; exact ⟨a, rfl, Option.some.inj h⟩
theorem grow {s : Sl (Sl Int)} {R : List (List Int)} {r : List Int} (x : Int) (h : rowsL s = R ++ [r]) (hl : R.length ≤ 2000000) (hr : r.length ≤ 2000000) : ∃ a, kCo (s.getD []) (wr ((((s.getD []).length : Nat) : Int) - 1)) = some a ∧ appO a [x] = some (kGd a [x]) ∧ rowsL (kB1 s (wr ((((s.getD []).length : Nat) : Int) - 1)) (kGd a [x])) = R ++ [r ++ [x]] := by
  have e : (s.getD []).length = R.length + 1 := by rw [← rowsL_len, h]; simp
  have w : wr ((((s.getD []).length : Nat) : Int) - 1) = ((R.length : Nat) : Int) := by
    rw [e, kD1 (by omega) (by omega)]
    omega
  have g : (rowsL s)[R.length]? = some r := by rw [h]; simp
  obtain ⟨a, ha, hr2⟩ := rowsL_get g
  refine ⟨a, by rw [w]; exact kAl ha, ?_, ?_⟩
  · rw [appO_some]
    rw [hr2]
    simp
    omega
  · rw [w]
    cases s with
    | none => simp [rowsL] at h
    | some l =>
      simp only [kB1, rowsL, Option.map_some, Option.getD_some, Int.toNat_natCast, List.map_set] at *
      rw [h, appS_getD, hr2]
      simp
theorem toSymbolS_ok (a : Sl Symbol) (hl : (a.getD []).length ≤ 4294967296) : t_q43 a = some (some (a.getD [])) := by
  have mk : makeO (⟨(⟨#[]⟩ : ByteArray), ⟨0, 0, 0, 0⟩⟩ : Symbol) (((a.getD []).length : Nat) : Int) = some (List.replicate (a.getD []).length ⟨(⟨#[]⟩ : ByteArray), ⟨0, 0, 0, 0⟩⟩) := by
    unfold makeO
    rw [if_pos ⟨by omega, by omega⟩, Int.toNat_natCast]
  have lp := copyLoop (⟨(⟨#[]⟩ : ByteArray), ⟨0, 0, 0, 0⟩⟩ : Symbol) (a.getD []) hl (s0_q43 a) (fun M k x hM hx => by
    have hk := kI5 hx
    have c : (k : Int) < (((a.getD []).length : Nat) : Int) := by omega
    obtain ⟨y, hy⟩ : ∃ y, M[k]? = some y := ⟨M[k]'(by omega), List.getElem?_eq_getElem _⟩
    unfold s0_q43
    simp only [c, decide_true, cond_true, kAl hx, kA4, Option.getD_some, kAl hy, kB1, Option.map_some, Int.toNat_natCast]) (fun w => by
    unfold s0_q43
    simp only [Int.lt_irrefl, decide_false, cond_false])
  unfold t_q43
  rw [mk, kA4, lp, kA4]
theorem eqSy_ok {a b : Sl Symbol} (h : a.getD [] = b.getD []) (hl : (a.getD []).length ≤ 4294967296) : t_q29 a b = some true := by
  have lp := kG6 (step := s0_q29 a b) (a.getD []) (fun _ _ => (none : Option Bool)) (.inl ()) .inr
    (fun k x hx => by
      have hk := kI5 hx
      have c : (k : Int) < ((a.getD []).length : Nat) := by omega
      unfold s0_q29
      simp only [c, decide_true, cond_true, kAl hx, ← h, kA4, Bool.not_true, cond_false, kDt hk hl])
    (by
      unfold s0_q29
      simp only [Int.lt_irrefl, decide_false, cond_false])
  rw [kIb (fun _ _ _ => rfl)] at lp
  unfold t_q29
  rw [lp, ← h]
  simp
theorem szSymbolS_ok (a : Sl Symbol) (hl0 : (a.getD []).length ≤ 9223372036854775807) : ∃ r, t_q40 a 1048576 = some r ∧ (r < 0 ∨ (a.getD []).length ≤ 1048576) := by
  have ws : wr (1048576 - (((a.getD []).length : Nat) : Int)) = 1048576 - (((a.getD []).length : Nat) : Int) := kD1 (by omega) (by omega)
  by_cases c1 : 1048576 - (((a.getD []).length : Nat) : Int) < 0
  · refine ⟨-1, ?_, .inl (by omega)⟩
    unfold t_q40
    rw [ws]
    simp [c1]
  have hn : (a.getD []).length ≤ 1048576 := by omega
  have hl : (a.getD []).length ≤ 4294967296 := by omega
  have sz : ∀ (x : Symbol) (k : Int), ∃ r, t_q39 x k = some r := fun x k => by
    unfold t_q39
    cases decide (wr (k - (x.label.size : Int)) < 0) with
    | true => exact ⟨_, rfl⟩
    | false => exact ⟨_, rfl⟩
  obtain ⟨q, e, _⟩ := kFb (step := s0_q40 a) (fun k t => t.2 = (k : Int)) (a.getD []).length (fun _ => True)
    (fun k ⟨w, i⟩ hk h2 => by
      simp only at h2
      subst h2
      have c : (k : Int) < (((a.getD []).length : Nat) : Int) := by omega
      obtain ⟨x, hx⟩ : ∃ x, (a.getD [])[k]? = some x := ⟨_, List.getElem?_eq_getElem hk⟩
      obtain ⟨r, hr⟩ := sz x w
      unfold s0_q40
      simp only [c, decide_true, cond_true, kAl hx, kA4, hr, kDt hk hl]
      cases decide (r < 0) with
      | true => exact .inr ⟨_, rfl, trivial⟩
      | false => exact .inl ⟨_, rfl, rfl⟩)
    (fun ⟨w, i⟩ h2 => by
      simp only at h2
      subst h2
      refine ⟨.inl w, ?_, trivial⟩
      unfold s0_q40
      simp only [Int.lt_irrefl, decide_false, cond_false])
    (s := (1048576 - (((a.getD []).length : Nat) : Int), 0)) rfl
  have d : decide (1048576 - (((a.getD []).length : Nat) : Int) < 0) = false := decide_eq_false c1
  cases q with
  | inl q =>
    refine ⟨q, ?_, .inr hn⟩
    unfold t_q40
    rw [ws, d, cond_false, e]
    rfl
  | inr q =>
    refine ⟨q, ?_, .inr hn⟩
    unfold t_q40
    rw [ws, d, cond_false, e]
    rfl
def fSy (_ : Nat) (b : Symbol) : Option Bool := bif !kIn b then some false else none
def okSys (l : List Symbol) : Bool := match kE3 fSy l 0 with
  | none => decide (l.length ≤ 8)
  | some r => r
theorem l20Ok_ok (s : Sl Symbol) (hl : (s.getD []).length ≤ 4294967296) : t_q56 s = some (okSys (s.getD [])) := by
  have lp := kG6 (step := s0_q56 s) (s.getD []) fSy (.inl ()) .inr
    (fun k x hx => by
      have hk := kI5 hx
      have c : (k : Int) < (((s.getD []).length : Nat) : Int) := by omega
      unfold s0_q56 fSy kIn
      simp only [c, decide_true, cond_true, kAl hx, kA4, kDt hk hl]
      cases kEe x.label <;> cases kDe x.box <;> rfl)
    (by
      unfold s0_q56
      simp only [Int.lt_irrefl, decide_false, cond_false])
  have d : decide ((((s.getD []).length : Nat) : Int) ≤ 8) = decide ((s.getD []).length ≤ 8) := decide_eq_decide.2 (by omega)
  unfold t_q56 okSys
  rw [lp]
  cases kE3 fSy (s.getD []) 0 with
  | none => simp only [kA4, d]
  | some r => rfl
theorem fSy_some {l : List Symbol} {r : Bool} {k : Nat} (h : kE3 fSy l k = some r) : r = false := by
  obtain ⟨i, a, hf⟩ := firstL_so h
  unfold fSy at hf
  cases h2 : kIn a <;> rw [h2] at hf <;> cases hf
  rfl
theorem validSys_ok (s : Sl Symbol) (hl : (s.getD []).length ≤ 4294967296) : t_q8 s = some (okSys (s.getD [])) := by
  have lp := kG6 (step := s0_q45 (fun a => some ((fun b : Symbol => !kIn b) a)) s) (s.getD []) (fun k a => bif !kIn a then some (k : Int) else none) (.inl ()) .inr
    (fun k a ha => by
      have hk := kI5 ha
      have c : (k : Int) < (((s.getD []).length : Nat) : Int) := by omega
      unfold s0_q45
      simp only [c, decide_true, cond_true, kAl ha, kA4, kDt hk hl]
      cases kIn a <;> rfl)
    (by
      unfold s0_q45
      simp only [Int.lt_irrefl, decide_false, cond_false])
  have key : ∀ (l : List Symbol) (k : Nat), (kE3 (fun (k : Nat) a => bif !kIn a then some (k : Int) else none) l k = none ∧ kE3 fSy l k = none) ∨ ∃ r, kE3 (fun (k : Nat) a => bif !kIn a then some (k : Int) else none) l k = some r ∧ 0 ≤ r ∧ kE3 fSy l k = some false := by
    intro l
    induction l with
    | nil => intro k; exact .inl ⟨rfl, rfl⟩
    | cons a l ih =>
      intro k
      unfold kE3 fSy
      cases e : kIn a with
      | true =>
        simp only [Bool.not_true, cond_false]
        exact ih (k + 1)
      | false => exact .inr ⟨(k : Int), rfl, by omega, rfl⟩
  have cf : t_q44 (fun a => some ((fun s : Symbol => !kIn s) a)) s = some (kE3 fSy (s.getD []) 0).isSome := by
    unfold t_q44 t_q45
    rw [lp]
    rcases key (s.getD []) 0 with ⟨h1, h2⟩ | ⟨r, h1, h2, h3⟩
    · rw [h1, h2]
      simp
    · rw [h1, h3]
      simp [h2]
  have d : decide ((((s.getD []).length : Nat) : Int) ≤ 8) = decide ((s.getD []).length ≤ 8) := decide_eq_decide.2 (by omega)
  unfold t_q8 okSys
  rw [cf, d]
  cases h : kE3 fSy (s.getD []) 0 with
  | none => cases decide ((s.getD []).length ≤ 8) <;> rfl
  | some r =>
    have := fSy_some h
    subst this
    cases decide ((s.getD []).length ≤ 8) <;> rfl
theorem okSys_len {l : List Symbol} (h : okSys l = true) : l.length ≤ 8 := by
  unfold okSys at h
  cases e : kE3 fSy l 0 with
  | some r =>
    rw [e] at h
    simp only at h
    rw [fSy_some e] at h
    cases h
  | none =>
    rw [e] at h
    exact of_decide_eq_true h
theorem make_len {A : Type} (d : A) {n : Nat} (h : n ≤ 4294967296) : makeO d ((n : Nat) : Int) = some (List.replicate n d) := by
  unfold makeO
  rw [if_pos ⟨by omega, by omega⟩, Int.toNat_natCast]
inductive Wy (E : List Edg) (lab : Nat → ByteArray) : Nat → Nat → Int → Prop
  | start : Wy E lab 0 0 0
  | step {k u v : Nat} {c : Int} {i : Nat} {e : Edg} : Wy E lab k u c → E[i]? = some e → e.frm = (u : Int) → e.upto = (v : Int) → e.label = lab k → Wy E lab (k + 1) v (c + e.cost)
def LeW (W : Int) (S : Int → Prop) (x : Int) : Prop := (x = W ∧ ∀ c, ¬ S c) ∨ (S x ∧ ∀ c, S c → x ≤ c)
theorem LeW.same {W : Int} {S T : Int → Prop} {x : Int} (h : LeW W S x) (hs : ∀ c, S c ↔ T c) : LeW W T x := by
  rcases h with ⟨h1, h2⟩ | ⟨h1, h2⟩
  · exact .inl ⟨h1, fun c hc => h2 c ((hs c).2 hc)⟩
  · exact .inr ⟨(hs x).1 h1, fun c hc => h2 c ((hs c).2 hc)⟩
theorem set_upd {L : List Int} {v : Nat} {x y : Int} (h : L[v]? = some x) (i : Nat) : (L.set v y)[i]? = if i = v then some y else L[i]? := by
  by_cases e : i = v
  · subst e
    rw [if_pos rfl, List.getElem?_set_self (kI5 h)]
  · rw [if_neg e, List.getElem?_set_ne (fun k => e k.symm)]
def Nxt (E : List Edg) (lab : Nat → ByteArray) (k j : Nat) (v : Nat) (c : Int) : Prop := ∃ i e u c', i < j ∧ E[i]? = some e ∧ e.frm = ((u : Nat) : Int) ∧ e.upto = (v : Int) ∧ e.label = lab k ∧ Wy E lab k u c' ∧ c = c' + e.cost
theorem Nxt.all {E : List Edg} {lab : Nat → ByteArray} {k v : Nat} {c : Int} : Nxt E lab k E.length v c ↔ Wy E lab (k + 1) v c := by
  constructor
  · rintro ⟨i, e, u, c', _, he, hf, hu, hl, hw, rfl⟩
    exact .step hw he hf hu hl
  · intro h
    cases h with
    | step hw he hf hu hl => exact ⟨_, _, _, _, kI5 he, he, hf, hu, hl, hw, rfl⟩
def Cap (n : Nat) (L : List Int) (v k : Nat) (c : Int) : Prop := ∃ x, L[v * (n + 1) + k]? = some x ∧ 0 ≤ x ∧ x ≤ c
theorem Cap.mono {n : Nat} {L : List Int} {v k m : Nat} {c x y : Int} (h : Cap n L v k c) (hx : L[m]? = some x) (hy : x < 0 ∨ y < x) (h0 : 0 ≤ y) : Cap n (L.set m y) v k c := by
  obtain ⟨z, h1, h2, h3⟩ := h
  unfold Cap
  rw [set_upd hx]
  by_cases e : v * (n + 1) + k = m
  · rw [if_pos e]
    rw [e, hx] at h1
    cases h1
    exact ⟨y, rfl, h0, by omega⟩
  · rw [if_neg e]
    exact ⟨z, h1, h2, h3⟩
theorem wr_shift (x q : Int) : wr (x + 18446744073709551616 * q) = wr x := by
  simp only [wr, IntKind.wrap, IntKind.bits, IntKind.signed]
  first | omega | (simp; done)
theorem wr_mod (x : Int) : ∃ q, wr x = x + 18446744073709551616 * q := by
  have h : ∃ q, wr x = x - 18446744073709551616 * q := by
    simp only [wr, IntKind.wrap, IntKind.bits, IntKind.signed]
    by_cases h : x % 18446744073709551616 ≥ 9223372036854775808
    · exact ⟨x / 18446744073709551616 + 1, by simp [h]; omega⟩
    · exact ⟨x / 18446744073709551616, by simp [h]; omega⟩
  obtain ⟨q, hq⟩ := h
  exact ⟨-q, by rw [hq]; omega⟩
theorem wr_add_l (x y : Int) : wr (wr x + y) = wr (x + y) := by
  obtain ⟨q, h⟩ := wr_mod x
  rw [h, show x + 18446744073709551616 * q + y = x + y + 18446744073709551616 * q by omega, wr_shift]
theorem kHp {a b : Nat} (ha : a < 4294967296) (hb : b < 4294967296) : kF3 (a : Int) (b : Int) = ((a &&& b : Nat) : Int) := by
  unfold kF3
  have h1 : (BitVec.ofInt 64 (a : Int) &&& BitVec.ofInt 64 (b : Int)).toNat = a &&& b := by
    rw [BitVec.toNat_and, BitVec.ofInt_natCast, BitVec.ofInt_natCast, BitVec.toNat_ofNat, BitVec.toNat_ofNat, Nat.mod_eq_of_lt (by omega), Nat.mod_eq_of_lt (by omega)]
  have h2 : a &&& b ≤ a := Nat.and_le_left
  rw [h1, kD1 (by omega) (by omega)]
def dif (m a : Nat) : Nat := (BitVec.ofNat 64 m &&& ~~~ BitVec.ofNat 64 a).toNat
theorem dif_le (m a : Nat) (hm : m < 4294967296) : dif m a ≤ m := by
  unfold dif
  rw [BitVec.toNat_and]
  have : (BitVec.ofNat 64 m).toNat = m := by rw [BitVec.toNat_ofNat, Nat.mod_eq_of_lt (by omega)]
  rw [this]
  exact Nat.and_le_left
theorem kG4 {m a : Nat} (hm : m < 4294967296) : kC3 (m : Int) (a : Int) = (dif m a : Int) := by
  have h := dif_le m a hm
  unfold kC3
  rw [BitVec.ofInt_natCast, BitVec.ofInt_natCast]
  show wr ((dif m a : Nat) : Int) = _
  rw [kD1 (by omega) (by omega)]
def kEo (m : Nat) : List Nat := (List.range m).filter fun a => decide (0 < a) && decide (a &&& m = a)
def chainB (m : Nat) : List Nat → Bool
  | [] => true
  | a :: r => (decide (0 < a) && decide ((a - 1) &&& m = r.headD 0)) && chainB m r
theorem sub_chain : ∀ m : Fin 256, (decide ((m.val - 1) &&& m.val = (kEo m.val).reverse.headD 0) && chainB m.val (kEo m.val).reverse) = true := by decide +kernel
theorem sub_dif : ∀ m : Fin 256, ((kEo m.val).all fun a => decide (dif m.val a < m.val) && decide (dif m.val a ≠ 0)) = true := by decide +kernel
theorem one_less : ∀ (m : Fin 256) (i : Fin 8), (decide (dif m.val (2 ^ i.val) = m.val) || (decide (dif m.val (2 ^ i.val) < m.val) && (decide (m.val &&& (m.val - 1) = 0) || decide (dif m.val (2 ^ i.val) ≠ 0)))) = true := by decide +kernel
def kI7 (f : Nat → Int) (l : List Nat) : Int := (l.map f).sum
theorem kD3 (f : Nat → Int) (a : Nat) (l : List Nat) : kI7 f (a :: l) = f a + kI7 f l := by simp [kI7]
theorem sumL_app (f : Nat → Int) : ∀ l r : List Nat, kI7 f (l ++ r) = kI7 f l + kI7 f r
  | [], r => by simp [kI7]
  | a :: l, r => by rw [List.cons_append, kD3, kD3, sumL_app f l r]; omega
theorem sumL_rev (f : Nat → Int) : ∀ l : List Nat, kI7 f l.reverse = kI7 f l
  | [] => rfl
  | a :: l => by
    rw [List.reverse_cons, sumL_app, sumL_rev f l, kD3, kD3]
    simp [kI7]
    omega
theorem sumL_add (f g : Nat → Int) : ∀ l : List Nat, kI7 (fun a => f a + g a) l = kI7 f l + kI7 g l
  | [] => rfl
  | a :: l => by rw [kD3, kD3, kD3, sumL_add f g l]; omega
theorem kEg {f g : Nat → Int} : ∀ {l : List Nat}, (∀ a ∈ l, f a = g a) → kI7 f l = kI7 g l
  | [], _ => rfl
  | a :: l, h => by rw [kD3, kD3, h a List.mem_cons_self, kEg fun b hb => h b (List.mem_cons_of_mem _ hb)]
def kFj (k : Int) (s a b : Box) : Bool :=
  bif decide (k = 1) then decide (kAz a b = 1) else bif decide (k = 3) then decide (kAz a b = 4) else bif decide (k = 4) then decide (kAz a b = 5) else
    bif decide (k = 2) then (decide (kAz s a = 2) && decide (kAz s b = 3)) else decide (kAz s a = 6)
def kGq (k : Int) (b : Nat) : Prop := (k = 1 ∧ b ≠ 0) ∨ (k = 2 ∧ b ≠ 0) ∨ (k = 3 ∧ b ≠ 0) ∨ (k = 4 ∧ b ≠ 0) ∨ (k = 5 ∧ b = 0)
theorem spec_fits {k : Int} {b : Nat} (hk : kGq k b) (x y s : Box) : t_q64 k s x y = some (kFj k s x y) := by
  unfold t_q64 kFj
  rcases hk with ⟨rfl, _⟩ | ⟨rfl, _⟩ | ⟨rfl, _⟩ | ⟨rfl, _⟩ | ⟨rfl, _⟩
  · rfl
  · simp only [kA4, show decide ((2 : Int) = 1) = false from rfl, show decide ((2 : Int) = 3) = false from rfl, show decide ((2 : Int) = 4) = false from rfl, decide_true, cond_true, cond_false]
    cases decide (kAz s x = 2) <;> rfl
  · rfl
  · rfl
  · rfl
def kBn (bx : Nat → Box) (base : Nat → Int) (k : Int) (s : Box) (a b : Nat) : Int := bif kFj k s (bx a) (bx b) then (bif decide (b = 0) then base a else base a * base b) else 0
def upd (base : Nat → Int) (S : Nat) (x : Int) (v : Nat) : Int := if v = S then x else base v
theorem kDh (base : Nat → Int) (S : Nat) (x : Int) : upd base S x S = x := if_pos rfl
theorem kE4 {base : Nat → Int} {S v : Nat} (x : Int) (h : v ≠ S) : upd base S x v = base v := if_neg h
structure PI (l : Sl Symbol) (n : Nat) (bx : Nat → Box) (c : Nat → Int) (p : Parser) : Prop where
  list : p.list = l
  boxes : ∀ v, v < n → (p.boxes.getD [])[v]? = some (bx v)
  best : (p.best.getD []).length = n
  clen : (p.count.getD []).length = n
  count : ∀ v, v < n → (p.count.getD [])[v]? = some (c v)
structure CI (l : Sl Symbol) (n : Nat) (bx : Nat → Box) (c : Nat → Int) (p : Chart21) : Prop where
  list : p.list = l
  len : (p.cells.getD []).length = n
  cells : ∀ v, v < n → ∃ x, (p.cells.getD [])[v]? = some x ∧ x.box = bx v ∧ x.ways = c v
theorem kCb {A : Type} {s : Sl A} {v : Nat} {x y : A} (h : (s.getD [])[v]? = some x) (i : Nat) : ((kB1 s (v : Int) y).getD [])[i]? = if i = v then some y else (s.getD [])[i]? := by
  cases s with
  | none => simp at h
  | some l =>
    show (l.set ((v : Int).toNat) y)[i]? = if i = v then some y else l[i]?
    rw [Int.toNat_natCast]
    have h' : l[v]? = some x := h
    by_cases e : i = v
    · subst e
      rw [if_pos rfl, List.getElem?_set_self (kI5 h')]
    · rw [if_neg e, List.getElem?_set_ne (fun k => e k.symm)]
theorem PI.add {l : Sl Symbol} {n : Nat} {bx : Nat → Box} {base : Nat → Int} {S : Nat} {X Y : Int} {p : Parser} (h : PI l n bx (upd base S (wr X)) p) (hS : S < n) (q : Sl Choice) (hq : (q.getD []).length = n) : PI l n bx (upd base S (wr (X + Y))) ⟨p.list, p.boxes, q, kB1 p.count (S : Int) (wr (wr X + Y))⟩ := by
  have hs := h.count S hS
  refine ⟨h.list, h.boxes, hq, by show ((kB1 p.count (S : Int) _).getD []).length = n; rw [kHl]; exact h.clen, fun v hv => ?_⟩
  show ((kB1 p.count (S : Int) _).getD [])[v]? = _
  rw [kCb hs]
  by_cases e : v = S
  · subst e
    rw [if_pos rfl, kDh, wr_add_l]
  · rw [if_neg e, kE4 _ e, h.count v hv, kE4 _ e]
theorem CI.add {l : Sl Symbol} {n : Nat} {bx : Nat → Box} {base : Nat → Int} {S : Nat} {X Y Z : Int} {p : Chart21} (h : CI l n bx (upd base S (wr X)) p) (hS : S < n) (y : Cell21) (hb : y.box = bx S) (hw : y.ways = wr (wr X + Y)) (hZ : wr (X + Y) = wr (X + Z)) : CI l n bx (upd base S (wr (X + Z))) ⟨p.list, kB1 p.cells (S : Int) y⟩ := by
  obtain ⟨x, hx, _⟩ := h.cells S hS
  refine ⟨h.list, by show ((kB1 p.cells (S : Int) _).getD []).length = n; rw [kHl]; exact h.len, fun v hv => ?_⟩
  show ∃ x, ((kB1 p.cells (S : Int) _).getD [])[v]? = some x ∧ _
  rw [kCb hx]
  by_cases e : v = S
  · subst e
    rw [if_pos rfl]
    exact ⟨y, rfl, hb, by rw [kDh, hw, wr_add_l, hZ]⟩
  · rw [if_neg e]
    obtain ⟨z, h1, h2, h3⟩ := h.cells v hv
    exact ⟨z, h1, h2, by rw [h3, kE4 _ e, kE4 _ e]⟩
theorem box_eta (b : Box) : (⟨b.x1, b.y1, b.x2, b.y2⟩ : Box) = b := rfl
def kGg (k : Int) : Bool := decide (k = 2) || decide (k = 5)
theorem label_sign {k : Int} {b : Nat} (hk : kGq k b) : ∃ s, kIt k = some s ∧ decide (s = (⟨#[]⟩ : ByteArray)) = !kGg k := by
  unfold kIt kGg
  rcases hk with ⟨rfl, _⟩ | ⟨rfl, _⟩ | ⟨rfl, _⟩ | ⟨rfl, _⟩ | ⟨rfl, _⟩ <;> exact ⟨_, rfl, by decide⟩
def lbAt (ls : List Symbol) (i : Nat) : ByteArray := match ls[i]? with
  | some s => s.label
  | none => ⟨#[]⟩
def sbAt (ls : List Symbol) (i : Nat) : Box := match ls[i]? with
  | some s => s.box
  | none => ⟨0, 0, 0, 0⟩
def sumK (f : Int → Int) (l : List Int) : Int := (l.map f).sum
theorem kHj {m a : Nat} (h : a ∈ kEo m) (hm : m < 256) : a < m ∧ dif m a < m ∧ dif m a ≠ 0 := by
  have h1 : a < m := by
    unfold kEo at h
    exact List.mem_range.1 (List.mem_filter.1 h).1
  have h2 := sub_dif ⟨m, hm⟩
  rw [List.all_eq_true] at h2
  have h3 := h2 a h
  rw [Bool.and_eq_true] at h3
  exact ⟨h1, of_decide_eq_true h3.1, of_decide_eq_true h3.2⟩
theorem shl_ok : ∀ i : Fin 8, shlO 1 (i.val : Int) = some ((2 ^ i.val : Nat) : Int) := by decide +kernel
def labK (k : Int) : ByteArray := bif decide (k = 2) then ⟨#[45]⟩ else bif decide (k = 5) then ⟨#[114]⟩ else ⟨#[]⟩
def gI (bx : Nat → Box) (base : Nat → Int) (ls : List Symbol) (S i : Nat) : Int :=
  bif decide (dif S (2 ^ i) = S) then 0 else bif decide (lbAt ls i = labK 2) then kI7 (fun a => kBn bx base 2 (sbAt ls i) a (dif (dif S (2 ^ i)) a)) (kEo (dif S (2 ^ i))) else bif decide (lbAt ls i = labK 5) then kBn bx base 5 (sbAt ls i) (dif S (2 ^ i)) 0 else 0
def gS (bx : Nat → Box) (base : Nat → Int) (ls : List Symbol) (S : Nat) (k : Int) (i : Nat) : Int :=
  bif (bif decide (dif S (2 ^ i) = S) then true else !decide (lbAt ls i = labK k)) then 0 else bif decide (k = 5) then kBn bx base 5 (sbAt ls i) (dif S (2 ^ i)) 0 else kI7 (fun a => kBn bx base k (sbAt ls i) a (dif (dif S (2 ^ i)) a)) (kEo (dif S (2 ^ i)))
theorem g_split (bx : Nat → Box) (base : Nat → Int) (ls : List Symbol) (S i : Nat) : gI bx base ls S i = gS bx base ls S 2 i + gS bx base ls S 5 i := by
  unfold gI gS
  rw [show decide ((2 : Int) = 5) = false from rfl, show decide ((5 : Int) = 5) = true from rfl]
  cases decide (dif S (2 ^ i) = S) with
  | true => rfl
  | false =>
    by_cases h2 : lbAt ls i = labK 2
    · have h5 : ¬ lbAt ls i = labK 5 := by
        rw [h2]
        decide
      rw [decide_eq_true h2, decide_eq_false h5]
      show _ = _ + 0
      rw [Int.add_zero]
      rfl
    · rw [decide_eq_false h2]
      cases decide (lbAt ls i = labK 5) with
      | true =>
        show _ = 0 + _
        rw [Int.zero_add]
        rfl
      | false => rfl
theorem less_set {S i : Nat} (hS : S < 256) (hi : i < 8) (h : dif S (2 ^ i) ≠ S) : dif S (2 ^ i) < S ∧ (S &&& (S - 1) ≠ 0 → dif S (2 ^ i) ≠ 0) := by
  have := one_less ⟨S, hS⟩ ⟨i, hi⟩
  rw [Bool.or_eq_true, Bool.and_eq_true, Bool.or_eq_true] at this
  rcases this with k | ⟨k1, k2⟩
  · exact absurd (of_decide_eq_true k) h
  · refine ⟨of_decide_eq_true k1, fun h3 => ?_⟩
    rcases k2 with k | k
    · exact absurd (of_decide_eq_true k) h3
    · exact of_decide_eq_true k
theorem lb_get {ls : List Symbol} {i : Nat} {s : Symbol} (h : ls[i]? = some s) : lbAt ls i = s.label ∧ sbAt ls i = s.box := by
  unfold lbAt sbAt
  rw [h]
  exact ⟨rfl, rfl⟩
def shrQ (S i : Nat) : Int := Int.fdiv (S : Int) (2 ^ (min (i : Int).toNat 64))
def outQ (S i : Nat) : Bool := decide (kF3 (shrQ S i) 1 = 0)
theorem shr_ok (S i : Nat) : shrO (S : Int) (i : Int) = some (shrQ S i) := by
  unfold shrO
  rw [decide_eq_true (by omega : (0 : Int) ≤ (i : Int))]
  rfl
def accB (ls : List Symbol) (S : Nat) : Nat → Option Box
  | 0 => none
  | i + 1 => bif outQ S i then accB ls S i else match accB ls S i with
    | none => some (sbAt ls i)
    | some b => some (kBi b (sbAt ls i))
theorem accB_succ (ls : List Symbol) (S i : Nat) : accB ls S (i + 1) = bif outQ S i then accB ls S i else match accB ls S i with
    | none => some (sbAt ls i)
    | some b => some (kBi b (sbAt ls i)) := rfl
def kI9 (S : Nat) : Nat → Nat
  | 0 => 0
  | i + 1 => bif outQ S i then kI9 S i else kI9 S i + 1
theorem cnt_zero (ls : List Symbol) (S : Nat) : ∀ i, (kI9 S i = 0 ∧ accB ls S i = none) ∨ (kI9 S i ≠ 0 ∧ ∃ b, accB ls S i = some b)
  | 0 => .inl ⟨rfl, rfl⟩
  | i + 1 => by
    unfold kI9 accB
    cases outQ S i with
    | true => exact cnt_zero ls S i
    | false =>
      right
      refine ⟨Nat.succ_ne_zero _, ?_⟩
      cases accB ls S i <;> exact ⟨_, rfl⟩
theorem cnt_le (S : Nat) : ∀ i, kI9 S i ≤ i
  | 0 => Nat.le_refl _
  | i + 1 => by
    unfold kI9
    have := cnt_le S i
    cases outQ S i
    · show kI9 S i + 1 ≤ i + 1
      omega
    · show kI9 S i ≤ i + 1
      omega
theorem one_bit : ∀ (N : Fin 9) (S : Fin 256), (decide (2 ^ N.val ≤ S.val) || (decide (S.val = 0) || decide (decide (kI9 S.val N.val = 1) = decide (S.val &&& (S.val - 1) = 0)))) = true := by decide +kernel
def kGa (ls : List Symbol) (S : Nat) : Box := (accB ls S ls.length).getD ⟨0, 0, 0, 0⟩
theorem boxI {l : Sl Symbol} (S : Nat) (hl : (l.getD []).length ≤ 8) : t_q11 l (S : Int) = some (kGa (l.getD []) S) := by
  obtain ⟨r, h1, rfl⟩ := kFb (step := s0_q11 l (S : Int)) (s := (0, 0, 0, 0, false, 0))
    (fun i s => s = (((accB (l.getD []) S i).getD ⟨0, 0, 0, 0⟩).x1, ((accB (l.getD []) S i).getD ⟨0, 0, 0, 0⟩).y1, ((accB (l.getD []) S i).getD ⟨0, 0, 0, 0⟩).x2, ((accB (l.getD []) S i).getD ⟨0, 0, 0, 0⟩).y2, (accB (l.getD []) S i).isSome, (i : Int))) (l.getD []).length
    (fun r => r = ((kGa (l.getD []) S).x1, (kGa (l.getD []) S).y1, (kGa (l.getD []) S).x2, (kGa (l.getD []) S).y2))
    (fun i s hi e => by
      subst e
      left
      obtain ⟨y, hy⟩ : ∃ y, (l.getD [])[i]? = some y := ⟨_, List.getElem?_eq_getElem hi⟩
      obtain ⟨_, by'⟩ := lb_get hy
      have c : (i : Int) < (((l.getD []).length : Nat) : Int) := by omega
      have w : wr ((i : Int) + 1) = ((i + 1 : Nat) : Int) := kDt hi (by omega)
      refine ⟨_, ?_, rfl⟩
      unfold s0_q11
      simp only [c, decide_true, cond_true, kAl hy, kA4, shr_ok]
      have o : decide (kF3 (shrQ S i) 1 = 0) = outQ S i := rfl
      rw [o, ← by', w, accB_succ]
      cases outQ S i with
      | true => rfl
      | false => cases accB (l.getD []) S i <;> rfl)
    (fun s e => by
      subst e
      refine ⟨_, ?_, rfl⟩
      unfold s0_q11
      simp only [Int.lt_irrefl, decide_false, cond_false]
      rfl)
    rfl
  unfold t_q11
  rw [h1]
  rfl
def kF9 (bx : Nat → Box) (S : Nat) (b : Box) (v : Nat) : Box := if v = S then b else bx v
theorem upd_same {base : Nat → Int} {S : Nat} (h : base S = 0) : upd base S (wr 0) = base := by
  funext v
  unfold upd
  by_cases e : v = S
  · rw [if_pos e, e, h]
    rfl
  · rw [if_neg e]
theorem CI.setC {l : Sl Symbol} {n : Nat} {bx : Nat → Box} {c : Nat → Int} {S : Nat} {p : Chart21} (h : CI l n bx c p) (hS : S < n) (y : Cell21) (hw : y.ways = c S) : CI l n (kF9 bx S y.box) c ⟨p.list, kB1 p.cells (S : Int) y⟩ := by
  obtain ⟨x, hx, _⟩ := h.cells S hS
  refine ⟨h.list, by show ((kB1 p.cells (S : Int) _).getD []).length = n; rw [kHl]; exact h.len, fun v hv => ?_⟩
  show ∃ x, ((kB1 p.cells (S : Int) _).getD [])[v]? = some x ∧ _
  rw [kCb hx]
  unfold kF9
  by_cases e : v = S
  · subst e
    rw [if_pos rfl, if_pos rfl]
    exact ⟨y, rfl, rfl, hw⟩
  · rw [if_neg e, if_neg e]
    exact h.cells v hv
theorem updB_updB (bx : Nat → Box) (S : Nat) (a b : Box) : kF9 (kF9 bx S a) S b = kF9 bx S b := by
  funext v
  unfold kF9
  by_cases e : v = S
  · rw [if_pos e, if_pos e]
  · rw [if_neg e, if_neg e, if_neg e]
theorem updB_id {bx : Nat → Box} {S : Nat} {b : Box} (h : bx S = b) : kF9 bx S b = bx := by
  funext v
  unfold kF9
  by_cases e : v = S
  · rw [if_pos e, e, h]
  · rw [if_neg e]
theorem join_self (b : Box) : kBi b b = b := by
  unfold kBi
  simp
theorem PI.setB {l : Sl Symbol} {n : Nat} {bx : Nat → Box} {c : Nat → Int} {S : Nat} {p : Parser} (h : PI l n bx c p) (hS : S < n) (b : Box) : PI l n (kF9 bx S b) c ⟨p.list, kB1 p.boxes (S : Int) b, p.best, p.count⟩ := by
  refine ⟨h.list, fun v hv => ?_, h.best, h.clen, h.count⟩
  show ((kB1 p.boxes (S : Int) b).getD [])[v]? = _
  rw [kCb (h.boxes S hS)]
  unfold kF9
  by_cases e : v = S
  · rw [if_pos e, if_pos e]
  · rw [if_neg e, if_neg e, h.boxes v hv]
theorem PI.setC {l : Sl Symbol} {n : Nat} {bx : Nat → Box} {c : Nat → Int} {S : Nat} {p : Parser} (h : PI l n bx c p) (hS : S < n) (x : Int) : PI l n bx (upd c S x) ⟨p.list, p.boxes, p.best, kB1 p.count (S : Int) x⟩ := by
  refine ⟨h.list, h.boxes, h.best, by show ((kB1 p.count (S : Int) _).getD []).length = n; rw [kHl]; exact h.clen, fun v hv => ?_⟩
  show ((kB1 p.count (S : Int) x).getD [])[v]? = _
  rw [kCb (h.count S hS)]
  unfold upd
  by_cases e : v = S
  · rw [if_pos e, if_pos e]
  · rw [if_neg e, if_neg e, h.count v hv]
def sumI (bx : Nat → Box) (base : Nat → Int) (ls : List Symbol) (S : Nat) : Int :=
  0 + kI7 (fun a => sumK (fun k => kBn bx base k ⟨0, 0, 0, 0⟩ a (dif S a)) [1, 3, 4]) (kEo S) + kI7 (gI bx base ls S) (List.range ls.length)
theorem sum_both (bx : Nat → Box) (base : Nat → Int) (ls : List Symbol) (S : Nat) : sumI bx base ls S =
    0 + kI7 (fun a => kBn bx base 1 ⟨0, 0, 0, 0⟩ a (dif S a)) (kEo S) + kI7 (gS bx base ls S 2) (List.range ls.length) + kI7 (fun a => kBn bx base 3 ⟨0, 0, 0, 0⟩ a (dif S a)) (kEo S) + kI7 (fun a => kBn bx base 4 ⟨0, 0, 0, 0⟩ a (dif S a)) (kEo S) + kI7 (gS bx base ls S 5) (List.range ls.length) := by
  unfold sumI
  rw [kEg (g := fun a => kBn bx base 1 ⟨0, 0, 0, 0⟩ a (dif S a) + (kBn bx base 3 ⟨0, 0, 0, 0⟩ a (dif S a) + kBn bx base 4 ⟨0, 0, 0, 0⟩ a (dif S a))) fun a _ => by simp [sumK], sumL_add, sumL_add,
    kEg (g := fun i => gS bx base ls S 2 i + gS bx base ls S 5 i) fun i _ => g_split bx base ls S i, sumL_add]
  omega
theorem shl_ok9 : ∀ i : Fin 9, shlO 1 (i.val : Int) = some ((2 ^ i.val : Nat) : Int) := by decide +kernel
structure Way where
  kind : Int
  sign : Int
  a : Nat
  b : Nat
  cost : Int
  ways : Int
  deriving DecidableEq
abbrev kIe (x y : Way) : Prop := x.kind < y.kind ∨ (x.kind = y.kind ∧ (x.sign < y.sign ∨ (x.sign = y.sign ∧ x.a < y.a)))
abbrev kFk (x y : Way) : Prop := x.cost < y.cost ∨ (x.cost = y.cost ∧ kIe x y)
theorem lex_trans {x y z : Way} (h1 : kFk x y) (h2 : kFk y z) : kFk x z := by
  unfold kFk kIe at *
  omega
def kD5 (o : Option Way) (t : Way) : Option Way := if t.ways = 0 then o else match o with
  | none => some t
  | some x => if kFk t x then some t else some x
def kEr (o : Option Way) (t : Way) : Option Way := if t.ways = 0 then o else match o with
  | none => some t
  | some x => if t.cost < x.cost then some t else some x
def kGm (l : List Way) (o : Option Way) : Prop := match o with
  | none => ∀ t ∈ l, t.ways = 0
  | some x => (x ∈ l ∧ x.ways ≠ 0) ∧ ∀ t ∈ l, t.ways ≠ 0 → ¬ kFk t x
theorem bestI {l : List Way} {o : Option Way} (h : kGm l o) (t : Way) : kGm (l ++ [t]) (kD5 o t) := by
  unfold kD5
  by_cases h0 : t.ways = 0
  · rw [if_pos h0]
    cases o with
    | none =>
      intro y hy
      rcases List.mem_append.1 hy with k | k
      · exact h y k
      · rw [List.mem_singleton.1 k]
        exact h0
    | some x =>
      refine ⟨⟨List.mem_append_left _ h.1.1, h.1.2⟩, fun y hy hw => ?_⟩
      rcases List.mem_append.1 hy with k | k
      · exact h.2 y k hw
      · rw [List.mem_singleton.1 k] at hw
        exact absurd h0 hw
  · rw [if_neg h0]
    cases o with
    | none =>
      refine ⟨⟨List.mem_append_right _ (List.mem_singleton.2 rfl), h0⟩, fun y hy hw => ?_⟩
      rcases List.mem_append.1 hy with k | k
      · exact absurd (h y k) hw
      · rw [List.mem_singleton.1 k]
        unfold kFk kIe
        omega
    | some x =>
      show kGm _ (if kFk t x then some t else some x)
      by_cases hl : kFk t x
      · rw [if_pos hl]
        refine ⟨⟨List.mem_append_right _ (List.mem_singleton.2 rfl), h0⟩, fun y hy hw hy2 => ?_⟩
        rcases List.mem_append.1 hy with k | k
        · exact h.2 y k hw (lex_trans hy2 hl)
        · rw [List.mem_singleton.1 k] at hy2
          unfold kFk kIe at hy2
          omega
      · rw [if_neg hl]
        refine ⟨⟨List.mem_append_left _ h.1.1, h.1.2⟩, fun y hy hw => ?_⟩
        rcases List.mem_append.1 hy with k | k
        · exact h.2 y k hw
        · rw [List.mem_singleton.1 k]
          exact hl
theorem bestS {l : List Way} {o : Option Way} (h : kGm l o) (t : Way) (hp : ∀ y ∈ l, kIe y t) : kGm (l ++ [t]) (kEr o t) := by
  have e : kEr o t = kD5 o t := by
    unfold kEr kD5
    by_cases h0 : t.ways = 0
    · rw [if_pos h0, if_pos h0]
    · rw [if_neg h0, if_neg h0]
      cases o with
      | none => rfl
      | some x =>
        have := hp x h.1.1
        show (if t.cost < x.cost then some t else some x) = if kFk t x then some t else some x
        by_cases hc : t.cost < x.cost
        · rw [if_pos hc, if_pos (.inl hc)]
        · rw [if_neg hc, if_neg]
          unfold kFk kIe at *
          omega
  rw [e]
  exact bestI h t
theorem foldI : ∀ {r l : List Way} {o : Option Way}, kGm l o → kGm (l ++ r) (r.foldl kD5 o)
  | [], l, o, h => by
    rw [List.append_nil]
    exact h
  | t :: r, l, o, h => by
    have := foldI (r := r) (bestI h t)
    rw [List.append_assoc] at this
    exact this
theorem foldS : ∀ {r l : List Way} {o : Option Way}, kGm l o → List.Pairwise kIe (l ++ r) → kGm (l ++ r) (r.foldl kEr o)
  | [], l, o, h, _ => by
    rw [List.append_nil]
    exact h
  | t :: r, l, o, h, hp => by
    have h1 : ∀ y ∈ l, kIe y t := fun y hy => (List.pairwise_append.1 hp).2.2 y hy t List.mem_cons_self
    have e : l ++ t :: r = (l ++ [t]) ++ r := by simp
    rw [e] at hp ⊢
    exact foldS (r := r) (bestS h t h1) hp
theorem best_one {l r : List Way} {o p : Option Way} (h1 : kGm l o) (h2 : kGm r p) (hm : ∀ t, t ∈ l ↔ t ∈ r) (hu : ∀ x ∈ l, ∀ y ∈ l, x.kind = y.kind → x.sign = y.sign → x.a = y.a → x = y) : o = p := by
  cases o with
  | none =>
    cases p with
    | none => rfl
    | some y => exact absurd (h1 y ((hm y).2 h2.1.1)) h2.1.2
  | some x =>
    cases p with
    | none => exact absurd (h2 x ((hm x).1 h1.1.1)) h1.1.2
    | some y =>
      have a1 := h1.2 y ((hm y).2 h2.1.1) h2.1.2
      have a2 := h2.2 x ((hm x).1 h1.1.1) h1.1.2
      unfold kFk kIe at a1 a2
      rw [hu x h1.1.1 y ((hm y).2 h2.1.1) (by omega) (by omega) (by omega)]
theorem best_nil : kGm [] none := fun t h => by cases h
theorem or4_ok (a b c d : Int) : t_q2 (some [a, b, c, d]) = some (bif !decide (a = 0) then a else bif !decide (b = 0) then b else bif !decide (c = 0) then c else d) := by
  have w1 : wr ((0 : Int) + 1) = 1 := kD1 (by omega) (by omega)
  have w2 : wr ((1 : Int) + 1) = 2 := kD1 (by omega) (by omega)
  have w3 : wr ((2 : Int) + 1) = 3 := kD1 (by omega) (by omega)
  have w4 : wr ((3 : Int) + 1) = 4 := kD1 (by omega) (by omega)
  have g0 : kCo [a, b, c, d] 0 = some a := kAl (m := 0) rfl
  have g1 : kCo [a, b, c, d] 1 = some b := kAl (m := 1) rfl
  have g2 : kCo [a, b, c, d] 2 = some c := kAl (m := 2) rfl
  have g3 : kCo [a, b, c, d] 3 = some d := kAl (m := 3) rfl
  have e0 : s0_q2 (some [a, b, c, d]) 0 = bif !decide (a = 0) then some (.inr (.inr a)) else some (.inl 1) := by
    have h : (0 : Int) < ((([a, b, c, d] : List Int).length : Nat) : Int) := by simp
    unfold s0_q2
    simp only [Option.getD_some, h, decide_true, cond_true, g0, kA4, w1]
  have e1 : s0_q2 (some [a, b, c, d]) 1 = bif !decide (b = 0) then some (.inr (.inr b)) else some (.inl 2) := by
    have h : (1 : Int) < ((([a, b, c, d] : List Int).length : Nat) : Int) := by simp
    unfold s0_q2
    simp only [Option.getD_some, h, decide_true, cond_true, g1, kA4, w2]
  have e2 : s0_q2 (some [a, b, c, d]) 2 = bif !decide (c = 0) then some (.inr (.inr c)) else some (.inl 3) := by
    have h : (2 : Int) < ((([a, b, c, d] : List Int).length : Nat) : Int) := by simp
    unfold s0_q2
    simp only [Option.getD_some, h, decide_true, cond_true, g2, kA4, w3]
  have e3 : s0_q2 (some [a, b, c, d]) 3 = bif !decide (d = 0) then some (.inr (.inr d)) else some (.inl 4) := by
    have h : (3 : Int) < ((([a, b, c, d] : List Int).length : Nat) : Int) := by simp
    unfold s0_q2
    simp only [Option.getD_some, h, decide_true, cond_true, g3, kA4, w4]
  have e4 : s0_q2 (some [a, b, c, d]) 4 = some (.inr (.inl ())) := rfl
  unfold t_q2
  cases ha : !decide (a = 0) with
  | true =>
    rw [ha] at e0
    rw [kCn e0]
    rfl
  | false =>
    rw [ha] at e0
    rw [kCr e0]
    cases hb : !decide (b = 0) with
    | true =>
      rw [hb] at e1
      rw [kCn e1]
      rfl
    | false =>
      rw [hb] at e1
      rw [kCr e1]
      cases hc : !decide (c = 0) with
      | true =>
        rw [hc] at e2
        rw [kCn e2]
        rfl
      | false =>
        rw [hc] at e2
        rw [kCr e2]
        cases hd : !decide (d = 0) with
        | true =>
          rw [hd] at e3
          rw [kCn e3]
          rfl
        | false =>
          rw [hd] at e3
          rw [kCr e3, kCn e4]
          have : d = 0 := by
            rw [Bool.not_eq_false'] at hd
            exact of_decide_eq_true hd
          rw [this]
          rfl
theorem cmpInt_ok (a b : Int) : t_q0 a b = some (cmpI a b) := by
  unfold t_q0 t_q3 cmpI
  simp only [decide_true, Bool.not_true, kA4, cond_false]
  cases decide (a < b) <;> cases decide (b < a) <;> rfl
theorem kHm (a b : Int) : (a < b ∧ cmpI a b = -1) ∨ (a = b ∧ cmpI a b = 0) ∨ (b < a ∧ cmpI a b = 1) := by
  unfold cmpI
  by_cases h1 : a < b
  · rw [decide_eq_true h1]
    exact .inl ⟨h1, rfl⟩
  · rw [decide_eq_false h1]
    by_cases h2 : b < a
    · rw [decide_eq_true h2]
      exact .inr (.inr ⟨h2, rfl⟩)
    · rw [decide_eq_false h2]
      exact .inr (.inl ⟨by omega, rfl⟩)
def chOf (t : Way) : Choice := ⟨t.kind, t.sign, (t.a : Int), (t.b : Int), t.cost⟩
theorem cmpWay (x y : Way) : ∃ r, t_q12 (chOf x) (chOf y) = some r ∧ decide (r < 0) = decide (kFk x y) := by
  refine ⟨_, by unfold t_q12; simp only [kA4, cmpInt_ok, or4_ok]; rfl, ?_⟩
  unfold kFk kIe chOf
  simp only
  rcases kHm x.cost y.cost with ⟨h1, e1⟩ | ⟨h1, e1⟩ | ⟨h1, e1⟩
  · rw [e1]
    exact decide_eq_decide.2 ⟨fun _ => .inl h1, fun _ => (show ((-1 : Int) < 0) from by decide)⟩
  · rw [e1]
    rcases kHm x.kind y.kind with ⟨h2, e2⟩ | ⟨h2, e2⟩ | ⟨h2, e2⟩
    · rw [e2]
      exact decide_eq_decide.2 ⟨fun _ => by omega, fun _ => (show ((-1 : Int) < 0) from by decide)⟩
    · rw [e2]
      rcases kHm x.sign y.sign with ⟨h3, e3⟩ | ⟨h3, e3⟩ | ⟨h3, e3⟩
      · rw [e3]
        exact decide_eq_decide.2 ⟨fun _ => by omega, fun _ => (show ((-1 : Int) < 0) from by decide)⟩
      · rw [e3]
        rcases kHm (x.a : Int) (y.a : Int) with ⟨h4, e4⟩ | ⟨h4, e4⟩ | ⟨h4, e4⟩
        · rw [e4]
          exact decide_eq_decide.2 ⟨fun _ => by omega, fun _ => (show ((-1 : Int) < 0) from by decide)⟩
        · rw [e4]
          exact decide_eq_decide.2 ⟨fun h => absurd h (show ¬ ((0 : Int) < 0) from by decide), fun _ => by omega⟩
        · rw [e4]
          exact decide_eq_decide.2 ⟨fun h => absurd h (show ¬ ((1 : Int) < 0) from by decide), fun _ => by omega⟩
      · rw [e3]
        exact decide_eq_decide.2 ⟨fun h => absurd h (show ¬ ((1 : Int) < 0) from by decide), fun _ => by omega⟩
    · rw [e2]
      exact decide_eq_decide.2 ⟨fun h => absurd h (show ¬ ((1 : Int) < 0) from by decide), fun _ => by omega⟩
  · rw [e1]
    exact decide_eq_decide.2 ⟨fun h => absurd h (show ¬ ((1 : Int) < 0) from by decide), fun _ => by omega⟩
def ownK (k : Int) (s a b : Box) : Int :=
  bif decide (k = 1) then wr (kFt (wr (wr (wr (a.y1 + a.y2) - b.y1) - b.y2)) + max 0 (wr (b.x1 - a.x2)))
  else bif decide (k = 3) then wr (wr (kFt (wr (b.x1 - a.x2)) + kFt (wr (b.y2 - a.y1))) + 20)
  else bif decide (k = 4) then wr (wr (kFt (wr (b.x1 - a.x2)) + kFt (wr (b.y1 - a.y2))) + 20)
  else bif decide (k = 2) then wr (kFt (wr (wr (wr (a.x1 + a.x2) - s.x1) - s.x2)) + kFt (wr (wr (wr (b.x1 + b.x2) - s.x1) - s.x2)))
  else 0
theorem join_own {k : Int} {b : Nat} (hk : kGq k b) (x y s : Box) : t_q15 k x y s = some (ownK k s x y, kFj k s x y) := by
  unfold t_q15 kFj ownK
  rcases hk with ⟨rfl, _⟩ | ⟨rfl, _⟩ | ⟨rfl, _⟩ | ⟨rfl, _⟩ | ⟨rfl, _⟩
  · simp only [kA4, decide_true, cond_true]
    rw [Int.max_comm]
  · simp only [kA4, show decide ((2 : Int) = 1) = false from rfl, show decide ((2 : Int) = 3) = false from rfl, show decide ((2 : Int) = 4) = false from rfl, decide_true, cond_true, cond_false]
    cases decide (kAz s x = 2) <;> rfl
  · rfl
  · rfl
  · rfl
theorem own_spec {k : Int} {b : Nat} (hk : kGq k b) (x y s : Box) : t_q66 k s x y = some (ownK k s x y) := by
  unfold t_q66 ownK
  rcases hk with ⟨rfl, _⟩ | ⟨rfl, _⟩ | ⟨rfl, _⟩ | ⟨rfl, _⟩ | ⟨rfl, _⟩ <;> rfl
def kC0 (bx : Nat → Box) (base cst : Nat → Int) (k sg : Int) (s : Box) (a b : Nat) : Way := ⟨k, sg, a, b, wr (wr (cst a + cst b) + ownK k s (bx a) (bx b)), kBn bx base k s a b⟩
structure PB (l : Sl Symbol) (n : Nat) (bx : Nat → Box) (base : Nat → Int) (bc : Nat → Choice) (S : Nat) (X : Int) (o : Option Way) (p : Parser) : Prop where
  pi : PI l n bx (upd base S (wr X)) p
  bst : ∀ v, v < n → v ≠ S → (p.best.getD [])[v]? = some (bc v)
  own : ∀ t, o = some t → (p.best.getD [])[S]? = some (chOf t)
  zero : o = none ↔ X = 0
  pos : 0 ≤ X
def chC (x : Cell21) : Choice := ⟨x.kind, x.sign, x.first, x.rest, x.cost⟩
end Go.Proofs.Ytokbncnochagaaa
