/-
  The law FnExactCountTrees holds, for all arguments: it returns true, and its arguments read behind the call as before. No condition.
-/
import Derived.Test.YtcdahloanikigaaFnExactCountTreesPartA
import Derived.Test.YtcdahloanikigaaRows
namespace Go.Proofs.Ytcdahloanikigaa
open Go Go.Eng Go.Eng.Cod
set_option maxRecDepth 100000
set_option linter.unusedVariables false
set_option linter.unusedSimpArgs false

theorem ts_impl_parser_try (env : Nat → Contract) (he_impl_compareChoices : env n_impl_compareChoices = .pure (C2 (fun c : Int => enc c) t_impl_compareChoices)) (he_impl_joinCost : env n_impl_joinCost = .pure (C4 (fun c : Int × Bool => AV.tup [enc c.1, enc c.2]) t_impl_joinCost)) {B : Base} {h : Heap} {o_ : Nat} {x_boxes_ : AV} {x_best_ : AV} {x_count_ : AV} (p_ : Parser) (set_ : Int) (c_ : Choice) (sign_ : Box) (O : Hold B h [(AV.ptr o_ 1 0 0, .pt 4 [Sl.enc p_.list, x_boxes_, x_best_, x_count_]), (x_boxes_, obS (p_.boxes : Sl Box)), (x_best_, obS (p_.best : Sl Choice)), (x_count_, obS (p_.count : Sl Int))]) : Sim (denFn Try.prog env n_impl_parser_try [AV.ptr o_ 1 0 0, iv set_, AV.agg [iv c_.kind, iv c_.sign, iv c_.a, iv c_.b, iv c_.cost], AV.agg [iv sign_.x1, iv sign_.y1, iv sign_.x2, iv sign_.y2]] h) (t_impl_parser_try p_ set_ c_ sign_) (fun c p => ∃ x1, ∃ x2, ∃ x3, p.1 = und ∧ Hold B p.2 ([(AV.ptr o_ 1 0 0, .pt 4 [Sl.enc c.list, x1, x2, x3]), (x1, obS (c.boxes : Sl Box)), (x2, obS (c.best : Sl Choice)), (x3, obS (c.count : Sl Int))])) := by
  rw [e_impl_parser_try]
  unfold t_impl_parser_try
  refine sim_box O (cs := [iv c_.kind, iv c_.sign, iv c_.a, iv c_.b, iv c_.cost]) (by first | rfl | simp) (fun o1 h2 O3 => ?_)
  replace O3 : Hold B h2 [(AV.ptr o_ 1 0 0, .pt 4 [Sl.enc p_.list, x_boxes_, x_best_, x_count_]), (x_boxes_, obS (p_.boxes : Sl Box)), (x_best_, obS (p_.best : Sl Choice)), (x_count_, obS (p_.count : Sl Int)), (AV.ptr o1 1 0 0, .pt 5 [iv c_.kind, iv c_.sign, iv c_.a, iv c_.b, iv c_.cost])] := O3
  refine sim_box O3 (cs := [iv sign_.x1, iv sign_.y1, iv sign_.x2, iv sign_.y2]) (by first | rfl | simp) (fun o5 h6 O7 => ?_)
  replace O7 : Hold B h6 [(AV.ptr o_ 1 0 0, .pt 4 [Sl.enc p_.list, x_boxes_, x_best_, x_count_]), (x_boxes_, obS (p_.boxes : Sl Box)), (x_best_, obS (p_.best : Sl Choice)), (x_count_, obS (p_.count : Sl Int)), (AV.ptr o1 1 0 0, .pt 5 [iv c_.kind, iv c_.sign, iv c_.a, iv c_.b, iv c_.cost]), (AV.ptr o5 1 0 0, .pt 4 [iv sign_.x1, iv sign_.y1, iv sign_.x2, iv sign_.y2])] := O7
  refine sim_let (v := AV.ptr o_ 1 0 0) rfl ?_
  refine sim_let (v := AV.ptr o_ 1 0 3) rfl ?_
  refine sim_let (v := x_count_) (O7.ld 0 rfl false 1 3) ?_
  refine sim_let (v := AV.ptr o1 1 0 2) rfl ?_
  refine sim_let (v := iv c_.a) (O7.ld 4 rfl false 1 2) ?_
  refine sim_get (O7.tab (A := Int) (s := p_.count) 3 rfl) (fun m10 a9 hi11 hm12 => ?_)
  refine sim_let (v := iv a9) ((O7.tab (A := Int) (s := p_.count) 3 rfl).ld hm12 false 1 0) ?_
  refine sim_let (v := bv (decide (a9 = 0))) (aCmp_eq _ _) ?_
  refine sim_g4F (e := bv) (fun hb13 => ?_) (fun y15 y16 y17 c14 => ?_)
  · refine sim_o1 ?_
    refine sim_let (v := AV.ptr o1 1 0 3) rfl ?_
    refine sim_o0 ?_
    refine sim_o1 ?_
    refine sim_let (v := iv c_.b) (O7.ld 4 rfl false 1 3) ?_
    refine sim_o0 ?_
    refine sim_o1 ?_
    refine sim_let (v := bv (!decide (c_.b = 0))) (aCmp_ne _ _) ?_
    refine sim_o0 ?_
    exact sim_ret rfl
  · simp only [gv_FT]
    refine sim_g9T (e := bv) (fun hb18 => ?_) (fun y24 y25 y26 y27 y28 y29 y30 y31 c23 => ?_)
    · refine sim_o0 ?_
      refine sim_o1 ?_
      refine sim_let (v := AV.ptr o_ 1 0 0) rfl ?_
      refine sim_o0 ?_
      refine sim_o1 ?_
      refine sim_let (v := AV.ptr o_ 1 0 3) rfl ?_
      refine sim_o0 ?_
      refine sim_o1 ?_
      refine sim_let (v := x_count_) (O7.ld 0 rfl false 1 3) ?_
      refine sim_o0 ?_
      refine sim_o1 ?_
      refine sim_let (v := AV.ptr o1 1 0 3) rfl ?_
      refine sim_o0 ?_
      refine sim_o1 ?_
      refine sim_let (v := iv c_.b) (O7.ld 4 rfl false 1 3) ?_
      refine sim_o0 ?_
      refine sim_o1 ?_
      refine sim_get (O7.tab (A := Int) (s := p_.count) 3 rfl) (fun m20 a19 hi21 hm22 => ?_)
      refine sim_o0 ?_
      refine sim_o1 ?_
      refine sim_let (v := iv a19) ((O7.tab (A := Int) (s := p_.count) 3 rfl).ld hm22 false 1 0) ?_
      refine sim_o0 ?_
      refine sim_let (v := bv (decide (a19 = 0))) (aCmp_eq _ _) ?_
      exact sim_ret rfl
    · refine sim_guardF (e := bv) (fun hb32 => ?_) (fun c33 => ?_)
      · simp only [hb32, cond_true, cond_false, Bool.not_true, Bool.not_false, Bool.true_and, Bool.and_true, Bool.false_and, Bool.not_not]
        refine sim_let (v := bv (bif c14 then c23 else false)) (pick_b _ _ _) ?_
        exact sim_ret rfl
      · refine sim_let (v := bv (bif decide (a9 = 0) then true else c33)) (pick_b' _ _ _) ?_
        refine sim_cond (fun c34 => ?_) (fun c34 => ?_)
        · have O35 : Hold B h6 [(AV.ptr o_ 1 0 0, .pt 4 [Sl.enc p_.list, x_boxes_, x_best_, x_count_]), (x_boxes_, obS (p_.boxes : Sl Box)), (x_best_, obS (p_.best : Sl Choice)), (x_count_, obS (p_.count : Sl Int))] := O7.sel [0, 1, 2, 3] (by decide) rfl
          exact sim_ret ⟨_, _, _, rfl, O35⟩
        · refine sim_let (v := AV.ptr o_ 1 0 0) rfl ?_
          refine sim_let (v := AV.ptr o_ 1 0 3) rfl ?_
          refine sim_let (v := x_count_) (O7.ld 0 rfl false 1 3) ?_
          refine sim_let (v := AV.ptr o1 1 0 2) rfl ?_
          refine sim_let (v := iv c_.a) (O7.ld 4 rfl false 1 2) ?_
          refine sim_get (O7.tab (A := Int) (s := p_.count) 3 rfl) (fun m37 a36 hi38 hm39 => ?_)
          refine sim_let (v := iv a36) ((O7.tab (A := Int) (s := p_.count) 3 rfl).ld hm39 false 1 0) ?_
          refine sim_let (v := AV.ptr o_ 1 0 0) rfl ?_
          refine sim_let (v := AV.ptr o_ 1 0 2) rfl ?_
          refine sim_let (v := x_best_) (O7.ld 0 rfl false 1 2) ?_
          refine sim_let (v := AV.ptr o1 1 0 2) rfl ?_
          refine sim_let (v := iv c_.a) (O7.ld 4 rfl false 1 2) ?_
          refine sim_get (O7.tab (A := Choice) (s := p_.best) 2 rfl) (fun m41 a40 hi42 hm43 => ?_)
          refine sim_let (v := elp x_best_ m41 4) ((O7.tab (A := Choice) (s := p_.best) 2 rfl).fld _ _ _) ?_
          refine sim_let (v := iv a40.cost) ((O7.tab (A := Choice) (s := p_.best) 2 rfl).ld hm43 false 1 4) ?_
          refine sim_let (v := AV.ptr o_ 1 0 0) rfl ?_
          refine sim_let (v := AV.ptr o_ 1 0 1) rfl ?_
          refine sim_let (v := x_boxes_) (O7.ld 0 rfl false 1 1) ?_
          refine sim_let (v := AV.ptr o1 1 0 2) rfl ?_
          refine sim_let (v := iv c_.a) (O7.ld 4 rfl false 1 2) ?_
          refine sim_get (O7.tab (A := Box) (s := p_.boxes) 1 rfl) (fun m45 a44 hi46 hm47 => ?_)
          refine sim_let (v := AV.agg [iv a44.x1, iv a44.y1, iv a44.x2, iv a44.y2]) ((O7.tab (A := Box) (s := p_.boxes) 1 rfl).ld hm47 true 4 0) ?_
          refine sim_box O7 (cs := [iv 0, iv 0, iv 0, iv 0]) (by first | rfl | simp) (fun o48 h49 O50 => ?_)
          replace O50 : Hold B h49 [(AV.ptr o_ 1 0 0, .pt 4 [Sl.enc p_.list, x_boxes_, x_best_, x_count_]), (x_boxes_, obS (p_.boxes : Sl Box)), (x_best_, obS (p_.best : Sl Choice)), (x_count_, obS (p_.count : Sl Int)), (AV.ptr o1 1 0 0, .pt 5 [iv c_.kind, iv c_.sign, iv c_.a, iv c_.b, iv c_.cost]), (AV.ptr o5 1 0 0, .pt 4 [iv sign_.x1, iv sign_.y1, iv sign_.x2, iv sign_.y2]), (AV.ptr o48 1 0 0, .pt 4 [iv 0, iv 0, iv 0, iv 0])] := O50
          refine sim_store O50 6 (cs' := [iv a44.x1, iv a44.y1, iv a44.x2, iv a44.y2]) rfl (by first | rfl | simp) (by simp) (by first | rfl | simp) (by first | rfl | simp [splice]) (fun h52 O53 => ?_)
          replace O53 : Hold B h52 [(AV.ptr o_ 1 0 0, .pt 4 [Sl.enc p_.list, x_boxes_, x_best_, x_count_]), (x_boxes_, obS (p_.boxes : Sl Box)), (x_best_, obS (p_.best : Sl Choice)), (x_count_, obS (p_.count : Sl Int)), (AV.ptr o1 1 0 0, .pt 5 [iv c_.kind, iv c_.sign, iv c_.a, iv c_.b, iv c_.cost]), (AV.ptr o5 1 0 0, .pt 4 [iv sign_.x1, iv sign_.y1, iv sign_.x2, iv sign_.y2]), (AV.ptr o48 1 0 0, .pt 4 [iv a44.x1, iv a44.y1, iv a44.x2, iv a44.y2])] := O53
          refine sim_let (v := AV.ptr o1 1 0 3) rfl ?_
          refine sim_let (v := iv c_.b) (O53.ld 4 rfl false 1 3) ?_
          refine sim_let (v := bv (!decide (c_.b = 0))) (aCmp_ne _ _) ?_
          refine sim_cond (fun c54 => ?_) (fun c54 => ?_)
          · refine sim_let (v := AV.ptr o_ 1 0 0) rfl ?_
            refine sim_let (v := AV.ptr o_ 1 0 3) rfl ?_
            refine sim_let (v := x_count_) (O53.ld 0 rfl false 1 3) ?_
            refine sim_let (v := AV.ptr o1 1 0 3) rfl ?_
            refine sim_let (v := iv c_.b) (O53.ld 4 rfl false 1 3) ?_
            refine sim_get (O53.tab (A := Int) (s := p_.count) 3 rfl) (fun m56 a55 hi57 hm58 => ?_)
            refine sim_let (v := iv a55) ((O53.tab (A := Int) (s := p_.count) 3 rfl).ld hm58 false 1 0) ?_
            refine sim_let (v := iv (wr (a36 * a55))) (aBin_mul _ _) ?_
            refine sim_let (v := AV.ptr o_ 1 0 0) rfl ?_
            refine sim_let (v := AV.ptr o_ 1 0 2) rfl ?_
            refine sim_let (v := x_best_) (O53.ld 0 rfl false 1 2) ?_
            refine sim_let (v := AV.ptr o1 1 0 3) rfl ?_
            refine sim_let (v := iv c_.b) (O53.ld 4 rfl false 1 3) ?_
            refine sim_get (O53.tab (A := Choice) (s := p_.best) 2 rfl) (fun m60 a59 hi61 hm62 => ?_)
            refine sim_let (v := elp x_best_ m60 4) ((O53.tab (A := Choice) (s := p_.best) 2 rfl).fld _ _ _) ?_
            refine sim_let (v := iv a59.cost) ((O53.tab (A := Choice) (s := p_.best) 2 rfl).ld hm62 false 1 4) ?_
            refine sim_let (v := iv (wr (a40.cost + a59.cost))) (aBin_add _ _) ?_
            refine sim_let (v := AV.ptr o_ 1 0 0) rfl ?_
            refine sim_let (v := AV.ptr o_ 1 0 1) rfl ?_
            refine sim_let (v := x_boxes_) (O53.ld 0 rfl false 1 1) ?_
            refine sim_let (v := AV.ptr o1 1 0 3) rfl ?_
            refine sim_let (v := iv c_.b) (O53.ld 4 rfl false 1 3) ?_
            refine sim_get (O53.tab (A := Box) (s := p_.boxes) 1 rfl) (fun m64 a63 hi65 hm66 => ?_)
            refine sim_let (v := AV.agg [iv a63.x1, iv a63.y1, iv a63.x2, iv a63.y2]) ((O53.tab (A := Box) (s := p_.boxes) 1 rfl).ld hm66 true 4 0) ?_
            refine sim_store O53 6 (cs' := [iv a63.x1, iv a63.y1, iv a63.x2, iv a63.y2]) rfl (by first | rfl | simp) (by simp) (by first | rfl | simp) (by first | rfl | simp [splice]) (fun h67 O68 => ?_)
            replace O68 : Hold B h67 [(AV.ptr o_ 1 0 0, .pt 4 [Sl.enc p_.list, x_boxes_, x_best_, x_count_]), (x_boxes_, obS (p_.boxes : Sl Box)), (x_best_, obS (p_.best : Sl Choice)), (x_count_, obS (p_.count : Sl Int)), (AV.ptr o1 1 0 0, .pt 5 [iv c_.kind, iv c_.sign, iv c_.a, iv c_.b, iv c_.cost]), (AV.ptr o5 1 0 0, .pt 4 [iv sign_.x1, iv sign_.y1, iv sign_.x2, iv sign_.y2]), (AV.ptr o48 1 0 0, .pt 4 [iv a63.x1, iv a63.y1, iv a63.x2, iv a63.y2])] := O68
            refine sim_let (v := AV.ptr o1 1 0 0) rfl ?_
            refine sim_let (v := iv c_.kind) (O68.ld 4 rfl false 1 0) ?_
            refine sim_let (v := AV.ptr o_ 1 0 0) rfl ?_
            refine sim_let (v := AV.ptr o_ 1 0 1) rfl ?_
            refine sim_let (v := x_boxes_) (O68.ld 0 rfl false 1 1) ?_
            refine sim_let (v := AV.ptr o1 1 0 2) rfl ?_
            refine sim_let (v := iv c_.a) (O68.ld 4 rfl false 1 2) ?_
            refine sim_get (O68.tab (A := Box) (s := p_.boxes) 1 rfl) (fun m70 a69 hi71 hm72 => ?_)
            refine sim_let (v := AV.agg [iv a69.x1, iv a69.y1, iv a69.x2, iv a69.y2]) ((O68.tab (A := Box) (s := p_.boxes) 1 rfl).ld hm72 true 4 0) ?_
            refine sim_let (v := AV.agg [iv a63.x1, iv a63.y1, iv a63.x2, iv a63.y2]) (O68.ld 6 rfl true 4 0) ?_
            refine sim_let (v := AV.agg [iv sign_.x1, iv sign_.y1, iv sign_.x2, iv sign_.y2]) (O68.ld 5 rfl true 4 0) ?_
            refine sim_callQ4 he_impl_joinCost (snapD_int _ _) (snapD_nr _ a69 rfl) (snapD_nr _ a63 rfl) (snapD_nr _ sign_ rfl) (fun c73 => ?_)
            refine sim_let2 (hand_plain (by rfl) _ _) ?_
            refine sim_let (v := iv c73.1) rfl ?_
            refine sim_let (v := bv c73.2) rfl ?_
            refine sim_let (v := bv (!c73.2)) (aUn_not _) ?_
            refine sim_cond (fun c74 => ?_) (fun c74 => ?_)
            · have O75 : Hold B h67 [(AV.ptr o_ 1 0 0, .pt 4 [Sl.enc p_.list, x_boxes_, x_best_, x_count_]), (x_boxes_, obS (p_.boxes : Sl Box)), (x_best_, obS (p_.best : Sl Choice)), (x_count_, obS (p_.count : Sl Int))] := O68.sel [0, 1, 2, 3] (by decide) rfl
              exact sim_ret ⟨_, _, _, rfl, O75⟩
            · refine sim_let (v := iv (wr ((wr (a40.cost + a59.cost)) + c73.1))) (aBin_add _ _) ?_
              refine sim_let (v := AV.ptr o1 1 0 4) rfl ?_
              refine sim_store O68 4 (cs' := [iv c_.kind, iv c_.sign, iv c_.a, iv c_.b, iv (wr ((wr (a40.cost + a59.cost)) + c73.1))]) rfl (by first | rfl | simp) (by simp) (by first | rfl | simp) (by first | rfl | simp [splice]) (fun h76 O77 => ?_)
              replace O77 : Hold B h76 [(AV.ptr o_ 1 0 0, .pt 4 [Sl.enc p_.list, x_boxes_, x_best_, x_count_]), (x_boxes_, obS (p_.boxes : Sl Box)), (x_best_, obS (p_.best : Sl Choice)), (x_count_, obS (p_.count : Sl Int)), (AV.ptr o1 1 0 0, .pt 5 [iv c_.kind, iv c_.sign, iv c_.a, iv c_.b, iv (wr ((wr (a40.cost + a59.cost)) + c73.1))]), (AV.ptr o5 1 0 0, .pt 4 [iv sign_.x1, iv sign_.y1, iv sign_.x2, iv sign_.y2]), (AV.ptr o48 1 0 0, .pt 4 [iv a63.x1, iv a63.y1, iv a63.x2, iv a63.y2])] := O77
              refine sim_let (v := AV.ptr o_ 1 0 0) rfl ?_
              refine sim_let (v := AV.ptr o_ 1 0 3) rfl ?_
              refine sim_let (v := x_count_) (O77.ld 0 rfl false 1 3) ?_
              refine sim_get (O77.tab (A := Int) (s := p_.count) 3 rfl) (fun m79 a78 hi80 hm81 => ?_)
              refine sim_let (v := iv a78) ((O77.tab (A := Int) (s := p_.count) 3 rfl).ld hm81 false 1 0) ?_
              refine sim_let (v := bv (decide (a78 = 0))) (aCmp_eq _ _) ?_
              refine sim_g10F (e := bv) (fun hb82 => ?_) (fun y89 y90 y91 y92 y93 y94 y95 y96 y97 c88 => ?_)
              · refine sim_o1 ?_
                refine sim_let (v := AV.agg [iv c_.kind, iv c_.sign, iv c_.a, iv c_.b, iv (wr ((wr (a40.cost + a59.cost)) + c73.1))]) (O77.ld 4 rfl true 5 0) ?_
                refine sim_o0 ?_
                refine sim_o0 ?_
                refine sim_o1 ?_
                refine sim_let (v := AV.ptr o_ 1 0 0) rfl ?_
                refine sim_o0 ?_
                refine sim_o1 ?_
                refine sim_let (v := AV.ptr o_ 1 0 2) rfl ?_
                refine sim_o0 ?_
                refine sim_o1 ?_
                refine sim_let (v := x_best_) (O77.ld 0 rfl false 1 2) ?_
                refine sim_o0 ?_
                refine sim_o0 ?_
                refine sim_o1 ?_
                refine sim_get (O77.tab (A := Choice) (s := p_.best) 2 rfl) (fun m84 a83 hi85 hm86 => ?_)
                refine sim_o0 ?_
                refine sim_o1 ?_
                refine sim_let (v := AV.agg [iv a83.kind, iv a83.sign, iv a83.a, iv a83.b, iv a83.cost]) ((O77.tab (A := Choice) (s := p_.best) 2 rfl).ld hm86 true 5 0) ?_
                refine sim_o0 ?_
                refine sim_o2 ?_
                refine sim_callQ2 he_impl_compareChoices (snapD_nr _ (⟨c_.kind, c_.sign, c_.a, c_.b, wr ((wr (a40.cost + a59.cost)) + c73.1)⟩ : Choice) rfl) (snapD_nr _ a83 rfl) (fun c87 => ?_)
                refine sim_let2 (hand_plain (by rfl) _ _) ?_
                refine sim_o0 ?_
                refine sim_let (v := bv (decide (c87 < 0))) (aBin_lss _ _) ?_
                exact sim_ret rfl
              · refine sim_let (v := bv (bif decide (a78 = 0) then true else c88)) (pick_b' _ _ _) ?_
                refine sim_cond (fun c98 => ?_) (fun c98 => ?_)
                · refine sim_let (v := AV.ptr o_ 1 0 0) rfl ?_
                  refine sim_let (v := AV.ptr o_ 1 0 2) rfl ?_
                  refine sim_let (v := x_best_) (O77.ld 0 rfl false 1 2) ?_
                  refine sim_let (v := AV.agg [iv c_.kind, iv c_.sign, iv c_.a, iv c_.b, iv (wr ((wr (a40.cost + a59.cost)) + c73.1))]) (O77.ld 4 rfl true 5 0) ?_
                  refine sim_get (O77.tab (A := Choice) (s := p_.best) 2 rfl) (fun m100 a99 hi101 hm102 => ?_)
                  refine sim_set (A := Choice) O77 2 (⟨c_.kind, c_.sign, c_.a, c_.b, wr ((wr (a40.cost + a59.cost)) + c73.1)⟩ : Choice) rfl hi101 hm102 rfl (by simp) (by first | rfl | simp) (by first | rfl | simp [splice]) (fun h103 O104 => ?_)
                  replace O104 : Hold B h103 [(AV.ptr o_ 1 0 0, .pt 4 [Sl.enc p_.list, x_boxes_, x_best_, x_count_]), (x_boxes_, obS (p_.boxes : Sl Box)), (x_best_, obS ((setS p_.best set_ (⟨c_.kind, c_.sign, c_.a, c_.b, wr ((wr (a40.cost + a59.cost)) + c73.1)⟩ : Choice)) : Sl Choice)), (x_count_, obS (p_.count : Sl Int)), (AV.ptr o1 1 0 0, .pt 5 [iv c_.kind, iv c_.sign, iv c_.a, iv c_.b, iv (wr ((wr (a40.cost + a59.cost)) + c73.1))]), (AV.ptr o5 1 0 0, .pt 4 [iv sign_.x1, iv sign_.y1, iv sign_.x2, iv sign_.y2]), (AV.ptr o48 1 0 0, .pt 4 [iv a63.x1, iv a63.y1, iv a63.x2, iv a63.y2])] := O104
                  refine sim_let (v := AV.ptr o_ 1 0 0) rfl ?_
                  refine sim_let (v := AV.ptr o_ 1 0 3) rfl ?_
                  refine sim_let (v := x_count_) (O104.ld 0 rfl false 1 3) ?_
                  refine sim_get (O104.tab (A := Int) (s := p_.count) 3 rfl) (fun m106 a105 hi107 hm108 => ?_)
                  refine sim_let (v := iv a105) ((O104.tab (A := Int) (s := p_.count) 3 rfl).ld hm108 false 1 0) ?_
                  refine sim_let (v := iv (wr (a105 + (wr (a36 * a55))))) (aBin_add _ _) ?_
                  refine sim_get (O104.tab (A := Int) (s := p_.count) 3 rfl) (fun m110 a109 hi111 hm112 => ?_)
                  refine sim_set (A := Int) O104 3 (wr (a105 + (wr (a36 * a55)))) rfl hi111 hm112 rfl (by simp) (by first | rfl | simp) (by first | rfl | simp [splice]) (fun h113 O114 => ?_)
                  replace O114 : Hold B h113 [(AV.ptr o_ 1 0 0, .pt 4 [Sl.enc p_.list, x_boxes_, x_best_, x_count_]), (x_boxes_, obS (p_.boxes : Sl Box)), (x_best_, obS ((setS p_.best set_ (⟨c_.kind, c_.sign, c_.a, c_.b, wr ((wr (a40.cost + a59.cost)) + c73.1)⟩ : Choice)) : Sl Choice)), (x_count_, obS ((setS p_.count set_ (wr (a105 + (wr (a36 * a55))))) : Sl Int)), (AV.ptr o1 1 0 0, .pt 5 [iv c_.kind, iv c_.sign, iv c_.a, iv c_.b, iv (wr ((wr (a40.cost + a59.cost)) + c73.1))]), (AV.ptr o5 1 0 0, .pt 4 [iv sign_.x1, iv sign_.y1, iv sign_.x2, iv sign_.y2]), (AV.ptr o48 1 0 0, .pt 4 [iv a63.x1, iv a63.y1, iv a63.x2, iv a63.y2])] := O114
                  have O115 : Hold B h113 [(AV.ptr o_ 1 0 0, .pt 4 [Sl.enc p_.list, x_boxes_, x_best_, x_count_]), (x_boxes_, obS (p_.boxes : Sl Box)), (x_best_, obS ((setS p_.best set_ (⟨c_.kind, c_.sign, c_.a, c_.b, wr ((wr (a40.cost + a59.cost)) + c73.1)⟩ : Choice)) : Sl Choice)), (x_count_, obS ((setS p_.count set_ (wr (a105 + (wr (a36 * a55))))) : Sl Int))] := O114.sel [0, 1, 2, 3] (by decide) rfl
                  exact sim_ret ⟨_, _, _, rfl, O115⟩
                · refine sim_let (v := AV.ptr o_ 1 0 0) rfl ?_
                  refine sim_let (v := AV.ptr o_ 1 0 3) rfl ?_
                  refine sim_let (v := x_count_) (O77.ld 0 rfl false 1 3) ?_
                  refine sim_get (O77.tab (A := Int) (s := p_.count) 3 rfl) (fun m117 a116 hi118 hm119 => ?_)
                  refine sim_let (v := iv a116) ((O77.tab (A := Int) (s := p_.count) 3 rfl).ld hm119 false 1 0) ?_
                  refine sim_let (v := iv (wr (a116 + (wr (a36 * a55))))) (aBin_add _ _) ?_
                  refine sim_get (O77.tab (A := Int) (s := p_.count) 3 rfl) (fun m121 a120 hi122 hm123 => ?_)
                  refine sim_set (A := Int) O77 3 (wr (a116 + (wr (a36 * a55)))) rfl hi122 hm123 rfl (by simp) (by first | rfl | simp) (by first | rfl | simp [splice]) (fun h124 O125 => ?_)
                  replace O125 : Hold B h124 [(AV.ptr o_ 1 0 0, .pt 4 [Sl.enc p_.list, x_boxes_, x_best_, x_count_]), (x_boxes_, obS (p_.boxes : Sl Box)), (x_best_, obS (p_.best : Sl Choice)), (x_count_, obS ((setS p_.count set_ (wr (a116 + (wr (a36 * a55))))) : Sl Int)), (AV.ptr o1 1 0 0, .pt 5 [iv c_.kind, iv c_.sign, iv c_.a, iv c_.b, iv (wr ((wr (a40.cost + a59.cost)) + c73.1))]), (AV.ptr o5 1 0 0, .pt 4 [iv sign_.x1, iv sign_.y1, iv sign_.x2, iv sign_.y2]), (AV.ptr o48 1 0 0, .pt 4 [iv a63.x1, iv a63.y1, iv a63.x2, iv a63.y2])] := O125
                  have O126 : Hold B h124 [(AV.ptr o_ 1 0 0, .pt 4 [Sl.enc p_.list, x_boxes_, x_best_, x_count_]), (x_boxes_, obS (p_.boxes : Sl Box)), (x_best_, obS (p_.best : Sl Choice)), (x_count_, obS ((setS p_.count set_ (wr (a116 + (wr (a36 * a55))))) : Sl Int))] := O125.sel [0, 1, 2, 3] (by decide) rfl
                  exact sim_ret ⟨_, _, _, rfl, O126⟩
          · refine sim_let (v := AV.ptr o1 1 0 0) rfl ?_
            refine sim_let (v := iv c_.kind) (O53.ld 4 rfl false 1 0) ?_
            refine sim_let (v := AV.ptr o_ 1 0 0) rfl ?_
            refine sim_let (v := AV.ptr o_ 1 0 1) rfl ?_
            refine sim_let (v := x_boxes_) (O53.ld 0 rfl false 1 1) ?_
            refine sim_let (v := AV.ptr o1 1 0 2) rfl ?_
            refine sim_let (v := iv c_.a) (O53.ld 4 rfl false 1 2) ?_
            refine sim_get (O53.tab (A := Box) (s := p_.boxes) 1 rfl) (fun m128 a127 hi129 hm130 => ?_)
            refine sim_let (v := AV.agg [iv a127.x1, iv a127.y1, iv a127.x2, iv a127.y2]) ((O53.tab (A := Box) (s := p_.boxes) 1 rfl).ld hm130 true 4 0) ?_
            refine sim_let (v := AV.agg [iv a44.x1, iv a44.y1, iv a44.x2, iv a44.y2]) (O53.ld 6 rfl true 4 0) ?_
            refine sim_let (v := AV.agg [iv sign_.x1, iv sign_.y1, iv sign_.x2, iv sign_.y2]) (O53.ld 5 rfl true 4 0) ?_
            refine sim_callQ4 he_impl_joinCost (snapD_int _ _) (snapD_nr _ a127 rfl) (snapD_nr _ a44 rfl) (snapD_nr _ sign_ rfl) (fun c131 => ?_)
            refine sim_let2 (hand_plain (by rfl) _ _) ?_
            refine sim_let (v := iv c131.1) rfl ?_
            refine sim_let (v := bv c131.2) rfl ?_
            refine sim_let (v := bv (!c131.2)) (aUn_not _) ?_
            refine sim_cond (fun c132 => ?_) (fun c132 => ?_)
            · have O133 : Hold B h52 [(AV.ptr o_ 1 0 0, .pt 4 [Sl.enc p_.list, x_boxes_, x_best_, x_count_]), (x_boxes_, obS (p_.boxes : Sl Box)), (x_best_, obS (p_.best : Sl Choice)), (x_count_, obS (p_.count : Sl Int))] := O53.sel [0, 1, 2, 3] (by decide) rfl
              exact sim_ret ⟨_, _, _, rfl, O133⟩
            · refine sim_let (v := iv (wr (a40.cost + c131.1))) (aBin_add _ _) ?_
              refine sim_let (v := AV.ptr o1 1 0 4) rfl ?_
              refine sim_store O53 4 (cs' := [iv c_.kind, iv c_.sign, iv c_.a, iv c_.b, iv (wr (a40.cost + c131.1))]) rfl (by first | rfl | simp) (by simp) (by first | rfl | simp) (by first | rfl | simp [splice]) (fun h134 O135 => ?_)
              replace O135 : Hold B h134 [(AV.ptr o_ 1 0 0, .pt 4 [Sl.enc p_.list, x_boxes_, x_best_, x_count_]), (x_boxes_, obS (p_.boxes : Sl Box)), (x_best_, obS (p_.best : Sl Choice)), (x_count_, obS (p_.count : Sl Int)), (AV.ptr o1 1 0 0, .pt 5 [iv c_.kind, iv c_.sign, iv c_.a, iv c_.b, iv (wr (a40.cost + c131.1))]), (AV.ptr o5 1 0 0, .pt 4 [iv sign_.x1, iv sign_.y1, iv sign_.x2, iv sign_.y2]), (AV.ptr o48 1 0 0, .pt 4 [iv a44.x1, iv a44.y1, iv a44.x2, iv a44.y2])] := O135
              refine sim_let (v := AV.ptr o_ 1 0 0) rfl ?_
              refine sim_let (v := AV.ptr o_ 1 0 3) rfl ?_
              refine sim_let (v := x_count_) (O135.ld 0 rfl false 1 3) ?_
              refine sim_get (O135.tab (A := Int) (s := p_.count) 3 rfl) (fun m137 a136 hi138 hm139 => ?_)
              refine sim_let (v := iv a136) ((O135.tab (A := Int) (s := p_.count) 3 rfl).ld hm139 false 1 0) ?_
              refine sim_let (v := bv (decide (a136 = 0))) (aCmp_eq _ _) ?_
              refine sim_g10F (e := bv) (fun hb140 => ?_) (fun y147 y148 y149 y150 y151 y152 y153 y154 y155 c146 => ?_)
              · refine sim_o1 ?_
                refine sim_let (v := AV.agg [iv c_.kind, iv c_.sign, iv c_.a, iv c_.b, iv (wr (a40.cost + c131.1))]) (O135.ld 4 rfl true 5 0) ?_
                refine sim_o0 ?_
                refine sim_o0 ?_
                refine sim_o1 ?_
                refine sim_let (v := AV.ptr o_ 1 0 0) rfl ?_
                refine sim_o0 ?_
                refine sim_o1 ?_
                refine sim_let (v := AV.ptr o_ 1 0 2) rfl ?_
                refine sim_o0 ?_
                refine sim_o1 ?_
                refine sim_let (v := x_best_) (O135.ld 0 rfl false 1 2) ?_
                refine sim_o0 ?_
                refine sim_o0 ?_
                refine sim_o1 ?_
                refine sim_get (O135.tab (A := Choice) (s := p_.best) 2 rfl) (fun m142 a141 hi143 hm144 => ?_)
                refine sim_o0 ?_
                refine sim_o1 ?_
                refine sim_let (v := AV.agg [iv a141.kind, iv a141.sign, iv a141.a, iv a141.b, iv a141.cost]) ((O135.tab (A := Choice) (s := p_.best) 2 rfl).ld hm144 true 5 0) ?_
                refine sim_o0 ?_
                refine sim_o2 ?_
                refine sim_callQ2 he_impl_compareChoices (snapD_nr _ (⟨c_.kind, c_.sign, c_.a, c_.b, wr (a40.cost + c131.1)⟩ : Choice) rfl) (snapD_nr _ a141 rfl) (fun c145 => ?_)
                refine sim_let2 (hand_plain (by rfl) _ _) ?_
                refine sim_o0 ?_
                refine sim_let (v := bv (decide (c145 < 0))) (aBin_lss _ _) ?_
                exact sim_ret rfl
              · refine sim_let (v := bv (bif decide (a136 = 0) then true else c146)) (pick_b' _ _ _) ?_
                refine sim_cond (fun c156 => ?_) (fun c156 => ?_)
                · refine sim_let (v := AV.ptr o_ 1 0 0) rfl ?_
                  refine sim_let (v := AV.ptr o_ 1 0 2) rfl ?_
                  refine sim_let (v := x_best_) (O135.ld 0 rfl false 1 2) ?_
                  refine sim_let (v := AV.agg [iv c_.kind, iv c_.sign, iv c_.a, iv c_.b, iv (wr (a40.cost + c131.1))]) (O135.ld 4 rfl true 5 0) ?_
                  refine sim_get (O135.tab (A := Choice) (s := p_.best) 2 rfl) (fun m158 a157 hi159 hm160 => ?_)
                  refine sim_set (A := Choice) O135 2 (⟨c_.kind, c_.sign, c_.a, c_.b, wr (a40.cost + c131.1)⟩ : Choice) rfl hi159 hm160 rfl (by simp) (by first | rfl | simp) (by first | rfl | simp [splice]) (fun h161 O162 => ?_)
                  replace O162 : Hold B h161 [(AV.ptr o_ 1 0 0, .pt 4 [Sl.enc p_.list, x_boxes_, x_best_, x_count_]), (x_boxes_, obS (p_.boxes : Sl Box)), (x_best_, obS ((setS p_.best set_ (⟨c_.kind, c_.sign, c_.a, c_.b, wr (a40.cost + c131.1)⟩ : Choice)) : Sl Choice)), (x_count_, obS (p_.count : Sl Int)), (AV.ptr o1 1 0 0, .pt 5 [iv c_.kind, iv c_.sign, iv c_.a, iv c_.b, iv (wr (a40.cost + c131.1))]), (AV.ptr o5 1 0 0, .pt 4 [iv sign_.x1, iv sign_.y1, iv sign_.x2, iv sign_.y2]), (AV.ptr o48 1 0 0, .pt 4 [iv a44.x1, iv a44.y1, iv a44.x2, iv a44.y2])] := O162
                  refine sim_let (v := AV.ptr o_ 1 0 0) rfl ?_
                  refine sim_let (v := AV.ptr o_ 1 0 3) rfl ?_
                  refine sim_let (v := x_count_) (O162.ld 0 rfl false 1 3) ?_
                  refine sim_get (O162.tab (A := Int) (s := p_.count) 3 rfl) (fun m164 a163 hi165 hm166 => ?_)
                  refine sim_let (v := iv a163) ((O162.tab (A := Int) (s := p_.count) 3 rfl).ld hm166 false 1 0) ?_
                  refine sim_let (v := iv (wr (a163 + a36))) (aBin_add _ _) ?_
                  refine sim_get (O162.tab (A := Int) (s := p_.count) 3 rfl) (fun m168 a167 hi169 hm170 => ?_)
                  refine sim_set (A := Int) O162 3 (wr (a163 + a36)) rfl hi169 hm170 rfl (by simp) (by first | rfl | simp) (by first | rfl | simp [splice]) (fun h171 O172 => ?_)
                  replace O172 : Hold B h171 [(AV.ptr o_ 1 0 0, .pt 4 [Sl.enc p_.list, x_boxes_, x_best_, x_count_]), (x_boxes_, obS (p_.boxes : Sl Box)), (x_best_, obS ((setS p_.best set_ (⟨c_.kind, c_.sign, c_.a, c_.b, wr (a40.cost + c131.1)⟩ : Choice)) : Sl Choice)), (x_count_, obS ((setS p_.count set_ (wr (a163 + a36))) : Sl Int)), (AV.ptr o1 1 0 0, .pt 5 [iv c_.kind, iv c_.sign, iv c_.a, iv c_.b, iv (wr (a40.cost + c131.1))]), (AV.ptr o5 1 0 0, .pt 4 [iv sign_.x1, iv sign_.y1, iv sign_.x2, iv sign_.y2]), (AV.ptr o48 1 0 0, .pt 4 [iv a44.x1, iv a44.y1, iv a44.x2, iv a44.y2])] := O172
                  have O173 : Hold B h171 [(AV.ptr o_ 1 0 0, .pt 4 [Sl.enc p_.list, x_boxes_, x_best_, x_count_]), (x_boxes_, obS (p_.boxes : Sl Box)), (x_best_, obS ((setS p_.best set_ (⟨c_.kind, c_.sign, c_.a, c_.b, wr (a40.cost + c131.1)⟩ : Choice)) : Sl Choice)), (x_count_, obS ((setS p_.count set_ (wr (a163 + a36))) : Sl Int))] := O172.sel [0, 1, 2, 3] (by decide) rfl
                  exact sim_ret ⟨_, _, _, rfl, O173⟩
                · refine sim_let (v := AV.ptr o_ 1 0 0) rfl ?_
                  refine sim_let (v := AV.ptr o_ 1 0 3) rfl ?_
                  refine sim_let (v := x_count_) (O135.ld 0 rfl false 1 3) ?_
                  refine sim_get (O135.tab (A := Int) (s := p_.count) 3 rfl) (fun m175 a174 hi176 hm177 => ?_)
                  refine sim_let (v := iv a174) ((O135.tab (A := Int) (s := p_.count) 3 rfl).ld hm177 false 1 0) ?_
                  refine sim_let (v := iv (wr (a174 + a36))) (aBin_add _ _) ?_
                  refine sim_get (O135.tab (A := Int) (s := p_.count) 3 rfl) (fun m179 a178 hi180 hm181 => ?_)
                  refine sim_set (A := Int) O135 3 (wr (a174 + a36)) rfl hi180 hm181 rfl (by simp) (by first | rfl | simp) (by first | rfl | simp [splice]) (fun h182 O183 => ?_)
                  replace O183 : Hold B h182 [(AV.ptr o_ 1 0 0, .pt 4 [Sl.enc p_.list, x_boxes_, x_best_, x_count_]), (x_boxes_, obS (p_.boxes : Sl Box)), (x_best_, obS (p_.best : Sl Choice)), (x_count_, obS ((setS p_.count set_ (wr (a174 + a36))) : Sl Int)), (AV.ptr o1 1 0 0, .pt 5 [iv c_.kind, iv c_.sign, iv c_.a, iv c_.b, iv (wr (a40.cost + c131.1))]), (AV.ptr o5 1 0 0, .pt 4 [iv sign_.x1, iv sign_.y1, iv sign_.x2, iv sign_.y2]), (AV.ptr o48 1 0 0, .pt 4 [iv a44.x1, iv a44.y1, iv a44.x2, iv a44.y2])] := O183
                  have O184 : Hold B h182 [(AV.ptr o_ 1 0 0, .pt 4 [Sl.enc p_.list, x_boxes_, x_best_, x_count_]), (x_boxes_, obS (p_.boxes : Sl Box)), (x_best_, obS (p_.best : Sl Choice)), (x_count_, obS ((setS p_.count set_ (wr (a174 + a36))) : Sl Int))] := O183.sel [0, 1, 2, 3] (by decide) rfl
                  exact sim_ret ⟨_, _, _, rfl, O184⟩
noncomputable def ev_impl_parser_try : Nat → Contract := envL [(n_impl_compareChoices, .pure (C2 (fun c : Int => enc c) t_impl_compareChoices)), (n_impl_joinCost, .pure (C4 (fun c : Int × Bool => AV.tup [enc c.1, enc c.2]) t_impl_joinCost))]
theorem eo_impl_parser_try : EnvOK Try.prog ev_impl_parser_try := (Econs tt_impl_compareChoices (Econs tt_impl_joinCost E0))
theorem tg_impl_parser_try {B : Base} {h : Heap} {o_ : Nat} {x_boxes_ : AV} {x_best_ : AV} {x_count_ : AV} (p_ : Parser) (set_ : Int) (c_ : Choice) (sign_ : Box) (O : Hold B h [(AV.ptr o_ 1 0 0, .pt 4 [Sl.enc p_.list, x_boxes_, x_best_, x_count_]), (x_boxes_, obS (p_.boxes : Sl Box)), (x_best_, obS (p_.best : Sl Choice)), (x_count_, obS (p_.count : Sl Int))]) : Sim (denFn Try.prog ev_impl_parser_try n_impl_parser_try [AV.ptr o_ 1 0 0, iv set_, AV.agg [iv c_.kind, iv c_.sign, iv c_.a, iv c_.b, iv c_.cost], AV.agg [iv sign_.x1, iv sign_.y1, iv sign_.x2, iv sign_.y2]] h) (t_impl_parser_try p_ set_ c_ sign_) (fun c p => ∃ x1, ∃ x2, ∃ x3, p.1 = und ∧ Hold B p.2 ([(AV.ptr o_ 1 0 0, .pt 4 [Sl.enc c.list, x1, x2, x3]), (x1, obS (c.boxes : Sl Box)), (x2, obS (c.best : Sl Choice)), (x3, obS (c.count : Sl Int))])) := ts_impl_parser_try ev_impl_parser_try (by simp [ev_impl_parser_try, envL]) (by simp [ev_impl_parser_try, envL]) p_ set_ c_ sign_  O

def s1_impl_parser_split (set_ : Int) (rest_ : Int) (kinds_ : Sl Int) (sign_ : Int) (box_ : Box) (w14 : Int) : ((Sl Symbol) × (Sl Box) × (Sl Choice) × (Sl Int) × Int) → Option (Sum ((Sl Symbol) × (Sl Box) × (Sl Choice) × (Sl Int) × Int) ((Sl Symbol) × (Sl Box) × (Sl Choice) × (Sl Int))) := fun (w28, w30, w32, w34, w37) =>
  bif decide (w37 < (((kinds_.getD []).length : Nat) : Int)) then
    obind (getI (kinds_.getD []) w37) fun a50 =>
    obind (t_impl_parser_try (⟨w28, w30, w32, w34⟩ : Parser) set_ (⟨a50, sign_, w14, andNotI rest_ w14, 0⟩ : Choice) box_) fun c55 =>
    some (.inl (c55.list, c55.boxes, c55.best, c55.count, wr (w37 + 1)))
  else
    some (.inr (w28, w30, w32, w34))
def s0_impl_parser_split (set_ : Int) (rest_ : Int) (kinds_ : Sl Int) (sign_ : Int) (box_ : Box) : ((Sl Symbol) × (Sl Box) × (Sl Choice) × (Sl Int) × Int) → Option (Sum ((Sl Symbol) × (Sl Box) × (Sl Choice) × (Sl Int) × Int) ((Sl Symbol) × (Sl Box) × (Sl Choice) × (Sl Int))) := fun (w5, w7, w9, w11, w14) =>
  bif decide (0 < w14) then
    obind (loopT (s1_impl_parser_split set_ rest_ kinds_ sign_ box_ w14) (w5, w7, w9, w11, 0)) fun (q40, q42, q44, q46) =>
    some (.inl (q40, q42, q44, q46, andI (wr (w14 - 1)) rest_))
  else
    some (.inr (w5, w7, w9, w11))
def t_impl_parser_split (p_ : Parser) (set_ : Int) (rest_ : Int) (kinds_ : Sl Int) (sign_ : Int) (box_ : Box) : Option Parser :=
  obind (loopT (s0_impl_parser_split set_ rest_ kinds_ sign_ box_) (p_.list, p_.boxes, p_.best, p_.count, andI (wr (rest_ - 1)) rest_)) fun (q17, q19, q21, q23) =>
  some (⟨q17, q19, q21, q23⟩ : Parser)

theorem tl1_impl_parser_split (env : Nat → Contract) {B : Base} (he_impl_parser_try : env n_impl_parser_try = .gen (denFn Try.prog ev_impl_parser_try n_impl_parser_try)) (o_ : Nat) (set_ : Int) (rest_ : Int) (kinds_ : Sl Int) (sign_ : Int) (box_ : Box) (kinds_x : AV) (T_kinds_ : ∀ h, (∀ o, o < B.h0.length → o ∉ B.F → h[o]? = B.h0[o]?) → Tab h kinds_x kinds_) (o1 : Nat) (w14 : Int)  {st : (Sl Symbol) × (Sl Box) × (Sl Choice) × (Sl Int) × Int} {tm : TM} {h : Heap} (R : (fun (st : (Sl Symbol) × (Sl Box) × (Sl Choice) × (Sl Int) × Int) tm h35 => match st with | (w28, w30, w32, w34, w37) => ∃ z29 z31 z33, tm = [AV.ptr o_ 1 0 0, iv set_, iv rest_, kinds_x, iv sign_, AV.agg [iv box_.x1, iv box_.y1, iv box_.x2, iv box_.y2], und, und, und, und, und, AV.ptr o1 1 0 0, iv w14, und, AV.top, iv rest_, iv (wr (rest_ - 1)), iv rest_, iv (andI (wr (rest_ - 1)) rest_), iv w14, bv (decide (0 < w14)), AV.top, AV.top, AV.top, AV.top, kinds_x, iv (((kinds_.getD []).length : Nat) : Int), iv w37, AV.top, AV.top, AV.top, AV.top, AV.top, AV.top, AV.top, AV.top, AV.top, AV.top, AV.top, AV.top, AV.top, AV.top, AV.top] ∧ Hold B h35 [(AV.ptr o_ 1 0 0, .pt 4 [Sl.enc w28, z29, z31, z33]), (z29, obS (w30 : Sl Box)), (z31, obS (w32 : Sl Choice)), (z33, obS (w34 : Sl Int)), (AV.ptr o1 1 0 0, .pt 4 [iv box_.x1, iv box_.y1, iv box_.x2, iv box_.y2])]) st tm h) : Sim (loopP hm1_impl_parser_split xm1_impl_parser_split (lb1_impl_parser_split env) tm h) (loopT (s1_impl_parser_split set_ rest_ kinds_ sign_ box_ w14) st) (fun (q : (Sl Symbol) × (Sl Box) × (Sl Choice) × (Sl Int)) (r : Res) => match q with | (q40, q42, q44, q46) => ∃ (z41 : AV) (z43 : AV) (z45 : AV) (z47 : AV) (h38 : Heap), r = (.exit 2, [AV.ptr o_ 1 0 0, iv set_, iv rest_, kinds_x, iv sign_, AV.agg [iv box_.x1, iv box_.y1, iv box_.x2, iv box_.y2], und, und, und, und, und, AV.ptr o1 1 0 0, iv w14, und, z47, iv rest_, iv (wr (rest_ - 1)), iv rest_, iv (andI (wr (rest_ - 1)) rest_), iv w14, bv (decide (0 < w14)), AV.top, AV.top, AV.top, AV.top, kinds_x, iv (((kinds_.getD []).length : Nat) : Int), AV.top, AV.top, AV.top, AV.top, AV.top, AV.top, AV.top, AV.top, AV.top, AV.top, AV.top, AV.top, AV.top, AV.top, AV.top, AV.top], h38) ∧ Hold B h38 [(AV.ptr o_ 1 0 0, .pt 4 [Sl.enc q40, z41, z43, z45]), (z41, obS (q42 : Sl Box)), (z43, obS (q44 : Sl Choice)), (z45, obS (q46 : Sl Int)), (AV.ptr o1 1 0 0, .pt 4 [iv box_.x1, iv box_.y1, iv box_.x2, iv box_.y2])]) := by
  refine loop_sim (Rel := fun (st : (Sl Symbol) × (Sl Box) × (Sl Choice) × (Sl Int) × Int) tm h35 => match st with | (w28, w30, w32, w34, w37) => ∃ z29 z31 z33, tm = [AV.ptr o_ 1 0 0, iv set_, iv rest_, kinds_x, iv sign_, AV.agg [iv box_.x1, iv box_.y1, iv box_.x2, iv box_.y2], und, und, und, und, und, AV.ptr o1 1 0 0, iv w14, und, AV.top, iv rest_, iv (wr (rest_ - 1)), iv rest_, iv (andI (wr (rest_ - 1)) rest_), iv w14, bv (decide (0 < w14)), AV.top, AV.top, AV.top, AV.top, kinds_x, iv (((kinds_.getD []).length : Nat) : Int), iv w37, AV.top, AV.top, AV.top, AV.top, AV.top, AV.top, AV.top, AV.top, AV.top, AV.top, AV.top, AV.top, AV.top, AV.top, AV.top] ∧ Hold B h35 [(AV.ptr o_ 1 0 0, .pt 4 [Sl.enc w28, z29, z31, z33]), (z29, obS (w30 : Sl Box)), (z31, obS (w32 : Sl Choice)), (z33, obS (w34 : Sl Int)), (AV.ptr o1 1 0 0, .pt 4 [iv box_.x1, iv box_.y1, iv box_.x2, iv box_.y2])]) (fun st tm h35 R => ?_) R
  obtain ⟨w28, w30, w32, w34, w37⟩ := st
  obtain ⟨z29, z31, z33, rfl, O36⟩ := R
  rw [e_lb1_impl_parser_split]
  unfold s1_impl_parser_split
  dsimp only
  refine sim_let (v := bv (decide (w37 < (((kinds_.getD []).length : Nat) : Int)))) (aBin_lss _ _) ?_
  refine sim_cond (fun c49 => ?_) (fun c49 => ?_)
  · refine sim_get (T_kinds_ _ O36.keep) (fun m51 a50 hi52 hm53 => ?_)
    refine sim_let (v := iv a50) ((T_kinds_ _ O36.keep).ld hm53 false 1 0) ?_
    refine sim_let (v := iv (andNotI rest_ w14)) (aBin_andNot _ _) ?_
    refine sim_let (v := AV.agg [iv a50, iv sign_, iv w14, iv (andNotI rest_ w14), iv 0]) (by first | rfl | simp [aBuild, aFill, splice]) ?_
    refine sim_let (v := AV.agg [iv box_.x1, iv box_.y1, iv box_.x2, iv box_.y2]) (O36.ld 4 rfl true 4 0) ?_
    have O54 := O36
    refine sim_gen he_impl_parser_try (tg_impl_parser_try (⟨w28, w30, w32, w34⟩ : Parser) set_ (⟨a50, sign_, w14, andNotI rest_ w14, 0⟩ : Choice) box_ (Hold.startL (L := [(AV.ptr o_ 1 0 0, .pt 4 [Sl.enc w28, z29, z31, z33]), (z29, obS (w30 : Sl Box)), (z31, obS (w32 : Sl Choice)), (z33, obS (w34 : Sl Int))]) (R := [(AV.ptr o1 1 0 0, .pt 4 [iv box_.x1, iv box_.y1, iv box_.x2, iv box_.y2])]) O54)) (fun c55 v56 h57 hq58 => ?_)
    obtain ⟨x61, x63, x65, e_v56, O59⟩ := hq58
    dsimp only at e_v56
    subst v56
    have O60 : Hold B h57 [(AV.ptr o_ 1 0 0, .pt 4 [Sl.enc c55.list, x61, x63, x65]), (x61, obS (c55.boxes : Sl Box)), (x63, obS (c55.best : Sl Choice)), (x65, obS (c55.count : Sl Int)), (AV.ptr o1 1 0 0, .pt 4 [iv box_.x1, iv box_.y1, iv box_.x2, iv box_.y2])] := Hold.mergeL (L := [(AV.ptr o_ 1 0 0, .pt 4 [Sl.enc w28, z29, z31, z33]), (z29, obS (w30 : Sl Box)), (z31, obS (w32 : Sl Choice)), (z33, obS (w34 : Sl Int))]) (R := [(AV.ptr o1 1 0 0, .pt 4 [iv box_.x1, iv box_.y1, iv box_.x2, iv box_.y2])]) O54 O59
    refine sim_let (v := iv (wr (w37 + 1))) (aBin_add _ _) ?_
    exact sim_ret ⟨rfl, _, _, _, rfl, O60⟩
  · exact sim_ret ⟨nofun, _, _, _, _, _, rfl, O36⟩
theorem tl0_impl_parser_split (env : Nat → Contract) {B : Base} (he_impl_parser_try : env n_impl_parser_try = .gen (denFn Try.prog ev_impl_parser_try n_impl_parser_try)) (o_ : Nat) (set_ : Int) (rest_ : Int) (kinds_ : Sl Int) (sign_ : Int) (box_ : Box) (kinds_x : AV) (T_kinds_ : ∀ h, (∀ o, o < B.h0.length → o ∉ B.F → h[o]? = B.h0[o]?) → Tab h kinds_x kinds_) (o1 : Nat)  {st : (Sl Symbol) × (Sl Box) × (Sl Choice) × (Sl Int) × Int} {tm : TM} {h : Heap} (R : (fun (st : (Sl Symbol) × (Sl Box) × (Sl Choice) × (Sl Int) × Int) tm h12 => match st with | (w5, w7, w9, w11, w14) => ∃ z6 z8 z10, tm = [AV.ptr o_ 1 0 0, iv set_, iv rest_, kinds_x, iv sign_, AV.agg [iv box_.x1, iv box_.y1, iv box_.x2, iv box_.y2], und, und, und, und, und, AV.ptr o1 1 0 0, iv w14, und, AV.top, iv rest_, iv (wr (rest_ - 1)), iv rest_, iv (andI (wr (rest_ - 1)) rest_), AV.top, AV.top, AV.top, AV.top, AV.top, AV.top, AV.top, AV.top, AV.top, AV.top, AV.top, AV.top, AV.top, AV.top, AV.top, AV.top, AV.top, AV.top, AV.top, AV.top, AV.top, AV.top, AV.top, AV.top] ∧ Hold B h12 [(AV.ptr o_ 1 0 0, .pt 4 [Sl.enc w5, z6, z8, z10]), (z6, obS (w7 : Sl Box)), (z8, obS (w9 : Sl Choice)), (z10, obS (w11 : Sl Int)), (AV.ptr o1 1 0 0, .pt 4 [iv box_.x1, iv box_.y1, iv box_.x2, iv box_.y2])]) st tm h) : Sim (loopP hm0_impl_parser_split xm0_impl_parser_split (lb0_impl_parser_split env) tm h) (loopT (s0_impl_parser_split set_ rest_ kinds_ sign_ box_) st) (fun (q : (Sl Symbol) × (Sl Box) × (Sl Choice) × (Sl Int)) (r : Res) => match q with | (q17, q19, q21, q23) => ∃ (q24 : Int) (z18 : AV) (z20 : AV) (z22 : AV) (z25 : AV) (h15 : Heap), r = (.exit 0, [AV.ptr o_ 1 0 0, iv set_, iv rest_, kinds_x, iv sign_, AV.agg [iv box_.x1, iv box_.y1, iv box_.x2, iv box_.y2], und, und, und, und, und, AV.ptr o1 1 0 0, iv q24, und, z25, iv rest_, iv (wr (rest_ - 1)), iv rest_, iv (andI (wr (rest_ - 1)) rest_), AV.top, AV.top, AV.top, AV.top, AV.top, AV.top, AV.top, AV.top, AV.top, AV.top, AV.top, AV.top, AV.top, AV.top, AV.top, AV.top, AV.top, AV.top, AV.top, AV.top, AV.top, AV.top, AV.top, AV.top], h15) ∧ Hold B h15 [(AV.ptr o_ 1 0 0, .pt 4 [Sl.enc q17, z18, z20, z22]), (z18, obS (q19 : Sl Box)), (z20, obS (q21 : Sl Choice)), (z22, obS (q23 : Sl Int)), (AV.ptr o1 1 0 0, .pt 4 [iv box_.x1, iv box_.y1, iv box_.x2, iv box_.y2])]) := by
  refine loop_sim (Rel := fun (st : (Sl Symbol) × (Sl Box) × (Sl Choice) × (Sl Int) × Int) tm h12 => match st with | (w5, w7, w9, w11, w14) => ∃ z6 z8 z10, tm = [AV.ptr o_ 1 0 0, iv set_, iv rest_, kinds_x, iv sign_, AV.agg [iv box_.x1, iv box_.y1, iv box_.x2, iv box_.y2], und, und, und, und, und, AV.ptr o1 1 0 0, iv w14, und, AV.top, iv rest_, iv (wr (rest_ - 1)), iv rest_, iv (andI (wr (rest_ - 1)) rest_), AV.top, AV.top, AV.top, AV.top, AV.top, AV.top, AV.top, AV.top, AV.top, AV.top, AV.top, AV.top, AV.top, AV.top, AV.top, AV.top, AV.top, AV.top, AV.top, AV.top, AV.top, AV.top, AV.top, AV.top] ∧ Hold B h12 [(AV.ptr o_ 1 0 0, .pt 4 [Sl.enc w5, z6, z8, z10]), (z6, obS (w7 : Sl Box)), (z8, obS (w9 : Sl Choice)), (z10, obS (w11 : Sl Int)), (AV.ptr o1 1 0 0, .pt 4 [iv box_.x1, iv box_.y1, iv box_.x2, iv box_.y2])]) (fun st tm h12 R => ?_) R
  obtain ⟨w5, w7, w9, w11, w14⟩ := st
  obtain ⟨z6, z8, z10, rfl, O13⟩ := R
  rw [e_lb0_impl_parser_split]
  unfold s0_impl_parser_split
  dsimp only
  refine sim_let (v := bv (decide (0 < w14))) (aBin_gtr _ _) ?_
  refine sim_cond (fun c27 => ?_) (fun c27 => ?_)
  · refine sim_let (v := iv (((kinds_.getD []).length : Nat) : Int)) (T_kinds_ _ O13.keep).len ?_
    refine sim_bind ((tl1_impl_parser_split env he_impl_parser_try o_ set_ rest_ kinds_ sign_ box_ kinds_x T_kinds_ o1 w14) ⟨_, _, _, rfl, O13⟩) (fun qq70 r hq => ?_)
    obtain ⟨q40, q42, q44, q46⟩ := qq70
    obtain ⟨z41, z43, z45, z47, h38, rfl, O39⟩ := hq
    rw [e_lk1x2_impl_parser_split]
    refine sim_let (v := iv (wr (w14 - 1))) (aBin_sub _ _) ?_
    refine sim_let (v := iv (andI (wr (w14 - 1)) rest_)) (aBin_and _ _) ?_
    exact sim_ret ⟨rfl, _, _, _, rfl, O39⟩
  · exact sim_ret ⟨nofun, _, _, _, _, _, _, rfl, O13⟩
theorem ts_impl_parser_split (env : Nat → Contract) (he_impl_parser_try : env n_impl_parser_try = .gen (denFn Try.prog ev_impl_parser_try n_impl_parser_try)) {B : Base} {h : Heap} {o_ : Nat} {x_boxes_ : AV} {x_best_ : AV} {x_count_ : AV} (p_ : Parser) (set_ : Int) (rest_ : Int) (kinds_ : Sl Int) (sign_ : Int) (box_ : Box) {kinds_x : AV} (T_kinds_ : ∀ h, (∀ o, o < B.h0.length → o ∉ B.F → h[o]? = B.h0[o]?) → Tab h kinds_x kinds_) (O : Hold B h [(AV.ptr o_ 1 0 0, .pt 4 [Sl.enc p_.list, x_boxes_, x_best_, x_count_]), (x_boxes_, obS (p_.boxes : Sl Box)), (x_best_, obS (p_.best : Sl Choice)), (x_count_, obS (p_.count : Sl Int))]) : Sim (denFn Try.prog env n_impl_parser_split [AV.ptr o_ 1 0 0, iv set_, iv rest_, kinds_x, iv sign_, AV.agg [iv box_.x1, iv box_.y1, iv box_.x2, iv box_.y2]] h) (t_impl_parser_split p_ set_ rest_ kinds_ sign_ box_) (fun c p => ∃ x1, ∃ x2, ∃ x3, p.1 = und ∧ Hold B p.2 ([(AV.ptr o_ 1 0 0, .pt 4 [Sl.enc c.list, x1, x2, x3]), (x1, obS (c.boxes : Sl Box)), (x2, obS (c.best : Sl Choice)), (x3, obS (c.count : Sl Int))])) := by
  rw [e_impl_parser_split]
  unfold t_impl_parser_split
  refine sim_box O (cs := [iv box_.x1, iv box_.y1, iv box_.x2, iv box_.y2]) (by first | rfl | simp) (fun o1 h2 O3 => ?_)
  replace O3 : Hold B h2 [(AV.ptr o_ 1 0 0, .pt 4 [Sl.enc p_.list, x_boxes_, x_best_, x_count_]), (x_boxes_, obS (p_.boxes : Sl Box)), (x_best_, obS (p_.best : Sl Choice)), (x_count_, obS (p_.count : Sl Int)), (AV.ptr o1 1 0 0, .pt 4 [iv box_.x1, iv box_.y1, iv box_.x2, iv box_.y2])] := O3
  refine sim_let (v := iv (wr (rest_ - 1))) (aBin_sub _ _) ?_
  refine sim_let (v := iv (andI (wr (rest_ - 1)) rest_)) (aBin_and _ _) ?_
  refine sim_bind ((tl0_impl_parser_split env he_impl_parser_try o_ set_ rest_ kinds_ sign_ box_ kinds_x T_kinds_ o1) ⟨_, _, _, rfl, O3⟩) (fun qq73 r hq => ?_)
  obtain ⟨q17, q19, q21, q23⟩ := qq73
  obtain ⟨q24, z18, z20, z22, z25, h15, rfl, O16⟩ := hq
  rw [e_lk0x0_impl_parser_split]
  have O26 : Hold B h15 [(AV.ptr o_ 1 0 0, .pt 4 [Sl.enc q17, z18, z20, z22]), (z18, obS (q19 : Sl Box)), (z20, obS (q21 : Sl Choice)), (z22, obS (q23 : Sl Int))] := O16.sel [0, 1, 2, 3] (by decide) rfl
  exact sim_ret ⟨_, _, _, rfl, O26⟩
noncomputable def ev_impl_parser_split : Nat → Contract := envL [(n_impl_parser_try, .gen (denFn Try.prog ev_impl_parser_try n_impl_parser_try))]
theorem eo_impl_parser_split : EnvOK Try.prog ev_impl_parser_split := (EconsG (gen_of_den eo_impl_parser_try mixed hb_impl_parser_try) E0)
theorem tg_impl_parser_split {B : Base} {h : Heap} {o_ : Nat} {x_boxes_ : AV} {x_best_ : AV} {x_count_ : AV} (p_ : Parser) (set_ : Int) (rest_ : Int) (kinds_ : Sl Int) (sign_ : Int) (box_ : Box) {kinds_x : AV} (T_kinds_ : ∀ h, (∀ o, o < B.h0.length → o ∉ B.F → h[o]? = B.h0[o]?) → Tab h kinds_x kinds_) (O : Hold B h [(AV.ptr o_ 1 0 0, .pt 4 [Sl.enc p_.list, x_boxes_, x_best_, x_count_]), (x_boxes_, obS (p_.boxes : Sl Box)), (x_best_, obS (p_.best : Sl Choice)), (x_count_, obS (p_.count : Sl Int))]) : Sim (denFn Try.prog ev_impl_parser_split n_impl_parser_split [AV.ptr o_ 1 0 0, iv set_, iv rest_, kinds_x, iv sign_, AV.agg [iv box_.x1, iv box_.y1, iv box_.x2, iv box_.y2]] h) (t_impl_parser_split p_ set_ rest_ kinds_ sign_ box_) (fun c p => ∃ x1, ∃ x2, ∃ x3, p.1 = und ∧ Hold B p.2 ([(AV.ptr o_ 1 0 0, .pt 4 [Sl.enc c.list, x1, x2, x3]), (x1, obS (c.boxes : Sl Box)), (x2, obS (c.best : Sl Choice)), (x3, obS (c.count : Sl Int))])) := ts_impl_parser_split ev_impl_parser_split (by simp [ev_impl_parser_split, envL]) p_ set_ rest_ kinds_ sign_ box_ T_kinds_ O

def t_impl_signOf (kind_ : Int) : Option ByteArray :=
  bif decide (kind_ = 2) then
    some (⟨#[45]⟩ : ByteArray)
  else
    bif decide (kind_ = 5) then
      some (⟨#[114]⟩ : ByteArray)
    else
      some (⟨#[]⟩ : ByteArray)

theorem ts_impl_signOf (env : Nat → Contract)  (kind_ : Int) : Sim (denFn Try.prog env n_impl_signOf [iv kind_] []) (t_impl_signOf kind_) fun c p => release p.2 depth p.1 = some ((fun c : ByteArray => enc c) c) := by
  have O := Hold.nil []
  generalize hB : (⟨[], []⟩ : Base) = B at O
  clear hB
  rw [e_impl_signOf]
  unfold t_impl_signOf
  refine sim_let (v := bv (decide (kind_ = 2))) (aCmp_eq _ _) ?_
  refine sim_cond (fun c1 => ?_) (fun c1 => ?_)
  · exact sim_ret (release_plain (by rfl) _)
  · refine sim_let (v := bv (decide (kind_ = 5))) (aCmp_eq _ _) ?_
    refine sim_cond (fun c2 => ?_) (fun c2 => ?_)
    · exact sim_ret (release_plain (by rfl) _)
    · exact sim_ret (release_plain (by rfl) _)
theorem tt_impl_signOf : PureOK Try.prog n_impl_signOf (C1 (fun c : ByteArray => enc c) t_impl_signOf) := pureC1 E0 mixed hb_impl_signOf fun kind_ => ts_impl_signOf _  kind_

def s0_impl_parser_solve (set_ : Int) (c21 : Parser) : ((Sl Symbol) × (Sl Box) × (Sl Choice) × (Sl Int) × Int) → Option (Sum ((Sl Symbol) × (Sl Box) × (Sl Choice) × (Sl Int) × Int) ((Sl Symbol) × (Sl Box) × (Sl Choice) × (Sl Int))) := fun (w33, w35, w37, w39, w42) =>
  bif decide (w42 < (((c21.list.getD []).length : Nat) : Int)) then
    obind (getI (c21.list.getD []) w42) fun a57 =>
    obind (shlO 1 w42) fun q67 =>
    bif decide (andNotI set_ q67 = set_) then
      some (.inl (w33, w35, w37, w39, wr (w42 + 1)))
    else
      obind (t_impl_signOf 2) fun c70 =>
      bif decide (a57.label = c70) then
        obind (t_impl_parser_split (⟨w33, w35, w37, w39⟩ : Parser) set_ (andNotI set_ q67) (some ([2] : List Int)) w42 a57.box) fun c77 =>
        some (.inl (c77.list, c77.boxes, c77.best, c77.count, wr (w42 + 1)))
      else
        obind (t_impl_signOf 5) fun c90 =>
        bif decide (a57.label = c90) then
          obind (t_impl_parser_try (⟨w33, w35, w37, w39⟩ : Parser) set_ (⟨5, w42, andNotI set_ q67, 0, 0⟩ : Choice) a57.box) fun c93 =>
          some (.inl (c93.list, c93.boxes, c93.best, c93.count, wr (w42 + 1)))
        else
          some (.inl (w33, w35, w37, w39, wr (w42 + 1)))
  else
    some (.inr (w33, w35, w37, w39))
def t_impl_parser_solve (p_ : Parser) (set_ : Int) : Option Parser :=
  obind (t_impl_boxOfSet p_.list set_) fun c1 =>
  obind (getI (p_.boxes.getD []) set_) fun a2 =>
  bif decide (andI set_ (wr (set_ - 1)) = 0) then
    obind (getI (p_.count.getD []) set_) fun a9 =>
    some (⟨p_.list, (setS p_.boxes set_ c1), p_.best, (setS p_.count set_ 1)⟩ : Parser)
  else
    obind (t_impl_parser_split (⟨p_.list, (setS p_.boxes set_ c1), p_.best, p_.count⟩ : Parser) set_ set_ (some ([1, 3, 4] : List Int)) 0 (⟨0, 0, 0, 0⟩ : Box)) fun c21 =>
    obind (loopT (s0_impl_parser_solve set_ c21) (c21.list, c21.boxes, c21.best, c21.count, 0)) fun (q45, q47, q49, q51) =>
    some (⟨q45, q47, q49, q51⟩ : Parser)

theorem tl0_impl_parser_solve (env : Nat → Contract) {B : Base} (he_impl_boxOfSet : env n_impl_boxOfSet = .pure (C2 (fun c : Box => enc c) t_impl_boxOfSet)) (he_impl_parser_split : env n_impl_parser_split = .gen (denFn Try.prog ev_impl_parser_split n_impl_parser_split)) (he_impl_parser_try : env n_impl_parser_try = .gen (denFn Try.prog ev_impl_parser_try n_impl_parser_try)) (he_impl_signOf : env n_impl_signOf = .pure (C1 (fun c : ByteArray => enc c) t_impl_signOf)) (p_ : Parser) (o_ : Nat) (set_ : Int) (x_boxes_ : AV) (c1 : Box) (m3 : Nat) (x16 : AV) (c21 : Parser)  {st : (Sl Symbol) × (Sl Box) × (Sl Choice) × (Sl Int) × Int} {tm : TM} {h : Heap} (R : (fun (st : (Sl Symbol) × (Sl Box) × (Sl Choice) × (Sl Int) × Int) tm h40 => match st with | (w33, w35, w37, w39, w42) => ∃ z34 z36 z38, tm = ((AV.ptr o_ 1 0 0) :: (iv set_) :: und :: und :: AV.top :: AV.top :: AV.top :: (AV.ptr o_ 1 0 0) :: (AV.ptr o_ 1 0 0) :: (AV.ptr o_ 1 0 1) :: x_boxes_ :: (iv set_) :: (AV.ptr o_ 1 0 0) :: (AV.ptr o_ 1 0 0) :: (AV.ptr o_ 1 0 0) :: (Sl.enc p_.list) :: (iv set_) :: (AV.agg [iv c1.x1, iv c1.y1, iv c1.x2, iv c1.y2]) :: (elp x_boxes_ m3 0) :: (iv set_) :: (iv set_) :: (iv (wr (set_ - 1))) :: (iv (andI set_ (wr (set_ - 1)))) :: (bv (decide (andI set_ (wr (set_ - 1)) = 0))) :: und :: und :: und :: und :: und :: und :: (AV.ptr o_ 1 0 0) :: (iv set_) :: (iv set_) :: x16 :: (AV.agg [iv 0, iv 0, iv 0, iv 0]) :: und :: (AV.ptr o_ 1 0 0) :: (AV.ptr o_ 1 0 0) :: (AV.ptr o_ 1 0 0) :: (Sl.enc c21.list) :: (iv (((c21.list.getD []).length : Nat) : Int)) :: (iv w42) :: AV.top :: AV.top :: AV.top :: AV.top :: AV.top :: AV.top :: AV.top :: AV.top :: AV.top :: AV.top :: AV.top :: AV.top :: AV.top :: AV.top :: AV.top :: AV.top :: AV.top :: AV.top :: AV.top :: AV.top :: AV.top :: AV.top :: AV.top :: AV.top :: AV.top :: AV.top :: AV.top :: AV.top :: AV.top :: AV.top :: AV.top :: AV.top :: AV.top :: AV.top :: AV.top :: AV.top :: []) ∧ Hold B h40 [(AV.ptr o_ 1 0 0, .pt 4 [Sl.enc w33, z34, z36, z38]), (z34, obS (w35 : Sl Box)), (z36, obS (w37 : Sl Choice)), (z38, obS (w39 : Sl Int)), (x16, obS ((some ([1, 3, 4] : List Int)) : Sl Int))]) st tm h) : Sim (loopP hm0_impl_parser_solve xm0_impl_parser_solve (lb0_impl_parser_solve env) tm h) (loopT (s0_impl_parser_solve set_ c21) st) (fun (q : (Sl Symbol) × (Sl Box) × (Sl Choice) × (Sl Int)) (r : Res) => match q with | (q45, q47, q49, q51) => ∃ (z46 : AV) (z48 : AV) (z50 : AV) (z52 : AV) (z53 : AV) (z54 : AV) (h43 : Heap), r = (.exit 0, ((AV.ptr o_ 1 0 0) :: (iv set_) :: und :: und :: z52 :: z53 :: z54 :: (AV.ptr o_ 1 0 0) :: (AV.ptr o_ 1 0 0) :: (AV.ptr o_ 1 0 1) :: x_boxes_ :: (iv set_) :: (AV.ptr o_ 1 0 0) :: (AV.ptr o_ 1 0 0) :: (AV.ptr o_ 1 0 0) :: (Sl.enc p_.list) :: (iv set_) :: (AV.agg [iv c1.x1, iv c1.y1, iv c1.x2, iv c1.y2]) :: (elp x_boxes_ m3 0) :: (iv set_) :: (iv set_) :: (iv (wr (set_ - 1))) :: (iv (andI set_ (wr (set_ - 1)))) :: (bv (decide (andI set_ (wr (set_ - 1)) = 0))) :: und :: und :: und :: und :: und :: und :: (AV.ptr o_ 1 0 0) :: (iv set_) :: (iv set_) :: x16 :: (AV.agg [iv 0, iv 0, iv 0, iv 0]) :: und :: (AV.ptr o_ 1 0 0) :: (AV.ptr o_ 1 0 0) :: (AV.ptr o_ 1 0 0) :: (Sl.enc c21.list) :: (iv (((c21.list.getD []).length : Nat) : Int)) :: AV.top :: AV.top :: AV.top :: AV.top :: AV.top :: AV.top :: AV.top :: AV.top :: AV.top :: AV.top :: AV.top :: AV.top :: AV.top :: AV.top :: AV.top :: AV.top :: AV.top :: AV.top :: AV.top :: AV.top :: AV.top :: AV.top :: AV.top :: AV.top :: AV.top :: AV.top :: AV.top :: AV.top :: AV.top :: AV.top :: AV.top :: AV.top :: AV.top :: AV.top :: AV.top :: AV.top :: AV.top :: []), h43) ∧ Hold B h43 [(AV.ptr o_ 1 0 0, .pt 4 [Sl.enc q45, z46, z48, z50]), (z46, obS (q47 : Sl Box)), (z48, obS (q49 : Sl Choice)), (z50, obS (q51 : Sl Int)), (x16, obS ((some ([1, 3, 4] : List Int)) : Sl Int))]) := by
  refine loop_sim (Rel := fun (st : (Sl Symbol) × (Sl Box) × (Sl Choice) × (Sl Int) × Int) tm h40 => match st with | (w33, w35, w37, w39, w42) => ∃ z34 z36 z38, tm = ((AV.ptr o_ 1 0 0) :: (iv set_) :: und :: und :: AV.top :: AV.top :: AV.top :: (AV.ptr o_ 1 0 0) :: (AV.ptr o_ 1 0 0) :: (AV.ptr o_ 1 0 1) :: x_boxes_ :: (iv set_) :: (AV.ptr o_ 1 0 0) :: (AV.ptr o_ 1 0 0) :: (AV.ptr o_ 1 0 0) :: (Sl.enc p_.list) :: (iv set_) :: (AV.agg [iv c1.x1, iv c1.y1, iv c1.x2, iv c1.y2]) :: (elp x_boxes_ m3 0) :: (iv set_) :: (iv set_) :: (iv (wr (set_ - 1))) :: (iv (andI set_ (wr (set_ - 1)))) :: (bv (decide (andI set_ (wr (set_ - 1)) = 0))) :: und :: und :: und :: und :: und :: und :: (AV.ptr o_ 1 0 0) :: (iv set_) :: (iv set_) :: x16 :: (AV.agg [iv 0, iv 0, iv 0, iv 0]) :: und :: (AV.ptr o_ 1 0 0) :: (AV.ptr o_ 1 0 0) :: (AV.ptr o_ 1 0 0) :: (Sl.enc c21.list) :: (iv (((c21.list.getD []).length : Nat) : Int)) :: (iv w42) :: AV.top :: AV.top :: AV.top :: AV.top :: AV.top :: AV.top :: AV.top :: AV.top :: AV.top :: AV.top :: AV.top :: AV.top :: AV.top :: AV.top :: AV.top :: AV.top :: AV.top :: AV.top :: AV.top :: AV.top :: AV.top :: AV.top :: AV.top :: AV.top :: AV.top :: AV.top :: AV.top :: AV.top :: AV.top :: AV.top :: AV.top :: AV.top :: AV.top :: AV.top :: AV.top :: AV.top :: []) ∧ Hold B h40 [(AV.ptr o_ 1 0 0, .pt 4 [Sl.enc w33, z34, z36, z38]), (z34, obS (w35 : Sl Box)), (z36, obS (w37 : Sl Choice)), (z38, obS (w39 : Sl Int)), (x16, obS ((some ([1, 3, 4] : List Int)) : Sl Int))]) (fun st tm h40 R => ?_) R
  obtain ⟨w33, w35, w37, w39, w42⟩ := st
  obtain ⟨z34, z36, z38, rfl, O41⟩ := R
  rw [e_lb0_impl_parser_solve]
  unfold s0_impl_parser_solve
  dsimp only
  refine sim_let (v := bv (decide (w42 < (((c21.list.getD []).length : Nat) : Int)))) (aBin_lss _ _) ?_
  refine sim_cond (fun c56 => ?_) (fun c56 => ?_)
  · refine sim_get (Tab.enc h40 c21.list) (fun m58 a57 hi59 hm60 => ?_)
    refine sim_let (v := AV.agg [sv a57.label, iv a57.box.x1, iv a57.box.y1, iv a57.box.x2, iv a57.box.y2]) ((Tab.enc h40 c21.list).ld hm60 true 5 0) ?_
    refine sim_box O41 (cs := [sv (⟨#[]⟩ : ByteArray), iv 0, iv 0, iv 0, iv 0]) (by first | rfl | simp) (fun o61 h62 O63 => ?_)
    replace O63 : Hold B h62 [(AV.ptr o_ 1 0 0, .pt 4 [Sl.enc w33, z34, z36, z38]), (z34, obS (w35 : Sl Box)), (z36, obS (w37 : Sl Choice)), (z38, obS (w39 : Sl Int)), (x16, obS ((some ([1, 3, 4] : List Int)) : Sl Int)), (AV.ptr o61 1 0 0, .pt 5 [sv (⟨#[]⟩ : ByteArray), iv 0, iv 0, iv 0, iv 0])] := O63
    refine sim_store O63 5 (cs' := [sv a57.label, iv a57.box.x1, iv a57.box.y1, iv a57.box.x2, iv a57.box.y2]) rfl (by first | rfl | simp) (by simp) (by first | rfl | simp) (by first | rfl | simp [splice]) (fun h65 O66 => ?_)
    replace O66 : Hold B h65 [(AV.ptr o_ 1 0 0, .pt 4 [Sl.enc w33, z34, z36, z38]), (z34, obS (w35 : Sl Box)), (z36, obS (w37 : Sl Choice)), (z38, obS (w39 : Sl Int)), (x16, obS ((some ([1, 3, 4] : List Int)) : Sl Int)), (AV.ptr o61 1 0 0, .pt 5 [sv a57.label, iv a57.box.x1, iv a57.box.y1, iv a57.box.x2, iv a57.box.y2])] := O66
    refine sim_shl (fun q67 => ?_)
    refine sim_let (v := iv (andNotI set_ q67)) (aBin_andNot _ _) ?_
    refine sim_let (v := bv (decide (andNotI set_ q67 = set_))) (aCmp_eq _ _) ?_
    refine sim_cond (fun c68 => ?_) (fun c68 => ?_)
    · refine sim_let (v := iv (wr (w42 + 1))) (aBin_add _ _) ?_
      have O69 : Hold B h65 [(AV.ptr o_ 1 0 0, .pt 4 [Sl.enc w33, z34, z36, z38]), (z34, obS (w35 : Sl Box)), (z36, obS (w37 : Sl Choice)), (z38, obS (w39 : Sl Int)), (x16, obS ((some ([1, 3, 4] : List Int)) : Sl Int))] := O66.sel [0, 1, 2, 3, 4] (by decide) rfl
      exact sim_ret ⟨rfl, _, _, _, rfl, O69⟩
    · refine sim_let (v := AV.ptr o61 1 0 0) rfl ?_
      refine sim_let (v := sv a57.label) (O66.ld 5 rfl false 1 0) ?_
      refine sim_call1 he_impl_signOf (snapD_int _ _) (fun c70 => ?_)
      refine sim_let2 (hand_plain (by rfl) _ _) ?_
      refine sim_let (v := bv (decide (a57.label = c70))) (aCmp_eqS _ _) ?_
      refine sim_cond (fun c71 => ?_) (fun c71 => ?_)
      · refine sim_build (A := Int) O66 ([2] : List Int) rfl (by first | rfl | simp [aFillRows, zrows]) rfl (fun x72 h73 O74 => ?_)
        replace O74 : Hold B h73 [(AV.ptr o_ 1 0 0, .pt 4 [Sl.enc w33, z34, z36, z38]), (z34, obS (w35 : Sl Box)), (z36, obS (w37 : Sl Choice)), (z38, obS (w39 : Sl Int)), (x16, obS ((some ([1, 3, 4] : List Int)) : Sl Int)), (AV.ptr o61 1 0 0, .pt 5 [sv a57.label, iv a57.box.x1, iv a57.box.y1, iv a57.box.x2, iv a57.box.y2]), (x72, obS ((some ([2] : List Int)) : Sl Int))] := O74
        refine sim_let (v := AV.ptr o61 1 0 1) rfl ?_
        refine sim_let (v := AV.agg [iv a57.box.x1, iv a57.box.y1, iv a57.box.x2, iv a57.box.y2]) (O74.ld 5 rfl true 4 1) ?_
        have O76 := O74
        refine sim_gen he_impl_parser_split (tg_impl_parser_split (⟨w33, w35, w37, w39⟩ : Parser) set_ (andNotI set_ q67) (some ([2] : List Int)) w42 a57.box (Hold.tabKL (L := [(AV.ptr o_ 1 0 0, .pt 4 [Sl.enc w33, z34, z36, z38]), (z34, obS (w35 : Sl Box)), (z36, obS (w37 : Sl Choice)), (z38, obS (w39 : Sl Int))]) (R := [(x16, obS ((some ([1, 3, 4] : List Int)) : Sl Int)), (AV.ptr o61 1 0 0, .pt 5 [sv a57.label, iv a57.box.x1, iv a57.box.y1, iv a57.box.x2, iv a57.box.y2]), (x72, obS ((some ([2] : List Int)) : Sl Int))]) (A := Int) (s := (some ([2] : List Int))) O76 2 rfl) (Hold.startL (L := [(AV.ptr o_ 1 0 0, .pt 4 [Sl.enc w33, z34, z36, z38]), (z34, obS (w35 : Sl Box)), (z36, obS (w37 : Sl Choice)), (z38, obS (w39 : Sl Int))]) (R := [(x16, obS ((some ([1, 3, 4] : List Int)) : Sl Int)), (AV.ptr o61 1 0 0, .pt 5 [sv a57.label, iv a57.box.x1, iv a57.box.y1, iv a57.box.x2, iv a57.box.y2]), (x72, obS ((some ([2] : List Int)) : Sl Int))]) O76)) (fun c77 v78 h79 hq80 => ?_)
        obtain ⟨x83, x85, x87, e_v78, O81⟩ := hq80
        dsimp only at e_v78
        subst v78
        have O82 : Hold B h79 [(AV.ptr o_ 1 0 0, .pt 4 [Sl.enc c77.list, x83, x85, x87]), (x83, obS (c77.boxes : Sl Box)), (x85, obS (c77.best : Sl Choice)), (x87, obS (c77.count : Sl Int)), (x16, obS ((some ([1, 3, 4] : List Int)) : Sl Int)), (AV.ptr o61 1 0 0, .pt 5 [sv a57.label, iv a57.box.x1, iv a57.box.y1, iv a57.box.x2, iv a57.box.y2]), (x72, obS ((some ([2] : List Int)) : Sl Int))] := Hold.mergeL (L := [(AV.ptr o_ 1 0 0, .pt 4 [Sl.enc w33, z34, z36, z38]), (z34, obS (w35 : Sl Box)), (z36, obS (w37 : Sl Choice)), (z38, obS (w39 : Sl Int))]) (R := [(x16, obS ((some ([1, 3, 4] : List Int)) : Sl Int)), (AV.ptr o61 1 0 0, .pt 5 [sv a57.label, iv a57.box.x1, iv a57.box.y1, iv a57.box.x2, iv a57.box.y2]), (x72, obS ((some ([2] : List Int)) : Sl Int))]) O76 O81
        refine sim_let (v := iv (wr (w42 + 1))) (aBin_add _ _) ?_
        have O89 : Hold B h79 [(AV.ptr o_ 1 0 0, .pt 4 [Sl.enc c77.list, x83, x85, x87]), (x83, obS (c77.boxes : Sl Box)), (x85, obS (c77.best : Sl Choice)), (x87, obS (c77.count : Sl Int)), (x16, obS ((some ([1, 3, 4] : List Int)) : Sl Int))] := O82.sel [0, 1, 2, 3, 4] (by decide) rfl
        exact sim_ret ⟨rfl, _, _, _, rfl, O89⟩
      · refine sim_call1 he_impl_signOf (snapD_int _ _) (fun c90 => ?_)
        refine sim_let2 (hand_plain (by rfl) _ _) ?_
        refine sim_let (v := bv (decide (a57.label = c90))) (aCmp_eqS _ _) ?_
        refine sim_cond (fun c91 => ?_) (fun c91 => ?_)
        · refine sim_let (v := AV.agg [iv 5, iv w42, iv (andNotI set_ q67), iv 0, iv 0]) (by first | rfl | simp [aBuild, aFill, splice]) ?_
          refine sim_let (v := AV.ptr o61 1 0 1) rfl ?_
          refine sim_let (v := AV.agg [iv a57.box.x1, iv a57.box.y1, iv a57.box.x2, iv a57.box.y2]) (O66.ld 5 rfl true 4 1) ?_
          have O92 := O66
          refine sim_gen he_impl_parser_try (tg_impl_parser_try (⟨w33, w35, w37, w39⟩ : Parser) set_ (⟨5, w42, andNotI set_ q67, 0, 0⟩ : Choice) a57.box (Hold.startL (L := [(AV.ptr o_ 1 0 0, .pt 4 [Sl.enc w33, z34, z36, z38]), (z34, obS (w35 : Sl Box)), (z36, obS (w37 : Sl Choice)), (z38, obS (w39 : Sl Int))]) (R := [(x16, obS ((some ([1, 3, 4] : List Int)) : Sl Int)), (AV.ptr o61 1 0 0, .pt 5 [sv a57.label, iv a57.box.x1, iv a57.box.y1, iv a57.box.x2, iv a57.box.y2])]) O92)) (fun c93 v94 h95 hq96 => ?_)
          obtain ⟨x99, x101, x103, e_v94, O97⟩ := hq96
          dsimp only at e_v94
          subst v94
          have O98 : Hold B h95 [(AV.ptr o_ 1 0 0, .pt 4 [Sl.enc c93.list, x99, x101, x103]), (x99, obS (c93.boxes : Sl Box)), (x101, obS (c93.best : Sl Choice)), (x103, obS (c93.count : Sl Int)), (x16, obS ((some ([1, 3, 4] : List Int)) : Sl Int)), (AV.ptr o61 1 0 0, .pt 5 [sv a57.label, iv a57.box.x1, iv a57.box.y1, iv a57.box.x2, iv a57.box.y2])] := Hold.mergeL (L := [(AV.ptr o_ 1 0 0, .pt 4 [Sl.enc w33, z34, z36, z38]), (z34, obS (w35 : Sl Box)), (z36, obS (w37 : Sl Choice)), (z38, obS (w39 : Sl Int))]) (R := [(x16, obS ((some ([1, 3, 4] : List Int)) : Sl Int)), (AV.ptr o61 1 0 0, .pt 5 [sv a57.label, iv a57.box.x1, iv a57.box.y1, iv a57.box.x2, iv a57.box.y2])]) O92 O97
          refine sim_let (v := iv (wr (w42 + 1))) (aBin_add _ _) ?_
          have O105 : Hold B h95 [(AV.ptr o_ 1 0 0, .pt 4 [Sl.enc c93.list, x99, x101, x103]), (x99, obS (c93.boxes : Sl Box)), (x101, obS (c93.best : Sl Choice)), (x103, obS (c93.count : Sl Int)), (x16, obS ((some ([1, 3, 4] : List Int)) : Sl Int))] := O98.sel [0, 1, 2, 3, 4] (by decide) rfl
          exact sim_ret ⟨rfl, _, _, _, rfl, O105⟩
        · refine sim_let (v := iv (wr (w42 + 1))) (aBin_add _ _) ?_
          have O106 : Hold B h65 [(AV.ptr o_ 1 0 0, .pt 4 [Sl.enc w33, z34, z36, z38]), (z34, obS (w35 : Sl Box)), (z36, obS (w37 : Sl Choice)), (z38, obS (w39 : Sl Int)), (x16, obS ((some ([1, 3, 4] : List Int)) : Sl Int))] := O66.sel [0, 1, 2, 3, 4] (by decide) rfl
          exact sim_ret ⟨rfl, _, _, _, rfl, O106⟩
  · exact sim_ret ⟨nofun, _, _, _, _, _, _, _, rfl, O41⟩
theorem ts_impl_parser_solve (env : Nat → Contract) (he_impl_boxOfSet : env n_impl_boxOfSet = .pure (C2 (fun c : Box => enc c) t_impl_boxOfSet)) (he_impl_parser_split : env n_impl_parser_split = .gen (denFn Try.prog ev_impl_parser_split n_impl_parser_split)) (he_impl_parser_try : env n_impl_parser_try = .gen (denFn Try.prog ev_impl_parser_try n_impl_parser_try)) (he_impl_signOf : env n_impl_signOf = .pure (C1 (fun c : ByteArray => enc c) t_impl_signOf)) {B : Base} {h : Heap} {o_ : Nat} {x_boxes_ : AV} {x_best_ : AV} {x_count_ : AV} (p_ : Parser) (set_ : Int) (O : Hold B h [(AV.ptr o_ 1 0 0, .pt 4 [Sl.enc p_.list, x_boxes_, x_best_, x_count_]), (x_boxes_, obS (p_.boxes : Sl Box)), (x_best_, obS (p_.best : Sl Choice)), (x_count_, obS (p_.count : Sl Int))]) : Sim (denFn Try.prog env n_impl_parser_solve [AV.ptr o_ 1 0 0, iv set_] h) (t_impl_parser_solve p_ set_) (fun c p => ∃ x1, ∃ x2, ∃ x3, p.1 = und ∧ Hold B p.2 ([(AV.ptr o_ 1 0 0, .pt 4 [Sl.enc c.list, x1, x2, x3]), (x1, obS (c.boxes : Sl Box)), (x2, obS (c.best : Sl Choice)), (x3, obS (c.count : Sl Int))])) := by
  rw [e_impl_parser_solve]
  unfold t_impl_parser_solve
  refine sim_let (v := AV.ptr o_ 1 0 0) rfl ?_
  refine sim_let (v := AV.ptr o_ 1 0 1) rfl ?_
  refine sim_let (v := x_boxes_) (O.ld 0 rfl false 1 1) ?_
  refine sim_let (v := AV.ptr o_ 1 0 0) rfl ?_
  refine sim_let (v := AV.ptr o_ 1 0 0) rfl ?_
  refine sim_let (v := Sl.enc p_.list) (O.ld 0 rfl false 1 0) ?_
  refine sim_callQ2 he_impl_boxOfSet (snapD_enc _ _) (snapD_int _ _) (fun c1 => ?_)
  refine sim_let2 (hand_plain (by rfl) _ _) ?_
  refine sim_get (O.tab (A := Box) (s := p_.boxes) 1 rfl) (fun m3 a2 hi4 hm5 => ?_)
  refine sim_set (A := Box) O 1 c1 rfl hi4 hm5 rfl (by simp) (by first | rfl | simp) (by first | rfl | simp [splice]) (fun h6 O7 => ?_)
  replace O7 : Hold B h6 [(AV.ptr o_ 1 0 0, .pt 4 [Sl.enc p_.list, x_boxes_, x_best_, x_count_]), (x_boxes_, obS ((setS p_.boxes set_ c1) : Sl Box)), (x_best_, obS (p_.best : Sl Choice)), (x_count_, obS (p_.count : Sl Int))] := O7
  refine sim_let (v := iv (wr (set_ - 1))) (aBin_sub _ _) ?_
  refine sim_let (v := iv (andI set_ (wr (set_ - 1)))) (aBin_and _ _) ?_
  refine sim_let (v := bv (decide (andI set_ (wr (set_ - 1)) = 0))) (aCmp_eq _ _) ?_
  refine sim_cond (fun c8 => ?_) (fun c8 => ?_)
  · refine sim_let (v := AV.ptr o_ 1 0 0) rfl ?_
    refine sim_let (v := AV.ptr o_ 1 0 3) rfl ?_
    refine sim_let (v := x_count_) (O7.ld 0 rfl false 1 3) ?_
    refine sim_get (O7.tab (A := Int) (s := p_.count) 3 rfl) (fun m10 a9 hi11 hm12 => ?_)
    refine sim_set (A := Int) O7 3 1 rfl hi11 hm12 rfl (by simp) (by first | rfl | simp) (by first | rfl | simp [splice]) (fun h13 O14 => ?_)
    replace O14 : Hold B h13 [(AV.ptr o_ 1 0 0, .pt 4 [Sl.enc p_.list, x_boxes_, x_best_, x_count_]), (x_boxes_, obS ((setS p_.boxes set_ c1) : Sl Box)), (x_best_, obS (p_.best : Sl Choice)), (x_count_, obS ((setS p_.count set_ 1) : Sl Int))] := O14
    exact sim_ret ⟨_, _, _, rfl, O14⟩
  · refine sim_build (A := Int) O7 ([1, 3, 4] : List Int) rfl (by first | rfl | simp [aFillRows, zrows]) rfl (fun x16 h17 O18 => ?_)
    replace O18 : Hold B h17 [(AV.ptr o_ 1 0 0, .pt 4 [Sl.enc p_.list, x_boxes_, x_best_, x_count_]), (x_boxes_, obS ((setS p_.boxes set_ c1) : Sl Box)), (x_best_, obS (p_.best : Sl Choice)), (x_count_, obS (p_.count : Sl Int)), (x16, obS ((some ([1, 3, 4] : List Int)) : Sl Int))] := O18
    refine sim_let (v := AV.agg [iv 0, iv 0, iv 0, iv 0]) (by first | rfl | simp [aBuild, aFill, splice]) ?_
    have O20 := O18
    refine sim_gen he_impl_parser_split (tg_impl_parser_split (⟨p_.list, (setS p_.boxes set_ c1), p_.best, p_.count⟩ : Parser) set_ set_ (some ([1, 3, 4] : List Int)) 0 (⟨0, 0, 0, 0⟩ : Box) (Hold.tabKL (L := [(AV.ptr o_ 1 0 0, .pt 4 [Sl.enc p_.list, x_boxes_, x_best_, x_count_]), (x_boxes_, obS ((setS p_.boxes set_ c1) : Sl Box)), (x_best_, obS (p_.best : Sl Choice)), (x_count_, obS (p_.count : Sl Int))]) (R := [(x16, obS ((some ([1, 3, 4] : List Int)) : Sl Int))]) (A := Int) (s := (some ([1, 3, 4] : List Int))) O20 0 rfl) (Hold.startL (L := [(AV.ptr o_ 1 0 0, .pt 4 [Sl.enc p_.list, x_boxes_, x_best_, x_count_]), (x_boxes_, obS ((setS p_.boxes set_ c1) : Sl Box)), (x_best_, obS (p_.best : Sl Choice)), (x_count_, obS (p_.count : Sl Int))]) (R := [(x16, obS ((some ([1, 3, 4] : List Int)) : Sl Int))]) O20)) (fun c21 v22 h23 hq24 => ?_)
    obtain ⟨x27, x29, x31, e_v22, O25⟩ := hq24
    dsimp only at e_v22
    subst v22
    have O26 : Hold B h23 [(AV.ptr o_ 1 0 0, .pt 4 [Sl.enc c21.list, x27, x29, x31]), (x27, obS (c21.boxes : Sl Box)), (x29, obS (c21.best : Sl Choice)), (x31, obS (c21.count : Sl Int)), (x16, obS ((some ([1, 3, 4] : List Int)) : Sl Int))] := Hold.mergeL (L := [(AV.ptr o_ 1 0 0, .pt 4 [Sl.enc p_.list, x_boxes_, x_best_, x_count_]), (x_boxes_, obS ((setS p_.boxes set_ c1) : Sl Box)), (x_best_, obS (p_.best : Sl Choice)), (x_count_, obS (p_.count : Sl Int))]) (R := [(x16, obS ((some ([1, 3, 4] : List Int)) : Sl Int))]) O20 O25
    refine sim_let (v := AV.ptr o_ 1 0 0) rfl ?_
    refine sim_let (v := AV.ptr o_ 1 0 0) rfl ?_
    refine sim_let (v := Sl.enc c21.list) (O26.ld 0 rfl false 1 0) ?_
    refine sim_let (v := iv (((c21.list.getD []).length : Nat) : Int)) (Tab.enc h23 c21.list).len ?_
    refine sim_bind ((tl0_impl_parser_solve env he_impl_boxOfSet he_impl_parser_split he_impl_parser_try he_impl_signOf p_ o_ set_ x_boxes_ c1 m3 x16 c21) ⟨_, _, _, rfl, O26⟩) (fun qq109 r hq => ?_)
    obtain ⟨q45, q47, q49, q51⟩ := qq109
    obtain ⟨z46, z48, z50, z52, z53, z54, h43, rfl, O44⟩ := hq
    rw [e_lk0x0_impl_parser_solve]
    have O55 : Hold B h43 [(AV.ptr o_ 1 0 0, .pt 4 [Sl.enc q45, z46, z48, z50]), (z46, obS (q47 : Sl Box)), (z48, obS (q49 : Sl Choice)), (z50, obS (q51 : Sl Int))] := O44.sel [0, 1, 2, 3] (by decide) rfl
    exact sim_ret ⟨_, _, _, rfl, O55⟩
noncomputable def ev_impl_parser_solve : Nat → Contract := envL [(n_impl_boxOfSet, .pure (C2 (fun c : Box => enc c) t_impl_boxOfSet)), (n_impl_parser_split, .gen (denFn Try.prog ev_impl_parser_split n_impl_parser_split)), (n_impl_parser_try, .gen (denFn Try.prog ev_impl_parser_try n_impl_parser_try)), (n_impl_signOf, .pure (C1 (fun c : ByteArray => enc c) t_impl_signOf))]
theorem eo_impl_parser_solve : EnvOK Try.prog ev_impl_parser_solve := (Econs tt_impl_boxOfSet (EconsG (gen_of_den eo_impl_parser_split mixed hb_impl_parser_split) (EconsG (gen_of_den eo_impl_parser_try mixed hb_impl_parser_try) (Econs tt_impl_signOf E0))))
theorem tg_impl_parser_solve {B : Base} {h : Heap} {o_ : Nat} {x_boxes_ : AV} {x_best_ : AV} {x_count_ : AV} (p_ : Parser) (set_ : Int) (O : Hold B h [(AV.ptr o_ 1 0 0, .pt 4 [Sl.enc p_.list, x_boxes_, x_best_, x_count_]), (x_boxes_, obS (p_.boxes : Sl Box)), (x_best_, obS (p_.best : Sl Choice)), (x_count_, obS (p_.count : Sl Int))]) : Sim (denFn Try.prog ev_impl_parser_solve n_impl_parser_solve [AV.ptr o_ 1 0 0, iv set_] h) (t_impl_parser_solve p_ set_) (fun c p => ∃ x1, ∃ x2, ∃ x3, p.1 = und ∧ Hold B p.2 ([(AV.ptr o_ 1 0 0, .pt 4 [Sl.enc c.list, x1, x2, x3]), (x1, obS (c.boxes : Sl Box)), (x2, obS (c.best : Sl Choice)), (x3, obS (c.count : Sl Int))])) := ts_impl_parser_solve ev_impl_parser_solve (by simp [ev_impl_parser_solve, envL]) (by simp [ev_impl_parser_solve, envL]) (by simp [ev_impl_parser_solve, envL]) (by simp [ev_impl_parser_solve, envL]) p_ set_  O

def s0_impl_solved (q1 : Int) : ((Sl Box) × (Sl Choice) × (Sl Int) × (Sl Symbol) × Int) → Option (Sum ((Sl Box) × (Sl Choice) × (Sl Int) × (Sl Symbol) × Int) ((Sl Box) × (Sl Choice) × (Sl Int) × (Sl Symbol))) := fun (w22, w24, w26, w27, w30) =>
  bif decide (w30 < q1) then
    obind (t_impl_parser_solve (⟨w27, w22, w24, w26⟩ : Parser) w30) fun c44 =>
    some (.inl (c44.boxes, c44.best, c44.count, c44.list, wr (w30 + 1)))
  else
    some (.inr (w22, w24, w26, w27))
def t_impl_solved (list_ : Sl Symbol) : Option Parser :=
  obind (shlO 1 (((list_.getD []).length : Nat) : Int)) fun q1 =>
  obind (makeO (⟨0, 0, 0, 0⟩ : Box) q1) fun l6 =>
  obind (makeO (⟨0, 0, 0, 0, 0⟩ : Choice) q1) fun l11 =>
  obind (makeO 0 q1) fun l16 =>
  obind (loopT (s0_impl_solved q1) ((some l6), (some l11), (some l16), list_, 1)) fun (q34, q36, q38, q39) =>
  some (⟨q39, q34, q36, q38⟩ : Parser)

theorem tl0_impl_solved (env : Nat → Contract) {B : Base} (he_impl_parser_solve : env n_impl_parser_solve = .gen (denFn Try.prog ev_impl_parser_solve n_impl_parser_solve)) (list_ : Sl Symbol) (q1 : Int) (x2 : AV) (x7 : AV) (x12 : AV) (o17 : Nat)  {st : (Sl Box) × (Sl Choice) × (Sl Int) × (Sl Symbol) × Int} {tm : TM} {h : Heap} (R : (fun (st : (Sl Box) × (Sl Choice) × (Sl Int) × (Sl Symbol) × Int) tm h28 => match st with | (w22, w24, w26, w27, w30) => ∃ z21 z23 z25, tm = [Sl.enc list_, und, (AV.sc (.pointer none)), iv q1, AV.ptr o17 1 0 0, iv w30, Sl.enc list_, iv (((list_.getD []).length : Nat) : Int), iv q1, Sl.enc list_, iv q1, x2, iv q1, x7, iv q1, x12, AV.agg [Sl.enc list_, x2, x7, x12], AV.ptr o17 1 0 0, AV.top, AV.top, AV.top, AV.top, AV.top, AV.top, AV.top, AV.top, und] ∧ Hold B h28 [(z21, obS (w22 : Sl Box)), (z23, obS (w24 : Sl Choice)), (z25, obS (w26 : Sl Int)), (AV.ptr o17 1 0 0, .pt 4 [Sl.enc w27, z21, z23, z25])]) st tm h) : Sim (loopP hm0_impl_solved xm0_impl_solved (lb0_impl_solved env) tm h) (loopT (s0_impl_solved q1) st) (fun (q : (Sl Box) × (Sl Choice) × (Sl Int) × (Sl Symbol)) (r : Res) => match q with | (q34, q36, q38, q39) => ∃ (q40 : Int) (z33 : AV) (z35 : AV) (z37 : AV) (h31 : Heap), r = (.exit 0, [Sl.enc list_, und, (AV.sc (.pointer none)), iv q1, AV.ptr o17 1 0 0, iv q40, Sl.enc list_, iv (((list_.getD []).length : Nat) : Int), iv q1, Sl.enc list_, iv q1, x2, iv q1, x7, iv q1, x12, AV.agg [Sl.enc list_, x2, x7, x12], AV.ptr o17 1 0 0, AV.top, AV.top, AV.top, AV.top, AV.top, AV.top, AV.top, AV.top, und], h31) ∧ Hold B h31 [(z33, obS (q34 : Sl Box)), (z35, obS (q36 : Sl Choice)), (z37, obS (q38 : Sl Int)), (AV.ptr o17 1 0 0, .pt 4 [Sl.enc q39, z33, z35, z37])]) := by
  refine loop_sim (Rel := fun (st : (Sl Box) × (Sl Choice) × (Sl Int) × (Sl Symbol) × Int) tm h28 => match st with | (w22, w24, w26, w27, w30) => ∃ z21 z23 z25, tm = [Sl.enc list_, und, (AV.sc (.pointer none)), iv q1, AV.ptr o17 1 0 0, iv w30, Sl.enc list_, iv (((list_.getD []).length : Nat) : Int), iv q1, Sl.enc list_, iv q1, x2, iv q1, x7, iv q1, x12, AV.agg [Sl.enc list_, x2, x7, x12], AV.ptr o17 1 0 0, AV.top, AV.top, AV.top, AV.top, AV.top, AV.top, AV.top, AV.top, und] ∧ Hold B h28 [(z21, obS (w22 : Sl Box)), (z23, obS (w24 : Sl Choice)), (z25, obS (w26 : Sl Int)), (AV.ptr o17 1 0 0, .pt 4 [Sl.enc w27, z21, z23, z25])]) (fun st tm h28 R => ?_) R
  obtain ⟨w22, w24, w26, w27, w30⟩ := st
  obtain ⟨z21, z23, z25, rfl, O29⟩ := R
  rw [e_lb0_impl_solved]
  unfold s0_impl_solved
  dsimp only
  refine sim_let (v := bv (decide (w30 < q1))) (aBin_lss _ _) ?_
  refine sim_cond (fun c42 => ?_) (fun c42 => ?_)
  · have O43 : Hold B h28 [(AV.ptr o17 1 0 0, .pt 4 [Sl.enc w27, z21, z23, z25]), (z21, obS (w22 : Sl Box)), (z23, obS (w24 : Sl Choice)), (z25, obS (w26 : Sl Int))] := O29.sel [3, 0, 1, 2] (by decide) rfl
    refine sim_gen he_impl_parser_solve (tg_impl_parser_solve (⟨w27, w22, w24, w26⟩ : Parser) w30 (Hold.startL (L := [(AV.ptr o17 1 0 0, .pt 4 [Sl.enc w27, z21, z23, z25]), (z21, obS (w22 : Sl Box)), (z23, obS (w24 : Sl Choice)), (z25, obS (w26 : Sl Int))]) (R := []) O43)) (fun c44 v45 h46 hq47 => ?_)
    obtain ⟨x50, x52, x54, e_v45, O48⟩ := hq47
    dsimp only at e_v45
    subst v45
    have O49 : Hold B h46 [(AV.ptr o17 1 0 0, .pt 4 [Sl.enc c44.list, x50, x52, x54]), (x50, obS (c44.boxes : Sl Box)), (x52, obS (c44.best : Sl Choice)), (x54, obS (c44.count : Sl Int))] := Hold.mergeL (L := [(AV.ptr o17 1 0 0, .pt 4 [Sl.enc w27, z21, z23, z25]), (z21, obS (w22 : Sl Box)), (z23, obS (w24 : Sl Choice)), (z25, obS (w26 : Sl Int))]) (R := []) O43 O48
    refine sim_let (v := iv (wr (w30 + 1))) (aBin_add _ _) ?_
    have O56 : Hold B h46 [(x50, obS (c44.boxes : Sl Box)), (x52, obS (c44.best : Sl Choice)), (x54, obS (c44.count : Sl Int)), (AV.ptr o17 1 0 0, .pt 4 [Sl.enc c44.list, x50, x52, x54])] := O49.sel [1, 2, 3, 0] (by decide) rfl
    exact sim_ret ⟨rfl, _, _, _, rfl, O56⟩
  · exact sim_ret ⟨nofun, _, _, _, _, _, rfl, O29⟩
theorem ts_impl_solved (env : Nat → Contract) (he_impl_parser_solve : env n_impl_parser_solve = .gen (denFn Try.prog ev_impl_parser_solve n_impl_parser_solve)) {B : Base} {h : Heap} (list_ : Sl Symbol) (O : Hold B h []) : Sim (denFn Try.prog env n_impl_solved [Sl.enc list_] h) (t_impl_solved list_) (fun c p => ∃ x1 : Nat, ∃ x2, ∃ x3, ∃ x4, p.1 = AV.ptr x1 1 0 0 ∧ Hold B p.2 ([(AV.ptr x1 1 0 0, .pt 4 [Sl.enc c.list, x2, x3, x4]), (x2, obS (c.boxes : Sl Box)), (x3, obS (c.best : Sl Choice)), (x4, obS (c.count : Sl Int))])) := by
  rw [e_impl_solved]
  unfold t_impl_solved
  refine sim_let (v := iv (((list_.getD []).length : Nat) : Int)) (Tab.enc h list_).len ?_
  refine sim_shl (fun q1 => ?_)
  refine sim_make (A := Box) O (⟨0, 0, 0, 0⟩ : Box) rfl (by decide) (fun l6 x2 h3 O4 => ?_)
  replace O4 : Hold B h3 [(x2, obS ((some l6) : Sl Box))] := O4
  refine sim_make (A := Choice) O4 (⟨0, 0, 0, 0, 0⟩ : Choice) rfl (by decide) (fun l11 x7 h8 O9 => ?_)
  replace O9 : Hold B h8 [(x2, obS ((some l6) : Sl Box)), (x7, obS ((some l11) : Sl Choice))] := O9
  refine sim_make (A := Int) O9 0 rfl (by decide) (fun l16 x12 h13 O14 => ?_)
  replace O14 : Hold B h13 [(x2, obS ((some l6) : Sl Box)), (x7, obS ((some l11) : Sl Choice)), (x12, obS ((some l16) : Sl Int))] := O14
  refine sim_let (v := AV.agg [Sl.enc list_, x2, x7, x12]) (by first | rfl | simp [aBuild, aFill, splice, (O14.one (A := Box) (s := (some l6)) 0 rfl).1, (O14.one (A := Box) (s := (some l6)) 0 rfl).2, (O14.one (A := Choice) (s := (some l11)) 1 rfl).1, (O14.one (A := Choice) (s := (some l11)) 1 rfl).2, (O14.one (A := Int) (s := (some l16)) 2 rfl).1, (O14.one (A := Int) (s := (some l16)) 2 rfl).2]) ?_
  refine sim_box O14 (cs := [Sl.enc list_, x2, x7, x12]) (by first | rfl | simp [(O14.one (A := Box) (s := (some l6)) 0 rfl).1, (O14.one (A := Box) (s := (some l6)) 0 rfl).2, (O14.one (A := Choice) (s := (some l11)) 1 rfl).1, (O14.one (A := Choice) (s := (some l11)) 1 rfl).2, (O14.one (A := Int) (s := (some l16)) 2 rfl).1, (O14.one (A := Int) (s := (some l16)) 2 rfl).2]) (fun o17 h18 O19 => ?_)
  replace O19 : Hold B h18 [(x2, obS ((some l6) : Sl Box)), (x7, obS ((some l11) : Sl Choice)), (x12, obS ((some l16) : Sl Int)), (AV.ptr o17 1 0 0, .pt 4 [Sl.enc list_, x2, x7, x12])] := O19
  refine sim_bind ((tl0_impl_solved env he_impl_parser_solve list_ q1 x2 x7 x12 o17) ⟨_, _, _, rfl, O19⟩) (fun qq59 r hq => ?_)
  obtain ⟨q34, q36, q38, q39⟩ := qq59
  obtain ⟨q40, z33, z35, z37, h31, rfl, O32⟩ := hq
  rw [e_lk0x0_impl_solved]
  have O41 : Hold B h31 [(AV.ptr o17 1 0 0, .pt 4 [Sl.enc q39, z33, z35, z37]), (z33, obS (q34 : Sl Box)), (z35, obS (q36 : Sl Choice)), (z37, obS (q38 : Sl Int))] := O32.sel [3, 0, 1, 2] (by decide) rfl
  exact sim_ret ⟨_, _, _, _, rfl, O41⟩
noncomputable def ev_impl_solved : Nat → Contract := envL [(n_impl_parser_solve, .gen (denFn Try.prog ev_impl_parser_solve n_impl_parser_solve))]
theorem eo_impl_solved : EnvOK Try.prog ev_impl_solved := (EconsG (gen_of_den eo_impl_parser_solve mixed hb_impl_parser_solve) E0)
theorem tg_impl_solved {B : Base} {h : Heap} (list_ : Sl Symbol) (O : Hold B h []) : Sim (denFn Try.prog ev_impl_solved n_impl_solved [Sl.enc list_] h) (t_impl_solved list_) (fun c p => ∃ x1 : Nat, ∃ x2, ∃ x3, ∃ x4, p.1 = AV.ptr x1 1 0 0 ∧ Hold B p.2 ([(AV.ptr x1 1 0 0, .pt 4 [Sl.enc c.list, x2, x3, x4]), (x2, obS (c.boxes : Sl Box)), (x3, obS (c.best : Sl Choice)), (x4, obS (c.count : Sl Int))])) := ts_impl_solved ev_impl_solved (by simp [ev_impl_solved, envL]) list_  O

def t_impl_CountTrees (list_ : Sl Symbol) : Option (Int × Int) :=
  obind (t_impl_ValidSymbols list_) fun c1 =>
  bif !c1 then
    some (0, 1)
  else
    obind (t_impl_solved list_) fun c4 =>
    obind (getI (c4.count.getD []) (wr ((((c4.count.getD []).length : Nat) : Int) - 1))) fun a18 =>
    some (a18, 0)

theorem ts_impl_CountTrees (env : Nat → Contract) (he_impl_ValidSymbols : env n_impl_ValidSymbols = .pure (C1 (fun c : Bool => enc c) t_impl_ValidSymbols)) (he_impl_solved : env n_impl_solved = .gen (denFn Try.prog ev_impl_solved n_impl_solved)) (list_ : Sl Symbol) : Sim (denFn Try.prog env n_impl_CountTrees [Sl.enc list_] []) (t_impl_CountTrees list_) fun c p => release p.2 depth p.1 = some ((fun c : Int × Int => AV.tup [enc c.1, enc c.2]) c) := by
  have O := Hold.nil []
  generalize hB : (⟨[], []⟩ : Base) = B at O
  clear hB
  rw [e_impl_CountTrees]
  unfold t_impl_CountTrees
  refine sim_call1 he_impl_ValidSymbols (snapD_enc _ _) (fun c1 => ?_)
  refine sim_let2 (hand_plain (by rfl) _ _) ?_
  refine sim_let (v := bv (!c1)) (aUn_not _) ?_
  refine sim_cond (fun c2 => ?_) (fun c2 => ?_)
  · exact sim_ret (release_plain (by rfl) _)
  · have O3 := O
    refine sim_gen he_impl_solved (tg_impl_solved list_ (Hold.startL (L := []) (R := []) O3)) (fun c4 v5 h6 hq7 => ?_)
    obtain ⟨o10, x12, x14, x16, e_v5, O8⟩ := hq7
    dsimp only at e_v5
    subst v5
    have O9 : Hold B h6 [(AV.ptr o10 1 0 0, .pt 4 [Sl.enc c4.list, x12, x14, x16]), (x12, obS (c4.boxes : Sl Box)), (x14, obS (c4.best : Sl Choice)), (x16, obS (c4.count : Sl Int))] := Hold.mergeL (L := []) (R := []) O3 O8
    refine sim_let (v := AV.ptr o10 1 0 0) rfl ?_
    refine sim_let (v := AV.ptr o10 1 0 3) rfl ?_
    refine sim_let (v := x16) (O9.ld 0 rfl false 1 3) ?_
    refine sim_let (v := AV.ptr o10 1 0 0) rfl ?_
    refine sim_let (v := AV.ptr o10 1 0 3) rfl ?_
    refine sim_let (v := x16) (O9.ld 0 rfl false 1 3) ?_
    refine sim_let (v := iv (((c4.count.getD []).length : Nat) : Int)) (O9.tab (A := Int) (s := c4.count) 3 rfl).len ?_
    refine sim_let (v := iv (wr ((((c4.count.getD []).length : Nat) : Int) - 1))) (aBin_sub _ _) ?_
    refine sim_get (O9.tab (A := Int) (s := c4.count) 3 rfl) (fun m19 a18 hi20 hm21 => ?_)
    refine sim_let (v := iv a18) ((O9.tab (A := Int) (s := c4.count) 3 rfl).ld hm21 false 1 0) ?_
    exact sim_ret (release_plain (by rfl) _)
theorem tt_impl_CountTrees : PureOK Try.prog n_impl_CountTrees (C1 (fun c : Int × Int => AV.tup [enc c.1, enc c.2]) t_impl_CountTrees) := pureC1 (Econs tt_impl_ValidSymbols (EconsG (gen_of_den eo_impl_solved mixed hb_impl_solved) E0)) mixed hb_impl_CountTrees fun list_ => ts_impl_CountTrees _ (by simp [envL]) (by simp [envL]) list_

def t_laws_FnExactCountTrees (aList_ : Sl Symbol) : Option Bool :=
  obind (t_laws_szSymbolS aList_ 1048576) fun c1 =>
  bif decide (c1 < 0) then
    some true
  else
    obind (t_laws_toSymbolS aList_) fun c3 =>
    obind (t_spec_CountTrees c3) fun c8 =>
    obind (t_laws_toSymbolS aList_) fun c9 =>
    obind (t_impl_CountTrees c9) fun c14 =>
    obind (bif !decide (c14.1 = c8.1) then some false else (some (!decide (c14.2 = c8.2)))) fun c16 =>
    bif (bif !decide (c14.1 = c8.1) then true else c16) then
      some false
    else
      obind (t_laws_toSymbolS aList_) fun c18 =>
      obind (t_laws_eqSymbolS c9 c18) fun c23 =>
      bif !c23 then
        some false
      else
        some true

theorem ts_laws_FnExactCountTrees (env : Nat → Contract) (he_impl_CountTrees : env n_impl_CountTrees = .pure (C1 (fun c : Int × Int => AV.tup [enc c.1, enc c.2]) t_impl_CountTrees)) (he_laws_eqSymbolS : env n_laws_eqSymbolS = .pure (C2 (fun c : Bool => enc c) t_laws_eqSymbolS)) (he_laws_szSymbolS : env n_laws_szSymbolS = .pure (C2 (fun c : Int => enc c) t_laws_szSymbolS)) (he_laws_toSymbolS : env n_laws_toSymbolS = .pure (C1 (fun c : (Sl Symbol) => rS c) t_laws_toSymbolS)) (he_spec_CountTrees : env n_spec_CountTrees = .pure (C1 (fun c : Int × Int => AV.tup [enc c.1, enc c.2]) t_spec_CountTrees)) (aList_ : Sl Symbol) : Sim (denFn Try.prog env n_laws_FnExactCountTrees [Sl.enc aList_] []) (t_laws_FnExactCountTrees aList_) fun c p => release p.2 depth p.1 = some ((fun c : Bool => enc c) c) := by
  have O := Hold.nil []
  generalize hB : (⟨[], []⟩ : Base) = B at O
  clear hB
  rw [e_laws_FnExactCountTrees]
  unfold t_laws_FnExactCountTrees
  refine sim_call2 he_laws_szSymbolS (snapD_enc _ _) (snapD_int _ _) (fun c1 => ?_)
  refine sim_let2 (hand_plain (by rfl) _ _) ?_
  refine sim_let (v := bv (decide (c1 < 0))) (aBin_lss _ _) ?_
  refine sim_cond (fun c2 => ?_) (fun c2 => ?_)
  · exact sim_ret (release_plain (by rfl) _)
  · refine sim_call1 he_laws_toSymbolS (snapD_enc _ _) (fun c3 => ?_)
    refine sim_hand (A := Symbol) O (fun x5 h6 O7 => ?_)
    replace O7 : Hold B h6 [(x5, obS (c3 : Sl Symbol))] := O7
    refine sim_call1 he_spec_CountTrees ((O7.tab (A := Symbol) (s := c3) 0 rfl).snap) (fun c8 => ?_)
    refine sim_let2 (hand_plain (by rfl) _ _) ?_
    refine sim_let (v := iv c8.1) rfl ?_
    refine sim_let (v := iv c8.2) rfl ?_
    refine sim_call1 he_laws_toSymbolS (snapD_enc _ _) (fun c9 => ?_)
    refine sim_hand (A := Symbol) O7 (fun x11 h12 O13 => ?_)
    replace O13 : Hold B h12 [(x5, obS (c3 : Sl Symbol)), (x11, obS (c9 : Sl Symbol))] := O13
    refine sim_call1 he_impl_CountTrees ((O13.tab (A := Symbol) (s := c9) 1 rfl).snap) (fun c14 => ?_)
    refine sim_let2 (hand_plain (by rfl) _ _) ?_
    refine sim_let (v := iv c14.1) rfl ?_
    refine sim_let (v := iv c14.2) rfl ?_
    refine sim_let (v := bv (!decide (c14.1 = c8.1))) (aCmp_ne _ _) ?_
    refine sim_guardF (e := bv) (fun hb15 => ?_) (fun c16 => ?_)
    · refine sim_let (v := bv (!decide (c14.2 = c8.2))) (aCmp_ne _ _) ?_
      exact sim_ret rfl
    · refine sim_let (v := bv (bif !decide (c14.1 = c8.1) then true else c16)) (pick_b' _ _ _) ?_
      refine sim_cond (fun c17 => ?_) (fun c17 => ?_)
      · exact sim_ret (release_plain (by rfl) _)
      · refine sim_call1 he_laws_toSymbolS (snapD_enc _ _) (fun c18 => ?_)
        refine sim_hand (A := Symbol) O13 (fun x20 h21 O22 => ?_)
        replace O22 : Hold B h21 [(x5, obS (c3 : Sl Symbol)), (x11, obS (c9 : Sl Symbol)), (x20, obS (c18 : Sl Symbol))] := O22
        refine sim_call2 he_laws_eqSymbolS ((O22.tab (A := Symbol) (s := c9) 1 rfl).snap) ((O22.tab (A := Symbol) (s := c18) 2 rfl).snap) (fun c23 => ?_)
        refine sim_let2 (hand_plain (by rfl) _ _) ?_
        refine sim_let (v := bv (!c23)) (aUn_not _) ?_
        refine sim_cond (fun c24 => ?_) (fun c24 => ?_)
        · exact sim_ret (release_plain (by rfl) _)
        · exact sim_ret (release_plain (by rfl) _)
theorem tt_laws_FnExactCountTrees : PureOK Try.prog n_laws_FnExactCountTrees (C1 (fun c : Bool => enc c) t_laws_FnExactCountTrees) := pureC1 (Econs tt_impl_CountTrees (Econs tt_laws_eqSymbolS (Econs tt_laws_szSymbolS (Econs tt_laws_toSymbolS (Econs tt_spec_CountTrees E0))))) mixed hb_laws_FnExactCountTrees fun aList_ => ts_laws_FnExactCountTrees _ (by simp [envL]) (by simp [envL]) (by simp [envL]) (by simp [envL]) (by simp [envL]) aList_

theorem wr_succ {k n : Nat} (h : k < n) (hn : n ≤ 4294967296) : wr ((k : Int) + 1) = ((k + 1 : Nat) : Int) := by
  rw [wr_id (by omega) (by omega)]
  omega

theorem get_lt {A : Type} {l : List A} {k : Nat} {a : A} (h : l[k]? = some a) : k < l.length := (List.getElem?_eq_some_iff.1 h).1

/-- A point that is one; the points of a stroke that is one. -/
structure PtV (p : Point) : Prop where
  x0 : 0 ≤ p.x
  x1 : p.x ≤ 4095
  y0 : 0 ≤ p.y
  y1 : p.y ≤ 4095
  t0 : 0 ≤ p.t
  t1 : p.t ≤ 3600000

structure StV (l : List Point) : Prop where
  pts : ∀ p ∈ l, PtV p
  inc : ∀ (k : Nat) p q, l[k]? = some p → l[k + 1]? = some q → p.t < q.t
  n1 : 1 ≤ l.length
  n2 : l.length ≤ 60

/-- Points of a bounded size. -/
structure PtB (p : Point) : Prop where
  x0 : -10000000 ≤ p.x
  x1 : p.x ≤ 10000000
  y0 : -10000000 ≤ p.y
  y1 : p.y ≤ 10000000
  t0 : -10000000 ≤ p.t
  t1 : p.t ≤ 10000000

structure StB (s : Stroke) : Prop where
  n : (s.points.getD []).length ≤ 100
  pts : ∀ p ∈ s.points.getD [], PtB p

theorem PtV.b {p : Point} (h : PtV p) : PtB p := by
  obtain ⟨h1, h2, h3, h4, h5, h6⟩ := h
  exact ⟨by omega, by omega, by omega, by omega, by omega, by omega⟩

theorem StV.b {l : List Point} (h : StV l) : StB ⟨some l⟩ := ⟨Nat.le_trans h.n2 (by omega), fun p hp => (h.pts p hp).b⟩

/-- Ink that is one. -/
structure InkV (L : List Stroke) : Prop where
  st : ∀ s ∈ L, ∃ l, s = ⟨some l⟩ ∧ StV l
  inc : ∀ (k : Nat) l l', L[k]? = some ⟨some l⟩ → L[k + 1]? = some ⟨some l'⟩ → ∀ p ∈ l, ∀ q ∈ l', p.t < q.t
  n : L.length ≤ 16

theorem InkV.b {L : List Stroke} (h : InkV L) : ∀ x ∈ L, StB x := fun x hx => by
  obtain ⟨l, rfl, hl⟩ := h.st x hx
  exact hl.b

theorem firstL_so {A R : Type} {f : Nat → A → Option R} : ∀ {l : List A} {k : Nat} {r : R}, firstL f l k = some r → ∃ i a, f i a = some r
  | [], _, _, h => by cases h
  | b :: l, k, r, h => by
    unfold firstL at h
    cases e : f k b with
    | some r' => rw [e] at h; cases h; exact ⟨k, b, e⟩
    | none => rw [e] at h; exact firstL_so h

def pt (l : List Point) (i : Nat) : Point := l.getD i ⟨0, 0, 0⟩

/-- A table's entry. -/
def Val (T : List (Sl Int)) (p q : Nat) (v : Int) : Prop := ∃ row, T[p]? = some (some row) ∧ row[q]? = some v

theorem Val.set {T : List (Sl Int)} {i j p q : Nat} {row : List Int} {v w : Int} (hr : T[i]? = some (some row)) (hj : j < row.length) :
    Val (T.set i (some (row.set j w))) p q v ↔ (p = i ∧ q = j ∧ v = w) ∨ (¬ (p = i ∧ q = j) ∧ Val T p q v) := by
  have hi := get_lt hr
  unfold Val
  constructor
  · rintro ⟨r, h1, h2⟩
    by_cases c : i = p
    · subst c
      rw [List.getElem?_set_self hi] at h1
      cases h1
      by_cases d : j = q
      · subst d
        rw [List.getElem?_set_self hj] at h2
        cases h2
        exact .inl ⟨rfl, rfl, rfl⟩
      · rw [List.getElem?_set_ne d] at h2
        exact .inr ⟨fun h => d h.2.symm, row, hr, h2⟩
    · rw [List.getElem?_set_ne c] at h1
      exact .inr ⟨fun h => c h.1.symm, r, h1, h2⟩
  · rintro (⟨rfl, rfl, rfl⟩ | ⟨hne, r, h1, h2⟩)
    · exact ⟨_, List.getElem?_set_self hi, List.getElem?_set_self hj⟩
    · by_cases c : i = p
      · subst c
        rw [hr] at h1
        cases h1
        have d : j ≠ q := fun h => hne ⟨rfl, h.symm⟩
        exact ⟨_, List.getElem?_set_self hi, by rw [List.getElem?_set_ne d]; exact h2⟩
      · exact ⟨r, by rw [List.getElem?_set_ne c]; exact h1, h2⟩

def PVal (T : List (Sl Part)) (p q : Nat) (v : Part) : Prop := ∃ row, T[p]? = some (some row) ∧ row[q]? = some v

theorem PVal.set {T : List (Sl Part)} {i j p q : Nat} {row : List Part} {v w : Part} (hr : T[i]? = some (some row)) (hj : j < row.length) :
    PVal (T.set i (some (row.set j w))) p q v ↔ (p = i ∧ q = j ∧ v = w) ∨ (¬ (p = i ∧ q = j) ∧ PVal T p q v) := by
  have hi := get_lt hr
  unfold PVal
  constructor
  · rintro ⟨r, h1, h2⟩
    by_cases c : i = p
    · subst c
      rw [List.getElem?_set_self hi] at h1
      cases h1
      by_cases d : j = q
      · subst d
        rw [List.getElem?_set_self hj] at h2
        cases h2
        exact .inl ⟨rfl, rfl, rfl⟩
      · rw [List.getElem?_set_ne d] at h2
        exact .inr ⟨fun h => d h.2.symm, row, hr, h2⟩
    · rw [List.getElem?_set_ne c] at h1
      exact .inr ⟨fun h => c h.1.symm, r, h1, h2⟩
  · rintro (⟨rfl, rfl, rfl⟩ | ⟨hne, r, h1, h2⟩)
    · exact ⟨_, List.getElem?_set_self hi, List.getElem?_set_self hj⟩
    · by_cases c : i = p
      · subst c
        rw [hr] at h1
        cases h1
        have d : j ≠ q := fun h => hne ⟨rfl, h.symm⟩
        exact ⟨_, List.getElem?_set_self hi, by rw [List.getElem?_set_ne d]; exact h2⟩
      · exact ⟨r, by rw [List.getElem?_set_ne c]; exact h1, h2⟩

def d2 (a b : Point) : Int := (a.x - b.x) * (a.x - b.x) + (a.y - b.y) * (a.y - b.y)

def pbox (p : Point) : Box := ⟨p.x, p.y, p.x, p.y⟩

/-- One box is in another one. -/
structure InB (a b : Box) : Prop where
  x1 : b.x1 ≤ a.x1
  y1 : b.y1 ≤ a.y1
  x2 : a.x2 ≤ b.x2
  y2 : a.y2 ≤ b.y2

theorem PtV.box {p : Point} (h : PtV p) : InB (pbox p) ⟨0, 0, 4095, 4095⟩ := ⟨h.x0, h.y0, h.x1, h.y1⟩

def side (b : Box) : Int := max (max (b.x2 - b.x1) (b.y2 - b.y1)) 1

/-- A copy, element by element. -/
theorem copyLoop {A : Type} (d : A) (l : List A) (hl : l.length ≤ 4294967296) (step : ((Sl A) × Int) → Option (Sum ((Sl A) × Int) (Sl A)))
    (next : ∀ (M : List A) (k : Nat) (a : A), M.length = l.length → l[k]? = some a → step (some M, (k : Int)) = some (.inl (some (M.set k a), wr ((k : Int) + 1))))
    (fin : ∀ w : Sl A, step (w, ((l.length : Nat) : Int)) = some (.inr w)) : loopT step (some (List.replicate l.length d), 0) = some (some l) := by
  obtain ⟨r, h1, h2⟩ := loopT_ex (step := step) (fun k t => ∃ M, t = (some M, (k : Int)) ∧ M.length = l.length ∧ ∀ j, j < k → M[j]? = l[j]?) l.length (fun r => r = some l)
    (fun k t hk ht => by
      obtain ⟨M, rfl, m1, m2⟩ := ht
      obtain ⟨a, ha⟩ : ∃ a, l[k]? = some a := ⟨l[k], List.getElem?_eq_getElem hk⟩
      have e := next M k a m1 ha
      rw [wr_succ hk hl] at e
      refine .inl ⟨_, e, _, rfl, by rw [List.length_set, m1], fun j hj => ?_⟩
      by_cases c : j = k
      · subst c
        rw [List.getElem?_set_self (by omega), ha]
      · rw [List.getElem?_set_ne (fun h => c h.symm)]
        exact m2 j (by omega))
    (fun t ht => by
      obtain ⟨M, rfl, m1, m2⟩ := ht
      refine ⟨_, fin _, ?_⟩
      congr 1
      apply List.ext_getElem?
      intro j
      by_cases c : j < l.length
      · exact m2 j c
      · rw [List.getElem?_eq_none (by omega), List.getElem?_eq_none (by omega)])
    (s := (some (List.replicate l.length d), 0)) ⟨_, rfl, by simp, fun j hj => by omega⟩
  rw [h1, h2]

theorem toSymbolS_ok (a : Sl Symbol) (hl : (a.getD []).length ≤ 4294967296) : t_laws_toSymbolS a = some (some (a.getD [])) := by
  have mk : makeO (⟨(⟨#[]⟩ : ByteArray), ⟨0, 0, 0, 0⟩⟩ : Symbol) (((a.getD []).length : Nat) : Int) = some (List.replicate (a.getD []).length ⟨(⟨#[]⟩ : ByteArray), ⟨0, 0, 0, 0⟩⟩) := by
    unfold makeO
    rw [if_pos ⟨by omega, by omega⟩, Int.toNat_natCast]
  have lp := copyLoop (⟨(⟨#[]⟩ : ByteArray), ⟨0, 0, 0, 0⟩⟩ : Symbol) (a.getD []) hl (s0_laws_toSymbolS a) (fun M k x hM hx => by
    have hk := get_lt hx
    have c : (k : Int) < (((a.getD []).length : Nat) : Int) := by omega
    obtain ⟨y, hy⟩ : ∃ y, M[k]? = some y := ⟨M[k]'(by omega), List.getElem?_eq_getElem _⟩
    unfold s0_laws_toSymbolS
    simp only [c, decide_true, cond_true, getI_nat hx, obind_sm, Option.getD_some, getI_nat hy, setS, Option.map_some, Int.toNat_natCast]) (fun w => by
    unfold s0_laws_toSymbolS
    simp only [Int.lt_irrefl, decide_false, cond_false])
  unfold t_laws_toSymbolS
  rw [mk, obind_sm, lp, obind_sm]

theorem eqSy_ok {a b : Sl Symbol} (h : a.getD [] = b.getD []) (hl : (a.getD []).length ≤ 4294967296) : t_laws_eqSymbolS a b = some true := by
  have lp := loopT_first (step := s0_laws_eqSymbolS a b) (a.getD []) (fun _ _ => (none : Option Bool)) (.inl ()) .inr
    (fun k x hx => by
      have hk := get_lt hx
      have c : (k : Int) < ((a.getD []).length : Nat) := by omega
      unfold s0_laws_eqSymbolS
      simp only [c, decide_true, cond_true, getI_nat hx, ← h, obind_sm, Bool.not_true, cond_false, wr_succ hk hl])
    (by
      unfold s0_laws_eqSymbolS
      simp only [Int.lt_irrefl, decide_false, cond_false])
  rw [firstL_none (fun _ _ _ => rfl)] at lp
  unfold t_laws_eqSymbolS
  rw [lp, ← h]
  simp

theorem szSymbolS_ok (a : Sl Symbol) (hl0 : (a.getD []).length ≤ 9223372036854775807) : ∃ r, t_laws_szSymbolS a 1048576 = some r ∧ (r < 0 ∨ (a.getD []).length ≤ 1048576) := by
  have ws : wr (1048576 - (((a.getD []).length : Nat) : Int)) = 1048576 - (((a.getD []).length : Nat) : Int) := wr_id (by omega) (by omega)
  by_cases c1 : 1048576 - (((a.getD []).length : Nat) : Int) < 0
  · refine ⟨-1, ?_, .inl (by omega)⟩
    unfold t_laws_szSymbolS
    rw [ws]
    simp [c1]
  have hn : (a.getD []).length ≤ 1048576 := by omega
  have hl : (a.getD []).length ≤ 4294967296 := by omega
  have sz : ∀ (x : Symbol) (k : Int), ∃ r, t_laws_szSymbol x k = some r := fun x k => by
    unfold t_laws_szSymbol
    cases decide (wr (k - (x.label.size : Int)) < 0) with
    | true => exact ⟨_, rfl⟩
    | false => exact ⟨_, rfl⟩
  obtain ⟨q, e, _⟩ := loopT_ex (step := s0_laws_szSymbolS a) (fun k t => t.2 = (k : Int)) (a.getD []).length (fun _ => True)
    (fun k ⟨w, i⟩ hk h2 => by
      simp only at h2
      subst h2
      have c : (k : Int) < (((a.getD []).length : Nat) : Int) := by omega
      obtain ⟨x, hx⟩ : ∃ x, (a.getD [])[k]? = some x := ⟨_, List.getElem?_eq_getElem hk⟩
      obtain ⟨r, hr⟩ := sz x w
      unfold s0_laws_szSymbolS
      simp only [c, decide_true, cond_true, getI_nat hx, obind_sm, hr, wr_succ hk hl]
      cases decide (r < 0) with
      | true => exact .inr ⟨_, rfl, trivial⟩
      | false => exact .inl ⟨_, rfl, rfl⟩)
    (fun ⟨w, i⟩ h2 => by
      simp only at h2
      subst h2
      refine ⟨.inl w, ?_, trivial⟩
      unfold s0_laws_szSymbolS
      simp only [Int.lt_irrefl, decide_false, cond_false])
    (s := (1048576 - (((a.getD []).length : Nat) : Int), 0)) rfl
  have d : decide (1048576 - (((a.getD []).length : Nat) : Int) < 0) = false := decide_eq_false c1
  cases q with
  | inl q =>
    refine ⟨q, ?_, .inr hn⟩
    unfold t_laws_szSymbolS
    rw [ws, d, cond_false, e]
    rfl
  | inr q =>
    refine ⟨q, ?_, .inr hn⟩
    unfold t_laws_szSymbolS
    rw [ws, d, cond_false, e]
    rfl

def fSy (_ : Nat) (b : Symbol) : Option Bool := bif !okSym b then some false else none

/-- The symbols are valid. -/
def okSys (l : List Symbol) : Bool := match firstL fSy l 0 with
  | none => decide (l.length ≤ 8)
  | some r => r

theorem l20Ok_ok (s : Sl Symbol) (hl : (s.getD []).length ≤ 4294967296) : t_spec_l20Ok s = some (okSys (s.getD [])) := by
  have lp := loopT_first (step := s0_spec_l20Ok s) (s.getD []) fSy (.inl ()) .inr
    (fun k x hx => by
      have hk := get_lt hx
      have c : (k : Int) < (((s.getD []).length : Nat) : Int) := by omega
      unfold s0_spec_l20Ok fSy okSym
      simp only [c, decide_true, cond_true, getI_nat hx, obind_sm, wr_succ hk hl]
      cases isLabel x.label <;> cases validBox x.box <;> rfl)
    (by
      unfold s0_spec_l20Ok
      simp only [Int.lt_irrefl, decide_false, cond_false])
  have d : decide ((((s.getD []).length : Nat) : Int) ≤ 8) = decide ((s.getD []).length ≤ 8) := decide_eq_decide.2 (by omega)
  unfold t_spec_l20Ok okSys
  rw [lp]
  cases firstL fSy (s.getD []) 0 with
  | none => simp only [obind_sm, d]
  | some r => rfl

theorem fSy_some {l : List Symbol} {r : Bool} {k : Nat} (h : firstL fSy l k = some r) : r = false := by
  obtain ⟨i, a, hf⟩ := firstL_so h
  unfold fSy at hf
  cases h2 : okSym a <;> rw [h2] at hf <;> cases hf
  rfl

theorem validSys_ok (s : Sl Symbol) (hl : (s.getD []).length ≤ 4294967296) : t_impl_ValidSymbols s = some (okSys (s.getD [])) := by
  have lp := loopT_first (step := s0_slices_IndexFunc_impl_Symbol_impl_Symbol (fun a => some ((fun b : Symbol => !okSym b) a)) s) (s.getD []) (fun k a => bif !okSym a then some (k : Int) else none) (.inl ()) .inr
    (fun k a ha => by
      have hk := get_lt ha
      have c : (k : Int) < (((s.getD []).length : Nat) : Int) := by omega
      unfold s0_slices_IndexFunc_impl_Symbol_impl_Symbol
      simp only [c, decide_true, cond_true, getI_nat ha, obind_sm, wr_succ hk hl]
      cases okSym a <;> rfl)
    (by
      unfold s0_slices_IndexFunc_impl_Symbol_impl_Symbol
      simp only [Int.lt_irrefl, decide_false, cond_false])
  have key : ∀ (l : List Symbol) (k : Nat), (firstL (fun (k : Nat) a => bif !okSym a then some (k : Int) else none) l k = none ∧ firstL fSy l k = none) ∨ ∃ r, firstL (fun (k : Nat) a => bif !okSym a then some (k : Int) else none) l k = some r ∧ 0 ≤ r ∧ firstL fSy l k = some false := by
    intro l
    induction l with
    | nil => intro k; exact .inl ⟨rfl, rfl⟩
    | cons a l ih =>
      intro k
      unfold firstL fSy
      cases e : okSym a with
      | true =>
        simp only [Bool.not_true, cond_false]
        exact ih (k + 1)
      | false => exact .inr ⟨(k : Int), rfl, by omega, rfl⟩
  have cf : t_slices_ContainsFunc_impl_Symbol_impl_Symbol (fun a => some ((fun s : Symbol => !okSym s) a)) s = some (firstL fSy (s.getD []) 0).isSome := by
    unfold t_slices_ContainsFunc_impl_Symbol_impl_Symbol t_slices_IndexFunc_impl_Symbol_impl_Symbol
    rw [lp]
    rcases key (s.getD []) 0 with ⟨h1, h2⟩ | ⟨r, h1, h2, h3⟩
    · rw [h1, h2]
      simp
    · rw [h1, h3]
      simp [h2]
  have d : decide ((((s.getD []).length : Nat) : Int) ≤ 8) = decide ((s.getD []).length ≤ 8) := decide_eq_decide.2 (by omega)
  unfold t_impl_ValidSymbols okSys
  rw [cf, d]
  cases h : firstL fSy (s.getD []) 0 with
  | none => cases decide ((s.getD []).length ≤ 8) <;> rfl
  | some r =>
    have := fSy_some h
    subst this
    cases decide ((s.getD []).length ≤ 8) <;> rfl

theorem okSys_len {l : List Symbol} (h : okSys l = true) : l.length ≤ 8 := by
  unfold okSys at h
  cases e : firstL fSy l 0 with
  | some r =>
    rw [e] at h
    simp only at h
    rw [fSy_some e] at h
    cases h
  | none =>
    rw [e] at h
    exact of_decide_eq_true h

theorem make_len {A : Type} (d : A) {n : Nat} (h : n ≤ 4294967296) : makeO d ((n : Nat) : Int) = some (List.replicate n d) := by
  unfold makeO
  rw [if_pos ⟨by omega, by omega⟩, Int.toNat_natCast]

/-! ### The cost of a text in a lattice: the least cost of a path -/
inductive Wy (E : List Edg) (lab : Nat → ByteArray) : Nat → Nat → Int → Prop
  | start : Wy E lab 0 0 0
  | step {k u v : Nat} {c : Int} {i : Nat} {e : Edg} : Wy E lab k u c → E[i]? = some e → e.frm = (u : Int) → e.upto = (v : Int) → e.label = lab k → Wy E lab (k + 1) v (c + e.cost)

/-- .. what the first j edges tell of the next row. -/
def Nxt (E : List Edg) (lab : Nat → ByteArray) (k j : Nat) (v : Nat) (c : Int) : Prop := ∃ i e u c', i < j ∧ E[i]? = some e ∧ e.frm = ((u : Nat) : Int) ∧ e.upto = (v : Int) ∧ e.label = lab k ∧ Wy E lab k u c' ∧ c = c' + e.cost

theorem Nxt.all {E : List Edg} {lab : Nat → ByteArray} {k v : Nat} {c : Int} : Nxt E lab k E.length v c ↔ Wy E lab (k + 1) v c := by
  constructor
  · rintro ⟨i, e, u, c', _, he, hf, hu, hl, hw, rfl⟩
    exact .step hw he hf hu hl
  · intro h
    cases h with
    | step hw he hf hu hl => exact ⟨_, _, _, _, get_lt he, he, hf, hu, hl, hw, rfl⟩

/-! ### Sets of symbols as numbers; sums -/
theorem wr_shift (x q : Int) : wr (x + 18446744073709551616 * q) = wr x := by
  simp only [wr, IntKind.wrap, IntKind.bits, IntKind.signed]
  first | omega | (simp; done)

theorem wr_mod (x : Int) : ∃ q, wr x = x + 18446744073709551616 * q := by
  have h : ∃ q, wr x = x - 18446744073709551616 * q := by
    simp only [wr, IntKind.wrap, IntKind.bits, IntKind.signed]
    by_cases h : x % 18446744073709551616 ≥ 9223372036854775808
    · exact ⟨x / 18446744073709551616 + 1, by simp [h]; omega⟩
    · exact ⟨x / 18446744073709551616, by simp [h]; omega⟩
  obtain ⟨q, hq⟩ := h
  exact ⟨-q, by rw [hq]; omega⟩

theorem wr_add_l (x y : Int) : wr (wr x + y) = wr (x + y) := by
  obtain ⟨q, h⟩ := wr_mod x
  rw [h, show x + 18446744073709551616 * q + y = x + y + 18446744073709551616 * q by omega, wr_shift]

theorem wr_add_r (x y : Int) : wr (x + wr y) = wr (x + y) := by
  rw [Int.add_comm, wr_add_l, Int.add_comm]

theorem andI_nat {a b : Nat} (ha : a < 4294967296) (hb : b < 4294967296) : andI (a : Int) (b : Int) = ((a &&& b : Nat) : Int) := by
  unfold andI
  have h1 : (BitVec.ofInt 64 (a : Int) &&& BitVec.ofInt 64 (b : Int)).toNat = a &&& b := by
    rw [BitVec.toNat_and, BitVec.ofInt_natCast, BitVec.ofInt_natCast, BitVec.toNat_ofNat, BitVec.toNat_ofNat, Nat.mod_eq_of_lt (by omega), Nat.mod_eq_of_lt (by omega)]
  have h2 : a &&& b ≤ a := Nat.and_le_left
  rw [h1, wr_id (by omega) (by omega)]

def dif (m a : Nat) : Nat := (BitVec.ofNat 64 m &&& ~~~ BitVec.ofNat 64 a).toNat

theorem dif_le (m a : Nat) (hm : m < 4294967296) : dif m a ≤ m := by
  unfold dif
  rw [BitVec.toNat_and]
  have : (BitVec.ofNat 64 m).toNat = m := by rw [BitVec.toNat_ofNat, Nat.mod_eq_of_lt (by omega)]
  rw [this]
  exact Nat.and_le_left

theorem andNotI_nat {m a : Nat} (hm : m < 4294967296) : andNotI (m : Int) (a : Int) = (dif m a : Int) := by
  have h := dif_le m a hm
  unfold andNotI
  rw [BitVec.ofInt_natCast, BitVec.ofInt_natCast]
  show wr ((dif m a : Nat) : Int) = _
  rw [wr_id (by omega) (by omega)]

def subA (m : Nat) : List Nat := (List.range m).filter fun a => decide (0 < a) && decide (a &&& m = a)

def chainB (m : Nat) : List Nat → Bool
  | [] => true
  | a :: r => (decide (0 < a) && decide ((a - 1) &&& m = r.headD 0)) && chainB m r

theorem sub_chain : ∀ m : Fin 256, (decide ((m.val - 1) &&& m.val = (subA m.val).reverse.headD 0) && chainB m.val (subA m.val).reverse) = true := by decide +kernel

theorem sub_dif : ∀ m : Fin 256, ((subA m.val).all fun a => decide (dif m.val a < m.val) && decide (dif m.val a ≠ 0)) = true := by decide +kernel

theorem one_less : ∀ (m : Fin 256) (i : Fin 8), (decide (dif m.val (2 ^ i.val) = m.val) || (decide (dif m.val (2 ^ i.val) < m.val) && (decide (m.val &&& (m.val - 1) = 0) || decide (dif m.val (2 ^ i.val) ≠ 0)))) = true := by decide +kernel

def sumL (f : Nat → Int) (l : List Nat) : Int := (l.map f).sum

theorem sumL_cons (f : Nat → Int) (a : Nat) (l : List Nat) : sumL f (a :: l) = f a + sumL f l := by simp [sumL]

theorem sumL_app (f : Nat → Int) : ∀ l r : List Nat, sumL f (l ++ r) = sumL f l + sumL f r
  | [], r => by simp [sumL]
  | a :: l, r => by rw [List.cons_append, sumL_cons, sumL_cons, sumL_app f l r]; omega

theorem sumL_rev (f : Nat → Int) : ∀ l : List Nat, sumL f l.reverse = sumL f l
  | [] => rfl
  | a :: l => by
    rw [List.reverse_cons, sumL_app, sumL_rev f l, sumL_cons, sumL_cons]
    simp [sumL]
    omega

theorem sumL_add (f g : Nat → Int) : ∀ l : List Nat, sumL (fun a => f a + g a) l = sumL f l + sumL g l
  | [] => rfl
  | a :: l => by rw [sumL_cons, sumL_cons, sumL_cons, sumL_add f g l]; omega

theorem sumL_congr {f g : Nat → Int} : ∀ {l : List Nat}, (∀ a ∈ l, f a = g a) → sumL f l = sumL g l
  | [], _ => rfl
  | a :: l, h => by rw [sumL_cons, sumL_cons, h a List.mem_cons_self, sumL_congr fun b hb => h b (List.mem_cons_of_mem _ hb)]

/-! ### One way to make a set of its parts, on both sides -/
def fitsK (k : Int) (s a b : Box) : Bool :=
  bif decide (k = 1) then decide (relation a b = 1) else bif decide (k = 3) then decide (relation a b = 4) else bif decide (k = 4) then decide (relation a b = 5) else
    bif decide (k = 2) then (decide (relation s a = 2) && decide (relation s b = 3)) else decide (relation s a = 6)

def kindOK (k : Int) (b : Nat) : Prop := (k = 1 ∧ b ≠ 0) ∨ (k = 2 ∧ b ≠ 0) ∨ (k = 3 ∧ b ≠ 0) ∨ (k = 4 ∧ b ≠ 0) ∨ (k = 5 ∧ b = 0)

theorem join_fits {k : Int} {b : Nat} (hk : kindOK k b) (x y s : Box) : ∃ c, t_impl_joinCost k x y s = some (c, fitsK k s x y) := by
  unfold t_impl_joinCost fitsK
  rcases hk with ⟨rfl, _⟩ | ⟨rfl, _⟩ | ⟨rfl, _⟩ | ⟨rfl, _⟩ | ⟨rfl, _⟩
  · exact ⟨_, rfl⟩
  · refine ⟨wr (absI (wr (wr (wr (x.x1 + x.x2) - s.x1) - s.x2)) + absI (wr (wr (wr (y.x1 + y.x2) - s.x1) - s.x2))), ?_⟩
    simp only [obind_sm, show decide ((2 : Int) = 1) = false from rfl, show decide ((2 : Int) = 3) = false from rfl, show decide ((2 : Int) = 4) = false from rfl, decide_true, cond_true, cond_false]
    cases decide (relation s x = 2) <;> rfl
  · exact ⟨_, rfl⟩
  · exact ⟨_, rfl⟩
  · exact ⟨_, rfl⟩

theorem spec_fits {k : Int} {b : Nat} (hk : kindOK k b) (x y s : Box) : t_spec_l21Fits k s x y = some (fitsK k s x y) := by
  unfold t_spec_l21Fits fitsK
  rcases hk with ⟨rfl, _⟩ | ⟨rfl, _⟩ | ⟨rfl, _⟩ | ⟨rfl, _⟩ | ⟨rfl, _⟩
  · rfl
  · simp only [obind_sm, show decide ((2 : Int) = 1) = false from rfl, show decide ((2 : Int) = 3) = false from rfl, show decide ((2 : Int) = 4) = false from rfl, decide_true, cond_true, cond_false]
    cases decide (relation s x = 2) <;> rfl
  · rfl
  · rfl
  · rfl

theorem spec_own {k : Int} {b : Nat} (hk : kindOK k b) (x y s : Box) : ∃ c, t_spec_l21Own k s x y = some c := by
  unfold t_spec_l21Own
  rcases hk with ⟨rfl, _⟩ | ⟨rfl, _⟩ | ⟨rfl, _⟩ | ⟨rfl, _⟩ | ⟨rfl, _⟩ <;> exact ⟨_, rfl⟩

def termT (bx : Nat → Box) (base : Nat → Int) (k : Int) (s : Box) (a b : Nat) : Int := bif fitsK k s (bx a) (bx b) then (bif decide (b = 0) then base a else base a * base b) else 0

def upd (base : Nat → Int) (S : Nat) (x : Int) (v : Nat) : Int := if v = S then x else base v

theorem upd_self (base : Nat → Int) (S : Nat) (x : Int) : upd base S x S = x := if_pos rfl

theorem upd_ne {base : Nat → Int} {S v : Nat} (x : Int) (h : v ≠ S) : upd base S x v = base v := if_neg h

structure PI (l : Sl Symbol) (n : Nat) (bx : Nat → Box) (c : Nat → Int) (p : Parser) : Prop where
  list : p.list = l
  boxes : ∀ v, v < n → (p.boxes.getD [])[v]? = some (bx v)
  best : (p.best.getD []).length = n
  clen : (p.count.getD []).length = n
  count : ∀ v, v < n → (p.count.getD [])[v]? = some (c v)

structure CI (l : Sl Symbol) (n : Nat) (bx : Nat → Box) (c : Nat → Int) (p : Chart21) : Prop where
  list : p.list = l
  len : (p.cells.getD []).length = n
  cells : ∀ v, v < n → ∃ x, (p.cells.getD [])[v]? = some x ∧ x.box = bx v ∧ x.ways = c v

theorem setS_look {A : Type} {s : Sl A} {v : Nat} {x y : A} (h : (s.getD [])[v]? = some x) (i : Nat) : ((setS s (v : Int) y).getD [])[i]? = if i = v then some y else (s.getD [])[i]? := by
  cases s with
  | none => simp at h
  | some l =>
    show (l.set ((v : Int).toNat) y)[i]? = if i = v then some y else l[i]?
    rw [Int.toNat_natCast]
    have h' : l[v]? = some x := h
    by_cases e : i = v
    · subst e
      rw [if_pos rfl, List.getElem?_set_self (get_lt h')]
    · rw [if_neg e, List.getElem?_set_ne (fun k => e k.symm)]

theorem PI.add {l : Sl Symbol} {n : Nat} {bx : Nat → Box} {base : Nat → Int} {S : Nat} {X Y : Int} {p : Parser} (h : PI l n bx (upd base S (wr X)) p) (hS : S < n) (q : Sl Choice) (hq : (q.getD []).length = n) : PI l n bx (upd base S (wr (X + Y))) ⟨p.list, p.boxes, q, setS p.count (S : Int) (wr (wr X + Y))⟩ := by
  have hs := h.count S hS
  refine ⟨h.list, h.boxes, hq, by show ((setS p.count (S : Int) _).getD []).length = n; rw [setS_len]; exact h.clen, fun v hv => ?_⟩
  show ((setS p.count (S : Int) _).getD [])[v]? = _
  rw [setS_look hs]
  by_cases e : v = S
  · subst e
    rw [if_pos rfl, upd_self, wr_add_l]
  · rw [if_neg e, upd_ne _ e, h.count v hv, upd_ne _ e]

theorem cmpCh_ok (a b : Choice) : ∃ r, t_impl_compareChoices a b = some r := by
  have w : ∀ k : Nat, k < 10 → wr ((k : Int) + 1) = ((k + 1 : Nat) : Int) := fun k hk => by rw [wr_id (by omega) (by omega)]; omega
  have or4 : ∀ q : List Int, q.length ≤ 4 → ∃ r, t_cmp_Or_int (some q) = some r := fun q hq => by
    obtain ⟨r, h, _⟩ := loopT_ex (step := s0_cmp_Or_int (some q)) (s := 0) (fun k s => s = (k : Int)) q.length (fun _ => True)
      (fun k s hk e => by
        subst e
        obtain ⟨x, hx⟩ : ∃ x, q[k]? = some x := ⟨_, List.getElem?_eq_getElem hk⟩
        have c : (k : Int) < ((q.length : Nat) : Int) := by omega
        by_cases hx0 : x = 0
        · left
          refine ⟨((k + 1 : Nat) : Int), ?_, rfl⟩
          unfold s0_cmp_Or_int
          simp only [Option.getD_some, c, decide_true, cond_true, getI_nat hx, obind_sm, hx0, Bool.not_true, cond_false, w k (by omega)]
        · right
          refine ⟨.inr x, ?_, trivial⟩
          unfold s0_cmp_Or_int
          simp only [Option.getD_some, c, decide_true, cond_true, getI_nat hx, obind_sm, hx0, decide_false, Bool.not_false])
      (fun s e => by
        subst e
        refine ⟨.inl (), ?_, trivial⟩
        unfold s0_cmp_Or_int
        simp only [Option.getD_some, Int.lt_irrefl, decide_false, cond_false])
      rfl
    unfold t_cmp_Or_int
    rw [h]
    cases r with
    | inl a => exact ⟨0, rfl⟩
    | inr a => exact ⟨a, rfl⟩
  have cmp : ∃ c, t_cmp_Compare_int a.a b.a = some c := by
    unfold t_cmp_Compare_int t_cmp_isNaN_int
    simp only [decide_true, Bool.not_true, obind_sm, cond_false]
    cases decide (a.a < b.a) with
    | true => exact ⟨_, rfl⟩
    | false => cases decide (b.a < a.a) <;> exact ⟨_, rfl⟩
  obtain ⟨c, hc⟩ := cmp
  obtain ⟨r, hr⟩ := or4 [cmpI a.cost b.cost, cmpI a.kind b.kind, cmpI a.sign b.sign, c] (by simp)
  exact ⟨r, by unfold t_impl_compareChoices; simp only [obind_sm, hc, hr]⟩

theorem tryI {l : Sl Symbol} {n : Nat} {bx : Nat → Box} {base : Nat → Int} {S a b : Nat} {X k : Int} {p : Parser} (h : PI l n bx (upd base S (wr X)) p) (hS : S < n) (ha : a < S) (hb : b < S) (hk : kindOK k b) (sg : Int) (s : Box) :
    ∃ p', t_impl_parser_try p (S : Int) ⟨k, sg, (a : Int), (b : Int), 0⟩ s = some p' ∧ PI l n bx (upd base S (wr (X + termT bx base k s a b))) p' := by
  have ca := h.count a (by omega)
  have cb := h.count b (by omega)
  have cs := h.count S hS
  rw [upd_ne _ (by omega)] at ca cb
  rw [upd_self] at cs
  have xa := h.boxes a (by omega)
  have xb := h.boxes b (by omega)
  obtain ⟨ya, hya⟩ : ∃ y, (p.best.getD [])[a]? = some y := ⟨_, List.getElem?_eq_getElem (by have := h.best; omega)⟩
  obtain ⟨yb, hyb⟩ : ∃ y, (p.best.getD [])[b]? = some y := ⟨_, List.getElem?_eq_getElem (by have := h.best; omega)⟩
  obtain ⟨ys, hys⟩ : ∃ y, (p.best.getD [])[S]? = some y := ⟨_, List.getElem?_eq_getElem (by have := h.best; omega)⟩
  have same : ∀ t : Int, t = 0 → ∃ p', (some (⟨p.list, p.boxes, p.best, p.count⟩ : Parser)) = some p' ∧ PI l n bx (upd base S (wr (X + t))) p' := fun t ht => ⟨p, rfl, by rw [ht, Int.add_zero]; exact h⟩
  unfold t_impl_parser_try
  by_cases a0 : base a = 0
  · have e : termT bx base k s a b = 0 := by
      unfold termT
      rw [a0, Int.zero_mul]
      cases fitsK k s (bx a) (bx b) <;> cases decide (b = 0) <;> rfl
    rw [e]
    simp only [getI_nat ca, obind_sm, a0, decide_true, cond_true, Bool.not_true, Bool.false_and, cond_false]
    exact same 0 rfl
  · have d0 : decide (base a = 0) = false := decide_eq_false a0
    by_cases b0 : b = 0
    · subst b0
      have k5 : k = 5 := by
        unfold kindOK at hk
        omega
      obtain ⟨c, hc⟩ := join_fits (b := 0) (.inr (.inr (.inr (.inr ⟨k5, rfl⟩)))) (bx a) (bx a) s
      have ef : fitsK k s (bx a) (bx 0) = fitsK k s (bx a) (bx a) := by
        rw [k5]
        rfl
      have z : ((0 : Nat) : Int) = 0 := rfl
      simp only [getI_nat ca, obind_sm, d0, cond_false, z, decide_true, Bool.not_true, Bool.not_false, Bool.and_false, Bool.true_and, getI_nat hya, getI_nat xa, hc]
      unfold termT
      rw [ef]
      cases hf : fitsK k s (bx a) (bx a) with
      | false =>
        rw [Bool.not_false, cond_true]
        exact same _ rfl
      | true =>
        simp only [Bool.not_true, cond_false, cond_true, getI_nat cs, obind_sm, getI_nat hys, decide_true]
        cases decide (wr X = 0) with
        | true =>
          simp only [cond_true, obind_sm]
          exact ⟨_, rfl, h.add hS _ (by rw [setS_len]; exact h.best)⟩
        | false =>
          obtain ⟨r, hr⟩ := cmpCh_ok (⟨k, sg, (a : Int), 0, wr (ya.cost + c)⟩ : Choice) ys
          simp only [cond_false, obind_sm, hr]
          cases decide (r < 0) with
          | true => exact ⟨_, rfl, h.add hS _ (by rw [setS_len]; exact h.best)⟩
          | false => exact ⟨_, rfl, h.add hS _ h.best⟩
    · have db : decide ((b : Int) = 0) = false := decide_eq_false (by omega)
      have db2 : decide (b = 0) = false := decide_eq_false b0
      by_cases bb : base b = 0
      · have e : termT bx base k s a b = 0 := by
          unfold termT
          rw [bb, Int.mul_zero, db2]
          cases fitsK k s (bx a) (bx b) <;> rfl
        rw [e]
        simp only [getI_nat ca, getI_nat cb, obind_sm, d0, db, bb, decide_true, cond_true, Bool.not_true, Bool.not_false, Bool.and_self, cond_false]
        exact same 0 rfl
      · have dbb : decide (base b = 0) = false := decide_eq_false bb
        obtain ⟨c, hc⟩ := join_fits hk (bx a) (bx b) s
        simp only [getI_nat ca, getI_nat cb, obind_sm, d0, db, dbb, cond_false, cond_true, Bool.not_false, Bool.and_self, getI_nat hya, getI_nat hyb, getI_nat xa, getI_nat xb, hc]
        unfold termT
        rw [db2]
        cases hf : fitsK k s (bx a) (bx b) with
        | false =>
          rw [Bool.not_false, cond_true]
          exact same _ rfl
        | true =>
          have ad : ∀ q : Sl Choice, (q.getD []).length = n → PI l n bx (upd base S (wr (X + base a * base b))) ⟨p.list, p.boxes, q, setS p.count (S : Int) (wr (wr X + wr (base a * base b)))⟩ := fun q hq => by
            have := h.add (Y := wr (base a * base b)) hS q hq
            rw [wr_add_r] at this
            exact this
          simp only [Bool.not_true, cond_false, cond_true, getI_nat cs, obind_sm, getI_nat hys]
          cases decide (wr X = 0) with
          | true =>
            simp only [cond_true, obind_sm]
            exact ⟨_, rfl, ad _ (by rw [setS_len]; exact h.best)⟩
          | false =>
            obtain ⟨r, hr⟩ := cmpCh_ok (⟨k, sg, (a : Int), (b : Int), wr (wr (ya.cost + yb.cost) + c)⟩ : Choice) ys
            simp only [cond_false, obind_sm, hr]
            cases decide (r < 0) with
            | true => exact ⟨_, rfl, ad _ (by rw [setS_len]; exact h.best)⟩
            | false => exact ⟨_, rfl, ad _ h.best⟩

/-! ### One way, the reference's side; all divisions of a set, on both sides -/
theorem CI.add {l : Sl Symbol} {n : Nat} {bx : Nat → Box} {base : Nat → Int} {S : Nat} {X Y Z : Int} {p : Chart21} (h : CI l n bx (upd base S (wr X)) p) (hS : S < n) (y : Cell21) (hb : y.box = bx S) (hw : y.ways = wr (wr X + Y)) (hZ : wr (X + Y) = wr (X + Z)) : CI l n bx (upd base S (wr (X + Z))) ⟨p.list, setS p.cells (S : Int) y⟩ := by
  obtain ⟨x, hx, _⟩ := h.cells S hS
  refine ⟨h.list, by show ((setS p.cells (S : Int) _).getD []).length = n; rw [setS_len]; exact h.len, fun v hv => ?_⟩
  show ∃ x, ((setS p.cells (S : Int) _).getD [])[v]? = some x ∧ _
  rw [setS_look hx]
  by_cases e : v = S
  · subst e
    rw [if_pos rfl]
    exact ⟨y, rfl, hb, by rw [upd_self, hw, wr_add_l, hZ]⟩
  · rw [if_neg e]
    obtain ⟨z, h1, h2, h3⟩ := h.cells v hv
    exact ⟨z, h1, h2, by rw [h3, upd_ne _ e, upd_ne _ e]⟩

theorem box_eta (b : Box) : (⟨b.x1, b.y1, b.x2, b.y2⟩ : Box) = b := rfl

def hasSign (k : Int) : Bool := decide (k = 2) || decide (k = 5)

theorem label_sign {k : Int} {b : Nat} (hk : kindOK k b) : ∃ s, t_spec_l21Label k = some s ∧ decide (s = (⟨#[]⟩ : ByteArray)) = !hasSign k := by
  unfold t_spec_l21Label hasSign
  rcases hk with ⟨rfl, _⟩ | ⟨rfl, _⟩ | ⟨rfl, _⟩ | ⟨rfl, _⟩ | ⟨rfl, _⟩ <;> exact ⟨_, rfl, by decide⟩

theorem tryS {l : Sl Symbol} {n : Nat} {bx : Nat → Box} {base : Nat → Int} {S a b sg : Nat} {X k : Int} {p : Chart21} {y : Symbol} (h : CI l n bx (upd base S (wr X)) p) (hS : S < n) (ha : a < S) (hb : b < S) (hk : kindOK k b) (s : Box)
    (hs : hasSign k = true → (l.getD [])[sg]? = some y ∧ y.box = s) (h0 : hasSign k = false → s = ⟨0, 0, 0, 0⟩) :
    ∃ p', t_spec_l21Chart_try p (S : Int) k (sg : Int) (a : Int) (b : Int) = some p' ∧ CI l n bx (upd base S (wr (X + termT bx base k s a b))) p' := by
  obtain ⟨x, hx, xb, xw⟩ := h.cells a (by omega)
  obtain ⟨z, hz, zb, zw⟩ := h.cells b (by omega)
  obtain ⟨w, hw, wb, ww⟩ := h.cells S hS
  rw [upd_ne _ (by omega)] at xw zw
  rw [upd_self] at ww
  obtain ⟨lb, hlb, hlb2⟩ := label_sign hk
  have same : ∀ t : Int, wr (X + t) = wr X → ∃ p', (some (⟨p.list, p.cells⟩ : Chart21)) = some p' ∧ CI l n bx (upd base S (wr (X + t))) p' := fun t ht => ⟨p, rfl, by rw [ht]; exact h⟩
  have F := spec_fits hk (bx a) (bx b) s
  obtain ⟨co, O⟩ := spec_own hk (bx a) (bx b) s
  have zero : ∀ Y : Int, wr Y = 0 → wr (X + Y) = wr X := fun Y hY => by
    rw [← wr_add_r, hY, Int.add_zero]
  unfold t_spec_l21Chart_try
  simp only [getI_nat hx, getI_nat hz, obind_sm, hlb, hlb2, xw, zw, xb, zb, Bool.not_not]
  by_cases b0 : b = 0
  · subst b0
    have z0 : decide (((0 : Nat) : Int) = 0) = true := rfl
    have T : termT bx base k s a 0 = bif fitsK k s (bx a) (bx 0) then base a else 0 := rfl
    rw [T]
    simp only [z0, Bool.not_true, cond_false]
    cases hsg : hasSign k with
    | true =>
      obtain ⟨hy, hy2⟩ := hs hsg
      simp only [cond_true, h.list, getI_nat hy, obind_sm, hy2]
      by_cases a0 : base a = 0
      · simp only [a0, decide_true, cond_true, obind_sm]
        have := same (bif fitsK k s (bx a) (bx 0) then 0 else 0) (zero _ (by cases fitsK k s (bx a) (bx 0) <;> rfl))
        rw [h.list] at this
        exact this
      · simp only [decide_eq_false a0, cond_false, F, obind_sm]
        cases fitsK k s (bx a) (bx 0) with
        | false =>
          have := same 0 (by rw [Int.add_zero])
          rw [h.list] at this
          exact this
        | true =>
          simp only [Bool.not_true, cond_false, cond_true, getI_nat hw, obind_sm, O]
          cases decide (w.ways = 0) with
          | true =>
            simp only [cond_true, obind_sm]
            have A := h.add (Y := base a) (Z := base a) hS (⟨⟨w.box.x1, w.box.y1, w.box.x2, w.box.y2⟩, wr (w.ways + base a), wr (wr (x.cost + z.cost) + co), k, (sg : Int), (a : Int), ((0 : Nat) : Int)⟩ : Cell21) wb (by rw [ww]) rfl
            rw [h.list] at A
            exact ⟨_, rfl, A⟩
          | false =>
            simp only [cond_false, obind_sm]
            cases decide (wr (wr (x.cost + z.cost) + co) < w.cost) with
            | true =>
              have A := h.add (Y := base a) (Z := base a) hS (⟨⟨w.box.x1, w.box.y1, w.box.x2, w.box.y2⟩, wr (w.ways + base a), wr (wr (x.cost + z.cost) + co), k, (sg : Int), (a : Int), ((0 : Nat) : Int)⟩ : Cell21) wb (by rw [ww]) rfl
              rw [h.list] at A
              exact ⟨_, rfl, A⟩
            | false =>
              have A := h.add (Y := base a) (Z := base a) hS (⟨⟨w.box.x1, w.box.y1, w.box.x2, w.box.y2⟩, wr (w.ways + base a), w.cost, w.kind, w.sign, w.first, w.rest⟩ : Cell21) wb (by rw [ww]) rfl
              rw [h.list] at A
              exact ⟨_, rfl, A⟩
    | false =>
      have k5 : k = 5 := by
        unfold kindOK at hk
        omega
      rw [k5] at hsg
      cases hsg
  · have db : decide ((b : Int) = 0) = false := decide_eq_false (by omega)
    have T : termT bx base k s a b = bif fitsK k s (bx a) (bx b) then base a * base b else 0 := by
      unfold termT
      rw [decide_eq_false b0]
      rfl
    rw [T]
    simp only [db, Bool.not_false, cond_true]
    cases hsg : hasSign k with
    | true =>
      obtain ⟨hy, hy2⟩ := hs hsg
      simp only [cond_true, h.list, getI_nat hy, obind_sm, hy2]
      by_cases a0 : wr (base a * base b) = 0
      · simp only [a0, decide_true, cond_true, obind_sm]
        have := same (bif fitsK k s (bx a) (bx b) then base a * base b else 0) (by
          cases fitsK k s (bx a) (bx b) with
          | false => exact zero 0 rfl
          | true => exact zero _ a0)
        rw [h.list] at this
        exact this
      · simp only [decide_eq_false a0, cond_false, F, obind_sm]
        cases fitsK k s (bx a) (bx b) with
        | false =>
          have := same 0 (by rw [Int.add_zero])
          rw [h.list] at this
          exact this
        | true =>
          simp only [Bool.not_true, cond_false, cond_true, getI_nat hw, obind_sm, O]
          cases decide (w.ways = 0) with
          | true =>
            simp only [cond_true, obind_sm]
            have A := h.add (Y := wr (base a * base b)) (Z := base a * base b) hS (⟨⟨w.box.x1, w.box.y1, w.box.x2, w.box.y2⟩, wr (w.ways + wr (base a * base b)), wr (wr (x.cost + z.cost) + co), k, (sg : Int), (a : Int), (b : Int)⟩ : Cell21) wb (by rw [ww]) (wr_add_r _ _)
            rw [h.list] at A
            exact ⟨_, rfl, A⟩
          | false =>
            simp only [cond_false, obind_sm]
            cases decide (wr (wr (x.cost + z.cost) + co) < w.cost) with
            | true =>
              have A := h.add (Y := wr (base a * base b)) (Z := base a * base b) hS (⟨⟨w.box.x1, w.box.y1, w.box.x2, w.box.y2⟩, wr (w.ways + wr (base a * base b)), wr (wr (x.cost + z.cost) + co), k, (sg : Int), (a : Int), (b : Int)⟩ : Cell21) wb (by rw [ww]) (wr_add_r _ _)
              rw [h.list] at A
              exact ⟨_, rfl, A⟩
            | false =>
              have A := h.add (Y := wr (base a * base b)) (Z := base a * base b) hS (⟨⟨w.box.x1, w.box.y1, w.box.x2, w.box.y2⟩, wr (w.ways + wr (base a * base b)), w.cost, w.kind, w.sign, w.first, w.rest⟩ : Cell21) wb (by rw [ww]) (wr_add_r _ _)
              rw [h.list] at A
              exact ⟨_, rfl, A⟩
    | false =>
      have hs0 := h0 hsg
      subst hs0
      simp only [cond_false]
      by_cases a0 : wr (base a * base b) = 0
      · simp only [a0, decide_true, cond_true, obind_sm]
        exact same (bif fitsK k ⟨0, 0, 0, 0⟩ (bx a) (bx b) then base a * base b else 0) (by
          cases fitsK k ⟨0, 0, 0, 0⟩ (bx a) (bx b) with
          | false => exact zero 0 rfl
          | true => exact zero _ a0)
      · simp only [decide_eq_false a0, cond_false, F, obind_sm]
        cases fitsK k ⟨0, 0, 0, 0⟩ (bx a) (bx b) with
        | false => exact same 0 (by rw [Int.add_zero])
        | true =>
          simp only [Bool.not_true, cond_false, cond_true, getI_nat hw, obind_sm, O]
          cases decide (w.ways = 0) with
          | true =>
            simp only [cond_true, obind_sm]
            exact ⟨_, rfl, h.add (Y := wr (base a * base b)) (Z := base a * base b) hS _ wb (by rw [ww]) (wr_add_r _ _)⟩
          | false =>
            simp only [cond_false, obind_sm]
            cases decide (wr (wr (x.cost + z.cost) + co) < w.cost) with
            | true => exact ⟨_, rfl, h.add (Y := wr (base a * base b)) (Z := base a * base b) hS _ wb (by rw [ww]) (wr_add_r _ _)⟩
            | false => exact ⟨_, rfl, h.add (Y := wr (base a * base b)) (Z := base a * base b) hS _ wb (by rw [ww]) (wr_add_r _ _)⟩

/-! ### All divisions of a set -/
def lbAt (ls : List Symbol) (i : Nat) : ByteArray := match ls[i]? with
  | some s => s.label
  | none => ⟨#[]⟩

def sbAt (ls : List Symbol) (i : Nat) : Box := match ls[i]? with
  | some s => s.box
  | none => ⟨0, 0, 0, 0⟩

def sumK (f : Int → Int) (l : List Int) : Int := (l.map f).sum

theorem sumK_app (f : Int → Int) (l : List Int) (k : Int) : sumK f (l ++ [k]) = sumK f l + f k := by
  unfold sumK
  induction l with
  | nil => simp
  | cons a l ih => simp at ih ⊢; omega

theorem kindsI {l : Sl Symbol} {n : Nat} {bx : Nat → Box} {base : Nat → Int} {S a rest : Nat} {X sg : Int} {p : Parser} {K : List Int} {box : Box} (h : PI l n bx (upd base S (wr X)) p) (hS : S < n) (ha : a < S) (hr : rest < 4294967296) (hb : dif rest a < S) (hb0 : dif rest a ≠ 0)
    (hK : ∀ k ∈ K, k = 1 ∨ k = 2 ∨ k = 3 ∨ k = 4) (hKl : K.length ≤ 4) : ∃ p' : Parser, loopT (s1_impl_parser_split (S : Int) (rest : Int) (some K) sg box (a : Int)) (p.list, p.boxes, p.best, p.count, 0) = some (p'.list, p'.boxes, p'.best, p'.count) ∧ PI l n bx (upd base S (wr (X + sumK (fun k => termT bx base k box a (dif rest a)) K))) p' := by
  obtain ⟨r, h1, p', rfl, h2⟩ := loopT_ex (step := s1_impl_parser_split (S : Int) (rest : Int) (some K) sg box (a : Int)) (s := (p.list, p.boxes, p.best, p.count, 0))
    (fun j s => ∃ p' : Parser, s = (p'.list, p'.boxes, p'.best, p'.count, (j : Int)) ∧ PI l n bx (upd base S (wr (X + sumK (fun k => termT bx base k box a (dif rest a)) (K.take j)))) p') K.length
    (fun r => ∃ p' : Parser, r = (p'.list, p'.boxes, p'.best, p'.count) ∧ PI l n bx (upd base S (wr (X + sumK (fun k => termT bx base k box a (dif rest a)) K))) p')
    (fun j s hj hi => by
      obtain ⟨q, rfl, hq⟩ := hi
      left
      obtain ⟨k, hk⟩ : ∃ k, K[j]? = some k := ⟨_, List.getElem?_eq_getElem hj⟩
      have c : (j : Int) < ((K.length : Nat) : Int) := by omega
      have kk : kindOK k (dif rest a) := by
        unfold kindOK
        rcases hK k (List.mem_of_getElem? hk) with e | e | e | e
        · exact .inl ⟨e, hb0⟩
        · exact .inr (.inl ⟨e, hb0⟩)
        · exact .inr (.inr (.inl ⟨e, hb0⟩))
        · exact .inr (.inr (.inr (.inl ⟨e, hb0⟩)))
      obtain ⟨q', e1, e2⟩ := tryI hq hS ha hb kk sg box
      refine ⟨(q'.list, q'.boxes, q'.best, q'.count, ((j + 1 : Nat) : Int)), ?_, q', rfl, ?_⟩
      · unfold s1_impl_parser_split
        simp only [Option.getD_some, c, decide_true, cond_true, getI_nat hk, obind_sm, andNotI_nat hr, e1, wr_succ hj (show K.length ≤ 4294967296 by omega)]
      · rw [List.take_add_one, hk, show (some k).toList = [k] from rfl, sumK_app, ← Int.add_assoc]
        exact e2)
    (fun s hi => by
      obtain ⟨q, rfl, hq⟩ := hi
      rw [List.take_length] at hq
      refine ⟨_, ?_, q, rfl, hq⟩
      unfold s1_impl_parser_split
      simp only [Option.getD_some, Int.lt_irrefl, decide_false, cond_false])
    ⟨p, rfl, by
      show PI l n bx (upd base S (wr (X + 0))) p
      rw [Int.add_zero]
      exact h⟩
  exact ⟨p', h1, h2⟩

theorem divI {l : Sl Symbol} {n : Nat} {bx : Nat → Box} {base : Nat → Int} {S rest : Nat} {sg : Int} {K : List Int} {box : Box} (hS : S < n) (hr : rest < 256) (hrS : rest ≤ S)
    (hK : ∀ k ∈ K, k = 1 ∨ k = 2 ∨ k = 3 ∨ k = 4) (hKl : K.length ≤ 4) : ∀ (R : List Nat) (X : Int) (p : Parser), chainB rest R = true → (∀ a ∈ R, a < rest ∧ dif rest a < rest ∧ dif rest a ≠ 0) → PI l n bx (upd base S (wr X)) p →
    ∃ p' : Parser, loopT (s0_impl_parser_split (S : Int) (rest : Int) (some K) sg box) (p.list, p.boxes, p.best, p.count, ((R.headD 0 : Nat) : Int)) = some (p'.list, p'.boxes, p'.best, p'.count) ∧ PI l n bx (upd base S (wr (X + sumL (fun a => sumK (fun k => termT bx base k box a (dif rest a)) K) R))) p'
  | [], X, p, _, _, h => by
    refine ⟨p, loopT_end ?_, ?_⟩
    · unfold s0_impl_parser_split
      rfl
    · show PI l n bx (upd base S (wr (X + 0))) p
      rw [Int.add_zero]
      exact h
  | a :: R, X, p, hc, hm, h => by
    unfold chainB at hc
    simp only [Bool.and_eq_true, decide_eq_true_eq] at hc
    obtain ⟨⟨c1, c2⟩, c3⟩ := hc
    obtain ⟨m1, m2, m3⟩ := hm a List.mem_cons_self
    obtain ⟨q, e1, e2⟩ := kindsI (rest := rest) (a := a) (sg := sg) (box := box) h hS (by omega) (by omega) (by omega) m3 hK hKl
    obtain ⟨p', e3, e4⟩ := divI hS hr hrS hK hKl R _ q c3 (fun b hb => hm b (List.mem_cons_of_mem _ hb)) e2
    refine ⟨p', ?_, ?_⟩
    · rw [loopT_next (s' := (q.list, q.boxes, q.best, q.count, ((R.headD 0 : Nat) : Int)))]
      · exact e3
      · have c : (0 : Int) < (a : Int) := by omega
        have w : wr ((a : Int) - 1) = ((a - 1 : Nat) : Int) := by rw [wr_id (by omega) (by omega)]; omega
        unfold s0_impl_parser_split
        simp only [List.headD_cons, c, decide_true, cond_true, e1, obind_sm, w]
        rw [andI_nat (by omega) (by omega), c2]
    · rw [sumL_cons, ← Int.add_assoc]
      exact e4

theorem subA_mem {m a : Nat} (h : a ∈ subA m) (hm : m < 256) : a < m ∧ dif m a < m ∧ dif m a ≠ 0 := by
  have h1 : a < m := by
    unfold subA at h
    exact List.mem_range.1 (List.mem_filter.1 h).1
  have h2 := sub_dif ⟨m, hm⟩
  rw [List.all_eq_true] at h2
  have h3 := h2 a h
  rw [Bool.and_eq_true] at h3
  exact ⟨h1, of_decide_eq_true h3.1, of_decide_eq_true h3.2⟩

theorem splitI {l : Sl Symbol} {n : Nat} {bx : Nat → Box} {base : Nat → Int} {S rest : Nat} {sg X : Int} {K : List Int} {box : Box} {p : Parser} (h : PI l n bx (upd base S (wr X)) p) (hS : S < n) (hr : rest < 256) (hr0 : 0 < rest) (hrS : rest ≤ S)
    (hK : ∀ k ∈ K, k = 1 ∨ k = 2 ∨ k = 3 ∨ k = 4) (hKl : K.length ≤ 4) : ∃ p', t_impl_parser_split p (S : Int) (rest : Int) (some K) sg box = some p' ∧ PI l n bx (upd base S (wr (X + sumL (fun a => sumK (fun k => termT bx base k box a (dif rest a)) K) (subA rest)))) p' := by
  have hc := sub_chain ⟨rest, hr⟩
  rw [Bool.and_eq_true] at hc
  obtain ⟨p', e1, e2⟩ := divI hS hr hrS hK hKl (subA rest).reverse X p hc.2 (fun a ha => subA_mem (List.mem_reverse.1 ha) hr) h (sg := sg) (box := box)
  rw [sumL_rev] at e2
  refine ⟨p', ?_, e2⟩
  have w : wr ((rest : Int) - 1) = ((rest - 1 : Nat) : Int) := by rw [wr_id (by omega) (by omega)]; omega
  unfold t_impl_parser_split
  rw [w, andI_nat (by omega) (by omega), of_decide_eq_true hc.1, e1]
  rfl
/-! The reference's side -/

theorem splitS {l : Sl Symbol} {n : Nat} {bx : Nat → Box} {base : Nat → Int} {S rest sg : Nat} {X k : Int} {y : Symbol} {box : Box} {p : Chart21} (h : CI l n bx (upd base S (wr X)) p) (hS : S < n) (hr : rest < 256) (hr0 : 0 < rest) (hrS : rest ≤ S)
    (hk : k = 1 ∨ k = 2 ∨ k = 3 ∨ k = 4) (hs : hasSign k = true → (l.getD [])[sg]? = some y ∧ y.box = box) (h0 : hasSign k = false → box = ⟨0, 0, 0, 0⟩) :
    ∃ p', t_spec_l21Chart_split p (S : Int) k (sg : Int) (rest : Int) = some p' ∧ CI l n bx (upd base S (wr (X + sumL (fun a => termT bx base k box a (dif rest a)) (subA rest)))) p' := by
  obtain ⟨r, h1, p', rfl, h2⟩ := loopT_ex (step := s0_spec_l21Chart_split (S : Int) k (sg : Int) (rest : Int)) (s := (p.list, p.cells, 1))
    (fun j s => ∃ p' : Chart21, s = (p'.list, p'.cells, ((j + 1 : Nat) : Int)) ∧ CI l n bx (upd base S (wr (X + sumL (fun a => termT bx base k box a (dif rest a)) ((List.range (j + 1)).filter fun a => decide (0 < a) && decide (a &&& rest = a))))) p') (rest - 1)
    (fun r => ∃ p' : Chart21, r = (p'.list, p'.cells) ∧ CI l n bx (upd base S (wr (X + sumL (fun a => termT bx base k box a (dif rest a)) (subA rest)))) p')
    (fun j s hj hi => by
      obtain ⟨q, rfl, hq⟩ := hi
      left
      have c : ((j + 1 : Nat) : Int) < (rest : Int) := by omega
      have an : andI ((j + 1 : Nat) : Int) (rest : Int) = (((j + 1) &&& rest : Nat) : Int) := andI_nat (by omega) (by omega)
      have w : wr (((j + 1 : Nat) : Int) + 1) = ((j + 1 + 1 : Nat) : Int) := wr_succ (n := rest) (by omega) (by omega)
      have rg : (List.range (j + 1 + 1)).filter (fun a => decide (0 < a) && decide (a &&& rest = a)) = (List.range (j + 1)).filter (fun a => decide (0 < a) && decide (a &&& rest = a)) ++ (if (j + 1) &&& rest = j + 1 then [j + 1] else []) := by
        rw [List.range_succ, List.filter_append]
        congr 1
        by_cases e : (j + 1) &&& rest = j + 1
        · rw [if_pos e]
          simp [e]
        · rw [if_neg e]
          simp [e]
      rw [rg]
      by_cases e : (j + 1) &&& rest = j + 1
      · rw [if_pos e, sumL_app]
        have hm : j + 1 ∈ subA rest := by
          unfold subA
          exact List.mem_filter.2 ⟨List.mem_range.2 (by omega), by simp [e]⟩
        obtain ⟨m1, m2, m3⟩ := subA_mem hm hr
        have kk : kindOK k (dif rest (j + 1)) := by
          unfold kindOK
          omega
        obtain ⟨q', e1, e2⟩ := tryS (y := y) (sg := sg) hq hS (a := j + 1) (b := dif rest (j + 1)) (by omega) (by omega) kk box hs h0
        refine ⟨(q'.list, q'.cells, ((j + 1 + 1 : Nat) : Int)), ?_, q', rfl, ?_⟩
        · have d : decide ((((j + 1) &&& rest : Nat) : Int) = ((j + 1 : Nat) : Int)) = true := decide_eq_true (by rw [e])
          unfold s0_spec_l21Chart_split
          simp only [c, decide_true, cond_true, an, d, andNotI_nat (show rest < 4294967296 by omega), e1, obind_sm, w]
        · have : sumL (fun a => termT bx base k box a (dif rest a)) [j + 1] = termT bx base k box (j + 1) (dif rest (j + 1)) := by simp [sumL]
          rw [this, ← Int.add_assoc]
          exact e2
      · rw [if_neg e, List.append_nil]
        refine ⟨(q.list, q.cells, ((j + 1 + 1 : Nat) : Int)), ?_, q, rfl, hq⟩
        have d : decide ((((j + 1) &&& rest : Nat) : Int) = ((j + 1 : Nat) : Int)) = false := decide_eq_false (by omega)
        unfold s0_spec_l21Chart_split
        simp only [c, decide_true, cond_true, an, d, cond_false, w])
    (fun s hi => by
      obtain ⟨q, rfl, hq⟩ := hi
      have e : rest - 1 + 1 = rest := by omega
      rw [e] at hq ⊢
      refine ⟨_, ?_, q, rfl, hq⟩
      unfold s0_spec_l21Chart_split
      simp only [Int.lt_irrefl, decide_false, cond_false])
    ⟨p, rfl, by
      have : sumL (fun a => termT bx base k box a (dif rest a)) ((List.range (0 + 1)).filter fun a => decide (0 < a) && decide (a &&& rest = a)) = 0 := rfl
      rw [this, Int.add_zero]
      exact h⟩
  refine ⟨p', ?_, h2⟩
  unfold t_spec_l21Chart_split
  rw [h1]
  rfl

/-! ### One set, on both sides -/
theorem shl_ok : ∀ i : Fin 8, shlO 1 (i.val : Int) = some ((2 ^ i.val : Nat) : Int) := by decide +kernel

def labK (k : Int) : ByteArray := bif decide (k = 2) then ⟨#[45]⟩ else bif decide (k = 5) then ⟨#[114]⟩ else ⟨#[]⟩

def gI (bx : Nat → Box) (base : Nat → Int) (ls : List Symbol) (S i : Nat) : Int :=
  bif decide (dif S (2 ^ i) = S) then 0 else bif decide (lbAt ls i = labK 2) then sumL (fun a => termT bx base 2 (sbAt ls i) a (dif (dif S (2 ^ i)) a)) (subA (dif S (2 ^ i))) else bif decide (lbAt ls i = labK 5) then termT bx base 5 (sbAt ls i) (dif S (2 ^ i)) 0 else 0

def gS (bx : Nat → Box) (base : Nat → Int) (ls : List Symbol) (S : Nat) (k : Int) (i : Nat) : Int :=
  bif (bif decide (dif S (2 ^ i) = S) then true else !decide (lbAt ls i = labK k)) then 0 else bif decide (k = 5) then termT bx base 5 (sbAt ls i) (dif S (2 ^ i)) 0 else sumL (fun a => termT bx base k (sbAt ls i) a (dif (dif S (2 ^ i)) a)) (subA (dif S (2 ^ i)))

theorem g_split (bx : Nat → Box) (base : Nat → Int) (ls : List Symbol) (S i : Nat) : gI bx base ls S i = gS bx base ls S 2 i + gS bx base ls S 5 i := by
  unfold gI gS
  rw [show decide ((2 : Int) = 5) = false from rfl, show decide ((5 : Int) = 5) = true from rfl]
  cases decide (dif S (2 ^ i) = S) with
  | true => rfl
  | false =>
    by_cases h2 : lbAt ls i = labK 2
    · have h5 : ¬ lbAt ls i = labK 5 := by
        rw [h2]
        decide
      rw [decide_eq_true h2, decide_eq_false h5]
      show _ = _ + 0
      rw [Int.add_zero]
      rfl
    · rw [decide_eq_false h2]
      cases decide (lbAt ls i = labK 5) with
      | true =>
        show _ = 0 + _
        rw [Int.zero_add]
        rfl
      | false => rfl

theorem less_set {S i : Nat} (hS : S < 256) (hi : i < 8) (h : dif S (2 ^ i) ≠ S) : dif S (2 ^ i) < S ∧ (S &&& (S - 1) ≠ 0 → dif S (2 ^ i) ≠ 0) := by
  have := one_less ⟨S, hS⟩ ⟨i, hi⟩
  rw [Bool.or_eq_true, Bool.and_eq_true, Bool.or_eq_true] at this
  rcases this with k | ⟨k1, k2⟩
  · exact absurd (of_decide_eq_true k) h
  · refine ⟨of_decide_eq_true k1, fun h3 => ?_⟩
    rcases k2 with k | k
    · exact absurd (of_decide_eq_true k) h3
    · exact of_decide_eq_true k

theorem range_add (f : Nat → Int) (j : Nat) : sumL f (List.range (j + 1)) = sumL f (List.range j) + f j := by
  rw [List.range_succ, sumL_app]
  simp [sumL]

theorem lb_get {ls : List Symbol} {i : Nat} {s : Symbol} (h : ls[i]? = some s) : lbAt ls i = s.label ∧ sbAt ls i = s.box := by
  unfold lbAt sbAt
  rw [h]
  exact ⟨rfl, rfl⟩

theorem loopI {l : Sl Symbol} {n : Nat} {bx : Nat → Box} {base : Nat → Int} {S : Nat} {X : Int} {p : Parser} (h : PI l n bx (upd base S (wr X)) p) (hS : S < n) (hS2 : S < 256) (hm : S &&& (S - 1) ≠ 0) (hl : (l.getD []).length ≤ 8) :
    ∃ p' : Parser, loopT (s0_impl_parser_solve (S : Int) p) (p.list, p.boxes, p.best, p.count, 0) = some (p'.list, p'.boxes, p'.best, p'.count) ∧ PI l n bx (upd base S (wr (X + sumL (gI bx base (l.getD []) S) (List.range (l.getD []).length)))) p' := by
  obtain ⟨r, h1, p', rfl, h2⟩ := loopT_ex (step := s0_impl_parser_solve (S : Int) p) (s := (p.list, p.boxes, p.best, p.count, 0))
    (fun i s => ∃ p' : Parser, s = (p'.list, p'.boxes, p'.best, p'.count, (i : Int)) ∧ PI l n bx (upd base S (wr (X + sumL (gI bx base (l.getD []) S) (List.range i)))) p') (l.getD []).length
    (fun r => ∃ p' : Parser, r = (p'.list, p'.boxes, p'.best, p'.count) ∧ PI l n bx (upd base S (wr (X + sumL (gI bx base (l.getD []) S) (List.range (l.getD []).length)))) p')
    (fun i s hi hq => by
      obtain ⟨q, rfl, hq⟩ := hq
      left
      obtain ⟨y, hy⟩ : ∃ y, (l.getD [])[i]? = some y := ⟨_, List.getElem?_eq_getElem hi⟩
      obtain ⟨ly, by'⟩ := lb_get hy
      have c : (i : Int) < (((l.getD []).length : Nat) : Int) := by omega
      have sh : shlO 1 (i : Int) = some ((2 ^ i : Nat) : Int) := shl_ok ⟨i, by omega⟩
      have w : wr ((i : Int) + 1) = ((i + 1 : Nat) : Int) := wr_succ hi (by omega)
      have an := andNotI_nat (m := S) (a := 2 ^ i) (by omega)
      rw [range_add]
      by_cases hn : dif S (2 ^ i) = S
      · have g0 : gI bx base (l.getD []) S i = 0 := by
          unfold gI
          rw [decide_eq_true hn]
          rfl
        rw [g0, Int.add_zero]
        refine ⟨(q.list, q.boxes, q.best, q.count, ((i + 1 : Nat) : Int)), ?_, q, rfl, hq⟩
        unfold s0_impl_parser_solve
        simp only [h.list, c, decide_true, cond_true, getI_nat hy, obind_sm, sh, an, hn, w]
      · obtain ⟨k1, k2⟩ := less_set hS2 (by omega) hn
        have d : decide (((dif S (2 ^ i) : Nat) : Int) = (S : Int)) = false := decide_eq_false (by omega)
        by_cases e2 : y.label = labK 2
        · have g0 : gI bx base (l.getD []) S i = sumL (fun a => termT bx base 2 y.box a (dif (dif S (2 ^ i)) a)) (subA (dif S (2 ^ i))) := by
            unfold gI
            rw [decide_eq_false hn, ly, by', decide_eq_true e2]
            rfl
          have d2 : decide (y.label = (⟨#[45]⟩ : ByteArray)) = true := decide_eq_true e2
          obtain ⟨q', e3, e4⟩ := splitI (K := [2]) (sg := (i : Int)) (box := y.box) (rest := dif S (2 ^ i)) hq hS (by omega) (by have := k2 hm; omega) (by omega) (fun k hk => by simp at hk; omega) (by simp)
          have sg : ∀ a, sumK (fun k => termT bx base k y.box a (dif (dif S (2 ^ i)) a)) [2] = termT bx base 2 y.box a (dif (dif S (2 ^ i)) a) := fun a => by simp [sumK]
          rw [sumL_congr fun a _ => sg a] at e4
          rw [g0, ← Int.add_assoc]
          refine ⟨(q'.list, q'.boxes, q'.best, q'.count, ((i + 1 : Nat) : Int)), ?_, q', rfl, e4⟩
          unfold s0_impl_parser_solve t_impl_signOf
          simp only [h.list, c, decide_true, cond_true, getI_nat hy, obind_sm, sh, an, d, cond_false, d2, e3, w]
        · have d2 : decide (y.label = (⟨#[45]⟩ : ByteArray)) = false := decide_eq_false e2
          by_cases e5 : y.label = labK 5
          · have d5 : decide (y.label = (⟨#[114]⟩ : ByteArray)) = true := decide_eq_true e5
            have g0 : gI bx base (l.getD []) S i = termT bx base 5 y.box (dif S (2 ^ i)) 0 := by
              unfold gI
              rw [decide_eq_false hn, ly, by', decide_eq_false e2, decide_eq_true e5]
              rfl
            obtain ⟨q', e3, e4⟩ := tryI (k := 5) (a := dif S (2 ^ i)) (b := 0) hq hS k1 (by omega) (.inr (.inr (.inr (.inr ⟨rfl, rfl⟩)))) (i : Int) y.box
            have e3' : t_impl_parser_try (⟨q.list, q.boxes, q.best, q.count⟩ : Parser) (S : Int) ⟨5, (i : Int), ((dif S (2 ^ i) : Nat) : Int), 0, 0⟩ y.box = some q' := e3
            rw [g0, ← Int.add_assoc]
            refine ⟨(q'.list, q'.boxes, q'.best, q'.count, ((i + 1 : Nat) : Int)), ?_, q', rfl, e4⟩
            unfold s0_impl_parser_solve t_impl_signOf
            simp only [h.list, c, decide_true, cond_true, getI_nat hy, obind_sm, sh, an, d, cond_false, d2, show decide ((5 : Int) = 2) = false from rfl, d5, e3', w]
          · have d5 : decide (y.label = (⟨#[114]⟩ : ByteArray)) = false := decide_eq_false e5
            have g0 : gI bx base (l.getD []) S i = 0 := by
              unfold gI
              rw [decide_eq_false hn, ly, decide_eq_false e2, decide_eq_false e5]
              rfl
            rw [g0, Int.add_zero]
            refine ⟨(q.list, q.boxes, q.best, q.count, ((i + 1 : Nat) : Int)), ?_, q, rfl, hq⟩
            unfold s0_impl_parser_solve t_impl_signOf
            simp only [h.list, c, decide_true, cond_true, getI_nat hy, obind_sm, sh, an, d, cond_false, d2, show decide ((5 : Int) = 2) = false from rfl, d5, w])
    (fun s hq => by
      obtain ⟨q, rfl, hq⟩ := hq
      refine ⟨_, ?_, q, rfl, hq⟩
      unfold s0_impl_parser_solve
      simp only [h.list, Int.lt_irrefl, decide_false, cond_false])
    ⟨p, rfl, by
      show PI l n bx (upd base S (wr (X + 0))) p
      rw [Int.add_zero]
      exact h⟩
  exact ⟨p', h1, h2⟩

theorem signsS {l : Sl Symbol} {n : Nat} {bx : Nat → Box} {base : Nat → Int} {S : Nat} {X k : Int} {p : Chart21} (h : CI l n bx (upd base S (wr X)) p) (hS : S < n) (hS2 : S < 256) (hm : S &&& (S - 1) ≠ 0) (hl : (l.getD []).length ≤ 8) (hk : k = 2 ∨ k = 5) :
    ∃ p' : Chart21, t_spec_l21Chart_signs p (S : Int) k = some p' ∧ CI l n bx (upd base S (wr (X + sumL (gS bx base (l.getD []) S k) (List.range (l.getD []).length)))) p' := by
  have lk : t_spec_l21Label k = some (labK k) := by
    rcases hk with rfl | rfl <;> rfl
  obtain ⟨r, h1, p', rfl, h2⟩ := loopT_ex (step := s0_spec_l21Chart_signs (S : Int) k) (s := (p.list, p.cells, 0))
    (fun i s => ∃ p' : Chart21, s = (p'.list, p'.cells, (i : Int)) ∧ CI l n bx (upd base S (wr (X + sumL (gS bx base (l.getD []) S k) (List.range i)))) p') (l.getD []).length
    (fun r => ∃ p' : Chart21, r = (p'.list, p'.cells) ∧ CI l n bx (upd base S (wr (X + sumL (gS bx base (l.getD []) S k) (List.range (l.getD []).length)))) p')
    (fun i s hi hq => by
      obtain ⟨q, rfl, hq⟩ := hq
      left
      obtain ⟨y, hy⟩ : ∃ y, (l.getD [])[i]? = some y := ⟨_, List.getElem?_eq_getElem hi⟩
      obtain ⟨ly, by'⟩ := lb_get hy
      have c : (i : Int) < (((l.getD []).length : Nat) : Int) := by omega
      have sh : shlO 1 (i : Int) = some ((2 ^ i : Nat) : Int) := shl_ok ⟨i, by omega⟩
      have w : wr ((i : Int) + 1) = ((i + 1 : Nat) : Int) := wr_succ hi (by omega)
      have an := andNotI_nat (m := S) (a := 2 ^ i) (by omega)
      rw [range_add]
      by_cases hn : dif S (2 ^ i) = S
      · have g0 : gS bx base (l.getD []) S k i = 0 := by
          unfold gS
          rw [decide_eq_true hn]
          rfl
        rw [g0, Int.add_zero]
        refine ⟨(q.list, q.cells, ((i + 1 : Nat) : Int)), ?_, q, rfl, hq⟩
        unfold s0_spec_l21Chart_signs
        simp only [hq.list, c, decide_true, cond_true, obind_sm, sh, an, hn, w]
      · obtain ⟨k1, k2⟩ := less_set hS2 (by omega) hn
        have d : decide (((dif S (2 ^ i) : Nat) : Int) = (S : Int)) = false := decide_eq_false (by omega)
        by_cases e2 : y.label = labK k
        · have d2 : decide (y.label = labK k) = true := decide_eq_true e2
          by_cases k5 : k = 5
          · have g0 : gS bx base (l.getD []) S k i = termT bx base 5 y.box (dif S (2 ^ i)) 0 := by
              unfold gS
              rw [decide_eq_false hn, ly, by', d2, decide_eq_true k5]
              rfl
            obtain ⟨q', e3, e4⟩ := tryS (k := 5) (a := dif S (2 ^ i)) (b := 0) (sg := i) (y := y) hq hS k1 (by omega) (.inr (.inr (.inr (.inr ⟨rfl, rfl⟩)))) y.box (fun _ => ⟨hy, rfl⟩) (fun e => by cases e)
            have e3' : t_spec_l21Chart_try (⟨q.list, q.cells⟩ : Chart21) (S : Int) 5 (i : Int) ((dif S (2 ^ i) : Nat) : Int) 0 = some q' := e3
            rw [hq.list] at e3'
            subst k5
            rw [g0, ← Int.add_assoc]
            refine ⟨(q'.list, q'.cells, ((i + 1 : Nat) : Int)), ?_, q', rfl, e4⟩
            unfold s0_spec_l21Chart_signs
            simp only [hq.list, c, decide_true, cond_true, getI_nat hy, obind_sm, sh, an, d, cond_false, lk, d2, Bool.not_true, e3', w]
          · have k2' : k = 2 := by omega
            have g0 : gS bx base (l.getD []) S k i = sumL (fun a => termT bx base k y.box a (dif (dif S (2 ^ i)) a)) (subA (dif S (2 ^ i))) := by
              unfold gS
              rw [decide_eq_false hn, ly, by', d2, decide_eq_false k5]
              rfl
            obtain ⟨q', e3, e4⟩ := splitS (k := k) (sg := i) (y := y) (box := y.box) (rest := dif S (2 ^ i)) hq hS (by omega) (by have := k2 hm; omega) (by omega) (.inr (.inl k2')) (fun _ => ⟨hy, rfl⟩) (fun e => by rw [k2'] at e; cases e)
            have e3' : t_spec_l21Chart_split (⟨q.list, q.cells⟩ : Chart21) (S : Int) k (i : Int) ((dif S (2 ^ i) : Nat) : Int) = some q' := e3
            rw [hq.list] at e3'
            rw [g0, ← Int.add_assoc]
            refine ⟨(q'.list, q'.cells, ((i + 1 : Nat) : Int)), ?_, q', rfl, e4⟩
            unfold s0_spec_l21Chart_signs
            simp only [hq.list, c, decide_true, cond_true, getI_nat hy, obind_sm, sh, an, d, cond_false, lk, d2, Bool.not_true, decide_eq_false k5, e3', w]
        · have d2 : decide (y.label = labK k) = false := decide_eq_false e2
          have g0 : gS bx base (l.getD []) S k i = 0 := by
            unfold gS
            rw [decide_eq_false hn, ly, d2]
            rfl
          rw [g0, Int.add_zero]
          refine ⟨(q.list, q.cells, ((i + 1 : Nat) : Int)), ?_, q, rfl, hq⟩
          unfold s0_spec_l21Chart_signs
          simp only [hq.list, c, decide_true, cond_true, getI_nat hy, obind_sm, sh, an, d, cond_false, lk, d2, Bool.not_false, w])
    (fun s hq => by
      obtain ⟨q, rfl, hq⟩ := hq
      refine ⟨_, ?_, q, rfl, hq⟩
      unfold s0_spec_l21Chart_signs
      simp only [hq.list, Int.lt_irrefl, decide_false, cond_false])
    ⟨p, rfl, by
      show CI l n bx (upd base S (wr (X + 0))) p
      rw [Int.add_zero]
      exact h⟩
  refine ⟨p', ?_, h2⟩
  unfold t_spec_l21Chart_signs
  rw [h1]
  rfl

/-! ### The boxes of sets; one set whole -/
def shrQ (S i : Nat) : Int := Int.fdiv (S : Int) (2 ^ (min (i : Int).toNat 64))

def outQ (S i : Nat) : Bool := decide (andI (shrQ S i) 1 = 0)

theorem shr_ok (S i : Nat) : shrO (S : Int) (i : Int) = some (shrQ S i) := by
  unfold shrO
  rw [decide_eq_true (by omega : (0 : Int) ≤ (i : Int))]
  rfl

def accB (ls : List Symbol) (S : Nat) : Nat → Option Box
  | 0 => none
  | i + 1 => bif outQ S i then accB ls S i else match accB ls S i with
    | none => some (sbAt ls i)
    | some b => some (joinBox b (sbAt ls i))

theorem accB_succ (ls : List Symbol) (S i : Nat) : accB ls S (i + 1) = bif outQ S i then accB ls S i else match accB ls S i with
    | none => some (sbAt ls i)
    | some b => some (joinBox b (sbAt ls i)) := rfl

def cntB (S : Nat) : Nat → Nat
  | 0 => 0
  | i + 1 => bif outQ S i then cntB S i else cntB S i + 1

theorem cnt_zero (ls : List Symbol) (S : Nat) : ∀ i, (cntB S i = 0 ∧ accB ls S i = none) ∨ (cntB S i ≠ 0 ∧ ∃ b, accB ls S i = some b)
  | 0 => .inl ⟨rfl, rfl⟩
  | i + 1 => by
    unfold cntB accB
    cases outQ S i with
    | true => exact cnt_zero ls S i
    | false =>
      right
      refine ⟨Nat.succ_ne_zero _, ?_⟩
      cases accB ls S i <;> exact ⟨_, rfl⟩

theorem cnt_le (S : Nat) : ∀ i, cntB S i ≤ i
  | 0 => Nat.le_refl _
  | i + 1 => by
    unfold cntB
    have := cnt_le S i
    cases outQ S i
    · show cntB S i + 1 ≤ i + 1
      omega
    · show cntB S i ≤ i + 1
      omega

theorem one_bit : ∀ (N : Fin 9) (S : Fin 256), (decide (2 ^ N.val ≤ S.val) || (decide (S.val = 0) || decide (decide (cntB S.val N.val = 1) = decide (S.val &&& (S.val - 1) = 0)))) = true := by decide +kernel

def boxB (ls : List Symbol) (S : Nat) : Box := (accB ls S ls.length).getD ⟨0, 0, 0, 0⟩

theorem boxI {l : Sl Symbol} (S : Nat) (hl : (l.getD []).length ≤ 8) : t_impl_boxOfSet l (S : Int) = some (boxB (l.getD []) S) := by
  obtain ⟨r, h1, rfl⟩ := loopT_ex (step := s0_impl_boxOfSet l (S : Int)) (s := (0, 0, 0, 0, false, 0))
    (fun i s => s = (((accB (l.getD []) S i).getD ⟨0, 0, 0, 0⟩).x1, ((accB (l.getD []) S i).getD ⟨0, 0, 0, 0⟩).y1, ((accB (l.getD []) S i).getD ⟨0, 0, 0, 0⟩).x2, ((accB (l.getD []) S i).getD ⟨0, 0, 0, 0⟩).y2, (accB (l.getD []) S i).isSome, (i : Int))) (l.getD []).length
    (fun r => r = ((boxB (l.getD []) S).x1, (boxB (l.getD []) S).y1, (boxB (l.getD []) S).x2, (boxB (l.getD []) S).y2))
    (fun i s hi e => by
      subst e
      left
      obtain ⟨y, hy⟩ : ∃ y, (l.getD [])[i]? = some y := ⟨_, List.getElem?_eq_getElem hi⟩
      obtain ⟨_, by'⟩ := lb_get hy
      have c : (i : Int) < (((l.getD []).length : Nat) : Int) := by omega
      have w : wr ((i : Int) + 1) = ((i + 1 : Nat) : Int) := wr_succ hi (by omega)
      refine ⟨_, ?_, rfl⟩
      unfold s0_impl_boxOfSet
      simp only [c, decide_true, cond_true, getI_nat hy, obind_sm, shr_ok]
      have o : decide (andI (shrQ S i) 1 = 0) = outQ S i := rfl
      rw [o, ← by', w, accB_succ]
      cases outQ S i with
      | true => rfl
      | false => cases accB (l.getD []) S i <;> rfl)
    (fun s e => by
      subst e
      refine ⟨_, ?_, rfl⟩
      unfold s0_impl_boxOfSet
      simp only [Int.lt_irrefl, decide_false, cond_false]
      rfl)
    rfl
  unfold t_impl_boxOfSet
  rw [h1]
  rfl

def updB (bx : Nat → Box) (S : Nat) (b : Box) (v : Nat) : Box := if v = S then b else bx v

theorem upd_same {base : Nat → Int} {S : Nat} (h : base S = 0) : upd base S (wr 0) = base := by
  funext v
  unfold upd
  by_cases e : v = S
  · rw [if_pos e, e, h]
    rfl
  · rw [if_neg e]

theorem CI.setC {l : Sl Symbol} {n : Nat} {bx : Nat → Box} {c : Nat → Int} {S : Nat} {p : Chart21} (h : CI l n bx c p) (hS : S < n) (y : Cell21) (hw : y.ways = c S) : CI l n (updB bx S y.box) c ⟨p.list, setS p.cells (S : Int) y⟩ := by
  obtain ⟨x, hx, _⟩ := h.cells S hS
  refine ⟨h.list, by show ((setS p.cells (S : Int) _).getD []).length = n; rw [setS_len]; exact h.len, fun v hv => ?_⟩
  show ∃ x, ((setS p.cells (S : Int) _).getD [])[v]? = some x ∧ _
  rw [setS_look hx]
  unfold updB
  by_cases e : v = S
  · subst e
    rw [if_pos rfl, if_pos rfl]
    exact ⟨y, rfl, rfl, hw⟩
  · rw [if_neg e, if_neg e]
    exact h.cells v hv

theorem updB_updB (bx : Nat → Box) (S : Nat) (a b : Box) : updB (updB bx S a) S b = updB bx S b := by
  funext v
  unfold updB
  by_cases e : v = S
  · rw [if_pos e, if_pos e]
  · rw [if_neg e, if_neg e, if_neg e]

theorem updB_id {bx : Nat → Box} {S : Nat} {b : Box} (h : bx S = b) : updB bx S b = bx := by
  funext v
  unfold updB
  by_cases e : v = S
  · rw [if_pos e, e, h]
  · rw [if_neg e]

theorem join_self (b : Box) : joinBox b b = b := by
  unfold joinBox
  simp

theorem boxS {l : Sl Symbol} {n : Nat} {bx : Nat → Box} {base : Nat → Int} {S : Nat} {p : Chart21} (h : CI l n bx base p) (hS : S < n) (h0 : bx S = ⟨0, 0, 0, 0⟩) (hl : (l.getD []).length ≤ 8) :
    ∃ C, loopT (s0_spec_l21Chart_fill p (S : Int)) (p.cells, 0, 0) = some (C, (cntB S (l.getD []).length : Int)) ∧ CI l n (updB bx S (boxB (l.getD []) S)) base ⟨l, C⟩ := by
  obtain ⟨r, h1, C, rfl, h2⟩ := loopT_ex (step := s0_spec_l21Chart_fill p (S : Int)) (s := (p.cells, 0, 0))
    (fun i s => ∃ C, s = (C, (cntB S i : Int), (i : Int)) ∧ CI l n (updB bx S ((accB (l.getD []) S i).getD ⟨0, 0, 0, 0⟩)) base ⟨l, C⟩) (l.getD []).length
    (fun r => ∃ C, r = (C, (cntB S (l.getD []).length : Int)) ∧ CI l n (updB bx S (boxB (l.getD []) S)) base ⟨l, C⟩)
    (fun i s hi hq => by
      obtain ⟨C, rfl, hq⟩ := hq
      left
      obtain ⟨y, hy⟩ : ∃ y, (l.getD [])[i]? = some y := ⟨_, List.getElem?_eq_getElem hi⟩
      obtain ⟨_, by'⟩ := lb_get hy
      have c : (i : Int) < (((l.getD []).length : Nat) : Int) := by omega
      have w : wr ((i : Int) + 1) = ((i + 1 : Nat) : Int) := wr_succ hi (by omega)
      have cl := cnt_le S i
      have wm : wr ((cntB S i : Int) + 1) = ((cntB S i + 1 : Nat) : Int) := wr_succ (n := 16) (by omega) (by omega)
      have o : decide (andI (shrQ S i) 1 = 0) = outQ S i := rfl
      obtain ⟨x, hx, xb, xw⟩ := hq.cells S hS
      have hx' : (C.getD [])[S]? = some x := hx
      have xb' : x.box = (accB (l.getD []) S i).getD ⟨0, 0, 0, 0⟩ := by
        rw [xb]
        exact if_pos rfl
      have look : ∀ a : Cell21, getI ((setS C (S : Int) a).getD []) (S : Int) = some a := fun a => getI_nat (by rw [setS_look hx', if_pos rfl])
      cases hb : outQ S i with
      | true =>
        have e1 : cntB S (i + 1) = cntB S i := by
          show (bif outQ S i then cntB S i else cntB S i + 1) = _
          rw [hb]
          rfl
        have e2 : accB (l.getD []) S (i + 1) = accB (l.getD []) S i := by
          show (bif outQ S i then accB (l.getD []) S i else _) = _
          rw [hb]
          rfl
        refine ⟨(C, (cntB S (i + 1) : Int), ((i + 1 : Nat) : Int)), ?_, C, rfl, by rw [e2]; exact hq⟩
        rw [e1]
        unfold s0_spec_l21Chart_fill
        simp only [h.list, c, decide_true, cond_true, obind_sm, shr_ok, o, hb, w]
      | false =>
        have e1 : cntB S (i + 1) = cntB S i + 1 := by
          show (bif outQ S i then cntB S i else cntB S i + 1) = _
          rw [hb]
          rfl
        rcases cnt_zero (l.getD []) S i with ⟨k1, k2⟩ | ⟨k1, b, k2⟩
        · have e2 : accB (l.getD []) S (i + 1) = some y.box := by
            show (bif outQ S i then accB (l.getD []) S i else _) = _
            rw [hb, k2, ← by']
            rfl
          refine ⟨(setS C (S : Int) (⟨⟨(joinBox y.box y.box).x1, (joinBox y.box y.box).y1, (joinBox y.box y.box).x2, (joinBox y.box y.box).y2⟩, x.ways, x.cost, x.kind, (i : Int), x.first, x.rest⟩ : Cell21), (cntB S (i + 1) : Int), ((i + 1 : Nat) : Int)), ?_, _, rfl, ?_⟩
          · have z : decide (((0 : Nat) : Int) = 0) = true := rfl
            rw [k1] at wm
            rw [e1, k1]
            unfold s0_spec_l21Chart_fill
            simp only [h.list, c, decide_true, cond_true, obind_sm, shr_ok, o, hb, cond_false, z, getI_nat hy, getI_nat hx', look, setS_set2, box_eta, w, wm]
          · rw [e2]
            have := hq.setC hS (⟨⟨(joinBox y.box y.box).x1, (joinBox y.box y.box).y1, (joinBox y.box y.box).x2, (joinBox y.box y.box).y2⟩, x.ways, x.cost, x.kind, (i : Int), x.first, x.rest⟩ : Cell21) xw
            rw [updB_updB] at this
            simp only [box_eta, join_self] at this ⊢
            exact this
        · have e2 : accB (l.getD []) S (i + 1) = some (joinBox b y.box) := by
            show (bif outQ S i then accB (l.getD []) S i else _) = _
            rw [hb, k2, ← by']
            rfl
          have xb2 : x.box = b := by
            rw [xb', k2]
            rfl
          refine ⟨(setS C (S : Int) (⟨⟨(joinBox b y.box).x1, (joinBox b y.box).y1, (joinBox b y.box).x2, (joinBox b y.box).y2⟩, x.ways, x.cost, x.kind, (i : Int), x.first, x.rest⟩ : Cell21), (cntB S (i + 1) : Int), ((i + 1 : Nat) : Int)), ?_, _, rfl, ?_⟩
          · have z : decide ((cntB S i : Int) = 0) = false := decide_eq_false (by omega)
            rw [e1]
            unfold s0_spec_l21Chart_fill
            simp only [h.list, c, decide_true, cond_true, obind_sm, shr_ok, o, hb, cond_false, z, getI_nat hy, getI_nat hx', look, setS_set2, xb2, w, wm]
          · rw [e2]
            have := hq.setC hS (⟨⟨(joinBox b y.box).x1, (joinBox b y.box).y1, (joinBox b y.box).x2, (joinBox b y.box).y2⟩, x.ways, x.cost, x.kind, (i : Int), x.first, x.rest⟩ : Cell21) xw
            rw [updB_updB] at this
            exact this)
    (fun s hq => by
      obtain ⟨C, rfl, hq⟩ := hq
      refine ⟨_, ?_, C, rfl, hq⟩
      unfold s0_spec_l21Chart_fill
      simp only [h.list, Int.lt_irrefl, decide_false, cond_false])
    ⟨p.cells, rfl, by
      show CI l n (updB bx S ⟨0, 0, 0, 0⟩) base ⟨l, p.cells⟩
      rw [updB_id h0]
      exact ⟨rfl, h.len, h.cells⟩⟩
  exact ⟨C, h1, h2⟩

/-! ### FnExactCountTrees -/
theorem PI.setB {l : Sl Symbol} {n : Nat} {bx : Nat → Box} {c : Nat → Int} {S : Nat} {p : Parser} (h : PI l n bx c p) (hS : S < n) (b : Box) : PI l n (updB bx S b) c ⟨p.list, setS p.boxes (S : Int) b, p.best, p.count⟩ := by
  refine ⟨h.list, fun v hv => ?_, h.best, h.clen, h.count⟩
  show ((setS p.boxes (S : Int) b).getD [])[v]? = _
  rw [setS_look (h.boxes S hS)]
  unfold updB
  by_cases e : v = S
  · rw [if_pos e, if_pos e]
  · rw [if_neg e, if_neg e, h.boxes v hv]

theorem PI.setC {l : Sl Symbol} {n : Nat} {bx : Nat → Box} {c : Nat → Int} {S : Nat} {p : Parser} (h : PI l n bx c p) (hS : S < n) (x : Int) : PI l n bx (upd c S x) ⟨p.list, p.boxes, p.best, setS p.count (S : Int) x⟩ := by
  refine ⟨h.list, h.boxes, h.best, by show ((setS p.count (S : Int) _).getD []).length = n; rw [setS_len]; exact h.clen, fun v hv => ?_⟩
  show ((setS p.count (S : Int) x).getD [])[v]? = _
  rw [setS_look (h.count S hS)]
  unfold upd
  by_cases e : v = S
  · rw [if_pos e, if_pos e]
  · rw [if_neg e, if_neg e, h.count v hv]

def sumI (bx : Nat → Box) (base : Nat → Int) (ls : List Symbol) (S : Nat) : Int :=
  0 + sumL (fun a => sumK (fun k => termT bx base k ⟨0, 0, 0, 0⟩ a (dif S a)) [1, 3, 4]) (subA S) + sumL (gI bx base ls S) (List.range ls.length)

theorem sum_both (bx : Nat → Box) (base : Nat → Int) (ls : List Symbol) (S : Nat) : sumI bx base ls S =
    0 + sumL (fun a => termT bx base 1 ⟨0, 0, 0, 0⟩ a (dif S a)) (subA S) + sumL (gS bx base ls S 2) (List.range ls.length) + sumL (fun a => termT bx base 3 ⟨0, 0, 0, 0⟩ a (dif S a)) (subA S) + sumL (fun a => termT bx base 4 ⟨0, 0, 0, 0⟩ a (dif S a)) (subA S) + sumL (gS bx base ls S 5) (List.range ls.length) := by
  unfold sumI
  rw [sumL_congr (g := fun a => termT bx base 1 ⟨0, 0, 0, 0⟩ a (dif S a) + (termT bx base 3 ⟨0, 0, 0, 0⟩ a (dif S a) + termT bx base 4 ⟨0, 0, 0, 0⟩ a (dif S a))) fun a _ => by simp [sumK], sumL_add, sumL_add,
    sumL_congr (g := fun i => gS bx base ls S 2 i + gS bx base ls S 5 i) fun i _ => g_split bx base ls S i, sumL_add]
  omega

def valS (bx : Nat → Box) (base : Nat → Int) (ls : List Symbol) (S : Nat) : Int := if S &&& (S - 1) = 0 then 1 else wr (sumI bx base ls S)

theorem solveI {l : Sl Symbol} {n : Nat} {bx : Nat → Box} {base : Nat → Int} {S : Nat} {p : Parser} (h : PI l n bx base p) (h0 : base S = 0) (hS : S < n) (hS2 : S < 256) (hS0 : 0 < S) (hl : (l.getD []).length ≤ 8) :
    ∃ p', t_impl_parser_solve p (S : Int) = some p' ∧ PI l n (updB bx S (boxB (l.getD []) S)) (upd base S (valS (updB bx S (boxB (l.getD []) S)) base (l.getD []) S)) p' := by
  have hb := h.boxes S hS
  have hc := h.count S hS
  have B := h.setB hS (boxB (l.getD []) S)
  have w : wr ((S : Int) - 1) = ((S - 1 : Nat) : Int) := by rw [wr_id (by omega) (by omega)]; omega
  have an : andI (S : Int) ((S - 1 : Nat) : Int) = ((S &&& (S - 1) : Nat) : Int) := andI_nat (by omega) (by omega)
  unfold t_impl_parser_solve valS
  rw [h.list, boxI S hl]
  simp only [obind_sm, getI_nat hb, w, an]
  by_cases e : S &&& (S - 1) = 0
  · have d : decide (((S &&& (S - 1) : Nat) : Int) = 0) = true := decide_eq_true (by rw [e]; rfl)
    rw [d, if_pos e]
    simp only [cond_true, getI_nat hc, obind_sm]
    have := B.setC hS 1
    rw [h.list] at this
    exact ⟨_, rfl, this⟩
  · have d : decide (((S &&& (S - 1) : Nat) : Int) = 0) = false := decide_eq_false (by omega)
    rw [d, if_neg e]
    simp only [cond_false]
    rw [← upd_same h0] at B
    obtain ⟨c, e1, e2⟩ := splitI (K := [1, 3, 4]) (sg := 0) (box := ⟨0, 0, 0, 0⟩) B hS hS2 hS0 (Nat.le_refl _) (fun k hk => by simp at hk; omega) (by simp)
    rw [h.list] at e1
    obtain ⟨p', e3, e4⟩ := loopI e2 hS hS2 e hl
    refine ⟨p', ?_, e4⟩
    rw [e1, obind_sm, e3]
    rfl

theorem fillS {l : Sl Symbol} {n : Nat} {bx : Nat → Box} {base : Nat → Int} {S : Nat} {p : Chart21} (h : CI l n bx base p) (h0 : base S = 0) (hb0 : bx S = ⟨0, 0, 0, 0⟩) (hS : S < n) (hn : n = 2 ^ (l.getD []).length) (hS2 : S < 256) (hS0 : 0 < S) (hl : (l.getD []).length ≤ 8) :
    ∃ p', t_spec_l21Chart_fill p (S : Int) = some p' ∧ CI l n (updB bx S (boxB (l.getD []) S)) (upd base S (valS (updB bx S (boxB (l.getD []) S)) base (l.getD []) S)) p' := by
  obtain ⟨C, e1, e2⟩ := boxS h hS hb0 hl
  have ob := one_bit ⟨(l.getD []).length, by omega⟩ ⟨S, hS2⟩
  have ob2 : decide (cntB S (l.getD []).length = 1) = decide (S &&& (S - 1) = 0) := by
    rw [Bool.or_eq_true, Bool.or_eq_true] at ob
    rcases ob with k | k | k
    · have : 2 ^ (l.getD []).length ≤ S := of_decide_eq_true k
      omega
    · have : S = 0 := of_decide_eq_true k
      omega
    · exact of_decide_eq_true k
  unfold t_spec_l21Chart_fill valS
  rw [e1]
  simp only [obind_sm]
  by_cases e : S &&& (S - 1) = 0
  · rw [decide_eq_true e] at ob2
    have d : decide ((cntB S (l.getD []).length : Int) = 1) = true := decide_eq_true (by have := of_decide_eq_true ob2; omega)
    rw [d, if_pos e]
    obtain ⟨x, hx, xb, xw⟩ := e2.cells S hS
    have hx' : (C.getD [])[S]? = some x := hx
    simp only [cond_true, getI_nat hx', obind_sm]
    refine ⟨_, rfl, h.list, by show ((setS C (S : Int) _).getD []).length = n; rw [setS_len]; exact e2.len, fun v hv => ?_⟩
    show ∃ x, ((setS C (S : Int) _).getD [])[v]? = some x ∧ _
    rw [setS_look hx']
    by_cases ev : v = S
    · subst ev
      rw [if_pos rfl, upd_self]
      exact ⟨_, rfl, xb, rfl⟩
    · rw [if_neg ev, upd_ne _ ev]
      exact e2.cells v hv
  · rw [decide_eq_false e] at ob2
    have d : decide ((cntB S (l.getD []).length : Int) = 1) = false := decide_eq_false (by have := of_decide_eq_false ob2; omega)
    rw [d, if_neg e, sum_both]
    simp only [cond_false]
    rw [← upd_same h0] at e2
    rw [h.list]
    have ns : ∀ k : Int, k = 1 ∨ k = 3 ∨ k = 4 → hasSign k = true → ((l.getD [])[0]? = some (⟨⟨#[]⟩, ⟨0, 0, 0, 0⟩⟩ : Symbol) ∧ (⟨⟨#[]⟩, ⟨0, 0, 0, 0⟩⟩ : Symbol).box = ⟨0, 0, 0, 0⟩) := fun k hk hs => by
      rcases hk with rfl | rfl | rfl <;> cases hs
    obtain ⟨c1, a1, b1⟩ := splitS (k := 1) (sg := 0) (y := ⟨⟨#[]⟩, ⟨0, 0, 0, 0⟩⟩) (box := ⟨0, 0, 0, 0⟩) e2 hS hS2 hS0 (Nat.le_refl _) (.inl rfl) (ns 1 (.inl rfl)) (fun _ => rfl)
    obtain ⟨c2, a2, b2⟩ := signsS (k := 2) b1 hS hS2 e hl (.inl rfl)
    obtain ⟨c3, a3, b3⟩ := splitS (k := 3) (sg := 0) (y := ⟨⟨#[]⟩, ⟨0, 0, 0, 0⟩⟩) (box := ⟨0, 0, 0, 0⟩) b2 hS hS2 hS0 (Nat.le_refl _) (.inr (.inr (.inl rfl))) (ns 3 (.inr (.inl rfl))) (fun _ => rfl)
    obtain ⟨c4, a4, b4⟩ := splitS (k := 4) (sg := 0) (y := ⟨⟨#[]⟩, ⟨0, 0, 0, 0⟩⟩) (box := ⟨0, 0, 0, 0⟩) b3 hS hS2 hS0 (Nat.le_refl _) (.inr (.inr (.inr rfl))) (ns 4 (.inr (.inr rfl))) (fun _ => rfl)
    obtain ⟨c5, a5, b5⟩ := signsS (k := 5) b4 hS hS2 e hl (.inr rfl)
    have z : ((0 : Nat) : Int) = 0 := rfl
    rw [z] at a1 a3 a4
    refine ⟨⟨c5.list, c5.cells⟩, ?_, b5⟩
    simp only [a1, obind_sm, a2, a3, a4, a5]

theorem topLoop {l : Sl Symbol} {n : Nat} (hn : n = 2 ^ (l.getD []).length) (hn2 : n ≤ 256) (hl : (l.getD []).length ≤ 8) : ∀ (d S : Nat) (p : Parser) (c : Chart21) (bx : Nat → Box) (base : Nat → Int), S + d = n → 0 < S → PI l n bx base p → CI l n bx base c → (∀ v, S ≤ v → base v = 0 ∧ bx v = ⟨0, 0, 0, 0⟩) →
    ∃ (p' : Parser) (c' : Chart21) (bx' : Nat → Box) (base' : Nat → Int), loopT (s0_impl_solved (n : Int)) (p.boxes, p.best, p.count, p.list, (S : Int)) = some (p'.boxes, p'.best, p'.count, p'.list) ∧ loopT s0_spec_l21Fill (c.cells, c.list, (S : Int)) = some (c'.cells, c'.list) ∧ PI l n bx' base' p' ∧ CI l n bx' base' c'
  | 0, S, p, c, bx, base, hd, hS0, hp, hc, _ => by
    have : S = n := by omega
    subst this
    refine ⟨p, c, bx, base, loopT_end ?_, loopT_end ?_, hp, hc⟩
    · unfold s0_impl_solved
      simp only [Int.lt_irrefl, decide_false, cond_false]
    · unfold s0_spec_l21Fill
      simp only [hc.len, Int.lt_irrefl, decide_false, cond_false]
  | d + 1, S, p, c, bx, base, hd, hS0, hp, hc, hz => by
    have hS : S < n := by omega
    obtain ⟨z1, z2⟩ := hz S (Nat.le_refl _)
    obtain ⟨p1, e1, P1⟩ := solveI hp z1 hS (by omega) hS0 hl
    obtain ⟨c1, e2, C1⟩ := fillS hc z1 z2 hS hn (by omega) hS0 hl
    obtain ⟨p', c', bx', base', g1, g2, g3, g4⟩ := topLoop hn hn2 hl d (S + 1) p1 c1 _ _ (by omega) (by omega) P1 C1 (fun v hv => by
      have hne : v ≠ S := by omega
      obtain ⟨y1, y2⟩ := hz v (by omega)
      rw [upd_ne _ hne]
      refine ⟨y1, ?_⟩
      unfold updB
      rw [if_neg hne]
      exact y2)
    have cc : (S : Int) < (n : Int) := by omega
    have w : wr ((S : Int) + 1) = ((S + 1 : Nat) : Int) := wr_succ hS (by omega)
    have e1' : t_impl_parser_solve (⟨p.list, p.boxes, p.best, p.count⟩ : Parser) (S : Int) = some p1 := e1
    have e2' : t_spec_l21Chart_fill (⟨c.list, c.cells⟩ : Chart21) (S : Int) = some c1 := e2
    refine ⟨p', c', bx', base', ?_, ?_, g3, g4⟩
    · rw [loopT_next (s' := (p1.boxes, p1.best, p1.count, p1.list, ((S + 1 : Nat) : Int)))]
      · exact g1
      · unfold s0_impl_solved
        simp only [cc, decide_true, cond_true, e1', obind_sm, w]
    · rw [loopT_next (s' := (c1.cells, c1.list, ((S + 1 : Nat) : Int)))]
      · exact g2
      · unfold s0_spec_l21Fill
        simp only [hc.len, cc, decide_true, cond_true, e2', obind_sm, w]

theorem shl_ok9 : ∀ i : Fin 9, shlO 1 (i.val : Int) = some ((2 ^ i.val : Nat) : Int) := by decide +kernel

theorem count_both (l : Sl Symbol) (hl : (l.getD []).length ≤ 8) : ∃ (p : Parser) (c : Chart21) (bx : Nat → Box) (base : Nat → Int), t_impl_solved l = some p ∧ t_spec_l21Fill l = some c ∧ PI l (2 ^ (l.getD []).length) bx base p ∧ CI l (2 ^ (l.getD []).length) bx base c := by
  have hn2 : 2 ^ (l.getD []).length ≤ 2 ^ 8 := Nat.pow_le_pow_right (by omega) hl
  have hn0 : 0 < 2 ^ (l.getD []).length := Nat.pow_pos (by omega)
  have sh : shlO 1 (((l.getD []).length : Nat) : Int) = some ((2 ^ (l.getD []).length : Nat) : Int) := shl_ok9 ⟨(l.getD []).length, by omega⟩
  generalize hn : 2 ^ (l.getD []).length = n at *
  have p0 : PI l n (fun _ => ⟨0, 0, 0, 0⟩) (fun _ => 0) ⟨l, some (List.replicate n ⟨0, 0, 0, 0⟩), some (List.replicate n ⟨0, 0, 0, 0, 0⟩), some (List.replicate n 0)⟩ :=
    ⟨rfl, fun v hv => by show (List.replicate n _)[v]? = _; rw [List.getElem?_replicate, if_pos hv], List.length_replicate, List.length_replicate, fun v hv => by show (List.replicate n _)[v]? = _; rw [List.getElem?_replicate, if_pos hv]⟩
  have c0 : CI l n (fun _ => ⟨0, 0, 0, 0⟩) (fun _ => 0) ⟨l, some (List.replicate n ⟨⟨0, 0, 0, 0⟩, 0, 0, 0, 0, 0, 0⟩)⟩ :=
    ⟨rfl, List.length_replicate, fun v hv => ⟨⟨⟨0, 0, 0, 0⟩, 0, 0, 0, 0, 0, 0⟩, by show (List.replicate n _)[v]? = _; rw [List.getElem?_replicate, if_pos hv], rfl, rfl⟩⟩
  obtain ⟨p', c', bx', base', g1, g2, g3, g4⟩ := topLoop hn.symm (by omega) hl (n - 1) 1 _ _ _ _ (by omega) (by omega) p0 c0 (fun _ _ => ⟨rfl, rfl⟩)
  have g1' : loopT (s0_impl_solved (n : Int)) (some (List.replicate n (⟨0, 0, 0, 0⟩ : Box)), some (List.replicate n (⟨0, 0, 0, 0, 0⟩ : Choice)), some (List.replicate n (0 : Int)), l, 1) = some (p'.boxes, p'.best, p'.count, p'.list) := g1
  have g2' : loopT s0_spec_l21Fill (some (List.replicate n (⟨⟨0, 0, 0, 0⟩, 0, 0, 0, 0, 0, 0⟩ : Cell21)), l, 1) = some (c'.cells, c'.list) := g2
  refine ⟨p', c', bx', base', ?_, ?_, g3, g4⟩
  · unfold t_impl_solved
    rw [sh]
    simp only [obind_sm, make_len _ (show n ≤ 4294967296 by omega), g1']
  · unfold t_spec_l21Fill
    rw [sh]
    simp only [obind_sm, make_len _ (show n ≤ 4294967296 by omega), g2']

theorem trees_both (l : Sl Symbol) (hl : (l.getD []).length ≤ 4294967296) : ∃ r, t_impl_CountTrees l = some r ∧ t_spec_CountTrees l = some r := by
  unfold t_impl_CountTrees t_spec_CountTrees
  rw [validSys_ok l hl, l20Ok_ok l hl]
  simp only [obind_sm]
  cases hv : okSys (l.getD []) with
  | false => exact ⟨(0, 1), rfl, rfl⟩
  | true =>
    have h8 : (l.getD []).length ≤ 8 := okSys_len hv
    obtain ⟨p, c, bx, base, e1, e2, P, C⟩ := count_both l h8
    have hn0 : 0 < 2 ^ (l.getD []).length := Nat.pow_pos (by omega)
    have hn2 : 2 ^ (l.getD []).length ≤ 2 ^ 8 := Nat.pow_le_pow_right (by omega) h8
    generalize 2 ^ (l.getD []).length = n at *
    have w : wr ((n : Int) - 1) = ((n - 1 : Nat) : Int) := by rw [wr_id (by omega) (by omega)]; omega
    have k1 := P.count (n - 1) (by omega)
    obtain ⟨x, k2, _, k3⟩ := C.cells (n - 1) (by omega)
    refine ⟨(base (n - 1), 0), ?_, ?_⟩
    · simp only [Bool.not_true, cond_false, e1, obind_sm, P.clen, w, getI_nat k1]
    · simp only [Bool.not_true, cond_false, e2, obind_sm, C.len, w, getI_nat k2, k3]

theorem true_FnExactCountTrees (a : Sl Symbol) (ha : (a.getD []).length ≤ maxLen) : t_laws_FnExactCountTrees a = some true := by
  rw [maxLen_eq] at ha
  obtain ⟨r, sz, hr⟩ := szSymbolS_ok a (by omega)
  unfold t_laws_FnExactCountTrees
  rw [sz, obind_sm]
  by_cases c0 : r < 0
  · rw [decide_eq_true c0, cond_true]
  rw [decide_eq_false c0, cond_false]
  have hl : (a.getD []).length ≤ 1048576 := hr.resolve_left c0
  have tb := toSymbolS_ok a (by omega)
  obtain ⟨v, t1, t2⟩ := trees_both (some (a.getD [])) (by show (a.getD []).length ≤ _; omega)
  have E := eqSy_ok (a := some (a.getD [])) (b := some (a.getD [])) rfl (by show (a.getD []).length ≤ _; omega)
  simp only [tb, obind_sm, t1, t2, decide_true, Bool.not_true, cond_false, E]

theorem ok_laws_FnExactCountTrees : PureOK Try.prog n_laws_FnExactCountTrees (G1 (fun a : Sl Symbol => Wt.big a) fun _ => bv true) := lawC1 tt_laws_FnExactCountTrees fun a h => true_FnExactCountTrees a (big_len h)

theorem law_FnExactCountTrees (a : Sl Symbol) (ha : Row.fine a) : G1 (fun a : Sl Symbol => Wt.big a) (fun _ => bv true) [enc a] = some (bv true) := G1_enc _ _ a (Wt.fb a ha)

theorem isC_9 {cs : List AV} (h : IsC Try.prog 9 cs) : ∃ x : ByteArray, cs = Row.cells x ∧ Row.fine x := by
  obtain ⟨n, rfl, hn⟩ := IsC.strE Try.underlying9 h
  exact ⟨n, rfl, hn⟩
theorem isC_2 {cs : List AV} (h : IsC Try.prog 2 cs) : ∃ x : Int, cs = Row.cells x ∧ Row.fine x := by
  obtain ⟨n, rfl, hn⟩ := IsC.intE Try.underlying2 h
  exact ⟨n, rfl, fine_int hn⟩
theorem isC_113 {cs : List AV} (h : IsC Try.prog 113 cs) : ∃ x : Box, cs = Row.cells x ∧ Row.fine x := by
  replace h := IsC.structE Try.underlying113 h
  obtain ⟨c0, r0, rfl, q0, k0⟩ := IsFs.consE h
  obtain ⟨c1, r1, rfl, q1, k1⟩ := IsFs.consE k0
  obtain ⟨c2, r2, rfl, q2, k2⟩ := IsFs.consE k1
  obtain ⟨c3, r3, rfl, q3, k3⟩ := IsFs.consE k2
  cases IsFs.nilE k3
  obtain ⟨v0, rfl, w0⟩ := isC_2 q0
  obtain ⟨v1, rfl, w1⟩ := isC_2 q1
  obtain ⟨v2, rfl, w2⟩ := isC_2 q2
  obtain ⟨v3, rfl, w3⟩ := isC_2 q3
  exact ⟨⟨v0, v1, v2, v3⟩, rfl, w0, w1, w2, w3⟩
theorem isC_152 {cs : List AV} (h : IsC Try.prog 152 cs) : ∃ x : Symbol, cs = Row.cells x ∧ Row.fine x := by
  replace h := IsC.structE Try.underlying152 h
  obtain ⟨c0, r0, rfl, q0, k0⟩ := IsFs.consE h
  obtain ⟨c1, r1, rfl, q1, k1⟩ := IsFs.consE k0
  cases IsFs.nilE k1
  obtain ⟨v0, rfl, w0⟩ := isC_9 q0
  obtain ⟨v1, rfl, w1⟩ := isC_113 q1
  exact ⟨⟨v0, v1⟩, rfl, w0, w1⟩
theorem isC_85 {cs : List AV} (h : IsC Try.prog 85 cs) : ∃ x : (Sl Symbol), cs = Row.cells x ∧ Row.fine x := by
  rcases IsC.sliceE Try.underlying85 h with rfl | ⟨rows, rfl, h1, h2⟩
  · exact ⟨none, rfl, Sl.fineNil⟩
  · exact Sl.isC (by kernel_rfl) h1 fun row hr => isC_152 (h2 row hr)
theorem own : ownKnob Try.prog.godebug = none := by kernel_rfl
theorem laidOut : laidOutB Try.prog = true := by kernel_rfl

set_option maxRecDepth 100000 in
theorem holds : Rows.FnExactCountTreesSaid :=
  OpenClaim.holds_of_wide 7 Try.f7 rfl rfl rfl rfl rfl rfl rfl ⟨rfl, rfl, rfl, rfl, rfl⟩ rfl rfl rfl rfl rfl (by kernel_rfl) Try.func7 (by kernel_rfl)
    (of_decide_eq_true (by kernel_rfl)) (by unfold Func.isWrapper; rw [if_neg (by decide +kernel)]; exact ⟨rfl, rfl⟩)
    (fun os started H enc _ => law_lifted (C := Try.checked) (s := Rows.fnExactCountTreesSpec) own started (by kernel_rfl) Try.func7
      (ChangeSpec.witness6 (enc := enc) (C := Try.checked) false ⟨#[], #[.slice none 0 0], []⟩ 8 (by kernel_rfl) (by kernel_rfl) (by kernel_rfl) (by kernel_rfl))
      laidOut rfl (tb := 4) rfl Try.underlying4 (ts := [85, 152, 9, 113, 2]) (by kernel_rfl)
      (fun ds h => by match ds, h with | [d0], _ => rfl)
      hb_laws_FnExactCountTrees ok_laws_FnExactCountTrees (by
    intro l h
    obtain ⟨a0, l0, rfl, g0, k0⟩ := h
    cases k0
    obtain ⟨b0, e0, w0⟩ := isC_85 (isV_one (by kernel_rfl) g0)
    obtain rfl := one_enc e0
    exact law_FnExactCountTrees b0 w0) (by kernel_rfl))
#print axioms holds
end Go.Proofs.Ytcdahloanikigaa
