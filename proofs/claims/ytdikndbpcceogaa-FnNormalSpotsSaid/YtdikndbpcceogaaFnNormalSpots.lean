/-
  The law FnNormalSpots holds, for all arguments: it returns true, and its arguments read behind the call as before. No condition.
-/
import Derived.Test.YtdikndbpcceogaaFnNormalSpotsPartA
import Derived.Test.YtdikndbpcceogaaRows
namespace Go.Proofs.Ytdikndbpcceogaa
open Go Go.Eng Go.Eng.Cod
set_option maxRecDepth 100000
set_option linter.unusedVariables false
set_option linter.unusedSimpArgs false

theorem ts_spec_DrawNormalSpots (env : Nat → Contract) (he_spec_BoxOfSpots : env n_spec_BoxOfSpots = .pure (C1 (fun c : Box × Int => AV.tup [enc c.1, enc c.2]) t_spec_BoxOfSpots)) (he_spec_l00From : env n_spec_l00From = .pure (C1 fromA (fun q : Sl UInt8 => some q))) (he_spec_l00Max : env n_spec_l00Max = .pure (T2 (fun a b : Int => max a b))) (he_spec_l00Min : env n_spec_l00Min = .pure (T2 (fun a b : Int => min a b))) (he_spec_l00Src_one : env n_spec_l00Src_one = .gen (denFn Try.prog ev_spec_l00Src_one n_spec_l00Src_one)) (he_spec_l00Src_pick : env n_spec_l00Src_pick = .gen (denFn Try.prog ev_spec_l00Src_pick n_spec_l00Src_pick)) (he_spec_l02DrawBox : env n_spec_l02DrawBox = .gen (denFn Try.prog ev_spec_l02DrawBox n_spec_l02DrawBox)) (he_spec_l07Spots : env n_spec_l07Spots = .gen (denFn Try.prog ev_spec_l07Spots n_spec_l07Spots)) (code_ : Sl UInt8) : Sim (denFnM true Try.prog env n_spec_DrawNormalSpots [Sl.enc code_] []) (t_spec_DrawNormalSpots code_) fun c p => release p.2 depth p.1 = some ((fun c : (Sl Spot) × Box => AV.tup [rS c.1, enc c.2]) c) := by
  have O := Hold.nil []
  generalize hB : (⟨[], []⟩ : Base) = B at O
  clear hB
  rw [e_spec_DrawNormalSpots]
  unfold t_spec_DrawNormalSpots
  refine sim_box O (cs := [iv 0, iv 0, iv 0, iv 0]) (by first | rfl | simp) (fun o1 h2 O3 => ?_)
  replace O3 : Hold B h2 [(AV.ptr o1 1 0 0, .pt 4 [iv 0, iv 0, iv 0, iv 0])] := O3
  refine sim_src O3 he_spec_l00From (snapD_enc _ _) (by first | rfl | exact noRef_enc _) (fun o5 h6 O7 => ?_)
  replace O7 : Hold B h6 [(AV.ptr o1 1 0 0, .pt 4 [iv 0, iv 0, iv 0, iv 0]), (AV.ptr o5 1 0 0, .pt 3 [Sl.enc code_, iv 0, AV.sc (.int .u64 0)])] := O7
  refine sim_gen he_spec_l07Spots (tg_spec_l07Spots (⟨code_, 0, 0⟩ : l00Src) (O7.start (i := 1) rfl rfl)) (fun c9 v10 h11 hq12 => ?_)
  obtain ⟨x15, e_v10, O13⟩ := hq12
  dsimp only at e_v10
  subst v10
  have O14 : Hold B h11 [(AV.ptr o1 1 0 0, .pt 4 [iv 0, iv 0, iv 0, iv 0]), (AV.ptr o5 1 0 0, .pt 3 [Sl.enc c9.2.code, iv c9.2.pos, AV.sc (.int .u64 c9.2.seed)]), (x15, obS (c9.1 : Sl Spot))] := O7.merge (i := 1) rfl rfl O13
  refine sim_call1 he_spec_BoxOfSpots ((O14.tab (A := Spot) (s := c9.1) 2 rfl).snap) (fun c17 => ?_)
  refine sim_let2 (hand_plain (by rfl) _ _) ?_
  refine sim_let (v := AV.agg [iv c17.1.x1, iv c17.1.y1, iv c17.1.x2, iv c17.1.y2]) rfl ?_
  refine sim_let (v := iv c17.2) rfl ?_
  refine sim_box O14 (cs := [iv 0, iv 0, iv 0, iv 0]) (by first | rfl | simp) (fun o18 h19 O20 => ?_)
  replace O20 : Hold B h19 [(AV.ptr o1 1 0 0, .pt 4 [iv 0, iv 0, iv 0, iv 0]), (AV.ptr o5 1 0 0, .pt 3 [Sl.enc c9.2.code, iv c9.2.pos, AV.sc (.int .u64 c9.2.seed)]), (x15, obS (c9.1 : Sl Spot)), (AV.ptr o18 1 0 0, .pt 4 [iv 0, iv 0, iv 0, iv 0])] := O20
  refine sim_store O20 3 (cs' := [iv c17.1.x1, iv c17.1.y1, iv c17.1.x2, iv c17.1.y2]) rfl (by first | rfl | simp) (by simp) (by first | rfl | simp) (by first | rfl | simp [splice]) (fun h22 O23 => ?_)
  replace O23 : Hold B h22 [(AV.ptr o1 1 0 0, .pt 4 [iv 0, iv 0, iv 0, iv 0]), (AV.ptr o5 1 0 0, .pt 3 [Sl.enc c9.2.code, iv c9.2.pos, AV.sc (.int .u64 c9.2.seed)]), (x15, obS (c9.1 : Sl Spot)), (AV.ptr o18 1 0 0, .pt 4 [iv c17.1.x1, iv c17.1.y1, iv c17.1.x2, iv c17.1.y2])] := O23
  refine sim_let (v := bv (!decide (c17.2 = 0))) (aCmp_ne _ _) ?_
  refine sim_split (b := !decide (c17.2 = 0)) (fun hb31 => ?_) (fun hb31 => ?_)
  · refine sim_goffF hb31 ?_
    refine sim_pickM hb31 ?_
    refine sim_gen he_spec_l02DrawBox (tg_spec_l02DrawBox c9.2 (O23.start (i := 1) rfl rfl)) (fun c32 v33 h34 hq35 => ?_)
    obtain ⟨e_v33, O36⟩ := hq35
    dsimp only at e_v33
    subst v33
    have O37 : Hold B h34 [(AV.ptr o1 1 0 0, .pt 4 [iv 0, iv 0, iv 0, iv 0]), (AV.ptr o5 1 0 0, .pt 3 [Sl.enc c32.2.code, iv c32.2.pos, AV.sc (.int .u64 c32.2.seed)]), (x15, obS (c9.1 : Sl Spot)), (AV.ptr o18 1 0 0, .pt 4 [iv c17.1.x1, iv c17.1.y1, iv c17.1.x2, iv c17.1.y2])] := O23.merge (i := 1) rfl rfl O36
    refine sim_store O37 0 (cs' := [iv c32.1.x1, iv c32.1.y1, iv c32.1.x2, iv c32.1.y2]) rfl (by first | rfl | simp) (by simp) (by first | rfl | simp) (by first | rfl | simp [splice]) (fun h38 O39 => ?_)
    replace O39 : Hold B h38 [(AV.ptr o1 1 0 0, .pt 4 [iv c32.1.x1, iv c32.1.y1, iv c32.1.x2, iv c32.1.y2]), (AV.ptr o5 1 0 0, .pt 3 [Sl.enc c32.2.code, iv c32.2.pos, AV.sc (.int .u64 c32.2.seed)]), (x15, obS (c9.1 : Sl Spot)), (AV.ptr o18 1 0 0, .pt 4 [iv c17.1.x1, iv c17.1.y1, iv c17.1.x2, iv c17.1.y2])] := O39
    refine sim_retL (resL_v (v := x15) (resL_c (v := AV.agg [iv c32.1.x1, iv c32.1.y1, iv c32.1.x2, iv c32.1.y2]) (O39.ld 0 rfl true 4 0) (resL_nil _))) ?_
    dsimp only [pack]
    have O40 : Hold B h38 [(x15, obS (c9.1 : Sl Spot))] := O39.sel [2] (by decide) rfl
    exact sim_ret (release_of (by simp only [ids_tup, ids_aggD, ids_agg, ids_iv, ids_bv, ids_sv, ids_bt, ids_nilS, ids_enc, O40.idsD (A := Spot) (s := c9.1) 0 rfl, List.map_append, List.map_nil, List.flatMap_cons, List.flatMap_nil, List.append_nil, List.nil_append]; simpa only [List.flatMap_cons, List.flatMap_nil, List.append_nil, List.nil_append] using O40.nd2) (by simp only [rel_tup, rel_aggD, rel_agg, rel_iv, rel_bv, rel_sv, rel_bt, rel_nilS, rel_enc, O40.relD (A := Spot) (s := c9.1) 0 rfl, omapc, omapn, obind_sm] <;> rfl))
  · refine sim_gonF hb31 ?_
    refine sim_as2 ?_
    refine sim_gen he_spec_l00Src_one (tg_spec_l00Src_one c9.2 10 (O23.start (i := 1) rfl rfl)) (fun c41 v42 h43 hq44 => ?_)
    obtain ⟨e_v42, O45⟩ := hq44
    dsimp only at e_v42
    subst v42
    have O46 : Hold B h43 [(AV.ptr o1 1 0 0, .pt 4 [iv 0, iv 0, iv 0, iv 0]), (AV.ptr o5 1 0 0, .pt 3 [Sl.enc c41.2.code, iv c41.2.pos, AV.sc (.int .u64 c41.2.seed)]), (x15, obS (c9.1 : Sl Spot)), (AV.ptr o18 1 0 0, .pt 4 [iv c17.1.x1, iv c17.1.y1, iv c17.1.x2, iv c17.1.y2])] := O23.merge (i := 1) rfl rfl O45
    refine sim_sm2 ?_
    refine sim_let (v := bv (bif !decide (c17.2 = 0) then true else c41.1)) (pick_bb _ _ _) ?_
    refine sim_cond (fun c47 => ?_) (fun c47 => ?_)
    · refine sim_gen he_spec_l02DrawBox (tg_spec_l02DrawBox c41.2 (O46.start (i := 1) rfl rfl)) (fun c48 v49 h50 hq51 => ?_)
      obtain ⟨e_v49, O52⟩ := hq51
      dsimp only at e_v49
      subst v49
      have O53 : Hold B h50 [(AV.ptr o1 1 0 0, .pt 4 [iv 0, iv 0, iv 0, iv 0]), (AV.ptr o5 1 0 0, .pt 3 [Sl.enc c48.2.code, iv c48.2.pos, AV.sc (.int .u64 c48.2.seed)]), (x15, obS (c9.1 : Sl Spot)), (AV.ptr o18 1 0 0, .pt 4 [iv c17.1.x1, iv c17.1.y1, iv c17.1.x2, iv c17.1.y2])] := O46.merge (i := 1) rfl rfl O52
      refine sim_store O53 0 (cs' := [iv c48.1.x1, iv c48.1.y1, iv c48.1.x2, iv c48.1.y2]) rfl (by first | rfl | simp) (by simp) (by first | rfl | simp) (by first | rfl | simp [splice]) (fun h54 O55 => ?_)
      replace O55 : Hold B h54 [(AV.ptr o1 1 0 0, .pt 4 [iv c48.1.x1, iv c48.1.y1, iv c48.1.x2, iv c48.1.y2]), (AV.ptr o5 1 0 0, .pt 3 [Sl.enc c48.2.code, iv c48.2.pos, AV.sc (.int .u64 c48.2.seed)]), (x15, obS (c9.1 : Sl Spot)), (AV.ptr o18 1 0 0, .pt 4 [iv c17.1.x1, iv c17.1.y1, iv c17.1.x2, iv c17.1.y2])] := O55
      refine sim_retL (resL_v (v := x15) (resL_c (v := AV.agg [iv c48.1.x1, iv c48.1.y1, iv c48.1.x2, iv c48.1.y2]) (O55.ld 0 rfl true 4 0) (resL_nil _))) ?_
      dsimp only [pack]
      have O56 : Hold B h54 [(x15, obS (c9.1 : Sl Spot))] := O55.sel [2] (by decide) rfl
      exact sim_ret (release_of (by simp only [ids_tup, ids_aggD, ids_agg, ids_iv, ids_bv, ids_sv, ids_bt, ids_nilS, ids_enc, O56.idsD (A := Spot) (s := c9.1) 0 rfl, List.map_append, List.map_nil, List.flatMap_cons, List.flatMap_nil, List.append_nil, List.nil_append]; simpa only [List.flatMap_cons, List.flatMap_nil, List.append_nil, List.nil_append] using O56.nd2) (by simp only [rel_tup, rel_aggD, rel_agg, rel_iv, rel_bv, rel_sv, rel_bt, rel_nilS, rel_enc, O56.relD (A := Spot) (s := c9.1) 0 rfl, omapc, omapn, obind_sm] <;> rfl))
    · refine sim_gen he_spec_l00Src_one (tg_spec_l00Src_one c41.2 3 (O46.start (i := 1) rfl rfl)) (fun c57 v58 h59 hq60 => ?_)
      obtain ⟨e_v58, O61⟩ := hq60
      dsimp only at e_v58
      subst v58
      have O62 : Hold B h59 [(AV.ptr o1 1 0 0, .pt 4 [iv 0, iv 0, iv 0, iv 0]), (AV.ptr o5 1 0 0, .pt 3 [Sl.enc c57.2.code, iv c57.2.pos, AV.sc (.int .u64 c57.2.seed)]), (x15, obS (c9.1 : Sl Spot)), (AV.ptr o18 1 0 0, .pt 4 [iv c17.1.x1, iv c17.1.y1, iv c17.1.x2, iv c17.1.y2])] := O46.merge (i := 1) rfl rfl O61
      refine sim_cond (fun c63 => ?_) (fun c63 => ?_)
      · refine sim_let (v := AV.ptr o18 1 0 2) rfl ?_
        refine sim_let (v := iv c17.1.x2) (O62.ld 3 rfl false 1 2) ?_
        refine sim_gen he_spec_l00Src_pick (tg_spec_l00Src_pick c57.2 50 (O62.start (i := 1) rfl rfl)) (fun c64 v65 h66 hq67 => ?_)
        obtain ⟨e_v65, O68⟩ := hq67
        dsimp only at e_v65
        subst v65
        have O69 : Hold B h66 [(AV.ptr o1 1 0 0, .pt 4 [iv 0, iv 0, iv 0, iv 0]), (AV.ptr o5 1 0 0, .pt 3 [Sl.enc c64.2.code, iv c64.2.pos, AV.sc (.int .u64 c64.2.seed)]), (x15, obS (c9.1 : Sl Spot)), (AV.ptr o18 1 0 0, .pt 4 [iv c17.1.x1, iv c17.1.y1, iv c17.1.x2, iv c17.1.y2])] := O62.merge (i := 1) rfl rfl O68
        refine sim_guardP O68.len ?_
        refine sim_let (v := iv (wr (c17.1.x2 + c64.1))) (aBin_add _ _) ?_
        refine sim_guardP ⟨⟨(at_of (v := iv c17.1.x2) (O62.ld 3 rfl false 1 2)), ⟨(at_of (v := iv c17.1.x2) (O69.ld 3 rfl false 1 2)), trivial⟩⟩, trivial⟩ ?_
        refine sim_callV2 (t := (fun a b : Int => min a b)) he_spec_l00Min (snapD_int _ _) (snapD_int _ _) (fun c70 => ?_)
        refine sim_guardP (Nat.le_refl _) ?_
        refine sim_let (v := AV.ptr o18 1 0 2) rfl ?_
        refine sim_store O69 3 (cs' := [iv c17.1.x1, iv c17.1.y1, iv c70, iv c17.1.y2]) rfl (by first | rfl | simp) (by simp) (by first | rfl | simp) (by first | rfl | simp [splice]) (fun h71 O72 => ?_)
        replace O72 : Hold B h71 [(AV.ptr o1 1 0 0, .pt 4 [iv 0, iv 0, iv 0, iv 0]), (AV.ptr o5 1 0 0, .pt 3 [Sl.enc c64.2.code, iv c64.2.pos, AV.sc (.int .u64 c64.2.seed)]), (x15, obS (c9.1 : Sl Spot)), (AV.ptr o18 1 0 0, .pt 4 [iv c17.1.x1, iv c17.1.y1, iv c70, iv c17.1.y2])] := O72
        refine sim_guardP trivial ?_
        refine sim_gen he_spec_l00Src_one (tg_spec_l00Src_one c64.2 3 (O72.start (i := 1) rfl rfl)) (fun c73 v74 h75 hq76 => ?_)
        obtain ⟨e_v74, O77⟩ := hq76
        dsimp only at e_v74
        subst v74
        have O78 : Hold B h75 [(AV.ptr o1 1 0 0, .pt 4 [iv 0, iv 0, iv 0, iv 0]), (AV.ptr o5 1 0 0, .pt 3 [Sl.enc c73.2.code, iv c73.2.pos, AV.sc (.int .u64 c73.2.seed)]), (x15, obS (c9.1 : Sl Spot)), (AV.ptr o18 1 0 0, .pt 4 [iv c17.1.x1, iv c17.1.y1, iv c70, iv c17.1.y2])] := O72.merge (i := 1) rfl rfl O77
        refine sim_cond (fun c79 => ?_) (fun c79 => ?_)
        · refine sim_let (v := AV.ptr o18 1 0 1) rfl ?_
          refine sim_let (v := iv c17.1.y1) (O78.ld 3 rfl false 1 1) ?_
          refine sim_gen he_spec_l00Src_pick (tg_spec_l00Src_pick c73.2 50 (O78.start (i := 1) rfl rfl)) (fun c80 v81 h82 hq83 => ?_)
          obtain ⟨e_v81, O84⟩ := hq83
          dsimp only at e_v81
          subst v81
          have O85 : Hold B h82 [(AV.ptr o1 1 0 0, .pt 4 [iv 0, iv 0, iv 0, iv 0]), (AV.ptr o5 1 0 0, .pt 3 [Sl.enc c80.2.code, iv c80.2.pos, AV.sc (.int .u64 c80.2.seed)]), (x15, obS (c9.1 : Sl Spot)), (AV.ptr o18 1 0 0, .pt 4 [iv c17.1.x1, iv c17.1.y1, iv c70, iv c17.1.y2])] := O78.merge (i := 1) rfl rfl O84
          refine sim_guardP O84.len ?_
          refine sim_let (v := iv (wr (c17.1.y1 - c80.1))) (aBin_sub _ _) ?_
          refine sim_guardP ⟨⟨(at_of (v := iv c17.1.y1) (O78.ld 3 rfl false 1 1)), ⟨(at_of (v := iv c17.1.y1) (O85.ld 3 rfl false 1 1)), trivial⟩⟩, trivial⟩ ?_
          refine sim_callV2 (t := (fun a b : Int => max a b)) he_spec_l00Max (snapD_int _ _) (snapD_int _ _) (fun c86 => ?_)
          refine sim_guardP (Nat.le_refl _) ?_
          refine sim_let (v := AV.ptr o18 1 0 1) rfl ?_
          refine sim_store O85 3 (cs' := [iv c17.1.x1, iv c86, iv c70, iv c17.1.y2]) rfl (by first | rfl | simp) (by simp) (by first | rfl | simp) (by first | rfl | simp [splice]) (fun h87 O88 => ?_)
          replace O88 : Hold B h87 [(AV.ptr o1 1 0 0, .pt 4 [iv 0, iv 0, iv 0, iv 0]), (AV.ptr o5 1 0 0, .pt 3 [Sl.enc c80.2.code, iv c80.2.pos, AV.sc (.int .u64 c80.2.seed)]), (x15, obS (c9.1 : Sl Spot)), (AV.ptr o18 1 0 0, .pt 4 [iv c17.1.x1, iv c86, iv c70, iv c17.1.y2])] := O88
          refine sim_guardP trivial ?_
          refine sim_let (v := AV.agg [iv c17.1.x1, iv c86, iv c70, iv c17.1.y2]) (O88.ld 3 rfl true 4 0) ?_
          refine sim_store O88 0 (cs' := [iv c17.1.x1, iv c86, iv c70, iv c17.1.y2]) rfl (by first | rfl | simp) (by simp) (by first | rfl | simp) (by first | rfl | simp [splice]) (fun h89 O90 => ?_)
          replace O90 : Hold B h89 [(AV.ptr o1 1 0 0, .pt 4 [iv c17.1.x1, iv c86, iv c70, iv c17.1.y2]), (AV.ptr o5 1 0 0, .pt 3 [Sl.enc c80.2.code, iv c80.2.pos, AV.sc (.int .u64 c80.2.seed)]), (x15, obS (c9.1 : Sl Spot)), (AV.ptr o18 1 0 0, .pt 4 [iv c17.1.x1, iv c86, iv c70, iv c17.1.y2])] := O90
          refine sim_retL (resL_v (v := x15) (resL_c (v := AV.agg [iv c17.1.x1, iv c86, iv c70, iv c17.1.y2]) (O90.ld 0 rfl true 4 0) (resL_nil _))) ?_
          dsimp only [pack]
          have O91 : Hold B h89 [(x15, obS (c9.1 : Sl Spot))] := O90.sel [2] (by decide) rfl
          exact sim_ret (release_of (by simp only [ids_tup, ids_aggD, ids_agg, ids_iv, ids_bv, ids_sv, ids_bt, ids_nilS, ids_enc, O91.idsD (A := Spot) (s := c9.1) 0 rfl, List.map_append, List.map_nil, List.flatMap_cons, List.flatMap_nil, List.append_nil, List.nil_append]; simpa only [List.flatMap_cons, List.flatMap_nil, List.append_nil, List.nil_append] using O91.nd2) (by simp only [rel_tup, rel_aggD, rel_agg, rel_iv, rel_bv, rel_sv, rel_bt, rel_nilS, rel_enc, O91.relD (A := Spot) (s := c9.1) 0 rfl, omapc, omapn, obind_sm] <;> rfl))
        · refine sim_let (v := AV.agg [iv c17.1.x1, iv c17.1.y1, iv c70, iv c17.1.y2]) (O78.ld 3 rfl true 4 0) ?_
          refine sim_store O78 0 (cs' := [iv c17.1.x1, iv c17.1.y1, iv c70, iv c17.1.y2]) rfl (by first | rfl | simp) (by simp) (by first | rfl | simp) (by first | rfl | simp [splice]) (fun h92 O93 => ?_)
          replace O93 : Hold B h92 [(AV.ptr o1 1 0 0, .pt 4 [iv c17.1.x1, iv c17.1.y1, iv c70, iv c17.1.y2]), (AV.ptr o5 1 0 0, .pt 3 [Sl.enc c73.2.code, iv c73.2.pos, AV.sc (.int .u64 c73.2.seed)]), (x15, obS (c9.1 : Sl Spot)), (AV.ptr o18 1 0 0, .pt 4 [iv c17.1.x1, iv c17.1.y1, iv c70, iv c17.1.y2])] := O93
          refine sim_retL (resL_v (v := x15) (resL_c (v := AV.agg [iv c17.1.x1, iv c17.1.y1, iv c70, iv c17.1.y2]) (O93.ld 0 rfl true 4 0) (resL_nil _))) ?_
          dsimp only [pack]
          have O94 : Hold B h92 [(x15, obS (c9.1 : Sl Spot))] := O93.sel [2] (by decide) rfl
          exact sim_ret (release_of (by simp only [ids_tup, ids_aggD, ids_agg, ids_iv, ids_bv, ids_sv, ids_bt, ids_nilS, ids_enc, O94.idsD (A := Spot) (s := c9.1) 0 rfl, List.map_append, List.map_nil, List.flatMap_cons, List.flatMap_nil, List.append_nil, List.nil_append]; simpa only [List.flatMap_cons, List.flatMap_nil, List.append_nil, List.nil_append] using O94.nd2) (by simp only [rel_tup, rel_aggD, rel_agg, rel_iv, rel_bv, rel_sv, rel_bt, rel_nilS, rel_enc, O94.relD (A := Spot) (s := c9.1) 0 rfl, omapc, omapn, obind_sm] <;> rfl))
      · refine sim_gen he_spec_l00Src_one (tg_spec_l00Src_one c57.2 3 (O62.start (i := 1) rfl rfl)) (fun c95 v96 h97 hq98 => ?_)
        obtain ⟨e_v96, O99⟩ := hq98
        dsimp only at e_v96
        subst v96
        have O100 : Hold B h97 [(AV.ptr o1 1 0 0, .pt 4 [iv 0, iv 0, iv 0, iv 0]), (AV.ptr o5 1 0 0, .pt 3 [Sl.enc c95.2.code, iv c95.2.pos, AV.sc (.int .u64 c95.2.seed)]), (x15, obS (c9.1 : Sl Spot)), (AV.ptr o18 1 0 0, .pt 4 [iv c17.1.x1, iv c17.1.y1, iv c17.1.x2, iv c17.1.y2])] := O62.merge (i := 1) rfl rfl O99
        refine sim_cond (fun c101 => ?_) (fun c101 => ?_)
        · refine sim_let (v := AV.ptr o18 1 0 1) rfl ?_
          refine sim_let (v := iv c17.1.y1) (O100.ld 3 rfl false 1 1) ?_
          refine sim_gen he_spec_l00Src_pick (tg_spec_l00Src_pick c95.2 50 (O100.start (i := 1) rfl rfl)) (fun c102 v103 h104 hq105 => ?_)
          obtain ⟨e_v103, O106⟩ := hq105
          dsimp only at e_v103
          subst v103
          have O107 : Hold B h104 [(AV.ptr o1 1 0 0, .pt 4 [iv 0, iv 0, iv 0, iv 0]), (AV.ptr o5 1 0 0, .pt 3 [Sl.enc c102.2.code, iv c102.2.pos, AV.sc (.int .u64 c102.2.seed)]), (x15, obS (c9.1 : Sl Spot)), (AV.ptr o18 1 0 0, .pt 4 [iv c17.1.x1, iv c17.1.y1, iv c17.1.x2, iv c17.1.y2])] := O100.merge (i := 1) rfl rfl O106
          refine sim_guardP O106.len ?_
          refine sim_let (v := iv (wr (c17.1.y1 - c102.1))) (aBin_sub _ _) ?_
          refine sim_guardP ⟨⟨(at_of (v := iv c17.1.y1) (O100.ld 3 rfl false 1 1)), ⟨(at_of (v := iv c17.1.y1) (O107.ld 3 rfl false 1 1)), trivial⟩⟩, trivial⟩ ?_
          refine sim_callV2 (t := (fun a b : Int => max a b)) he_spec_l00Max (snapD_int _ _) (snapD_int _ _) (fun c108 => ?_)
          refine sim_guardP (Nat.le_refl _) ?_
          refine sim_let (v := AV.ptr o18 1 0 1) rfl ?_
          refine sim_store O107 3 (cs' := [iv c17.1.x1, iv c108, iv c17.1.x2, iv c17.1.y2]) rfl (by first | rfl | simp) (by simp) (by first | rfl | simp) (by first | rfl | simp [splice]) (fun h109 O110 => ?_)
          replace O110 : Hold B h109 [(AV.ptr o1 1 0 0, .pt 4 [iv 0, iv 0, iv 0, iv 0]), (AV.ptr o5 1 0 0, .pt 3 [Sl.enc c102.2.code, iv c102.2.pos, AV.sc (.int .u64 c102.2.seed)]), (x15, obS (c9.1 : Sl Spot)), (AV.ptr o18 1 0 0, .pt 4 [iv c17.1.x1, iv c108, iv c17.1.x2, iv c17.1.y2])] := O110
          refine sim_guardP trivial ?_
          refine sim_let (v := AV.agg [iv c17.1.x1, iv c108, iv c17.1.x2, iv c17.1.y2]) (O110.ld 3 rfl true 4 0) ?_
          refine sim_store O110 0 (cs' := [iv c17.1.x1, iv c108, iv c17.1.x2, iv c17.1.y2]) rfl (by first | rfl | simp) (by simp) (by first | rfl | simp) (by first | rfl | simp [splice]) (fun h111 O112 => ?_)
          replace O112 : Hold B h111 [(AV.ptr o1 1 0 0, .pt 4 [iv c17.1.x1, iv c108, iv c17.1.x2, iv c17.1.y2]), (AV.ptr o5 1 0 0, .pt 3 [Sl.enc c102.2.code, iv c102.2.pos, AV.sc (.int .u64 c102.2.seed)]), (x15, obS (c9.1 : Sl Spot)), (AV.ptr o18 1 0 0, .pt 4 [iv c17.1.x1, iv c108, iv c17.1.x2, iv c17.1.y2])] := O112
          refine sim_retL (resL_v (v := x15) (resL_c (v := AV.agg [iv c17.1.x1, iv c108, iv c17.1.x2, iv c17.1.y2]) (O112.ld 0 rfl true 4 0) (resL_nil _))) ?_
          dsimp only [pack]
          have O113 : Hold B h111 [(x15, obS (c9.1 : Sl Spot))] := O112.sel [2] (by decide) rfl
          exact sim_ret (release_of (by simp only [ids_tup, ids_aggD, ids_agg, ids_iv, ids_bv, ids_sv, ids_bt, ids_nilS, ids_enc, O113.idsD (A := Spot) (s := c9.1) 0 rfl, List.map_append, List.map_nil, List.flatMap_cons, List.flatMap_nil, List.append_nil, List.nil_append]; simpa only [List.flatMap_cons, List.flatMap_nil, List.append_nil, List.nil_append] using O113.nd2) (by simp only [rel_tup, rel_aggD, rel_agg, rel_iv, rel_bv, rel_sv, rel_bt, rel_nilS, rel_enc, O113.relD (A := Spot) (s := c9.1) 0 rfl, omapc, omapn, obind_sm] <;> rfl))
        · refine sim_let (v := AV.agg [iv c17.1.x1, iv c17.1.y1, iv c17.1.x2, iv c17.1.y2]) (O100.ld 3 rfl true 4 0) ?_
          refine sim_store O100 0 (cs' := [iv c17.1.x1, iv c17.1.y1, iv c17.1.x2, iv c17.1.y2]) rfl (by first | rfl | simp) (by simp) (by first | rfl | simp) (by first | rfl | simp [splice]) (fun h114 O115 => ?_)
          replace O115 : Hold B h114 [(AV.ptr o1 1 0 0, .pt 4 [iv c17.1.x1, iv c17.1.y1, iv c17.1.x2, iv c17.1.y2]), (AV.ptr o5 1 0 0, .pt 3 [Sl.enc c95.2.code, iv c95.2.pos, AV.sc (.int .u64 c95.2.seed)]), (x15, obS (c9.1 : Sl Spot)), (AV.ptr o18 1 0 0, .pt 4 [iv c17.1.x1, iv c17.1.y1, iv c17.1.x2, iv c17.1.y2])] := O115
          refine sim_retL (resL_v (v := x15) (resL_c (v := AV.agg [iv c17.1.x1, iv c17.1.y1, iv c17.1.x2, iv c17.1.y2]) (O115.ld 0 rfl true 4 0) (resL_nil _))) ?_
          dsimp only [pack]
          have O116 : Hold B h114 [(x15, obS (c9.1 : Sl Spot))] := O115.sel [2] (by decide) rfl
          exact sim_ret (release_of (by simp only [ids_tup, ids_aggD, ids_agg, ids_iv, ids_bv, ids_sv, ids_bt, ids_nilS, ids_enc, O116.idsD (A := Spot) (s := c9.1) 0 rfl, List.map_append, List.map_nil, List.flatMap_cons, List.flatMap_nil, List.append_nil, List.nil_append]; simpa only [List.flatMap_cons, List.flatMap_nil, List.append_nil, List.nil_append] using O116.nd2) (by simp only [rel_tup, rel_aggD, rel_agg, rel_iv, rel_bv, rel_sv, rel_bt, rel_nilS, rel_enc, O116.relD (A := Spot) (s := c9.1) 0 rfl, omapc, omapn, obind_sm] <;> rfl))
theorem tt_spec_DrawNormalSpots : PureOK Try.prog n_spec_DrawNormalSpots (C1 (fun c : (Sl Spot) × Box => AV.tup [rS c.1, enc c.2]) t_spec_DrawNormalSpots) := pureCW1 (Econs tt_spec_BoxOfSpots (Econs tt_spec_l00From (Econs ok_spec_l00Max (Econs ok_spec_l00Min (EconsG (gen_of_den eo_spec_l00Src_one mixed hb_spec_l00Src_one) (EconsG (gen_of_den eo_spec_l00Src_pick mixed hb_spec_l00Src_pick) (EconsG (gen_of_den eo_spec_l02DrawBox mixed hb_spec_l02DrawBox) (EconsG (gen_of_den eo_spec_l07Spots mixed hb_spec_l07Spots) E0)))))))) mixed hb_spec_DrawNormalSpots fun code_ => ts_spec_DrawNormalSpots _ (by simp [envL]) (by simp [envL]) (by simp [envL]) (by simp [envL]) (by simp [envL]) (by simp [envL]) (by simp [envL]) (by simp [envL]) code_

def t_impl_sideOfBox (b_ : Box) : Option Int :=
  some (max (max (wr (b_.x2 - b_.x1)) (wr (b_.y2 - b_.y1))) 1)

theorem ts_impl_sideOfBox (env : Nat → Contract)  (b_ : Box) : Sim (denFn Try.prog env n_impl_sideOfBox [AV.agg [iv b_.x1, iv b_.y1, iv b_.x2, iv b_.y2]] []) (t_impl_sideOfBox b_) fun c p => release p.2 depth p.1 = some ((fun c : Int => enc c) c) := by
  have O := Hold.nil []
  generalize hB : (⟨[], []⟩ : Base) = B at O
  clear hB
  rw [e_impl_sideOfBox]
  unfold t_impl_sideOfBox
  refine sim_box O (cs := [iv b_.x1, iv b_.y1, iv b_.x2, iv b_.y2]) (by first | rfl | simp) (fun o1 h2 O3 => ?_)
  replace O3 : Hold B h2 [(AV.ptr o1 1 0 0, .pt 4 [iv b_.x1, iv b_.y1, iv b_.x2, iv b_.y2])] := O3
  refine sim_let (v := AV.ptr o1 1 0 2) rfl ?_
  refine sim_let (v := iv b_.x2) (O3.ld 0 rfl false 1 2) ?_
  refine sim_let (v := AV.ptr o1 1 0 0) rfl ?_
  refine sim_let (v := iv b_.x1) (O3.ld 0 rfl false 1 0) ?_
  refine sim_let (v := iv (wr (b_.x2 - b_.x1))) (aBin_sub _ _) ?_
  refine sim_let (v := AV.ptr o1 1 0 3) rfl ?_
  refine sim_let (v := iv b_.y2) (O3.ld 0 rfl false 1 3) ?_
  refine sim_let (v := AV.ptr o1 1 0 1) rfl ?_
  refine sim_let (v := iv b_.y1) (O3.ld 0 rfl false 1 1) ?_
  refine sim_let (v := iv (wr (b_.y2 - b_.y1))) (aBin_sub _ _) ?_
  refine sim_let (v := iv (max (max (wr (b_.x2 - b_.x1)) (wr (b_.y2 - b_.y1))) 1)) (aFold_max3 _ _ _) ?_
  exact sim_ret (release_plain (by rfl) _)
theorem tt_impl_sideOfBox : PureOK Try.prog n_impl_sideOfBox (C1 (fun c : Int => enc c) t_impl_sideOfBox) := pureC1 E0 mixed hb_impl_sideOfBox fun b_ => ts_impl_sideOfBox _  b_

def t_impl_normalSpot (p_ : Spot) (b_ : Box) : Option Spot :=
  obind (t_impl_sideOfBox b_) fun c13 =>
  obind (quoI (wr ((wr (b_.x2 - b_.x1)) * 255)) c13) fun q14 =>
  obind (quoI (wr ((wr (b_.y2 - b_.y1)) * 255)) c13) fun q15 =>
  obind (t_impl_nearestDiv (wr ((wr (p_.x - b_.x1)) * 255)) c13) fun c16 =>
  obind (t_impl_nearestDiv (wr ((wr (p_.y - b_.y1)) * 255)) c13) fun c17 =>
  some (⟨wr ((wr (Int.tdiv (wr (255 - q14)) 2)) + c16), wr ((wr (Int.tdiv (wr (255 - q15)) 2)) + c17)⟩ : Spot)

theorem ts_impl_normalSpot (env : Nat → Contract) (he_impl_nearestDiv : env n_impl_nearestDiv = .pure (C2 (fun c : Int => enc c) t_impl_nearestDiv)) (he_impl_sideOfBox : env n_impl_sideOfBox = .pure (C1 (fun c : Int => enc c) t_impl_sideOfBox)) (p_ : Spot) (b_ : Box) : Sim (denFn Try.prog env n_impl_normalSpot [AV.agg [iv p_.x, iv p_.y], AV.agg [iv b_.x1, iv b_.y1, iv b_.x2, iv b_.y2]] []) (t_impl_normalSpot p_ b_) fun c p => release p.2 depth p.1 = some ((fun c : Spot => enc c) c) := by
  have O := Hold.nil []
  generalize hB : (⟨[], []⟩ : Base) = B at O
  clear hB
  rw [e_impl_normalSpot]
  unfold t_impl_normalSpot
  refine sim_box O (cs := [iv p_.x, iv p_.y]) (by first | rfl | simp) (fun o1 h2 O3 => ?_)
  replace O3 : Hold B h2 [(AV.ptr o1 1 0 0, .pt 2 [iv p_.x, iv p_.y])] := O3
  refine sim_box O3 (cs := [iv b_.x1, iv b_.y1, iv b_.x2, iv b_.y2]) (by first | rfl | simp) (fun o5 h6 O7 => ?_)
  replace O7 : Hold B h6 [(AV.ptr o1 1 0 0, .pt 2 [iv p_.x, iv p_.y]), (AV.ptr o5 1 0 0, .pt 4 [iv b_.x1, iv b_.y1, iv b_.x2, iv b_.y2])] := O7
  refine sim_box O7 (cs := [iv 0, iv 0]) (by first | rfl | simp) (fun o9 h10 O11 => ?_)
  replace O11 : Hold B h10 [(AV.ptr o1 1 0 0, .pt 2 [iv p_.x, iv p_.y]), (AV.ptr o5 1 0 0, .pt 4 [iv b_.x1, iv b_.y1, iv b_.x2, iv b_.y2]), (AV.ptr o9 1 0 0, .pt 2 [iv 0, iv 0])] := O11
  refine sim_let (v := AV.agg [iv b_.x1, iv b_.y1, iv b_.x2, iv b_.y2]) (O11.ld 1 rfl true 4 0) ?_
  refine sim_call1 he_impl_sideOfBox (snapD_nr _ b_ rfl) (fun c13 => ?_)
  refine sim_let2 (hand_plain (by rfl) _ _) ?_
  refine sim_let (v := AV.ptr o5 1 0 2) rfl ?_
  refine sim_let (v := iv b_.x2) (O11.ld 1 rfl false 1 2) ?_
  refine sim_let (v := AV.ptr o5 1 0 0) rfl ?_
  refine sim_let (v := iv b_.x1) (O11.ld 1 rfl false 1 0) ?_
  refine sim_let (v := iv (wr (b_.x2 - b_.x1))) (aBin_sub _ _) ?_
  refine sim_let (v := iv (wr ((wr (b_.x2 - b_.x1)) * 255))) (aBin_mul _ _) ?_
  refine sim_quo (fun q14 => ?_)
  refine sim_let (v := iv (wr (255 - q14))) (aBin_sub _ _) ?_
  refine sim_let (v := iv (wr (Int.tdiv (wr (255 - q14)) 2))) (aBin_quo _ _ (by decide)) ?_
  refine sim_let (v := AV.ptr o5 1 0 3) rfl ?_
  refine sim_let (v := iv b_.y2) (O11.ld 1 rfl false 1 3) ?_
  refine sim_let (v := AV.ptr o5 1 0 1) rfl ?_
  refine sim_let (v := iv b_.y1) (O11.ld 1 rfl false 1 1) ?_
  refine sim_let (v := iv (wr (b_.y2 - b_.y1))) (aBin_sub _ _) ?_
  refine sim_let (v := iv (wr ((wr (b_.y2 - b_.y1)) * 255))) (aBin_mul _ _) ?_
  refine sim_quo (fun q15 => ?_)
  refine sim_let (v := iv (wr (255 - q15))) (aBin_sub _ _) ?_
  refine sim_let (v := iv (wr (Int.tdiv (wr (255 - q15)) 2))) (aBin_quo _ _ (by decide)) ?_
  refine sim_let (v := AV.ptr o1 1 0 0) rfl ?_
  refine sim_let (v := iv p_.x) (O11.ld 0 rfl false 1 0) ?_
  refine sim_let (v := AV.ptr o5 1 0 0) rfl ?_
  refine sim_let (v := iv b_.x1) (O11.ld 1 rfl false 1 0) ?_
  refine sim_let (v := iv (wr (p_.x - b_.x1))) (aBin_sub _ _) ?_
  refine sim_let (v := iv (wr ((wr (p_.x - b_.x1)) * 255))) (aBin_mul _ _) ?_
  refine sim_callQ2 he_impl_nearestDiv (snapD_int _ _) (snapD_int _ _) (fun c16 => ?_)
  refine sim_let2 (hand_plain (by rfl) _ _) ?_
  refine sim_let (v := iv (wr ((wr (Int.tdiv (wr (255 - q14)) 2)) + c16))) (aBin_add _ _) ?_
  refine sim_let (v := AV.ptr o1 1 0 1) rfl ?_
  refine sim_let (v := iv p_.y) (O11.ld 0 rfl false 1 1) ?_
  refine sim_let (v := AV.ptr o5 1 0 1) rfl ?_
  refine sim_let (v := iv b_.y1) (O11.ld 1 rfl false 1 1) ?_
  refine sim_let (v := iv (wr (p_.y - b_.y1))) (aBin_sub _ _) ?_
  refine sim_let (v := iv (wr ((wr (p_.y - b_.y1)) * 255))) (aBin_mul _ _) ?_
  refine sim_callQ2 he_impl_nearestDiv (snapD_int _ _) (snapD_int _ _) (fun c17 => ?_)
  refine sim_let2 (hand_plain (by rfl) _ _) ?_
  refine sim_let (v := iv (wr ((wr (Int.tdiv (wr (255 - q15)) 2)) + c17))) (aBin_add _ _) ?_
  refine sim_let (v := AV.agg [iv (wr ((wr (Int.tdiv (wr (255 - q14)) 2)) + c16)), iv (wr ((wr (Int.tdiv (wr (255 - q15)) 2)) + c17))]) (by first | rfl | simp [aBuild, aFill, splice]) ?_
  refine sim_store O11 2 (cs' := [iv (wr ((wr (Int.tdiv (wr (255 - q14)) 2)) + c16)), iv (wr ((wr (Int.tdiv (wr (255 - q15)) 2)) + c17))]) rfl (by first | rfl | simp) (by simp) (by first | rfl | simp) (by first | rfl | simp [splice]) (fun h18 O19 => ?_)
  replace O19 : Hold B h18 [(AV.ptr o1 1 0 0, .pt 2 [iv p_.x, iv p_.y]), (AV.ptr o5 1 0 0, .pt 4 [iv b_.x1, iv b_.y1, iv b_.x2, iv b_.y2]), (AV.ptr o9 1 0 0, .pt 2 [iv (wr ((wr (Int.tdiv (wr (255 - q14)) 2)) + c16)), iv (wr ((wr (Int.tdiv (wr (255 - q15)) 2)) + c17))])] := O19
  refine sim_retL (resL_c (v := AV.agg [iv (wr ((wr (Int.tdiv (wr (255 - q14)) 2)) + c16)), iv (wr ((wr (Int.tdiv (wr (255 - q15)) 2)) + c17))]) (O19.ld 2 rfl true 2 0) (resL_nil _)) ?_
  dsimp only [pack]
  exact sim_ret (release_plain (by rfl) _)
theorem tt_impl_normalSpot : PureOK Try.prog n_impl_normalSpot (C2 (fun c : Spot => enc c) t_impl_normalSpot) := pureC2 (Econs tt_impl_nearestDiv (Econs tt_impl_sideOfBox E0)) mixed hb_impl_normalSpot fun p_ b_ => ts_impl_normalSpot _ (by simp [envL]) (by simp [envL]) p_ b_

def s0_impl_NormalSpots (list_ : Sl Spot) (b_ : Box) : ((Sl Spot) × Int) → Option (Sum ((Sl Spot) × Int) (Sum (Sl Spot) Int)) := fun (w10, w13) =>
  bif decide (w13 < (((list_.getD []).length : Nat) : Int)) then
    obind (getI (list_.getD []) w13) fun a29 =>
    obind (some (within a29.x b_.x1 b_.x2)) fun c39 =>
    obind (bif !c39 then some false else (obind (some (within a29.y b_.y1 b_.y2)) fun c41 => some (!c41))) fun c42 =>
    bif (bif !c39 then true else c42) then
      some (.inr (.inr 2))
    else
      obind (t_impl_normalSpot a29 b_) fun c45 =>
      obind (appO w10 ([c45] : List Spot)) fun _ =>
      some (.inl ((appS w10 ([c45] : List Spot)), wr (w13 + 1)))
  else
    some (.inr (.inl w10))
def t_impl_NormalSpots (list_ : Sl Spot) (b_ : Box) : Option ((Sl Spot) × Int) :=
  obind (some (validBox b_)) fun c5 =>
  bif !c5 then
    some ((none : Sl Spot), 1)
  else
    obind (loopT (s0_impl_NormalSpots list_ b_) ((none : Sl Spot), 0)) fun qq59 => match qq59 with
    | (.inl q17) =>
        some (q17, 0)
    | (.inr q26) =>
        some ((none : Sl Spot), q26)

theorem tl0_impl_NormalSpots (env : Nat → Contract) {B : Base} (he_impl_ValidBox : env n_impl_ValidBox = .pure (T1 validBox)) (he_impl_normalSpot : env n_impl_normalSpot = .pure (C2 (fun c : Spot => enc c) t_impl_normalSpot)) (he_impl_within : env n_impl_within = .pure (T3 within)) (list_ : Sl Spot) (b_ : Box) (o1 : Nat) (c5 : Bool)  {st : (Sl Spot) × Int} {tm : TM} {h : Heap} (R : (fun (st : (Sl Spot) × Int) tm h11 => match st with | (w10, w13) => ∃ z9, tm = [Sl.enc list_, AV.agg [iv b_.x1, iv b_.y1, iv b_.x2, iv b_.y2], und, AV.ptr o1 1 0 0, AV.top, AV.top, z9, und, AV.top, AV.agg [iv b_.x1, iv b_.y1, iv b_.x2, iv b_.y2], bv c5, bv (!c5), Sl.enc list_, iv (((list_.getD []).length : Nat) : Int), iv w13, AV.top, AV.top, AV.top, AV.top, AV.top, AV.top, AV.top, AV.top, AV.top, AV.top, AV.top, AV.top, AV.top, AV.top, AV.top, AV.top, AV.top, AV.top, AV.top, AV.top, AV.top, AV.top, AV.top, AV.top, AV.top, AV.top, AV.top, AV.top, und] ∧ Hold B h11 [(AV.ptr o1 1 0 0, .pt 4 [iv b_.x1, iv b_.y1, iv b_.x2, iv b_.y2]), (z9, obS (w10 : Sl Spot))]) st tm h) : Sim (loopP hm0_impl_NormalSpots xm0_impl_NormalSpots (lb0_impl_NormalSpots env) tm h) (loopT (s0_impl_NormalSpots list_ b_) st) (fun (q : Sum (Sl Spot) Int) (r : Res) => match q with | .inl q17 => ∃ (z16 : AV) (z18 : AV) (z19 : AV) (z20 : AV) (h14 : Heap), r = (.exit 0, [Sl.enc list_, AV.agg [iv b_.x1, iv b_.y1, iv b_.x2, iv b_.y2], und, AV.ptr o1 1 0 0, z18, z19, z16, und, z20, AV.agg [iv b_.x1, iv b_.y1, iv b_.x2, iv b_.y2], bv c5, bv (!c5), Sl.enc list_, iv (((list_.getD []).length : Nat) : Int), AV.top, AV.top, AV.top, AV.top, AV.top, AV.top, AV.top, AV.top, AV.top, AV.top, AV.top, AV.top, AV.top, AV.top, AV.top, AV.top, AV.top, AV.top, AV.top, AV.top, AV.top, AV.top, AV.top, AV.top, AV.top, AV.top, AV.top, AV.top, AV.top, und], h14) ∧ Hold B h14 [(AV.ptr o1 1 0 0, .pt 4 [iv b_.x1, iv b_.y1, iv b_.x2, iv b_.y2]), (z16, obS (q17 : Sl Spot))] | .inr q26 => ∃ (q25 : Sl Spot) (z24 : AV) (z27 : AV) (h22 : Heap), r = (.ret, [Sl.enc list_, AV.agg [iv b_.x1, iv b_.y1, iv b_.x2, iv b_.y2], und, AV.ptr o1 1 0 0, nilS, iv q26, z24, und, z27, AV.agg [iv b_.x1, iv b_.y1, iv b_.x2, iv b_.y2], bv c5, bv (!c5), Sl.enc list_, iv (((list_.getD []).length : Nat) : Int), AV.top, AV.top, AV.top, AV.top, AV.top, AV.top, AV.top, AV.top, AV.top, AV.top, AV.top, AV.top, AV.top, AV.top, AV.top, AV.top, AV.top, AV.top, AV.top, AV.top, AV.top, AV.top, AV.top, AV.top, AV.top, AV.top, AV.top, AV.top, AV.top, und], h22) ∧ Hold B h22 [(AV.ptr o1 1 0 0, .pt 4 [iv b_.x1, iv b_.y1, iv b_.x2, iv b_.y2]), (z24, obS (q25 : Sl Spot))]) := by
  refine loop_sim (Rel := fun (st : (Sl Spot) × Int) tm h11 => match st with | (w10, w13) => ∃ z9, tm = [Sl.enc list_, AV.agg [iv b_.x1, iv b_.y1, iv b_.x2, iv b_.y2], und, AV.ptr o1 1 0 0, AV.top, AV.top, z9, und, AV.top, AV.agg [iv b_.x1, iv b_.y1, iv b_.x2, iv b_.y2], bv c5, bv (!c5), Sl.enc list_, iv (((list_.getD []).length : Nat) : Int), iv w13, AV.top, AV.top, AV.top, AV.top, AV.top, AV.top, AV.top, AV.top, AV.top, AV.top, AV.top, AV.top, AV.top, AV.top, AV.top, AV.top, AV.top, AV.top, AV.top, AV.top, AV.top, AV.top, AV.top, AV.top, AV.top, AV.top, AV.top, AV.top, und] ∧ Hold B h11 [(AV.ptr o1 1 0 0, .pt 4 [iv b_.x1, iv b_.y1, iv b_.x2, iv b_.y2]), (z9, obS (w10 : Sl Spot))]) (fun st tm h11 R => ?_) R
  obtain ⟨w10, w13⟩ := st
  obtain ⟨z9, rfl, O12⟩ := R
  rw [e_lb0_impl_NormalSpots]
  unfold s0_impl_NormalSpots
  dsimp only
  refine sim_let (v := bv (decide (w13 < (((list_.getD []).length : Nat) : Int)))) (aBin_lss _ _) ?_
  refine sim_cond (fun c28 => ?_) (fun c28 => ?_)
  · refine sim_get (Tab.enc h11 list_) (fun m30 a29 hi31 hm32 => ?_)
    refine sim_let (v := AV.agg [iv a29.x, iv a29.y]) ((Tab.enc h11 list_).ld hm32 true 2 0) ?_
    refine sim_box O12 (cs := [iv 0, iv 0]) (by first | rfl | simp) (fun o33 h34 O35 => ?_)
    replace O35 : Hold B h34 [(AV.ptr o1 1 0 0, .pt 4 [iv b_.x1, iv b_.y1, iv b_.x2, iv b_.y2]), (z9, obS (w10 : Sl Spot)), (AV.ptr o33 1 0 0, .pt 2 [iv 0, iv 0])] := O35
    refine sim_store O35 2 (cs' := [iv a29.x, iv a29.y]) rfl (by first | rfl | simp) (by simp) (by first | rfl | simp) (by first | rfl | simp [splice]) (fun h37 O38 => ?_)
    replace O38 : Hold B h37 [(AV.ptr o1 1 0 0, .pt 4 [iv b_.x1, iv b_.y1, iv b_.x2, iv b_.y2]), (z9, obS (w10 : Sl Spot)), (AV.ptr o33 1 0 0, .pt 2 [iv a29.x, iv a29.y])] := O38
    refine sim_let (v := AV.ptr o33 1 0 0) rfl ?_
    refine sim_let (v := iv a29.x) (O38.ld 2 rfl false 1 0) ?_
    refine sim_let (v := AV.ptr o1 1 0 0) rfl ?_
    refine sim_let (v := iv b_.x1) (O38.ld 0 rfl false 1 0) ?_
    refine sim_let (v := AV.ptr o1 1 0 2) rfl ?_
    refine sim_let (v := iv b_.x2) (O38.ld 0 rfl false 1 2) ?_
    refine sim_callV3 (t := within) he_impl_within (snapD_int _ _) (snapD_int _ _) (snapD_int _ _) (fun c39 => ?_)
    refine sim_let (v := bv (!c39)) (aUn_not _) ?_
    refine sim_guardF (e := bv) (fun hb40 => ?_) (fun c42 => ?_)
    · refine sim_let (v := AV.ptr o33 1 0 1) rfl ?_
      refine sim_let (v := iv a29.y) (O38.ld 2 rfl false 1 1) ?_
      refine sim_let (v := AV.ptr o1 1 0 1) rfl ?_
      refine sim_let (v := iv b_.y1) (O38.ld 0 rfl false 1 1) ?_
      refine sim_let (v := AV.ptr o1 1 0 3) rfl ?_
      refine sim_let (v := iv b_.y2) (O38.ld 0 rfl false 1 3) ?_
      refine sim_callV3 (t := within) he_impl_within (snapD_int _ _) (snapD_int _ _) (snapD_int _ _) (fun c41 => ?_)
      refine sim_let (v := bv (!c41)) (aUn_not _) ?_
      exact sim_ret rfl
    · refine sim_let (v := bv (bif !c39 then true else c42)) (pick_b' _ _ _) ?_
      refine sim_cond (fun c43 => ?_) (fun c43 => ?_)
      · have O44 : Hold B h37 [(AV.ptr o1 1 0 0, .pt 4 [iv b_.x1, iv b_.y1, iv b_.x2, iv b_.y2]), (z9, obS (w10 : Sl Spot))] := O38.sel [0, 1] (by decide) rfl
        exact sim_ret ⟨nofun, _, _, _, _, rfl, O44⟩
      · refine sim_let (v := AV.agg [iv a29.x, iv a29.y]) (O38.ld 2 rfl true 2 0) ?_
        refine sim_let (v := AV.agg [iv b_.x1, iv b_.y1, iv b_.x2, iv b_.y2]) (O38.ld 0 rfl true 4 0) ?_
        refine sim_call2 he_impl_normalSpot (snapD_nr _ a29 rfl) (snapD_nr _ b_ rfl) (fun c45 => ?_)
        refine sim_let2 (hand_plain (by rfl) _ _) ?_
        refine sim_build (A := Spot) O38 ([c45] : List Spot) rfl (by first | rfl | simp [aFillRows, zrows]) rfl (fun x46 h47 O48 => ?_)
        replace O48 : Hold B h47 [(AV.ptr o1 1 0 0, .pt 4 [iv b_.x1, iv b_.y1, iv b_.x2, iv b_.y2]), (z9, obS (w10 : Sl Spot)), (AV.ptr o33 1 0 0, .pt 2 [iv a29.x, iv a29.y]), (x46, obS ((some ([c45] : List Spot)) : Sl Spot))] := O48
        refine sim_append (A := Spot) (s := w10) O48 1 ([c45] : List Spot) rfl (O48.src (A := Spot) (s := (some ([c45] : List Spot))) 3 rfl) (by decide) (fun x51 h52 O53 => ?_)
        replace O53 : Hold B h52 [(AV.ptr o1 1 0 0, .pt 4 [iv b_.x1, iv b_.y1, iv b_.x2, iv b_.y2]), (x51, obS ((appS w10 ([c45] : List Spot)) : Sl Spot)), (AV.ptr o33 1 0 0, .pt 2 [iv a29.x, iv a29.y]), (x46, obS ((some ([c45] : List Spot)) : Sl Spot))] := O53
        have O55 : Hold B h52 [(AV.ptr o1 1 0 0, .pt 4 [iv b_.x1, iv b_.y1, iv b_.x2, iv b_.y2]), (x51, obS ((appS w10 ([c45] : List Spot)) : Sl Spot)), (AV.ptr o33 1 0 0, .pt 2 [iv a29.x, iv a29.y])] := O53.sel [0, 1, 2] (by decide) rfl
        refine sim_let (v := iv (wr (w13 + 1))) (aBin_add _ _) ?_
        have O56 : Hold B h52 [(AV.ptr o1 1 0 0, .pt 4 [iv b_.x1, iv b_.y1, iv b_.x2, iv b_.y2]), (x51, obS ((appS w10 ([c45] : List Spot)) : Sl Spot))] := O55.sel [0, 1] (by decide) rfl
        exact sim_ret ⟨rfl, _, rfl, O56⟩
  · exact sim_ret ⟨nofun, _, _, _, _, _, rfl, O12⟩
theorem ts_impl_NormalSpots (env : Nat → Contract) (he_impl_ValidBox : env n_impl_ValidBox = .pure (T1 validBox)) (he_impl_normalSpot : env n_impl_normalSpot = .pure (C2 (fun c : Spot => enc c) t_impl_normalSpot)) (he_impl_within : env n_impl_within = .pure (T3 within)) (list_ : Sl Spot) (b_ : Box) : Sim (denFn Try.prog env n_impl_NormalSpots [Sl.enc list_, AV.agg [iv b_.x1, iv b_.y1, iv b_.x2, iv b_.y2]] []) (t_impl_NormalSpots list_ b_) fun c p => release p.2 depth p.1 = some ((fun c : (Sl Spot) × Int => AV.tup [rS c.1, enc c.2]) c) := by
  have O := Hold.nil []
  generalize hB : (⟨[], []⟩ : Base) = B at O
  clear hB
  rw [e_impl_NormalSpots]
  unfold t_impl_NormalSpots
  refine sim_box O (cs := [iv b_.x1, iv b_.y1, iv b_.x2, iv b_.y2]) (by first | rfl | simp) (fun o1 h2 O3 => ?_)
  replace O3 : Hold B h2 [(AV.ptr o1 1 0 0, .pt 4 [iv b_.x1, iv b_.y1, iv b_.x2, iv b_.y2])] := O3
  refine sim_let (v := AV.agg [iv b_.x1, iv b_.y1, iv b_.x2, iv b_.y2]) (O3.ld 0 rfl true 4 0) ?_
  refine sim_callV1 (t := validBox) he_impl_ValidBox (snapD_nr _ b_ rfl) (fun c5 => ?_)
  refine sim_let (v := bv (!c5)) (aUn_not _) ?_
  refine sim_cond (fun c6 => ?_) (fun c6 => ?_)
  · exact sim_ret (release_plain (by rfl) _)
  · refine sim_let (v := iv (((list_.getD []).length : Nat) : Int)) (Tab.enc h2 list_).len ?_
    have O7 : Hold B h2 [(AV.ptr o1 1 0 0, .pt 4 [iv b_.x1, iv b_.y1, iv b_.x2, iv b_.y2]), (nilS, obS ((none : Sl Spot) : Sl Spot))] := O3.addnil
    refine sim_bind ((tl0_impl_NormalSpots env he_impl_ValidBox he_impl_normalSpot he_impl_within list_ b_ o1 c5) ⟨_, rfl, O7⟩) (fun qq59 r hq => ?_)
    rcases qq59 with q17 | q26
    · obtain ⟨z16, z18, z19, z20, h14, rfl, O15⟩ := hq
      rw [e_lk0x0_impl_NormalSpots]
      have O21 : Hold B h14 [(z16, obS (q17 : Sl Spot))] := O15.sel [1] (by decide) rfl
      exact sim_ret (release_of (by simp only [ids_tup, ids_aggD, ids_agg, ids_iv, ids_bv, ids_sv, ids_bt, ids_nilS, ids_enc, O21.idsD (A := Spot) (s := q17) 0 rfl, List.map_append, List.map_nil, List.flatMap_cons, List.flatMap_nil, List.append_nil, List.nil_append]; simpa only [List.flatMap_cons, List.flatMap_nil, List.append_nil, List.nil_append] using O21.nd2) (by simp only [rel_tup, rel_aggD, rel_agg, rel_iv, rel_bv, rel_sv, rel_bt, rel_nilS, rel_enc, O21.relD (A := Spot) (s := q17) 0 rfl, omapc, omapn, obind_sm] <;> rfl))
    · obtain ⟨q25, z24, z27, h22, rfl, O23⟩ := hq
      rw [e_lk0r_impl_NormalSpots]
      exact sim_ret (release_plain (by rfl) _)
theorem tt_impl_NormalSpots : PureOK Try.prog n_impl_NormalSpots (C2 (fun c : (Sl Spot) × Int => AV.tup [rS c.1, enc c.2]) t_impl_NormalSpots) := pureC2 (Econs ok_impl_ValidBox (Econs tt_impl_normalSpot (Econs ok_impl_within E0))) mixed hb_impl_NormalSpots fun list_ b_ => ts_impl_NormalSpots _ (by simp [envL]) (by simp [envL]) (by simp [envL]) list_ b_

def t_spec_l07Side (b_ : Box) : Option Int :=
  obind (some ((fun a b : Int => max a b) (wr (b_.x2 - b_.x1)) (wr (b_.y2 - b_.y1)))) fun c5 =>
  obind (some ((fun a b : Int => max a b) 1 c5)) fun c6 =>
  some c6

theorem ts_spec_l07Side (env : Nat → Contract) (he_spec_l00Max : env n_spec_l00Max = .pure (T2 (fun a b : Int => max a b))) (b_ : Box) : Sim (denFn Try.prog env n_spec_l07Side [AV.agg [iv b_.x1, iv b_.y1, iv b_.x2, iv b_.y2]] []) (t_spec_l07Side b_) fun c p => release p.2 depth p.1 = some ((fun c : Int => enc c) c) := by
  have O := Hold.nil []
  generalize hB : (⟨[], []⟩ : Base) = B at O
  clear hB
  rw [e_spec_l07Side]
  unfold t_spec_l07Side
  refine sim_box O (cs := [iv b_.x1, iv b_.y1, iv b_.x2, iv b_.y2]) (by first | rfl | simp) (fun o1 h2 O3 => ?_)
  replace O3 : Hold B h2 [(AV.ptr o1 1 0 0, .pt 4 [iv b_.x1, iv b_.y1, iv b_.x2, iv b_.y2])] := O3
  refine sim_let (v := AV.ptr o1 1 0 2) rfl ?_
  refine sim_let (v := iv b_.x2) (O3.ld 0 rfl false 1 2) ?_
  refine sim_let (v := AV.ptr o1 1 0 0) rfl ?_
  refine sim_let (v := iv b_.x1) (O3.ld 0 rfl false 1 0) ?_
  refine sim_let (v := iv (wr (b_.x2 - b_.x1))) (aBin_sub _ _) ?_
  refine sim_let (v := AV.ptr o1 1 0 3) rfl ?_
  refine sim_let (v := iv b_.y2) (O3.ld 0 rfl false 1 3) ?_
  refine sim_let (v := AV.ptr o1 1 0 1) rfl ?_
  refine sim_let (v := iv b_.y1) (O3.ld 0 rfl false 1 1) ?_
  refine sim_let (v := iv (wr (b_.y2 - b_.y1))) (aBin_sub _ _) ?_
  refine sim_callV2 (t := (fun a b : Int => max a b)) he_spec_l00Max (snapD_int _ _) (snapD_int _ _) (fun c5 => ?_)
  refine sim_callV2 (t := (fun a b : Int => max a b)) he_spec_l00Max (snapD_int _ _) (snapD_int _ _) (fun c6 => ?_)
  exact sim_ret (release_plain (by rfl) _)
theorem tt_spec_l07Side : PureOK Try.prog n_spec_l07Side (C1 (fun c : Int => enc c) t_spec_l07Side) := pureC1 (Econs ok_spec_l00Max E0) mixed hb_spec_l07Side fun b_ => ts_spec_l07Side _ (by simp [envL]) b_

def t_spec_l07Normal (p_ : Spot) (b_ : Box) : Option Spot :=
  obind (t_spec_l07Side b_) fun c13 =>
  obind (quoI (wr ((wr (b_.x2 - b_.x1)) * 255)) c13) fun q14 =>
  obind (quoI (wr ((wr (b_.y2 - b_.y1)) * 255)) c13) fun q15 =>
  obind (t_spec_l05Near (wr ((wr (p_.x - b_.x1)) * 255)) c13) fun c16 =>
  obind (t_spec_l05Near (wr ((wr (p_.y - b_.y1)) * 255)) c13) fun c17 =>
  some (⟨wr ((wr (Int.tdiv (wr (255 - q14)) 2)) + c16), wr ((wr (Int.tdiv (wr (255 - q15)) 2)) + c17)⟩ : Spot)

theorem ts_spec_l07Normal (env : Nat → Contract) (he_spec_l05Near : env n_spec_l05Near = .pure (C2 (fun c : Int => enc c) t_spec_l05Near)) (he_spec_l07Side : env n_spec_l07Side = .pure (C1 (fun c : Int => enc c) t_spec_l07Side)) (p_ : Spot) (b_ : Box) : Sim (denFn Try.prog env n_spec_l07Normal [AV.agg [iv p_.x, iv p_.y], AV.agg [iv b_.x1, iv b_.y1, iv b_.x2, iv b_.y2]] []) (t_spec_l07Normal p_ b_) fun c p => release p.2 depth p.1 = some ((fun c : Spot => enc c) c) := by
  have O := Hold.nil []
  generalize hB : (⟨[], []⟩ : Base) = B at O
  clear hB
  rw [e_spec_l07Normal]
  unfold t_spec_l07Normal
  refine sim_box O (cs := [iv p_.x, iv p_.y]) (by first | rfl | simp) (fun o1 h2 O3 => ?_)
  replace O3 : Hold B h2 [(AV.ptr o1 1 0 0, .pt 2 [iv p_.x, iv p_.y])] := O3
  refine sim_box O3 (cs := [iv b_.x1, iv b_.y1, iv b_.x2, iv b_.y2]) (by first | rfl | simp) (fun o5 h6 O7 => ?_)
  replace O7 : Hold B h6 [(AV.ptr o1 1 0 0, .pt 2 [iv p_.x, iv p_.y]), (AV.ptr o5 1 0 0, .pt 4 [iv b_.x1, iv b_.y1, iv b_.x2, iv b_.y2])] := O7
  refine sim_box O7 (cs := [iv 0, iv 0]) (by first | rfl | simp) (fun o9 h10 O11 => ?_)
  replace O11 : Hold B h10 [(AV.ptr o1 1 0 0, .pt 2 [iv p_.x, iv p_.y]), (AV.ptr o5 1 0 0, .pt 4 [iv b_.x1, iv b_.y1, iv b_.x2, iv b_.y2]), (AV.ptr o9 1 0 0, .pt 2 [iv 0, iv 0])] := O11
  refine sim_let (v := AV.agg [iv b_.x1, iv b_.y1, iv b_.x2, iv b_.y2]) (O11.ld 1 rfl true 4 0) ?_
  refine sim_call1 he_spec_l07Side (snapD_nr _ b_ rfl) (fun c13 => ?_)
  refine sim_let2 (hand_plain (by rfl) _ _) ?_
  refine sim_let (v := AV.ptr o5 1 0 2) rfl ?_
  refine sim_let (v := iv b_.x2) (O11.ld 1 rfl false 1 2) ?_
  refine sim_let (v := AV.ptr o5 1 0 0) rfl ?_
  refine sim_let (v := iv b_.x1) (O11.ld 1 rfl false 1 0) ?_
  refine sim_let (v := iv (wr (b_.x2 - b_.x1))) (aBin_sub _ _) ?_
  refine sim_let (v := iv (wr ((wr (b_.x2 - b_.x1)) * 255))) (aBin_mul _ _) ?_
  refine sim_quo (fun q14 => ?_)
  refine sim_let (v := iv (wr (255 - q14))) (aBin_sub _ _) ?_
  refine sim_let (v := iv (wr (Int.tdiv (wr (255 - q14)) 2))) (aBin_quo _ _ (by decide)) ?_
  refine sim_let (v := AV.ptr o5 1 0 3) rfl ?_
  refine sim_let (v := iv b_.y2) (O11.ld 1 rfl false 1 3) ?_
  refine sim_let (v := AV.ptr o5 1 0 1) rfl ?_
  refine sim_let (v := iv b_.y1) (O11.ld 1 rfl false 1 1) ?_
  refine sim_let (v := iv (wr (b_.y2 - b_.y1))) (aBin_sub _ _) ?_
  refine sim_let (v := iv (wr ((wr (b_.y2 - b_.y1)) * 255))) (aBin_mul _ _) ?_
  refine sim_quo (fun q15 => ?_)
  refine sim_let (v := iv (wr (255 - q15))) (aBin_sub _ _) ?_
  refine sim_let (v := iv (wr (Int.tdiv (wr (255 - q15)) 2))) (aBin_quo _ _ (by decide)) ?_
  refine sim_let (v := AV.ptr o1 1 0 0) rfl ?_
  refine sim_let (v := iv p_.x) (O11.ld 0 rfl false 1 0) ?_
  refine sim_let (v := AV.ptr o5 1 0 0) rfl ?_
  refine sim_let (v := iv b_.x1) (O11.ld 1 rfl false 1 0) ?_
  refine sim_let (v := iv (wr (p_.x - b_.x1))) (aBin_sub _ _) ?_
  refine sim_let (v := iv (wr ((wr (p_.x - b_.x1)) * 255))) (aBin_mul _ _) ?_
  refine sim_callQ2 he_spec_l05Near (snapD_int _ _) (snapD_int _ _) (fun c16 => ?_)
  refine sim_let2 (hand_plain (by rfl) _ _) ?_
  refine sim_let (v := iv (wr ((wr (Int.tdiv (wr (255 - q14)) 2)) + c16))) (aBin_add _ _) ?_
  refine sim_let (v := AV.ptr o1 1 0 1) rfl ?_
  refine sim_let (v := iv p_.y) (O11.ld 0 rfl false 1 1) ?_
  refine sim_let (v := AV.ptr o5 1 0 1) rfl ?_
  refine sim_let (v := iv b_.y1) (O11.ld 1 rfl false 1 1) ?_
  refine sim_let (v := iv (wr (p_.y - b_.y1))) (aBin_sub _ _) ?_
  refine sim_let (v := iv (wr ((wr (p_.y - b_.y1)) * 255))) (aBin_mul _ _) ?_
  refine sim_callQ2 he_spec_l05Near (snapD_int _ _) (snapD_int _ _) (fun c17 => ?_)
  refine sim_let2 (hand_plain (by rfl) _ _) ?_
  refine sim_let (v := iv (wr ((wr (Int.tdiv (wr (255 - q15)) 2)) + c17))) (aBin_add _ _) ?_
  refine sim_let (v := AV.agg [iv (wr ((wr (Int.tdiv (wr (255 - q14)) 2)) + c16)), iv (wr ((wr (Int.tdiv (wr (255 - q15)) 2)) + c17))]) (by first | rfl | simp [aBuild, aFill, splice]) ?_
  refine sim_store O11 2 (cs' := [iv (wr ((wr (Int.tdiv (wr (255 - q14)) 2)) + c16)), iv (wr ((wr (Int.tdiv (wr (255 - q15)) 2)) + c17))]) rfl (by first | rfl | simp) (by simp) (by first | rfl | simp) (by first | rfl | simp [splice]) (fun h18 O19 => ?_)
  replace O19 : Hold B h18 [(AV.ptr o1 1 0 0, .pt 2 [iv p_.x, iv p_.y]), (AV.ptr o5 1 0 0, .pt 4 [iv b_.x1, iv b_.y1, iv b_.x2, iv b_.y2]), (AV.ptr o9 1 0 0, .pt 2 [iv (wr ((wr (Int.tdiv (wr (255 - q14)) 2)) + c16)), iv (wr ((wr (Int.tdiv (wr (255 - q15)) 2)) + c17))])] := O19
  refine sim_retL (resL_c (v := AV.agg [iv (wr ((wr (Int.tdiv (wr (255 - q14)) 2)) + c16)), iv (wr ((wr (Int.tdiv (wr (255 - q15)) 2)) + c17))]) (O19.ld 2 rfl true 2 0) (resL_nil _)) ?_
  dsimp only [pack]
  exact sim_ret (release_plain (by rfl) _)
theorem tt_spec_l07Normal : PureOK Try.prog n_spec_l07Normal (C2 (fun c : Spot => enc c) t_spec_l07Normal) := pureC2 (Econs tt_spec_l05Near (Econs tt_spec_l07Side E0)) mixed hb_spec_l07Normal fun p_ b_ => ts_spec_l07Normal _ (by simp [envL]) (by simp [envL]) p_ b_

def s0_spec_NormalSpots (list_ : Sl Spot) (b_ : Box) : ((Sl Spot) × Int) → Option (Sum ((Sl Spot) × Int) (Sum (Sl Spot) Int)) := fun (w12, w15) =>
  bif decide (w15 < (((list_.getD []).length : Nat) : Int)) then
    obind (getI (list_.getD []) w15) fun a31 =>
    obind (some (within a31.x b_.x1 b_.x2)) fun c35 =>
    obind (bif !c35 then some false else (obind (getI (list_.getD []) w15) fun a37 => obind (some (within a37.y b_.y1 b_.y2)) fun c41 => some (!c41))) fun c42 =>
    bif (bif !c35 then true else c42) then
      some (.inr (.inr 2))
    else
      obind (getI (list_.getD []) w15) fun a55 =>
      obind (t_spec_l07Normal a55 b_) fun c59 =>
      obind (appO w12 ([c59] : List Spot)) fun _ =>
      some (.inl ((appS w12 ([c59] : List Spot)), wr (w15 + 1)))
  else
    some (.inr (.inl w12))
def t_spec_NormalSpots (list_ : Sl Spot) (b_ : Box) : Option ((Sl Spot) × Int) :=
  obind (some (validBox b_)) fun c5 =>
  bif !c5 then
    some ((none : Sl Spot), 1)
  else
    obind (loopT (s0_spec_NormalSpots list_ b_) ((some ([] : List Spot)), 0)) fun qq73 => match qq73 with
    | (.inl q19) =>
        some (q19, 0)
    | (.inr q28) =>
        some ((none : Sl Spot), q28)

theorem tl0_spec_NormalSpots (env : Nat → Contract) {B : Base} (he_spec_l00In : env n_spec_l00In = .pure (T3 within)) (he_spec_l02Box : env n_spec_l02Box = .pure (T1 validBox)) (he_spec_l07Normal : env n_spec_l07Normal = .pure (C2 (fun c : Spot => enc c) t_spec_l07Normal)) (list_ : Sl Spot) (b_ : Box) (o1 : Nat) (c5 : Bool) (x7 : AV)  {st : (Sl Spot) × Int} {tm : TM} {h : Heap} (R : (fun (st : (Sl Spot) × Int) tm h13 => match st with | (w12, w15) => ∃ z11, tm = [Sl.enc list_, AV.agg [iv b_.x1, iv b_.y1, iv b_.x2, iv b_.y2], und, AV.ptr o1 1 0 0, AV.top, AV.top, z11, iv w15, AV.agg [iv b_.x1, iv b_.y1, iv b_.x2, iv b_.y2], bv c5, bv (!c5), x7, AV.top, AV.top, AV.top, AV.top, AV.top, AV.top, AV.top, AV.top, AV.top, AV.top, AV.top, AV.top, AV.top, AV.top, AV.top, AV.top, AV.top, AV.top, AV.top, AV.top, AV.top, AV.top, AV.top, AV.top, AV.top, AV.top, AV.top, AV.top, AV.top, AV.top, AV.top, AV.top, AV.top, AV.top, AV.top, AV.top, AV.top, AV.top, AV.top, und] ∧ Hold B h13 [(AV.ptr o1 1 0 0, .pt 4 [iv b_.x1, iv b_.y1, iv b_.x2, iv b_.y2]), (z11, obS (w12 : Sl Spot))]) st tm h) : Sim (loopP hm0_spec_NormalSpots xm0_spec_NormalSpots (lb0_spec_NormalSpots env) tm h) (loopT (s0_spec_NormalSpots list_ b_) st) (fun (q : Sum (Sl Spot) Int) (r : Res) => match q with | .inl q19 => ∃ (q22 : Int) (z18 : AV) (z20 : AV) (z21 : AV) (h16 : Heap), r = (.exit 0, [Sl.enc list_, AV.agg [iv b_.x1, iv b_.y1, iv b_.x2, iv b_.y2], und, AV.ptr o1 1 0 0, z20, z21, z18, iv q22, AV.agg [iv b_.x1, iv b_.y1, iv b_.x2, iv b_.y2], bv c5, bv (!c5), x7, AV.top, AV.top, AV.top, AV.top, AV.top, AV.top, AV.top, AV.top, AV.top, AV.top, AV.top, AV.top, AV.top, AV.top, AV.top, AV.top, AV.top, AV.top, AV.top, AV.top, AV.top, AV.top, AV.top, AV.top, AV.top, AV.top, AV.top, AV.top, AV.top, AV.top, AV.top, AV.top, AV.top, AV.top, AV.top, AV.top, AV.top, AV.top, AV.top, und], h16) ∧ Hold B h16 [(AV.ptr o1 1 0 0, .pt 4 [iv b_.x1, iv b_.y1, iv b_.x2, iv b_.y2]), (z18, obS (q19 : Sl Spot))] | .inr q28 => ∃ (q27 : Sl Spot) (q29 : Int) (z26 : AV) (h24 : Heap), r = (.ret, [Sl.enc list_, AV.agg [iv b_.x1, iv b_.y1, iv b_.x2, iv b_.y2], und, AV.ptr o1 1 0 0, nilS, iv q28, z26, iv q29, AV.agg [iv b_.x1, iv b_.y1, iv b_.x2, iv b_.y2], bv c5, bv (!c5), x7, AV.top, AV.top, AV.top, AV.top, AV.top, AV.top, AV.top, AV.top, AV.top, AV.top, AV.top, AV.top, AV.top, AV.top, AV.top, AV.top, AV.top, AV.top, AV.top, AV.top, AV.top, AV.top, AV.top, AV.top, AV.top, AV.top, AV.top, AV.top, AV.top, AV.top, AV.top, AV.top, AV.top, AV.top, AV.top, AV.top, AV.top, AV.top, AV.top, und], h24) ∧ Hold B h24 [(AV.ptr o1 1 0 0, .pt 4 [iv b_.x1, iv b_.y1, iv b_.x2, iv b_.y2]), (z26, obS (q27 : Sl Spot))]) := by
  refine loop_sim (Rel := fun (st : (Sl Spot) × Int) tm h13 => match st with | (w12, w15) => ∃ z11, tm = [Sl.enc list_, AV.agg [iv b_.x1, iv b_.y1, iv b_.x2, iv b_.y2], und, AV.ptr o1 1 0 0, AV.top, AV.top, z11, iv w15, AV.agg [iv b_.x1, iv b_.y1, iv b_.x2, iv b_.y2], bv c5, bv (!c5), x7, AV.top, AV.top, AV.top, AV.top, AV.top, AV.top, AV.top, AV.top, AV.top, AV.top, AV.top, AV.top, AV.top, AV.top, AV.top, AV.top, AV.top, AV.top, AV.top, AV.top, AV.top, AV.top, AV.top, AV.top, AV.top, AV.top, AV.top, AV.top, AV.top, AV.top, AV.top, AV.top, AV.top, AV.top, AV.top, AV.top, AV.top, AV.top, AV.top, und] ∧ Hold B h13 [(AV.ptr o1 1 0 0, .pt 4 [iv b_.x1, iv b_.y1, iv b_.x2, iv b_.y2]), (z11, obS (w12 : Sl Spot))]) (fun st tm h13 R => ?_) R
  obtain ⟨w12, w15⟩ := st
  obtain ⟨z11, rfl, O14⟩ := R
  rw [e_lb0_spec_NormalSpots]
  unfold s0_spec_NormalSpots
  dsimp only
  refine sim_let (v := iv (((list_.getD []).length : Nat) : Int)) (Tab.enc h13 list_).len ?_
  refine sim_let (v := bv (decide (w15 < (((list_.getD []).length : Nat) : Int)))) (aBin_lss _ _) ?_
  refine sim_cond (fun c30 => ?_) (fun c30 => ?_)
  · refine sim_get (Tab.enc h13 list_) (fun m32 a31 hi33 hm34 => ?_)
    refine sim_let (v := elp (Sl.enc list_) m32 0) ((Tab.enc h13 list_).fld _ _ _) ?_
    refine sim_let (v := iv a31.x) ((Tab.enc h13 list_).ld hm34 false 1 0) ?_
    refine sim_let (v := AV.ptr o1 1 0 0) rfl ?_
    refine sim_let (v := iv b_.x1) (O14.ld 0 rfl false 1 0) ?_
    refine sim_let (v := AV.ptr o1 1 0 2) rfl ?_
    refine sim_let (v := iv b_.x2) (O14.ld 0 rfl false 1 2) ?_
    refine sim_callVQ3 (t := within) he_spec_l00In (snapD_int _ _) (snapD_int _ _) (snapD_int _ _) (fun c35 => ?_)
    refine sim_let (v := bv (!c35)) (aUn_not _) ?_
    refine sim_g11F (e := bv) (fun hb36 => ?_) (fun y43 y44 y45 y46 y47 y48 y49 y50 y51 y52 c42 => ?_)
    · refine sim_o0 ?_
      refine sim_o0 ?_
      refine sim_o1 ?_
      refine sim_get (Tab.enc h13 list_) (fun m38 a37 hi39 hm40 => ?_)
      refine sim_o0 ?_
      refine sim_o1 ?_
      refine sim_let (v := elp (Sl.enc list_) m38 1) ((Tab.enc h13 list_).fld _ _ _) ?_
      refine sim_o0 ?_
      refine sim_o1 ?_
      refine sim_let (v := iv a37.y) ((Tab.enc h13 list_).ld hm40 false 1 1) ?_
      refine sim_o0 ?_
      refine sim_o1 ?_
      refine sim_let (v := AV.ptr o1 1 0 1) rfl ?_
      refine sim_o0 ?_
      refine sim_o1 ?_
      refine sim_let (v := iv b_.y1) (O14.ld 0 rfl false 1 1) ?_
      refine sim_o0 ?_
      refine sim_o1 ?_
      refine sim_let (v := AV.ptr o1 1 0 3) rfl ?_
      refine sim_o0 ?_
      refine sim_o1 ?_
      refine sim_let (v := iv b_.y2) (O14.ld 0 rfl false 1 3) ?_
      refine sim_o0 ?_
      refine sim_o2 ?_
      refine sim_callVQ3 (t := within) he_spec_l00In (snapD_int _ _) (snapD_int _ _) (snapD_int _ _) (fun c41 => ?_)
      refine sim_o0 ?_
      refine sim_let (v := bv (!c41)) (aUn_not _) ?_
      exact sim_ret rfl
    · refine sim_let (v := bv (bif !c35 then true else c42)) (pick_b' _ _ _) ?_
      refine sim_cond (fun c53 => ?_) (fun c53 => ?_)
      · exact sim_ret ⟨nofun, _, _, _, _, rfl, O14⟩
      · refine sim_get (Tab.enc h13 list_) (fun m56 a55 hi57 hm58 => ?_)
        refine sim_let (v := AV.agg [iv a55.x, iv a55.y]) ((Tab.enc h13 list_).ld hm58 true 2 0) ?_
        refine sim_let (v := AV.agg [iv b_.x1, iv b_.y1, iv b_.x2, iv b_.y2]) (O14.ld 0 rfl true 4 0) ?_
        refine sim_callQ2 he_spec_l07Normal (snapD_nr _ a55 rfl) (snapD_nr _ b_ rfl) (fun c59 => ?_)
        refine sim_let2 (hand_plain (by rfl) _ _) ?_
        refine sim_build (A := Spot) O14 ([c59] : List Spot) rfl (by first | rfl | simp [aFillRows, zrows]) rfl (fun x60 h61 O62 => ?_)
        replace O62 : Hold B h61 [(AV.ptr o1 1 0 0, .pt 4 [iv b_.x1, iv b_.y1, iv b_.x2, iv b_.y2]), (z11, obS (w12 : Sl Spot)), (x60, obS ((some ([c59] : List Spot)) : Sl Spot))] := O62
        refine sim_append (A := Spot) (s := w12) O62 1 ([c59] : List Spot) rfl (O62.src (A := Spot) (s := (some ([c59] : List Spot))) 2 rfl) (by decide) (fun x65 h66 O67 => ?_)
        replace O67 : Hold B h66 [(AV.ptr o1 1 0 0, .pt 4 [iv b_.x1, iv b_.y1, iv b_.x2, iv b_.y2]), (x65, obS ((appS w12 ([c59] : List Spot)) : Sl Spot)), (x60, obS ((some ([c59] : List Spot)) : Sl Spot))] := O67
        have O69 : Hold B h66 [(AV.ptr o1 1 0 0, .pt 4 [iv b_.x1, iv b_.y1, iv b_.x2, iv b_.y2]), (x65, obS ((appS w12 ([c59] : List Spot)) : Sl Spot))] := O67.sel [0, 1] (by decide) rfl
        refine sim_let (v := iv (wr (w15 + 1))) (aBin_add _ _) ?_
        exact sim_ret ⟨rfl, _, rfl, O69⟩
  · exact sim_ret ⟨nofun, _, _, _, _, _, rfl, O14⟩
theorem ts_spec_NormalSpots (env : Nat → Contract) (he_spec_l00In : env n_spec_l00In = .pure (T3 within)) (he_spec_l02Box : env n_spec_l02Box = .pure (T1 validBox)) (he_spec_l07Normal : env n_spec_l07Normal = .pure (C2 (fun c : Spot => enc c) t_spec_l07Normal)) (list_ : Sl Spot) (b_ : Box) : Sim (denFn Try.prog env n_spec_NormalSpots [Sl.enc list_, AV.agg [iv b_.x1, iv b_.y1, iv b_.x2, iv b_.y2]] []) (t_spec_NormalSpots list_ b_) fun c p => release p.2 depth p.1 = some ((fun c : (Sl Spot) × Int => AV.tup [rS c.1, enc c.2]) c) := by
  have O := Hold.nil []
  generalize hB : (⟨[], []⟩ : Base) = B at O
  clear hB
  rw [e_spec_NormalSpots]
  unfold t_spec_NormalSpots
  refine sim_box O (cs := [iv b_.x1, iv b_.y1, iv b_.x2, iv b_.y2]) (by first | rfl | simp) (fun o1 h2 O3 => ?_)
  replace O3 : Hold B h2 [(AV.ptr o1 1 0 0, .pt 4 [iv b_.x1, iv b_.y1, iv b_.x2, iv b_.y2])] := O3
  refine sim_let (v := AV.agg [iv b_.x1, iv b_.y1, iv b_.x2, iv b_.y2]) (O3.ld 0 rfl true 4 0) ?_
  refine sim_callV1 (t := validBox) he_spec_l02Box (snapD_nr _ b_ rfl) (fun c5 => ?_)
  refine sim_let (v := bv (!c5)) (aUn_not _) ?_
  refine sim_cond (fun c6 => ?_) (fun c6 => ?_)
  · exact sim_ret (release_plain (by rfl) _)
  · refine sim_build (A := Spot) O3 ([] : List Spot) rfl (by first | rfl | simp [aFillRows, zrows]) rfl (fun x7 h8 O9 => ?_)
    replace O9 : Hold B h8 [(AV.ptr o1 1 0 0, .pt 4 [iv b_.x1, iv b_.y1, iv b_.x2, iv b_.y2]), (x7, obS ((some ([] : List Spot)) : Sl Spot))] := O9
    refine sim_bind ((tl0_spec_NormalSpots env he_spec_l00In he_spec_l02Box he_spec_l07Normal list_ b_ o1 c5 x7) ⟨_, rfl, O9⟩) (fun qq73 r hq => ?_)
    rcases qq73 with q19 | q28
    · obtain ⟨q22, z18, z20, z21, h16, rfl, O17⟩ := hq
      rw [e_lk0x0_spec_NormalSpots]
      have O23 : Hold B h16 [(z18, obS (q19 : Sl Spot))] := O17.sel [1] (by decide) rfl
      exact sim_ret (release_of (by simp only [ids_tup, ids_aggD, ids_agg, ids_iv, ids_bv, ids_sv, ids_bt, ids_nilS, ids_enc, O23.idsD (A := Spot) (s := q19) 0 rfl, List.map_append, List.map_nil, List.flatMap_cons, List.flatMap_nil, List.append_nil, List.nil_append]; simpa only [List.flatMap_cons, List.flatMap_nil, List.append_nil, List.nil_append] using O23.nd2) (by simp only [rel_tup, rel_aggD, rel_agg, rel_iv, rel_bv, rel_sv, rel_bt, rel_nilS, rel_enc, O23.relD (A := Spot) (s := q19) 0 rfl, omapc, omapn, obind_sm] <;> rfl))
    · obtain ⟨q27, q29, z26, h24, rfl, O25⟩ := hq
      rw [e_lk0r_spec_NormalSpots]
      exact sim_ret (release_plain (by rfl) _)
theorem tt_spec_NormalSpots : PureOK Try.prog n_spec_NormalSpots (C2 (fun c : (Sl Spot) × Int => AV.tup [rS c.1, enc c.2]) t_spec_NormalSpots) := pureC2 (Econs ok_spec_l00In (Econs ok_spec_l02Box (Econs tt_spec_l07Normal E0))) mixed hb_spec_NormalSpots fun list_ b_ => ts_spec_NormalSpots _ (by simp [envL]) (by simp [envL]) (by simp [envL]) list_ b_

def s1_impl_BoxOfSpots (list_ : Sl Spot) : (Int × Int × Int × Int × Int) → Option (Sum (Int × Int × Int × Int × Int) (Int × Int × Int × Int)) := fun (w37, w38, w39, w40, w43) =>
  bif decide (w43 < (((list_.getD []).length : Nat) : Int)) then
    obind (getI (list_.getD []) w43) fun a54 =>
    obind (some (joinBox (⟨w37, w38, w39, w40⟩ : Box) (⟨a54.x, a54.y, a54.x, a54.y⟩ : Box))) fun c64 =>
    some (.inl (c64.x1, c64.y1, c64.x2, c64.y2, wr (w43 + 1)))
  else
    some (.inr (w37, w38, w39, w40))
def s0_impl_BoxOfSpots (list_ : Sl Spot) : Int → Option (Sum Int (Sum Unit Int)) := fun w7 =>
  bif decide (w7 < (((list_.getD []).length : Nat) : Int)) then
    obind (getI (list_.getD []) w7) fun a76 =>
    obind (some ((fun y => within y 0 4095) a76.x)) fun c86 =>
    obind (bif !c86 then some false else (obind (some ((fun y => within y 0 4095) a76.y)) fun c88 => some (!c88))) fun c89 =>
    bif (bif !c86 then true else c89) then
      some (.inr (.inr 1))
    else
      some (.inl (wr (w7 + 1)))
  else
    some (.inr (.inl ()))
def t_impl_BoxOfSpots (list_ : Sl Spot) : Option (Box × Int) :=
  obind (loopT (s0_impl_BoxOfSpots list_) 0) fun qq97 => match qq97 with
  | (.inl _) =>
      bif decide ((((list_.getD []).length : Nat) : Int) = 0) then
        some ((⟨0, 0, 0, 0⟩ : Box), 6)
      else
        obind (getI (list_.getD []) 0) fun a15 =>
        obind (getI (list_.getD []) 0) fun a19 =>
        obind (getI (list_.getD []) 0) fun a23 =>
        obind (getI (list_.getD []) 0) fun a27 =>
        obind (loopT (s1_impl_BoxOfSpots list_) (a15.x, a19.y, a23.x, a27.y, 0)) fun (q46, q47, q48, q49) =>
        some ((⟨q46, q47, q48, q49⟩ : Box), 0)
  | (.inr q73) =>
      some ((⟨0, 0, 0, 0⟩ : Box), q73)

theorem tl1_impl_BoxOfSpots (env : Nat → Contract) {B : Base} (he_impl_isCoord : env n_impl_isCoord = .pure (T1 (fun y => within y 0 4095))) (he_impl_joinBoxes : env n_impl_joinBoxes = .pure (T2 joinBox)) (list_ : Sl Spot) (o1 : Nat) (z10 : AV) (z11 : AV) (a15 : Spot) (m16 : Nat) (a19 : Spot) (m20 : Nat) (a23 : Spot) (m24 : Nat) (a27 : Spot) (m28 : Nat) (o31 : Nat)  {st : Int × Int × Int × Int × Int} {tm : TM} {h : Heap} (R : (fun (st : Int × Int × Int × Int × Int) tm h41 => match st with | (w37, w38, w39, w40, w43) => tm = ((Sl.enc list_) :: und :: (AV.ptr o1 1 0 0) :: z10 :: und :: z11 :: (AV.ptr o31 1 0 0) :: und :: AV.top :: (Sl.enc list_) :: (iv (((list_.getD []).length : Nat) : Int)) :: AV.top :: AV.top :: AV.top :: AV.top :: AV.top :: AV.top :: AV.top :: AV.top :: AV.top :: AV.top :: AV.top :: AV.top :: AV.top :: AV.top :: AV.top :: AV.top :: (Sl.enc list_) :: (iv (((list_.getD []).length : Nat) : Int)) :: (bv (decide ((((list_.getD []).length : Nat) : Int) = 0))) :: und :: (Sl.enc list_) :: (elp (Sl.enc list_) m16 0) :: (elp (Sl.enc list_) m16 0) :: (iv a15.x) :: (Sl.enc list_) :: (elp (Sl.enc list_) m20 0) :: (elp (Sl.enc list_) m20 1) :: (iv a19.y) :: (Sl.enc list_) :: (elp (Sl.enc list_) m24 0) :: (elp (Sl.enc list_) m24 0) :: (iv a23.x) :: (Sl.enc list_) :: (elp (Sl.enc list_) m28 0) :: (elp (Sl.enc list_) m28 1) :: (iv a27.y) :: (AV.agg [iv a15.x, iv a19.y, iv a23.x, iv a27.y]) :: (Sl.enc list_) :: (iv (((list_.getD []).length : Nat) : Int)) :: (iv w43) :: AV.top :: AV.top :: AV.top :: AV.top :: AV.top :: AV.top :: AV.top :: AV.top :: AV.top :: AV.top :: AV.top :: AV.top :: AV.top :: AV.top :: AV.top :: und :: []) ∧ Hold B h41 [(AV.ptr o1 1 0 0, .pt 4 [iv 0, iv 0, iv 0, iv 0]), (AV.ptr o31 1 0 0, .pt 4 [iv w37, iv w38, iv w39, iv w40])]) st tm h) : Sim (loopP hm1_impl_BoxOfSpots xm1_impl_BoxOfSpots (lb1_impl_BoxOfSpots env) tm h) (loopT (s1_impl_BoxOfSpots list_) st) (fun (q : Int × Int × Int × Int) (r : Res) => match q with | (q46, q47, q48, q49) => ∃ (z50 : AV) (h44 : Heap), r = (.exit 2, ((Sl.enc list_) :: und :: (AV.ptr o1 1 0 0) :: z10 :: und :: z11 :: (AV.ptr o31 1 0 0) :: und :: z50 :: (Sl.enc list_) :: (iv (((list_.getD []).length : Nat) : Int)) :: AV.top :: AV.top :: AV.top :: AV.top :: AV.top :: AV.top :: AV.top :: AV.top :: AV.top :: AV.top :: AV.top :: AV.top :: AV.top :: AV.top :: AV.top :: AV.top :: (Sl.enc list_) :: (iv (((list_.getD []).length : Nat) : Int)) :: (bv (decide ((((list_.getD []).length : Nat) : Int) = 0))) :: und :: (Sl.enc list_) :: (elp (Sl.enc list_) m16 0) :: (elp (Sl.enc list_) m16 0) :: (iv a15.x) :: (Sl.enc list_) :: (elp (Sl.enc list_) m20 0) :: (elp (Sl.enc list_) m20 1) :: (iv a19.y) :: (Sl.enc list_) :: (elp (Sl.enc list_) m24 0) :: (elp (Sl.enc list_) m24 0) :: (iv a23.x) :: (Sl.enc list_) :: (elp (Sl.enc list_) m28 0) :: (elp (Sl.enc list_) m28 1) :: (iv a27.y) :: (AV.agg [iv a15.x, iv a19.y, iv a23.x, iv a27.y]) :: (Sl.enc list_) :: (iv (((list_.getD []).length : Nat) : Int)) :: AV.top :: AV.top :: AV.top :: AV.top :: AV.top :: AV.top :: AV.top :: AV.top :: AV.top :: AV.top :: AV.top :: AV.top :: AV.top :: AV.top :: AV.top :: AV.top :: und :: []), h44) ∧ Hold B h44 [(AV.ptr o1 1 0 0, .pt 4 [iv 0, iv 0, iv 0, iv 0]), (AV.ptr o31 1 0 0, .pt 4 [iv q46, iv q47, iv q48, iv q49])]) := by
  refine loop_sim (Rel := fun (st : Int × Int × Int × Int × Int) tm h41 => match st with | (w37, w38, w39, w40, w43) => tm = ((Sl.enc list_) :: und :: (AV.ptr o1 1 0 0) :: z10 :: und :: z11 :: (AV.ptr o31 1 0 0) :: und :: AV.top :: (Sl.enc list_) :: (iv (((list_.getD []).length : Nat) : Int)) :: AV.top :: AV.top :: AV.top :: AV.top :: AV.top :: AV.top :: AV.top :: AV.top :: AV.top :: AV.top :: AV.top :: AV.top :: AV.top :: AV.top :: AV.top :: AV.top :: (Sl.enc list_) :: (iv (((list_.getD []).length : Nat) : Int)) :: (bv (decide ((((list_.getD []).length : Nat) : Int) = 0))) :: und :: (Sl.enc list_) :: (elp (Sl.enc list_) m16 0) :: (elp (Sl.enc list_) m16 0) :: (iv a15.x) :: (Sl.enc list_) :: (elp (Sl.enc list_) m20 0) :: (elp (Sl.enc list_) m20 1) :: (iv a19.y) :: (Sl.enc list_) :: (elp (Sl.enc list_) m24 0) :: (elp (Sl.enc list_) m24 0) :: (iv a23.x) :: (Sl.enc list_) :: (elp (Sl.enc list_) m28 0) :: (elp (Sl.enc list_) m28 1) :: (iv a27.y) :: (AV.agg [iv a15.x, iv a19.y, iv a23.x, iv a27.y]) :: (Sl.enc list_) :: (iv (((list_.getD []).length : Nat) : Int)) :: (iv w43) :: AV.top :: AV.top :: AV.top :: AV.top :: AV.top :: AV.top :: AV.top :: AV.top :: AV.top :: AV.top :: AV.top :: AV.top :: AV.top :: AV.top :: AV.top :: und :: []) ∧ Hold B h41 [(AV.ptr o1 1 0 0, .pt 4 [iv 0, iv 0, iv 0, iv 0]), (AV.ptr o31 1 0 0, .pt 4 [iv w37, iv w38, iv w39, iv w40])]) (fun st tm h41 R => ?_) R
  obtain ⟨w37, w38, w39, w40, w43⟩ := st
  obtain ⟨rfl, O42⟩ := R
  rw [e_lb1_impl_BoxOfSpots]
  unfold s1_impl_BoxOfSpots
  dsimp only
  refine sim_let (v := bv (decide (w43 < (((list_.getD []).length : Nat) : Int)))) (aBin_lss _ _) ?_
  refine sim_cond (fun c53 => ?_) (fun c53 => ?_)
  · refine sim_get (Tab.enc h41 list_) (fun m55 a54 hi56 hm57 => ?_)
    refine sim_let (v := AV.agg [iv a54.x, iv a54.y]) ((Tab.enc h41 list_).ld hm57 true 2 0) ?_
    refine sim_box O42 (cs := [iv 0, iv 0]) (by first | rfl | simp) (fun o58 h59 O60 => ?_)
    replace O60 : Hold B h59 [(AV.ptr o1 1 0 0, .pt 4 [iv 0, iv 0, iv 0, iv 0]), (AV.ptr o31 1 0 0, .pt 4 [iv w37, iv w38, iv w39, iv w40]), (AV.ptr o58 1 0 0, .pt 2 [iv 0, iv 0])] := O60
    refine sim_store O60 2 (cs' := [iv a54.x, iv a54.y]) rfl (by first | rfl | simp) (by simp) (by first | rfl | simp) (by first | rfl | simp [splice]) (fun h62 O63 => ?_)
    replace O63 : Hold B h62 [(AV.ptr o1 1 0 0, .pt 4 [iv 0, iv 0, iv 0, iv 0]), (AV.ptr o31 1 0 0, .pt 4 [iv w37, iv w38, iv w39, iv w40]), (AV.ptr o58 1 0 0, .pt 2 [iv a54.x, iv a54.y])] := O63
    refine sim_let (v := AV.agg [iv w37, iv w38, iv w39, iv w40]) (O63.ld 1 rfl true 4 0) ?_
    refine sim_let (v := AV.ptr o58 1 0 0) rfl ?_
    refine sim_let (v := iv a54.x) (O63.ld 2 rfl false 1 0) ?_
    refine sim_let (v := AV.ptr o58 1 0 1) rfl ?_
    refine sim_let (v := iv a54.y) (O63.ld 2 rfl false 1 1) ?_
    refine sim_let (v := AV.ptr o58 1 0 0) rfl ?_
    refine sim_let (v := iv a54.x) (O63.ld 2 rfl false 1 0) ?_
    refine sim_let (v := AV.ptr o58 1 0 1) rfl ?_
    refine sim_let (v := iv a54.y) (O63.ld 2 rfl false 1 1) ?_
    refine sim_let (v := AV.agg [iv a54.x, iv a54.y, iv a54.x, iv a54.y]) (by first | rfl | simp [aBuild, aFill, splice]) ?_
    refine sim_callV2 (t := joinBox) he_impl_joinBoxes (snapD_nr _ (⟨w37, w38, w39, w40⟩ : Box) rfl) (snapD_nr _ (⟨a54.x, a54.y, a54.x, a54.y⟩ : Box) rfl) (fun c64 => ?_)
    refine sim_store O63 1 (cs' := [iv c64.x1, iv c64.y1, iv c64.x2, iv c64.y2]) rfl (by first | rfl | simp) (by simp) (by first | rfl | simp) (by first | rfl | simp [splice]) (fun h65 O66 => ?_)
    replace O66 : Hold B h65 [(AV.ptr o1 1 0 0, .pt 4 [iv 0, iv 0, iv 0, iv 0]), (AV.ptr o31 1 0 0, .pt 4 [iv c64.x1, iv c64.y1, iv c64.x2, iv c64.y2]), (AV.ptr o58 1 0 0, .pt 2 [iv a54.x, iv a54.y])] := O66
    refine sim_let (v := iv (wr (w43 + 1))) (aBin_add _ _) ?_
    have O67 : Hold B h65 [(AV.ptr o1 1 0 0, .pt 4 [iv 0, iv 0, iv 0, iv 0]), (AV.ptr o31 1 0 0, .pt 4 [iv c64.x1, iv c64.y1, iv c64.x2, iv c64.y2])] := O66.sel [0, 1] (by decide) rfl
    exact sim_ret ⟨rfl, rfl, O67⟩
  · exact sim_ret ⟨nofun, _, _, rfl, O42⟩
theorem tl0_impl_BoxOfSpots (env : Nat → Contract) {B : Base} (he_impl_isCoord : env n_impl_isCoord = .pure (T1 (fun y => within y 0 4095))) (he_impl_joinBoxes : env n_impl_joinBoxes = .pure (T2 joinBox)) (list_ : Sl Spot) (o1 : Nat)  {st : Int} {tm : TM} {h : Heap} (R : (fun (st : Int) tm h5 => match st with | w7 => tm = ((Sl.enc list_) :: und :: (AV.ptr o1 1 0 0) :: AV.top :: und :: AV.top :: und :: und :: und :: (Sl.enc list_) :: (iv (((list_.getD []).length : Nat) : Int)) :: (iv w7) :: AV.top :: AV.top :: AV.top :: AV.top :: AV.top :: AV.top :: AV.top :: AV.top :: AV.top :: AV.top :: AV.top :: AV.top :: AV.top :: AV.top :: AV.top :: und :: und :: und :: und :: und :: und :: und :: und :: und :: und :: und :: und :: und :: und :: und :: und :: und :: und :: und :: und :: und :: und :: und :: und :: und :: und :: und :: und :: und :: und :: und :: und :: und :: und :: und :: und :: und :: und :: und :: und :: []) ∧ Hold B h5 [(AV.ptr o1 1 0 0, .pt 4 [iv 0, iv 0, iv 0, iv 0])]) st tm h) : Sim (loopP hm0_impl_BoxOfSpots xm0_impl_BoxOfSpots (lb0_impl_BoxOfSpots env) tm h) (loopT (s0_impl_BoxOfSpots list_) st) (fun (q : Sum Unit Int) (r : Res) => match q with | .inl _ => ∃ (z10 : AV) (z11 : AV) (h8 : Heap), r = (.exit 0, ((Sl.enc list_) :: und :: (AV.ptr o1 1 0 0) :: z10 :: und :: z11 :: und :: und :: und :: (Sl.enc list_) :: (iv (((list_.getD []).length : Nat) : Int)) :: AV.top :: AV.top :: AV.top :: AV.top :: AV.top :: AV.top :: AV.top :: AV.top :: AV.top :: AV.top :: AV.top :: AV.top :: AV.top :: AV.top :: AV.top :: AV.top :: und :: und :: und :: und :: und :: und :: und :: und :: und :: und :: und :: und :: und :: und :: und :: und :: und :: und :: und :: und :: und :: und :: und :: und :: und :: und :: und :: und :: und :: und :: und :: und :: und :: und :: und :: und :: und :: und :: und :: und :: []), h8) ∧ Hold B h8 [(AV.ptr o1 1 0 0, .pt 4 [iv 0, iv 0, iv 0, iv 0])] | .inr q73 => ∃ (z74 : AV) (h71 : Heap), r = (.ret, ((Sl.enc list_) :: und :: (AV.ptr o1 1 0 0) :: (iv q73) :: und :: z74 :: und :: und :: und :: (Sl.enc list_) :: (iv (((list_.getD []).length : Nat) : Int)) :: AV.top :: AV.top :: AV.top :: AV.top :: AV.top :: AV.top :: AV.top :: AV.top :: AV.top :: AV.top :: AV.top :: AV.top :: AV.top :: AV.top :: AV.top :: AV.top :: und :: und :: und :: und :: und :: und :: und :: und :: und :: und :: und :: und :: und :: und :: und :: und :: und :: und :: und :: und :: und :: und :: und :: und :: und :: und :: und :: und :: und :: und :: und :: und :: und :: und :: und :: und :: und :: und :: und :: und :: []), h71) ∧ Hold B h71 [(AV.ptr o1 1 0 0, .pt 4 [iv 0, iv 0, iv 0, iv 0])]) := by
  refine loop_sim (Rel := fun (st : Int) tm h5 => match st with | w7 => tm = ((Sl.enc list_) :: und :: (AV.ptr o1 1 0 0) :: AV.top :: und :: AV.top :: und :: und :: und :: (Sl.enc list_) :: (iv (((list_.getD []).length : Nat) : Int)) :: (iv w7) :: AV.top :: AV.top :: AV.top :: AV.top :: AV.top :: AV.top :: AV.top :: AV.top :: AV.top :: AV.top :: AV.top :: AV.top :: AV.top :: AV.top :: AV.top :: und :: und :: und :: und :: und :: und :: und :: und :: und :: und :: und :: und :: und :: und :: und :: und :: und :: und :: und :: und :: und :: und :: und :: und :: und :: und :: und :: und :: und :: und :: und :: und :: und :: und :: und :: und :: und :: und :: und :: und :: []) ∧ Hold B h5 [(AV.ptr o1 1 0 0, .pt 4 [iv 0, iv 0, iv 0, iv 0])]) (fun w7 tm h5 R => ?_) R
  obtain ⟨rfl, O6⟩ := R
  rw [e_lb0_impl_BoxOfSpots]
  unfold s0_impl_BoxOfSpots
  dsimp only
  refine sim_let (v := bv (decide (w7 < (((list_.getD []).length : Nat) : Int)))) (aBin_lss _ _) ?_
  refine sim_cond (fun c75 => ?_) (fun c75 => ?_)
  · refine sim_get (Tab.enc h5 list_) (fun m77 a76 hi78 hm79 => ?_)
    refine sim_let (v := AV.agg [iv a76.x, iv a76.y]) ((Tab.enc h5 list_).ld hm79 true 2 0) ?_
    refine sim_box O6 (cs := [iv 0, iv 0]) (by first | rfl | simp) (fun o80 h81 O82 => ?_)
    replace O82 : Hold B h81 [(AV.ptr o1 1 0 0, .pt 4 [iv 0, iv 0, iv 0, iv 0]), (AV.ptr o80 1 0 0, .pt 2 [iv 0, iv 0])] := O82
    refine sim_store O82 1 (cs' := [iv a76.x, iv a76.y]) rfl (by first | rfl | simp) (by simp) (by first | rfl | simp) (by first | rfl | simp [splice]) (fun h84 O85 => ?_)
    replace O85 : Hold B h84 [(AV.ptr o1 1 0 0, .pt 4 [iv 0, iv 0, iv 0, iv 0]), (AV.ptr o80 1 0 0, .pt 2 [iv a76.x, iv a76.y])] := O85
    refine sim_let (v := AV.ptr o80 1 0 0) rfl ?_
    refine sim_let (v := iv a76.x) (O85.ld 1 rfl false 1 0) ?_
    refine sim_callV1 (t := (fun y => within y 0 4095)) he_impl_isCoord (snapD_int _ _) (fun c86 => ?_)
    refine sim_let (v := bv (!c86)) (aUn_not _) ?_
    refine sim_guardF (e := bv) (fun hb87 => ?_) (fun c89 => ?_)
    · refine sim_let (v := AV.ptr o80 1 0 1) rfl ?_
      refine sim_let (v := iv a76.y) (O85.ld 1 rfl false 1 1) ?_
      refine sim_callV1 (t := (fun y => within y 0 4095)) he_impl_isCoord (snapD_int _ _) (fun c88 => ?_)
      refine sim_let (v := bv (!c88)) (aUn_not _) ?_
      exact sim_ret rfl
    · refine sim_let (v := bv (bif !c86 then true else c89)) (pick_b' _ _ _) ?_
      refine sim_cond (fun c90 => ?_) (fun c90 => ?_)
      · refine sim_let (v := AV.agg [iv 0, iv 0, iv 0, iv 0]) (by first | rfl | simp [aBuild, aFill, splice]) ?_
        refine sim_store O85 0 (cs' := [iv 0, iv 0, iv 0, iv 0]) rfl (by first | rfl | simp) (by simp) (by first | rfl | simp) (by first | rfl | simp [splice]) (fun h91 O92 => ?_)
        replace O92 : Hold B h91 [(AV.ptr o1 1 0 0, .pt 4 [iv 0, iv 0, iv 0, iv 0]), (AV.ptr o80 1 0 0, .pt 2 [iv a76.x, iv a76.y])] := O92
        have O93 : Hold B h91 [(AV.ptr o1 1 0 0, .pt 4 [iv 0, iv 0, iv 0, iv 0])] := O92.sel [0] (by decide) rfl
        exact sim_ret ⟨nofun, _, _, rfl, O93⟩
      · refine sim_let (v := iv (wr (w7 + 1))) (aBin_add _ _) ?_
        have O94 : Hold B h84 [(AV.ptr o1 1 0 0, .pt 4 [iv 0, iv 0, iv 0, iv 0])] := O85.sel [0] (by decide) rfl
        exact sim_ret ⟨rfl, rfl, O94⟩
  · exact sim_ret ⟨nofun, _, _, _, rfl, O6⟩
theorem ts_impl_BoxOfSpots (env : Nat → Contract) (he_impl_isCoord : env n_impl_isCoord = .pure (T1 (fun y => within y 0 4095))) (he_impl_joinBoxes : env n_impl_joinBoxes = .pure (T2 joinBox)) (list_ : Sl Spot) : Sim (denFn Try.prog env n_impl_BoxOfSpots [Sl.enc list_] []) (t_impl_BoxOfSpots list_) fun c p => release p.2 depth p.1 = some ((fun c : Box × Int => AV.tup [enc c.1, enc c.2]) c) := by
  have O := Hold.nil []
  generalize hB : (⟨[], []⟩ : Base) = B at O
  clear hB
  rw [e_impl_BoxOfSpots]
  unfold t_impl_BoxOfSpots
  refine sim_box O (cs := [iv 0, iv 0, iv 0, iv 0]) (by first | rfl | simp) (fun o1 h2 O3 => ?_)
  replace O3 : Hold B h2 [(AV.ptr o1 1 0 0, .pt 4 [iv 0, iv 0, iv 0, iv 0])] := O3
  refine sim_let (v := iv (((list_.getD []).length : Nat) : Int)) (Tab.enc h2 list_).len ?_
  refine sim_bind ((tl0_impl_BoxOfSpots env he_impl_isCoord he_impl_joinBoxes list_ o1) ⟨rfl, O3⟩) (fun qq97 r hq => ?_)
  rcases qq97 with _ | q73
  · obtain ⟨z10, z11, h8, rfl, O9⟩ := hq
    rw [e_lk0x0_impl_BoxOfSpots]
    refine sim_let (v := iv (((list_.getD []).length : Nat) : Int)) (Tab.enc h8 list_).len ?_
    refine sim_let (v := bv (decide ((((list_.getD []).length : Nat) : Int) = 0))) (aCmp_eq _ _) ?_
    refine sim_cond (fun c12 => ?_) (fun c12 => ?_)
    · refine sim_let (v := AV.agg [iv 0, iv 0, iv 0, iv 0]) (by first | rfl | simp [aBuild, aFill, splice]) ?_
      refine sim_store O9 0 (cs' := [iv 0, iv 0, iv 0, iv 0]) rfl (by first | rfl | simp) (by simp) (by first | rfl | simp) (by first | rfl | simp [splice]) (fun h13 O14 => ?_)
      replace O14 : Hold B h13 [(AV.ptr o1 1 0 0, .pt 4 [iv 0, iv 0, iv 0, iv 0])] := O14
      refine sim_retL (resL_c (v := AV.agg [iv 0, iv 0, iv 0, iv 0]) (O14.ld 0 rfl true 4 0) (resL_v (v := iv 6) (resL_nil _))) ?_
      dsimp only [pack]
      exact sim_ret (release_plain (by rfl) _)
    · refine sim_get (Tab.enc h8 list_) (fun m16 a15 hi17 hm18 => ?_)
      refine sim_let (v := elp (Sl.enc list_) m16 0) ((Tab.enc h8 list_).fld _ _ _) ?_
      refine sim_let (v := iv a15.x) ((Tab.enc h8 list_).ld hm18 false 1 0) ?_
      refine sim_get (Tab.enc h8 list_) (fun m20 a19 hi21 hm22 => ?_)
      refine sim_let (v := elp (Sl.enc list_) m20 1) ((Tab.enc h8 list_).fld _ _ _) ?_
      refine sim_let (v := iv a19.y) ((Tab.enc h8 list_).ld hm22 false 1 1) ?_
      refine sim_get (Tab.enc h8 list_) (fun m24 a23 hi25 hm26 => ?_)
      refine sim_let (v := elp (Sl.enc list_) m24 0) ((Tab.enc h8 list_).fld _ _ _) ?_
      refine sim_let (v := iv a23.x) ((Tab.enc h8 list_).ld hm26 false 1 0) ?_
      refine sim_get (Tab.enc h8 list_) (fun m28 a27 hi29 hm30 => ?_)
      refine sim_let (v := elp (Sl.enc list_) m28 1) ((Tab.enc h8 list_).fld _ _ _) ?_
      refine sim_let (v := iv a27.y) ((Tab.enc h8 list_).ld hm30 false 1 1) ?_
      refine sim_let (v := AV.agg [iv a15.x, iv a19.y, iv a23.x, iv a27.y]) (by first | rfl | simp [aBuild, aFill, splice]) ?_
      refine sim_box O9 (cs := [iv 0, iv 0, iv 0, iv 0]) (by first | rfl | simp) (fun o31 h32 O33 => ?_)
      replace O33 : Hold B h32 [(AV.ptr o1 1 0 0, .pt 4 [iv 0, iv 0, iv 0, iv 0]), (AV.ptr o31 1 0 0, .pt 4 [iv 0, iv 0, iv 0, iv 0])] := O33
      refine sim_store O33 1 (cs' := [iv a15.x, iv a19.y, iv a23.x, iv a27.y]) rfl (by first | rfl | simp) (by simp) (by first | rfl | simp) (by first | rfl | simp [splice]) (fun h35 O36 => ?_)
      replace O36 : Hold B h35 [(AV.ptr o1 1 0 0, .pt 4 [iv 0, iv 0, iv 0, iv 0]), (AV.ptr o31 1 0 0, .pt 4 [iv a15.x, iv a19.y, iv a23.x, iv a27.y])] := O36
      refine sim_let (v := iv (((list_.getD []).length : Nat) : Int)) (Tab.enc h35 list_).len ?_
      refine sim_bind ((tl1_impl_BoxOfSpots env he_impl_isCoord he_impl_joinBoxes list_ o1 z10 z11 a15 m16 a19 m20 a23 m24 a27 m28 o31) ⟨rfl, O36⟩) (fun qq70 r hq => ?_)
      obtain ⟨q46, q47, q48, q49⟩ := qq70
      obtain ⟨z50, h44, rfl, O45⟩ := hq
      rw [e_lk1x2_impl_BoxOfSpots]
      refine sim_let (v := AV.agg [iv q46, iv q47, iv q48, iv q49]) (O45.ld 1 rfl true 4 0) ?_
      refine sim_store O45 0 (cs' := [iv q46, iv q47, iv q48, iv q49]) rfl (by first | rfl | simp) (by simp) (by first | rfl | simp) (by first | rfl | simp [splice]) (fun h51 O52 => ?_)
      replace O52 : Hold B h51 [(AV.ptr o1 1 0 0, .pt 4 [iv q46, iv q47, iv q48, iv q49]), (AV.ptr o31 1 0 0, .pt 4 [iv q46, iv q47, iv q48, iv q49])] := O52
      refine sim_retL (resL_c (v := AV.agg [iv q46, iv q47, iv q48, iv q49]) (O52.ld 0 rfl true 4 0) (resL_v (v := iv 0) (resL_nil _))) ?_
      dsimp only [pack]
      exact sim_ret (release_plain (by rfl) _)
  · obtain ⟨z74, h71, rfl, O72⟩ := hq
    rw [e_lk0r_impl_BoxOfSpots]
    refine sim_retL (resL_c (v := AV.agg [iv 0, iv 0, iv 0, iv 0]) (O72.ld 0 rfl true 4 0) (resL_v (v := iv q73) (resL_nil _))) ?_
    dsimp only [pack]
    exact sim_ret (release_plain (by rfl) _)
theorem tt_impl_BoxOfSpots : PureOK Try.prog n_impl_BoxOfSpots (C1 (fun c : Box × Int => AV.tup [enc c.1, enc c.2]) t_impl_BoxOfSpots) := pureC1 (Econs ok_impl_isCoord (Econs ok_impl_joinBoxes E0)) mixed hb_impl_BoxOfSpots fun list_ => ts_impl_BoxOfSpots _ (by simp [envL]) (by simp [envL]) list_

def s0_laws_FnNormalSpots (c3 : (Sl Spot) × Box) (c14 : (Sl Spot) × Int) : ((Sl Spot) × Int) → Option (Sum ((Sl Spot) × Int) (Sum (Sl Spot) Bool)) := fun (w54, w57) =>
  bif decide (w57 < (((c3.1.getD []).length : Nat) : Int)) then
    obind (getI (c14.1.getD []) w57) fun a100 =>
    obind (bif decide (a100.x < 0) then some false else (obind (getI (c14.1.getD []) w57) fun a105 => some (decide (255 < a105.x)))) fun c109 =>
    obind (bif (bif decide (a100.x < 0) then true else c109) then some false else (obind (getI (c14.1.getD []) w57) fun a111 => some (decide (a111.y < 0)))) fun c115 =>
    obind (bif (bif (bif decide (a100.x < 0) then true else c109) then true else c115) then some false else (obind (getI (c14.1.getD []) w57) fun a117 => some (decide (255 < a117.y)))) fun c121 =>
    bif (bif (bif (bif decide (a100.x < 0) then true else c109) then true else c115) then true else c121) then
      some (.inr (.inr false))
    else
      obind (getI (c3.1.getD []) w57) fun a124 =>
      obind (getI (c3.1.getD []) w57) fun a128 =>
      obind (appO w54 ([(⟨wr (a124.x - c3.2.x1), wr (a128.y - c3.2.y1)⟩ : Spot)] : List Spot)) fun _ =>
      some (.inl ((appS w54 ([(⟨wr (a124.x - c3.2.x1), wr (a128.y - c3.2.y1)⟩ : Spot)] : List Spot)), wr (w57 + 1)))
  else
    some (.inr (.inl w54))
def t_laws_FnNormalSpots (code_ : Sl UInt8) : Option Bool :=
  obind (t_laws_f6big code_) fun c1 =>
  bif c1 then
    some true
  else
    obind (t_spec_DrawNormalSpots code_) fun c3 =>
    obind (t_impl_NormalSpots c3.1 c3.2) fun c14 =>
    obind (t_spec_NormalSpots c3.1 c3.2) fun c19 =>
    obind (t_impl_BoxOfSpots c3.1) fun c24 =>
    obind (t_spec_BoxOfSpots c3.1) fun c31 =>
    obind (bif !decide (c14.2 = c19.2) then some false else (obind (t_spec_SameSpots c14.1 c19.1) fun c39 => some (!c39))) fun c40 =>
    obind (bif (bif !decide (c14.2 = c19.2) then true else c40) then some false else (some (!decide (c24.2 = c31.2)))) fun c42 =>
    obind (bif (bif (bif !decide (c14.2 = c19.2) then true else c40) then true else c42) then some false else (some (!decide (c24.1 = c31.1)))) fun c44 =>
    bif (bif (bif (bif !decide (c14.2 = c19.2) then true else c40) then true else c42) then true else c44) then
      some false
    else
      obind (bif !decide (c14.2 = 0) then some false else (some (!decide (c24.2 = 0)))) fun c47 =>
      bif (bif !decide (c14.2 = 0) then true else c47) then
        some true
      else
        obind (loopT (s0_laws_FnNormalSpots c3 c14) ((some ([] : List Spot)), 0)) fun qq145 => match qq145 with
        | (.inl q61) =>
            obind (t_impl_NormalSpots q61 (⟨0, 0, wr (c3.2.x2 - c3.2.x1), wr (c3.2.y2 - c3.2.y1)⟩ : Box)) fun c64 =>
            obind (t_impl_NormalSpots c3.1 c24.1) fun c69 =>
            obind (t_impl_BoxOfSpots c69.1) fun c74 =>
            obind (bif !decide (c64.2 = 0) then some false else (obind (t_spec_SameSpots c64.1 c14.1) fun c82 => some (!c82))) fun c83 =>
            obind (bif (bif !decide (c64.2 = 0) then true else c83) then some false else (some (!decide (c69.2 = 0)))) fun c85 =>
            obind (bif (bif (bif !decide (c64.2 = 0) then true else c83) then true else c85) then some false else (some (!decide (c74.2 = 0)))) fun c87 =>
            bif (bif (bif (bif !decide (c64.2 = 0) then true else c83) then true else c85) then true else c87) then
              some false
            else
              obind (bif decide (c24.1.x1 = c24.1.x2) then (some (decide (c24.1.y1 = c24.1.y2))) else some false) fun c90 =>
              obind (bif (bif decide (c24.1.x1 = c24.1.x2) then c90 else false) then some false else (some (decide (max (wr (c74.1.x2 - c74.1.x1)) (wr (c74.1.y2 - c74.1.y1)) = 255)))) fun c92 =>
              some (bif (bif decide (c24.1.x1 = c24.1.x2) then c90 else false) then true else c92)
        | (.inr q97) =>
            some q97

theorem tl0_laws_FnNormalSpots (env : Nat → Contract) {B : Base} (he_impl_BoxOfSpots : env n_impl_BoxOfSpots = .pure (C1 (fun c : Box × Int => AV.tup [enc c.1, enc c.2]) t_impl_BoxOfSpots)) (he_impl_NormalSpots : env n_impl_NormalSpots = .pure (C2 (fun c : (Sl Spot) × Int => AV.tup [rS c.1, enc c.2]) t_impl_NormalSpots)) (he_laws_f6big : env n_laws_f6big = .pure (C1 (fun c : Bool => enc c) t_laws_f6big)) (he_spec_BoxOfSpots : env n_spec_BoxOfSpots = .pure (C1 (fun c : Box × Int => AV.tup [enc c.1, enc c.2]) t_spec_BoxOfSpots)) (he_spec_DrawNormalSpots : env n_spec_DrawNormalSpots = .pure (C1 (fun c : (Sl Spot) × Box => AV.tup [rS c.1, enc c.2]) t_spec_DrawNormalSpots)) (he_spec_NormalSpots : env n_spec_NormalSpots = .pure (C2 (fun c : (Sl Spot) × Int => AV.tup [rS c.1, enc c.2]) t_spec_NormalSpots)) (he_spec_SameSpots : env n_spec_SameSpots = .pure (C2 (fun c : Bool => enc c) t_spec_SameSpots)) (code_ : Sl UInt8) (c1 : Bool) (c3 : (Sl Spot) × Box) (x5 : AV) (o8 : Nat) (c14 : (Sl Spot) × Int) (x16 : AV) (c19 : (Sl Spot) × Int) (x21 : AV) (c24 : Box × Int) (o25 : Nat) (c31 : Box × Int) (o32 : Nat) (c40 : Bool) (c42 : Bool) (c44 : Bool) (c47 : Bool) (x49 : AV)  {st : (Sl Spot) × Int} {tm : TM} {h : Heap} (R : (fun (st : (Sl Spot) × Int) tm h55 => match st with | (w54, w57) => ∃ z53, tm = ((Sl.enc code_) :: und :: AV.top :: x5 :: (AV.ptr o8 1 0 0) :: x16 :: (iv c14.2) :: x21 :: (iv c19.2) :: (AV.ptr o25 1 0 0) :: (iv c24.2) :: (AV.ptr o32 1 0 0) :: (iv c31.2) :: z53 :: (iv w57) :: und :: und :: und :: und :: und :: und :: (Sl.enc code_) :: (bv c1) :: (AV.tup [x5, AV.agg [iv c3.2.x1, iv c3.2.y1, iv c3.2.x2, iv c3.2.y2]]) :: (Sl.enc code_) :: (AV.tup [x5, AV.agg [iv c3.2.x1, iv c3.2.y1, iv c3.2.x2, iv c3.2.y2]]) :: x5 :: (AV.agg [iv c3.2.x1, iv c3.2.y1, iv c3.2.x2, iv c3.2.y2]) :: (AV.tup [x16, iv c14.2]) :: x5 :: (AV.agg [iv c3.2.x1, iv c3.2.y1, iv c3.2.x2, iv c3.2.y2]) :: (AV.tup [x16, iv c14.2]) :: x16 :: (iv c14.2) :: (AV.tup [x21, iv c19.2]) :: x5 :: (AV.agg [iv c3.2.x1, iv c3.2.y1, iv c3.2.x2, iv c3.2.y2]) :: (AV.tup [x21, iv c19.2]) :: x21 :: (iv c19.2) :: (AV.tup [AV.agg [iv c24.1.x1, iv c24.1.y1, iv c24.1.x2, iv c24.1.y2], iv c24.2]) :: x5 :: (AV.tup [AV.agg [iv c24.1.x1, iv c24.1.y1, iv c24.1.x2, iv c24.1.y2], iv c24.2]) :: (AV.agg [iv c24.1.x1, iv c24.1.y1, iv c24.1.x2, iv c24.1.y2]) :: (iv c24.2) :: (AV.tup [AV.agg [iv c31.1.x1, iv c31.1.y1, iv c31.1.x2, iv c31.1.y2], iv c31.2]) :: x5 :: (AV.tup [AV.agg [iv c31.1.x1, iv c31.1.y1, iv c31.1.x2, iv c31.1.y2], iv c31.2]) :: (AV.agg [iv c31.1.x1, iv c31.1.y1, iv c31.1.x2, iv c31.1.y2]) :: (iv c31.2) :: (iv c14.2) :: (iv c19.2) :: (bv (!decide (c14.2 = c19.2))) :: (bv (!decide (c14.2 = c19.2))) :: AV.top :: AV.top :: AV.top :: (cond (!decide (c14.2 = c19.2)) und (bv c40)) :: (bv (bif !decide (c14.2 = c19.2) then true else c40)) :: (bv (bif !decide (c14.2 = c19.2) then true else c40)) :: AV.top :: AV.top :: (cond (bif !decide (c14.2 = c19.2) then true else c40) und (bv c42)) :: (bv (bif (bif !decide (c14.2 = c19.2) then true else c40) then true else c42)) :: (bv (bif (bif !decide (c14.2 = c19.2) then true else c40) then true else c42)) :: AV.top :: AV.top :: (cond (bif (bif !decide (c14.2 = c19.2) then true else c40) then true else c42) und (bv c44)) :: (bv (bif (bif (bif !decide (c14.2 = c19.2) then true else c40) then true else c42) then true else c44)) :: (iv c14.2) :: (bv (!decide (c14.2 = 0))) :: (bv (!decide (c14.2 = 0))) :: AV.top :: (cond (!decide (c14.2 = 0)) und (bv c47)) :: (bv (bif !decide (c14.2 = 0) then true else c47)) :: x49 :: AV.top :: AV.top :: AV.top :: AV.top :: AV.top :: AV.top :: AV.top :: AV.top :: AV.top :: AV.top :: AV.top :: AV.top :: AV.top :: AV.top :: AV.top :: AV.top :: AV.top :: AV.top :: AV.top :: AV.top :: AV.top :: AV.top :: AV.top :: AV.top :: AV.top :: AV.top :: AV.top :: AV.top :: AV.top :: AV.top :: AV.top :: AV.top :: AV.top :: AV.top :: AV.top :: AV.top :: AV.top :: AV.top :: AV.top :: AV.top :: AV.top :: AV.top :: AV.top :: AV.top :: AV.top :: AV.top :: AV.top :: AV.top :: AV.top :: AV.top :: AV.top :: AV.top :: AV.top :: AV.top :: AV.top :: AV.top :: und :: und :: und :: und :: und :: und :: und :: und :: und :: und :: und :: und :: und :: und :: und :: und :: und :: und :: und :: und :: und :: und :: und :: und :: und :: und :: und :: und :: und :: und :: und :: und :: und :: und :: und :: und :: und :: und :: und :: und :: und :: und :: und :: und :: und :: und :: und :: und :: und :: und :: und :: und :: und :: und :: und :: und :: und :: und :: und :: und :: und :: und :: und :: und :: und :: und :: und :: und :: und :: []) ∧ Hold B h55 [(x5, obS (c3.1 : Sl Spot)), (AV.ptr o8 1 0 0, .pt 4 [iv c3.2.x1, iv c3.2.y1, iv c3.2.x2, iv c3.2.y2]), (x16, obS (c14.1 : Sl Spot)), (x21, obS (c19.1 : Sl Spot)), (AV.ptr o25 1 0 0, .pt 4 [iv c24.1.x1, iv c24.1.y1, iv c24.1.x2, iv c24.1.y2]), (AV.ptr o32 1 0 0, .pt 4 [iv c31.1.x1, iv c31.1.y1, iv c31.1.x2, iv c31.1.y2]), (z53, obS (w54 : Sl Spot))]) st tm h) : Sim (loopP hm0_laws_FnNormalSpots xm0_laws_FnNormalSpots (lb0_laws_FnNormalSpots env) tm h) (loopT (s0_laws_FnNormalSpots c3 c14) st) (fun (q : Sum (Sl Spot) Bool) (r : Res) => match q with | .inl q61 => ∃ (q63 : Int) (z60 : AV) (z62 : AV) (h58 : Heap), r = (.exit 0, ((Sl.enc code_) :: und :: z62 :: x5 :: (AV.ptr o8 1 0 0) :: x16 :: (iv c14.2) :: x21 :: (iv c19.2) :: (AV.ptr o25 1 0 0) :: (iv c24.2) :: (AV.ptr o32 1 0 0) :: (iv c31.2) :: z60 :: (iv q63) :: und :: und :: und :: und :: und :: und :: (Sl.enc code_) :: (bv c1) :: (AV.tup [x5, AV.agg [iv c3.2.x1, iv c3.2.y1, iv c3.2.x2, iv c3.2.y2]]) :: (Sl.enc code_) :: (AV.tup [x5, AV.agg [iv c3.2.x1, iv c3.2.y1, iv c3.2.x2, iv c3.2.y2]]) :: x5 :: (AV.agg [iv c3.2.x1, iv c3.2.y1, iv c3.2.x2, iv c3.2.y2]) :: (AV.tup [x16, iv c14.2]) :: x5 :: (AV.agg [iv c3.2.x1, iv c3.2.y1, iv c3.2.x2, iv c3.2.y2]) :: (AV.tup [x16, iv c14.2]) :: x16 :: (iv c14.2) :: (AV.tup [x21, iv c19.2]) :: x5 :: (AV.agg [iv c3.2.x1, iv c3.2.y1, iv c3.2.x2, iv c3.2.y2]) :: (AV.tup [x21, iv c19.2]) :: x21 :: (iv c19.2) :: (AV.tup [AV.agg [iv c24.1.x1, iv c24.1.y1, iv c24.1.x2, iv c24.1.y2], iv c24.2]) :: x5 :: (AV.tup [AV.agg [iv c24.1.x1, iv c24.1.y1, iv c24.1.x2, iv c24.1.y2], iv c24.2]) :: (AV.agg [iv c24.1.x1, iv c24.1.y1, iv c24.1.x2, iv c24.1.y2]) :: (iv c24.2) :: (AV.tup [AV.agg [iv c31.1.x1, iv c31.1.y1, iv c31.1.x2, iv c31.1.y2], iv c31.2]) :: x5 :: (AV.tup [AV.agg [iv c31.1.x1, iv c31.1.y1, iv c31.1.x2, iv c31.1.y2], iv c31.2]) :: (AV.agg [iv c31.1.x1, iv c31.1.y1, iv c31.1.x2, iv c31.1.y2]) :: (iv c31.2) :: (iv c14.2) :: (iv c19.2) :: (bv (!decide (c14.2 = c19.2))) :: (bv (!decide (c14.2 = c19.2))) :: AV.top :: AV.top :: AV.top :: (cond (!decide (c14.2 = c19.2)) und (bv c40)) :: (bv (bif !decide (c14.2 = c19.2) then true else c40)) :: (bv (bif !decide (c14.2 = c19.2) then true else c40)) :: AV.top :: AV.top :: (cond (bif !decide (c14.2 = c19.2) then true else c40) und (bv c42)) :: (bv (bif (bif !decide (c14.2 = c19.2) then true else c40) then true else c42)) :: (bv (bif (bif !decide (c14.2 = c19.2) then true else c40) then true else c42)) :: AV.top :: AV.top :: (cond (bif (bif !decide (c14.2 = c19.2) then true else c40) then true else c42) und (bv c44)) :: (bv (bif (bif (bif !decide (c14.2 = c19.2) then true else c40) then true else c42) then true else c44)) :: (iv c14.2) :: (bv (!decide (c14.2 = 0))) :: (bv (!decide (c14.2 = 0))) :: AV.top :: (cond (!decide (c14.2 = 0)) und (bv c47)) :: (bv (bif !decide (c14.2 = 0) then true else c47)) :: x49 :: AV.top :: AV.top :: AV.top :: AV.top :: AV.top :: AV.top :: AV.top :: AV.top :: AV.top :: AV.top :: AV.top :: AV.top :: AV.top :: AV.top :: AV.top :: AV.top :: AV.top :: AV.top :: AV.top :: AV.top :: AV.top :: AV.top :: AV.top :: AV.top :: AV.top :: AV.top :: AV.top :: AV.top :: AV.top :: AV.top :: AV.top :: AV.top :: AV.top :: AV.top :: AV.top :: AV.top :: AV.top :: AV.top :: AV.top :: AV.top :: AV.top :: AV.top :: AV.top :: AV.top :: AV.top :: AV.top :: AV.top :: AV.top :: AV.top :: AV.top :: AV.top :: AV.top :: AV.top :: AV.top :: AV.top :: AV.top :: und :: und :: und :: und :: und :: und :: und :: und :: und :: und :: und :: und :: und :: und :: und :: und :: und :: und :: und :: und :: und :: und :: und :: und :: und :: und :: und :: und :: und :: und :: und :: und :: und :: und :: und :: und :: und :: und :: und :: und :: und :: und :: und :: und :: und :: und :: und :: und :: und :: und :: und :: und :: und :: und :: und :: und :: und :: und :: und :: und :: und :: und :: und :: und :: und :: und :: und :: und :: und :: []), h58) ∧ Hold B h58 [(x5, obS (c3.1 : Sl Spot)), (AV.ptr o8 1 0 0, .pt 4 [iv c3.2.x1, iv c3.2.y1, iv c3.2.x2, iv c3.2.y2]), (x16, obS (c14.1 : Sl Spot)), (x21, obS (c19.1 : Sl Spot)), (AV.ptr o25 1 0 0, .pt 4 [iv c24.1.x1, iv c24.1.y1, iv c24.1.x2, iv c24.1.y2]), (AV.ptr o32 1 0 0, .pt 4 [iv c31.1.x1, iv c31.1.y1, iv c31.1.x2, iv c31.1.y2]), (z60, obS (q61 : Sl Spot))] | .inr q97 => ∃ (q96 : Sl Spot) (q98 : Int) (z95 : AV) (h93 : Heap), r = (.ret, ((Sl.enc code_) :: und :: (bv q97) :: x5 :: (AV.ptr o8 1 0 0) :: x16 :: (iv c14.2) :: x21 :: (iv c19.2) :: (AV.ptr o25 1 0 0) :: (iv c24.2) :: (AV.ptr o32 1 0 0) :: (iv c31.2) :: z95 :: (iv q98) :: und :: und :: und :: und :: und :: und :: (Sl.enc code_) :: (bv c1) :: (AV.tup [x5, AV.agg [iv c3.2.x1, iv c3.2.y1, iv c3.2.x2, iv c3.2.y2]]) :: (Sl.enc code_) :: (AV.tup [x5, AV.agg [iv c3.2.x1, iv c3.2.y1, iv c3.2.x2, iv c3.2.y2]]) :: x5 :: (AV.agg [iv c3.2.x1, iv c3.2.y1, iv c3.2.x2, iv c3.2.y2]) :: (AV.tup [x16, iv c14.2]) :: x5 :: (AV.agg [iv c3.2.x1, iv c3.2.y1, iv c3.2.x2, iv c3.2.y2]) :: (AV.tup [x16, iv c14.2]) :: x16 :: (iv c14.2) :: (AV.tup [x21, iv c19.2]) :: x5 :: (AV.agg [iv c3.2.x1, iv c3.2.y1, iv c3.2.x2, iv c3.2.y2]) :: (AV.tup [x21, iv c19.2]) :: x21 :: (iv c19.2) :: (AV.tup [AV.agg [iv c24.1.x1, iv c24.1.y1, iv c24.1.x2, iv c24.1.y2], iv c24.2]) :: x5 :: (AV.tup [AV.agg [iv c24.1.x1, iv c24.1.y1, iv c24.1.x2, iv c24.1.y2], iv c24.2]) :: (AV.agg [iv c24.1.x1, iv c24.1.y1, iv c24.1.x2, iv c24.1.y2]) :: (iv c24.2) :: (AV.tup [AV.agg [iv c31.1.x1, iv c31.1.y1, iv c31.1.x2, iv c31.1.y2], iv c31.2]) :: x5 :: (AV.tup [AV.agg [iv c31.1.x1, iv c31.1.y1, iv c31.1.x2, iv c31.1.y2], iv c31.2]) :: (AV.agg [iv c31.1.x1, iv c31.1.y1, iv c31.1.x2, iv c31.1.y2]) :: (iv c31.2) :: (iv c14.2) :: (iv c19.2) :: (bv (!decide (c14.2 = c19.2))) :: (bv (!decide (c14.2 = c19.2))) :: AV.top :: AV.top :: AV.top :: (cond (!decide (c14.2 = c19.2)) und (bv c40)) :: (bv (bif !decide (c14.2 = c19.2) then true else c40)) :: (bv (bif !decide (c14.2 = c19.2) then true else c40)) :: AV.top :: AV.top :: (cond (bif !decide (c14.2 = c19.2) then true else c40) und (bv c42)) :: (bv (bif (bif !decide (c14.2 = c19.2) then true else c40) then true else c42)) :: (bv (bif (bif !decide (c14.2 = c19.2) then true else c40) then true else c42)) :: AV.top :: AV.top :: (cond (bif (bif !decide (c14.2 = c19.2) then true else c40) then true else c42) und (bv c44)) :: (bv (bif (bif (bif !decide (c14.2 = c19.2) then true else c40) then true else c42) then true else c44)) :: (iv c14.2) :: (bv (!decide (c14.2 = 0))) :: (bv (!decide (c14.2 = 0))) :: AV.top :: (cond (!decide (c14.2 = 0)) und (bv c47)) :: (bv (bif !decide (c14.2 = 0) then true else c47)) :: x49 :: AV.top :: AV.top :: AV.top :: AV.top :: AV.top :: AV.top :: AV.top :: AV.top :: AV.top :: AV.top :: AV.top :: AV.top :: AV.top :: AV.top :: AV.top :: AV.top :: AV.top :: AV.top :: AV.top :: AV.top :: AV.top :: AV.top :: AV.top :: AV.top :: AV.top :: AV.top :: AV.top :: AV.top :: AV.top :: AV.top :: AV.top :: AV.top :: AV.top :: AV.top :: AV.top :: AV.top :: AV.top :: AV.top :: AV.top :: AV.top :: AV.top :: AV.top :: AV.top :: AV.top :: AV.top :: AV.top :: AV.top :: AV.top :: AV.top :: AV.top :: AV.top :: AV.top :: AV.top :: AV.top :: AV.top :: AV.top :: und :: und :: und :: und :: und :: und :: und :: und :: und :: und :: und :: und :: und :: und :: und :: und :: und :: und :: und :: und :: und :: und :: und :: und :: und :: und :: und :: und :: und :: und :: und :: und :: und :: und :: und :: und :: und :: und :: und :: und :: und :: und :: und :: und :: und :: und :: und :: und :: und :: und :: und :: und :: und :: und :: und :: und :: und :: und :: und :: und :: und :: und :: und :: und :: und :: und :: und :: und :: und :: []), h93) ∧ Hold B h93 [(x5, obS (c3.1 : Sl Spot)), (AV.ptr o8 1 0 0, .pt 4 [iv c3.2.x1, iv c3.2.y1, iv c3.2.x2, iv c3.2.y2]), (x16, obS (c14.1 : Sl Spot)), (x21, obS (c19.1 : Sl Spot)), (AV.ptr o25 1 0 0, .pt 4 [iv c24.1.x1, iv c24.1.y1, iv c24.1.x2, iv c24.1.y2]), (AV.ptr o32 1 0 0, .pt 4 [iv c31.1.x1, iv c31.1.y1, iv c31.1.x2, iv c31.1.y2]), (z95, obS (q96 : Sl Spot))]) := by
  refine loop_sim (Rel := fun (st : (Sl Spot) × Int) tm h55 => match st with | (w54, w57) => ∃ z53, tm = ((Sl.enc code_) :: und :: AV.top :: x5 :: (AV.ptr o8 1 0 0) :: x16 :: (iv c14.2) :: x21 :: (iv c19.2) :: (AV.ptr o25 1 0 0) :: (iv c24.2) :: (AV.ptr o32 1 0 0) :: (iv c31.2) :: z53 :: (iv w57) :: und :: und :: und :: und :: und :: und :: (Sl.enc code_) :: (bv c1) :: (AV.tup [x5, AV.agg [iv c3.2.x1, iv c3.2.y1, iv c3.2.x2, iv c3.2.y2]]) :: (Sl.enc code_) :: (AV.tup [x5, AV.agg [iv c3.2.x1, iv c3.2.y1, iv c3.2.x2, iv c3.2.y2]]) :: x5 :: (AV.agg [iv c3.2.x1, iv c3.2.y1, iv c3.2.x2, iv c3.2.y2]) :: (AV.tup [x16, iv c14.2]) :: x5 :: (AV.agg [iv c3.2.x1, iv c3.2.y1, iv c3.2.x2, iv c3.2.y2]) :: (AV.tup [x16, iv c14.2]) :: x16 :: (iv c14.2) :: (AV.tup [x21, iv c19.2]) :: x5 :: (AV.agg [iv c3.2.x1, iv c3.2.y1, iv c3.2.x2, iv c3.2.y2]) :: (AV.tup [x21, iv c19.2]) :: x21 :: (iv c19.2) :: (AV.tup [AV.agg [iv c24.1.x1, iv c24.1.y1, iv c24.1.x2, iv c24.1.y2], iv c24.2]) :: x5 :: (AV.tup [AV.agg [iv c24.1.x1, iv c24.1.y1, iv c24.1.x2, iv c24.1.y2], iv c24.2]) :: (AV.agg [iv c24.1.x1, iv c24.1.y1, iv c24.1.x2, iv c24.1.y2]) :: (iv c24.2) :: (AV.tup [AV.agg [iv c31.1.x1, iv c31.1.y1, iv c31.1.x2, iv c31.1.y2], iv c31.2]) :: x5 :: (AV.tup [AV.agg [iv c31.1.x1, iv c31.1.y1, iv c31.1.x2, iv c31.1.y2], iv c31.2]) :: (AV.agg [iv c31.1.x1, iv c31.1.y1, iv c31.1.x2, iv c31.1.y2]) :: (iv c31.2) :: (iv c14.2) :: (iv c19.2) :: (bv (!decide (c14.2 = c19.2))) :: (bv (!decide (c14.2 = c19.2))) :: AV.top :: AV.top :: AV.top :: (cond (!decide (c14.2 = c19.2)) und (bv c40)) :: (bv (bif !decide (c14.2 = c19.2) then true else c40)) :: (bv (bif !decide (c14.2 = c19.2) then true else c40)) :: AV.top :: AV.top :: (cond (bif !decide (c14.2 = c19.2) then true else c40) und (bv c42)) :: (bv (bif (bif !decide (c14.2 = c19.2) then true else c40) then true else c42)) :: (bv (bif (bif !decide (c14.2 = c19.2) then true else c40) then true else c42)) :: AV.top :: AV.top :: (cond (bif (bif !decide (c14.2 = c19.2) then true else c40) then true else c42) und (bv c44)) :: (bv (bif (bif (bif !decide (c14.2 = c19.2) then true else c40) then true else c42) then true else c44)) :: (iv c14.2) :: (bv (!decide (c14.2 = 0))) :: (bv (!decide (c14.2 = 0))) :: AV.top :: (cond (!decide (c14.2 = 0)) und (bv c47)) :: (bv (bif !decide (c14.2 = 0) then true else c47)) :: x49 :: AV.top :: AV.top :: AV.top :: AV.top :: AV.top :: AV.top :: AV.top :: AV.top :: AV.top :: AV.top :: AV.top :: AV.top :: AV.top :: AV.top :: AV.top :: AV.top :: AV.top :: AV.top :: AV.top :: AV.top :: AV.top :: AV.top :: AV.top :: AV.top :: AV.top :: AV.top :: AV.top :: AV.top :: AV.top :: AV.top :: AV.top :: AV.top :: AV.top :: AV.top :: AV.top :: AV.top :: AV.top :: AV.top :: AV.top :: AV.top :: AV.top :: AV.top :: AV.top :: AV.top :: AV.top :: AV.top :: AV.top :: AV.top :: AV.top :: AV.top :: AV.top :: AV.top :: AV.top :: AV.top :: AV.top :: AV.top :: und :: und :: und :: und :: und :: und :: und :: und :: und :: und :: und :: und :: und :: und :: und :: und :: und :: und :: und :: und :: und :: und :: und :: und :: und :: und :: und :: und :: und :: und :: und :: und :: und :: und :: und :: und :: und :: und :: und :: und :: und :: und :: und :: und :: und :: und :: und :: und :: und :: und :: und :: und :: und :: und :: und :: und :: und :: und :: und :: und :: und :: und :: und :: und :: und :: und :: und :: und :: und :: []) ∧ Hold B h55 [(x5, obS (c3.1 : Sl Spot)), (AV.ptr o8 1 0 0, .pt 4 [iv c3.2.x1, iv c3.2.y1, iv c3.2.x2, iv c3.2.y2]), (x16, obS (c14.1 : Sl Spot)), (x21, obS (c19.1 : Sl Spot)), (AV.ptr o25 1 0 0, .pt 4 [iv c24.1.x1, iv c24.1.y1, iv c24.1.x2, iv c24.1.y2]), (AV.ptr o32 1 0 0, .pt 4 [iv c31.1.x1, iv c31.1.y1, iv c31.1.x2, iv c31.1.y2]), (z53, obS (w54 : Sl Spot))]) (fun st tm h55 R => ?_) R
  obtain ⟨w54, w57⟩ := st
  obtain ⟨z53, rfl, O56⟩ := R
  rw [e_lb0_laws_FnNormalSpots]
  unfold s0_laws_FnNormalSpots
  dsimp only
  refine sim_let (v := iv (((c3.1.getD []).length : Nat) : Int)) (O56.tab (A := Spot) (s := c3.1) 0 rfl).len ?_
  refine sim_let (v := bv (decide (w57 < (((c3.1.getD []).length : Nat) : Int)))) (aBin_lss _ _) ?_
  refine sim_cond (fun c99 => ?_) (fun c99 => ?_)
  · refine sim_get (O56.tab (A := Spot) (s := c14.1) 2 rfl) (fun m101 a100 hi102 hm103 => ?_)
    refine sim_let (v := elp x16 m101 0) ((O56.tab (A := Spot) (s := c14.1) 2 rfl).fld _ _ _) ?_
    refine sim_let (v := iv a100.x) ((O56.tab (A := Spot) (s := c14.1) 2 rfl).ld hm103 false 1 0) ?_
    refine sim_let (v := bv (decide (a100.x < 0))) (aBin_lss _ _) ?_
    refine sim_guardF (e := bv) (fun hb104 => ?_) (fun c109 => ?_)
    · refine sim_get (O56.tab (A := Spot) (s := c14.1) 2 rfl) (fun m106 a105 hi107 hm108 => ?_)
      refine sim_let (v := elp x16 m106 0) ((O56.tab (A := Spot) (s := c14.1) 2 rfl).fld _ _ _) ?_
      refine sim_let (v := iv a105.x) ((O56.tab (A := Spot) (s := c14.1) 2 rfl).ld hm108 false 1 0) ?_
      refine sim_let (v := bv (decide (255 < a105.x))) (aBin_gtr _ _) ?_
      exact sim_ret rfl
    · refine sim_let (v := bv (bif decide (a100.x < 0) then true else c109)) (pick_b' _ _ _) ?_
      refine sim_guardF (e := bv) (fun hb110 => ?_) (fun c115 => ?_)
      · refine sim_get (O56.tab (A := Spot) (s := c14.1) 2 rfl) (fun m112 a111 hi113 hm114 => ?_)
        refine sim_let (v := elp x16 m112 1) ((O56.tab (A := Spot) (s := c14.1) 2 rfl).fld _ _ _) ?_
        refine sim_let (v := iv a111.y) ((O56.tab (A := Spot) (s := c14.1) 2 rfl).ld hm114 false 1 1) ?_
        refine sim_let (v := bv (decide (a111.y < 0))) (aBin_lss _ _) ?_
        exact sim_ret rfl
      · refine sim_let (v := bv (bif (bif decide (a100.x < 0) then true else c109) then true else c115)) (pick_b' _ _ _) ?_
        refine sim_guardF (e := bv) (fun hb116 => ?_) (fun c121 => ?_)
        · refine sim_get (O56.tab (A := Spot) (s := c14.1) 2 rfl) (fun m118 a117 hi119 hm120 => ?_)
          refine sim_let (v := elp x16 m118 1) ((O56.tab (A := Spot) (s := c14.1) 2 rfl).fld _ _ _) ?_
          refine sim_let (v := iv a117.y) ((O56.tab (A := Spot) (s := c14.1) 2 rfl).ld hm120 false 1 1) ?_
          refine sim_let (v := bv (decide (255 < a117.y))) (aBin_gtr _ _) ?_
          exact sim_ret rfl
        · refine sim_let (v := bv (bif (bif (bif decide (a100.x < 0) then true else c109) then true else c115) then true else c121)) (pick_b' _ _ _) ?_
          refine sim_cond (fun c122 => ?_) (fun c122 => ?_)
          · exact sim_ret ⟨nofun, _, _, _, _, rfl, O56⟩
          · refine sim_get (O56.tab (A := Spot) (s := c3.1) 0 rfl) (fun m125 a124 hi126 hm127 => ?_)
            refine sim_let (v := elp x5 m125 0) ((O56.tab (A := Spot) (s := c3.1) 0 rfl).fld _ _ _) ?_
            refine sim_let (v := iv a124.x) ((O56.tab (A := Spot) (s := c3.1) 0 rfl).ld hm127 false 1 0) ?_
            refine sim_let (v := AV.ptr o8 1 0 0) rfl ?_
            refine sim_let (v := iv c3.2.x1) (O56.ld 1 rfl false 1 0) ?_
            refine sim_let (v := iv (wr (a124.x - c3.2.x1))) (aBin_sub _ _) ?_
            refine sim_get (O56.tab (A := Spot) (s := c3.1) 0 rfl) (fun m129 a128 hi130 hm131 => ?_)
            refine sim_let (v := elp x5 m129 1) ((O56.tab (A := Spot) (s := c3.1) 0 rfl).fld _ _ _) ?_
            refine sim_let (v := iv a128.y) ((O56.tab (A := Spot) (s := c3.1) 0 rfl).ld hm131 false 1 1) ?_
            refine sim_let (v := AV.ptr o8 1 0 1) rfl ?_
            refine sim_let (v := iv c3.2.y1) (O56.ld 1 rfl false 1 1) ?_
            refine sim_let (v := iv (wr (a128.y - c3.2.y1))) (aBin_sub _ _) ?_
            refine sim_let (v := AV.agg [iv (wr (a124.x - c3.2.x1)), iv (wr (a128.y - c3.2.y1))]) (by first | rfl | simp [aBuild, aFill, splice]) ?_
            refine sim_build (A := Spot) O56 ([(⟨wr (a124.x - c3.2.x1), wr (a128.y - c3.2.y1)⟩ : Spot)] : List Spot) rfl (by first | rfl | simp [aFillRows, zrows]) rfl (fun x132 h133 O134 => ?_)
            replace O134 : Hold B h133 [(x5, obS (c3.1 : Sl Spot)), (AV.ptr o8 1 0 0, .pt 4 [iv c3.2.x1, iv c3.2.y1, iv c3.2.x2, iv c3.2.y2]), (x16, obS (c14.1 : Sl Spot)), (x21, obS (c19.1 : Sl Spot)), (AV.ptr o25 1 0 0, .pt 4 [iv c24.1.x1, iv c24.1.y1, iv c24.1.x2, iv c24.1.y2]), (AV.ptr o32 1 0 0, .pt 4 [iv c31.1.x1, iv c31.1.y1, iv c31.1.x2, iv c31.1.y2]), (z53, obS (w54 : Sl Spot)), (x132, obS ((some ([(⟨wr (a124.x - c3.2.x1), wr (a128.y - c3.2.y1)⟩ : Spot)] : List Spot)) : Sl Spot))] := O134
            refine sim_append (A := Spot) (s := w54) O134 6 ([(⟨wr (a124.x - c3.2.x1), wr (a128.y - c3.2.y1)⟩ : Spot)] : List Spot) rfl (O134.src (A := Spot) (s := (some ([(⟨wr (a124.x - c3.2.x1), wr (a128.y - c3.2.y1)⟩ : Spot)] : List Spot))) 7 rfl) (by decide) (fun x137 h138 O139 => ?_)
            replace O139 : Hold B h138 [(x5, obS (c3.1 : Sl Spot)), (AV.ptr o8 1 0 0, .pt 4 [iv c3.2.x1, iv c3.2.y1, iv c3.2.x2, iv c3.2.y2]), (x16, obS (c14.1 : Sl Spot)), (x21, obS (c19.1 : Sl Spot)), (AV.ptr o25 1 0 0, .pt 4 [iv c24.1.x1, iv c24.1.y1, iv c24.1.x2, iv c24.1.y2]), (AV.ptr o32 1 0 0, .pt 4 [iv c31.1.x1, iv c31.1.y1, iv c31.1.x2, iv c31.1.y2]), (x137, obS ((appS w54 ([(⟨wr (a124.x - c3.2.x1), wr (a128.y - c3.2.y1)⟩ : Spot)] : List Spot)) : Sl Spot)), (x132, obS ((some ([(⟨wr (a124.x - c3.2.x1), wr (a128.y - c3.2.y1)⟩ : Spot)] : List Spot)) : Sl Spot))] := O139
            have O141 : Hold B h138 [(x5, obS (c3.1 : Sl Spot)), (AV.ptr o8 1 0 0, .pt 4 [iv c3.2.x1, iv c3.2.y1, iv c3.2.x2, iv c3.2.y2]), (x16, obS (c14.1 : Sl Spot)), (x21, obS (c19.1 : Sl Spot)), (AV.ptr o25 1 0 0, .pt 4 [iv c24.1.x1, iv c24.1.y1, iv c24.1.x2, iv c24.1.y2]), (AV.ptr o32 1 0 0, .pt 4 [iv c31.1.x1, iv c31.1.y1, iv c31.1.x2, iv c31.1.y2]), (x137, obS ((appS w54 ([(⟨wr (a124.x - c3.2.x1), wr (a128.y - c3.2.y1)⟩ : Spot)] : List Spot)) : Sl Spot))] := O139.sel [0, 1, 2, 3, 4, 5, 6] (by decide) rfl
            refine sim_let (v := iv (wr (w57 + 1))) (aBin_add _ _) ?_
            exact sim_ret ⟨rfl, _, rfl, O141⟩
  · exact sim_ret ⟨nofun, _, _, _, _, rfl, O56⟩
theorem ts_laws_FnNormalSpots (env : Nat → Contract) (he_impl_BoxOfSpots : env n_impl_BoxOfSpots = .pure (C1 (fun c : Box × Int => AV.tup [enc c.1, enc c.2]) t_impl_BoxOfSpots)) (he_impl_NormalSpots : env n_impl_NormalSpots = .pure (C2 (fun c : (Sl Spot) × Int => AV.tup [rS c.1, enc c.2]) t_impl_NormalSpots)) (he_laws_f6big : env n_laws_f6big = .pure (C1 (fun c : Bool => enc c) t_laws_f6big)) (he_spec_BoxOfSpots : env n_spec_BoxOfSpots = .pure (C1 (fun c : Box × Int => AV.tup [enc c.1, enc c.2]) t_spec_BoxOfSpots)) (he_spec_DrawNormalSpots : env n_spec_DrawNormalSpots = .pure (C1 (fun c : (Sl Spot) × Box => AV.tup [rS c.1, enc c.2]) t_spec_DrawNormalSpots)) (he_spec_NormalSpots : env n_spec_NormalSpots = .pure (C2 (fun c : (Sl Spot) × Int => AV.tup [rS c.1, enc c.2]) t_spec_NormalSpots)) (he_spec_SameSpots : env n_spec_SameSpots = .pure (C2 (fun c : Bool => enc c) t_spec_SameSpots)) (code_ : Sl UInt8) : Sim (denFn Try.prog env n_laws_FnNormalSpots [Sl.enc code_] []) (t_laws_FnNormalSpots code_) fun c p => release p.2 depth p.1 = some ((fun c : Bool => enc c) c) := by
  have O := Hold.nil []
  generalize hB : (⟨[], []⟩ : Base) = B at O
  clear hB
  rw [e_laws_FnNormalSpots]
  unfold t_laws_FnNormalSpots
  refine sim_call1 he_laws_f6big (snapD_enc _ _) (fun c1 => ?_)
  refine sim_let2 (hand_plain (by rfl) _ _) ?_
  refine sim_cond (fun c2 => ?_) (fun c2 => ?_)
  · exact sim_ret (release_plain (by rfl) _)
  · refine sim_call1 he_spec_DrawNormalSpots (snapD_enc _ _) (fun c3 => ?_)
    refine sim_hand1 O (c3.1 : Sl Spot) (fun z1 => AV.tup [z1, AV.agg [iv c3.2.x1, iv c3.2.y1, iv c3.2.x2, iv c3.2.y2]]) (by intro b; simp only [mat_tup, mat_aggD, mat_agg, matLc, matLn, mat_iv, mat_bv, mat_sv, mat_bt, mat_nilS, mat_rS, List.append_nil, List.nil_append, List.length_nil, Nat.add_zero]) (by simp only [noF_tup, noF_aggD, noF_agg, noF_iv, noF_bv, noF_sv, noF_bt, noF_nilS, noF_rS, List.all_cons, List.all_nil, Bool.and_self]) (fun x5 h6 O7 => ?_)
    replace O7 : Hold B h6 [(x5, obS (c3.1 : Sl Spot))] := O7
    refine sim_let (v := x5) rfl ?_
    refine sim_let (v := AV.agg [iv c3.2.x1, iv c3.2.y1, iv c3.2.x2, iv c3.2.y2]) rfl ?_
    refine sim_box O7 (cs := [iv 0, iv 0, iv 0, iv 0]) (by first | rfl | simp) (fun o8 h9 O10 => ?_)
    replace O10 : Hold B h9 [(x5, obS (c3.1 : Sl Spot)), (AV.ptr o8 1 0 0, .pt 4 [iv 0, iv 0, iv 0, iv 0])] := O10
    refine sim_store O10 1 (cs' := [iv c3.2.x1, iv c3.2.y1, iv c3.2.x2, iv c3.2.y2]) rfl (by first | rfl | simp) (by simp) (by first | rfl | simp) (by first | rfl | simp [splice]) (fun h12 O13 => ?_)
    replace O13 : Hold B h12 [(x5, obS (c3.1 : Sl Spot)), (AV.ptr o8 1 0 0, .pt 4 [iv c3.2.x1, iv c3.2.y1, iv c3.2.x2, iv c3.2.y2])] := O13
    refine sim_let (v := AV.agg [iv c3.2.x1, iv c3.2.y1, iv c3.2.x2, iv c3.2.y2]) (O13.ld 1 rfl true 4 0) ?_
    refine sim_call2 he_impl_NormalSpots ((O13.tab (A := Spot) (s := c3.1) 0 rfl).snap) (snapD_nr _ c3.2 rfl) (fun c14 => ?_)
    refine sim_hand1 O13 (c14.1 : Sl Spot) (fun z1 => AV.tup [z1, iv c14.2]) (by intro b; simp only [mat_tup, mat_aggD, mat_agg, matLc, matLn, mat_iv, mat_bv, mat_sv, mat_bt, mat_nilS, mat_rS, List.append_nil, List.nil_append, List.length_nil, Nat.add_zero]) (by simp only [noF_tup, noF_aggD, noF_agg, noF_iv, noF_bv, noF_sv, noF_bt, noF_nilS, noF_rS, List.all_cons, List.all_nil, Bool.and_self]) (fun x16 h17 O18 => ?_)
    replace O18 : Hold B h17 [(x5, obS (c3.1 : Sl Spot)), (AV.ptr o8 1 0 0, .pt 4 [iv c3.2.x1, iv c3.2.y1, iv c3.2.x2, iv c3.2.y2]), (x16, obS (c14.1 : Sl Spot))] := O18
    refine sim_let (v := x16) rfl ?_
    refine sim_let (v := iv c14.2) rfl ?_
    refine sim_let (v := AV.agg [iv c3.2.x1, iv c3.2.y1, iv c3.2.x2, iv c3.2.y2]) (O18.ld 1 rfl true 4 0) ?_
    refine sim_call2 he_spec_NormalSpots ((O18.tab (A := Spot) (s := c3.1) 0 rfl).snap) (snapD_nr _ c3.2 rfl) (fun c19 => ?_)
    refine sim_hand1 O18 (c19.1 : Sl Spot) (fun z1 => AV.tup [z1, iv c19.2]) (by intro b; simp only [mat_tup, mat_aggD, mat_agg, matLc, matLn, mat_iv, mat_bv, mat_sv, mat_bt, mat_nilS, mat_rS, List.append_nil, List.nil_append, List.length_nil, Nat.add_zero]) (by simp only [noF_tup, noF_aggD, noF_agg, noF_iv, noF_bv, noF_sv, noF_bt, noF_nilS, noF_rS, List.all_cons, List.all_nil, Bool.and_self]) (fun x21 h22 O23 => ?_)
    replace O23 : Hold B h22 [(x5, obS (c3.1 : Sl Spot)), (AV.ptr o8 1 0 0, .pt 4 [iv c3.2.x1, iv c3.2.y1, iv c3.2.x2, iv c3.2.y2]), (x16, obS (c14.1 : Sl Spot)), (x21, obS (c19.1 : Sl Spot))] := O23
    refine sim_let (v := x21) rfl ?_
    refine sim_let (v := iv c19.2) rfl ?_
    refine sim_call1 he_impl_BoxOfSpots ((O23.tab (A := Spot) (s := c3.1) 0 rfl).snap) (fun c24 => ?_)
    refine sim_let2 (hand_plain (by rfl) _ _) ?_
    refine sim_let (v := AV.agg [iv c24.1.x1, iv c24.1.y1, iv c24.1.x2, iv c24.1.y2]) rfl ?_
    refine sim_let (v := iv c24.2) rfl ?_
    refine sim_box O23 (cs := [iv 0, iv 0, iv 0, iv 0]) (by first | rfl | simp) (fun o25 h26 O27 => ?_)
    replace O27 : Hold B h26 [(x5, obS (c3.1 : Sl Spot)), (AV.ptr o8 1 0 0, .pt 4 [iv c3.2.x1, iv c3.2.y1, iv c3.2.x2, iv c3.2.y2]), (x16, obS (c14.1 : Sl Spot)), (x21, obS (c19.1 : Sl Spot)), (AV.ptr o25 1 0 0, .pt 4 [iv 0, iv 0, iv 0, iv 0])] := O27
    refine sim_store O27 4 (cs' := [iv c24.1.x1, iv c24.1.y1, iv c24.1.x2, iv c24.1.y2]) rfl (by first | rfl | simp) (by simp) (by first | rfl | simp) (by first | rfl | simp [splice]) (fun h29 O30 => ?_)
    replace O30 : Hold B h29 [(x5, obS (c3.1 : Sl Spot)), (AV.ptr o8 1 0 0, .pt 4 [iv c3.2.x1, iv c3.2.y1, iv c3.2.x2, iv c3.2.y2]), (x16, obS (c14.1 : Sl Spot)), (x21, obS (c19.1 : Sl Spot)), (AV.ptr o25 1 0 0, .pt 4 [iv c24.1.x1, iv c24.1.y1, iv c24.1.x2, iv c24.1.y2])] := O30
    refine sim_call1 he_spec_BoxOfSpots ((O30.tab (A := Spot) (s := c3.1) 0 rfl).snap) (fun c31 => ?_)
    refine sim_let2 (hand_plain (by rfl) _ _) ?_
    refine sim_let (v := AV.agg [iv c31.1.x1, iv c31.1.y1, iv c31.1.x2, iv c31.1.y2]) rfl ?_
    refine sim_let (v := iv c31.2) rfl ?_
    refine sim_box O30 (cs := [iv 0, iv 0, iv 0, iv 0]) (by first | rfl | simp) (fun o32 h33 O34 => ?_)
    replace O34 : Hold B h33 [(x5, obS (c3.1 : Sl Spot)), (AV.ptr o8 1 0 0, .pt 4 [iv c3.2.x1, iv c3.2.y1, iv c3.2.x2, iv c3.2.y2]), (x16, obS (c14.1 : Sl Spot)), (x21, obS (c19.1 : Sl Spot)), (AV.ptr o25 1 0 0, .pt 4 [iv c24.1.x1, iv c24.1.y1, iv c24.1.x2, iv c24.1.y2]), (AV.ptr o32 1 0 0, .pt 4 [iv 0, iv 0, iv 0, iv 0])] := O34
    refine sim_store O34 5 (cs' := [iv c31.1.x1, iv c31.1.y1, iv c31.1.x2, iv c31.1.y2]) rfl (by first | rfl | simp) (by simp) (by first | rfl | simp) (by first | rfl | simp [splice]) (fun h36 O37 => ?_)
    replace O37 : Hold B h36 [(x5, obS (c3.1 : Sl Spot)), (AV.ptr o8 1 0 0, .pt 4 [iv c3.2.x1, iv c3.2.y1, iv c3.2.x2, iv c3.2.y2]), (x16, obS (c14.1 : Sl Spot)), (x21, obS (c19.1 : Sl Spot)), (AV.ptr o25 1 0 0, .pt 4 [iv c24.1.x1, iv c24.1.y1, iv c24.1.x2, iv c24.1.y2]), (AV.ptr o32 1 0 0, .pt 4 [iv c31.1.x1, iv c31.1.y1, iv c31.1.x2, iv c31.1.y2])] := O37
    refine sim_let (v := bv (!decide (c14.2 = c19.2))) (aCmp_ne _ _) ?_
    refine sim_guardF (e := bv) (fun hb38 => ?_) (fun c40 => ?_)
    · refine sim_call2 he_spec_SameSpots ((O37.tab (A := Spot) (s := c14.1) 2 rfl).snap) ((O37.tab (A := Spot) (s := c19.1) 3 rfl).snap) (fun c39 => ?_)
      refine sim_let2 (hand_plain (by rfl) _ _) ?_
      refine sim_let (v := bv (!c39)) (aUn_not _) ?_
      exact sim_ret rfl
    · refine sim_let (v := bv (bif !decide (c14.2 = c19.2) then true else c40)) (pick_b' _ _ _) ?_
      refine sim_guardF (e := bv) (fun hb41 => ?_) (fun c42 => ?_)
      · refine sim_let (v := bv (!decide (c24.2 = c31.2))) (aCmp_ne _ _) ?_
        exact sim_ret rfl
      · refine sim_let (v := bv (bif (bif !decide (c14.2 = c19.2) then true else c40) then true else c42)) (pick_b' _ _ _) ?_
        refine sim_guardF (e := bv) (fun hb43 => ?_) (fun c44 => ?_)
        · refine sim_let (v := AV.agg [iv c24.1.x1, iv c24.1.y1, iv c24.1.x2, iv c24.1.y2]) (O37.ld 4 rfl true 4 0) ?_
          refine sim_let (v := AV.agg [iv c31.1.x1, iv c31.1.y1, iv c31.1.x2, iv c31.1.y2]) (O37.ld 5 rfl true 4 0) ?_
          refine sim_let (v := bv (!decide (c24.1 = c31.1))) (aCmp_box c24.1 c31.1).2 ?_
          exact sim_ret rfl
        · refine sim_let (v := bv (bif (bif (bif !decide (c14.2 = c19.2) then true else c40) then true else c42) then true else c44)) (pick_b' _ _ _) ?_
          refine sim_cond (fun c45 => ?_) (fun c45 => ?_)
          · exact sim_ret (release_plain (by rfl) _)
          · refine sim_let (v := bv (!decide (c14.2 = 0))) (aCmp_ne _ _) ?_
            refine sim_guardF (e := bv) (fun hb46 => ?_) (fun c47 => ?_)
            · refine sim_let (v := bv (!decide (c24.2 = 0))) (aCmp_ne _ _) ?_
              exact sim_ret rfl
            · refine sim_let (v := bv (bif !decide (c14.2 = 0) then true else c47)) (pick_b' _ _ _) ?_
              refine sim_cond (fun c48 => ?_) (fun c48 => ?_)
              · exact sim_ret (release_plain (by rfl) _)
              · refine sim_build (A := Spot) O37 ([] : List Spot) rfl (by first | rfl | simp [aFillRows, zrows]) rfl (fun x49 h50 O51 => ?_)
                replace O51 : Hold B h50 [(x5, obS (c3.1 : Sl Spot)), (AV.ptr o8 1 0 0, .pt 4 [iv c3.2.x1, iv c3.2.y1, iv c3.2.x2, iv c3.2.y2]), (x16, obS (c14.1 : Sl Spot)), (x21, obS (c19.1 : Sl Spot)), (AV.ptr o25 1 0 0, .pt 4 [iv c24.1.x1, iv c24.1.y1, iv c24.1.x2, iv c24.1.y2]), (AV.ptr o32 1 0 0, .pt 4 [iv c31.1.x1, iv c31.1.y1, iv c31.1.x2, iv c31.1.y2]), (x49, obS ((some ([] : List Spot)) : Sl Spot))] := O51
                refine sim_bind ((tl0_laws_FnNormalSpots env he_impl_BoxOfSpots he_impl_NormalSpots he_laws_f6big he_spec_BoxOfSpots he_spec_DrawNormalSpots he_spec_NormalSpots he_spec_SameSpots code_ c1 c3 x5 o8 c14 x16 c19 x21 c24 o25 c31 o32 c40 c42 c44 c47 x49) ⟨_, rfl, O51⟩) (fun qq145 r hq => ?_)
                rcases qq145 with q61 | q97
                · obtain ⟨q63, z60, z62, h58, rfl, O59⟩ := hq
                  rw [e_lk0x0_laws_FnNormalSpots]
                  refine sim_let (v := AV.ptr o8 1 0 2) rfl ?_
                  refine sim_let (v := iv c3.2.x2) (O59.ld 1 rfl false 1 2) ?_
                  refine sim_let (v := AV.ptr o8 1 0 0) rfl ?_
                  refine sim_let (v := iv c3.2.x1) (O59.ld 1 rfl false 1 0) ?_
                  refine sim_let (v := iv (wr (c3.2.x2 - c3.2.x1))) (aBin_sub _ _) ?_
                  refine sim_let (v := AV.ptr o8 1 0 3) rfl ?_
                  refine sim_let (v := iv c3.2.y2) (O59.ld 1 rfl false 1 3) ?_
                  refine sim_let (v := AV.ptr o8 1 0 1) rfl ?_
                  refine sim_let (v := iv c3.2.y1) (O59.ld 1 rfl false 1 1) ?_
                  refine sim_let (v := iv (wr (c3.2.y2 - c3.2.y1))) (aBin_sub _ _) ?_
                  refine sim_let (v := AV.agg [iv 0, iv 0, iv (wr (c3.2.x2 - c3.2.x1)), iv (wr (c3.2.y2 - c3.2.y1))]) (by first | rfl | simp [aBuild, aFill, splice]) ?_
                  refine sim_call2 he_impl_NormalSpots ((O59.tab (A := Spot) (s := q61) 6 rfl).snap) (snapD_nr _ (⟨0, 0, wr (c3.2.x2 - c3.2.x1), wr (c3.2.y2 - c3.2.y1)⟩ : Box) rfl) (fun c64 => ?_)
                  refine sim_hand1 O59 (c64.1 : Sl Spot) (fun z1 => AV.tup [z1, iv c64.2]) (by intro b; simp only [mat_tup, mat_aggD, mat_agg, matLc, matLn, mat_iv, mat_bv, mat_sv, mat_bt, mat_nilS, mat_rS, List.append_nil, List.nil_append, List.length_nil, Nat.add_zero]) (by simp only [noF_tup, noF_aggD, noF_agg, noF_iv, noF_bv, noF_sv, noF_bt, noF_nilS, noF_rS, List.all_cons, List.all_nil, Bool.and_self]) (fun x66 h67 O68 => ?_)
                  replace O68 : Hold B h67 [(x5, obS (c3.1 : Sl Spot)), (AV.ptr o8 1 0 0, .pt 4 [iv c3.2.x1, iv c3.2.y1, iv c3.2.x2, iv c3.2.y2]), (x16, obS (c14.1 : Sl Spot)), (x21, obS (c19.1 : Sl Spot)), (AV.ptr o25 1 0 0, .pt 4 [iv c24.1.x1, iv c24.1.y1, iv c24.1.x2, iv c24.1.y2]), (AV.ptr o32 1 0 0, .pt 4 [iv c31.1.x1, iv c31.1.y1, iv c31.1.x2, iv c31.1.y2]), (z60, obS (q61 : Sl Spot)), (x66, obS (c64.1 : Sl Spot))] := O68
                  refine sim_let (v := x66) rfl ?_
                  refine sim_let (v := iv c64.2) rfl ?_
                  refine sim_let (v := AV.agg [iv c24.1.x1, iv c24.1.y1, iv c24.1.x2, iv c24.1.y2]) (O68.ld 4 rfl true 4 0) ?_
                  refine sim_call2 he_impl_NormalSpots ((O68.tab (A := Spot) (s := c3.1) 0 rfl).snap) (snapD_nr _ c24.1 rfl) (fun c69 => ?_)
                  refine sim_hand1 O68 (c69.1 : Sl Spot) (fun z1 => AV.tup [z1, iv c69.2]) (by intro b; simp only [mat_tup, mat_aggD, mat_agg, matLc, matLn, mat_iv, mat_bv, mat_sv, mat_bt, mat_nilS, mat_rS, List.append_nil, List.nil_append, List.length_nil, Nat.add_zero]) (by simp only [noF_tup, noF_aggD, noF_agg, noF_iv, noF_bv, noF_sv, noF_bt, noF_nilS, noF_rS, List.all_cons, List.all_nil, Bool.and_self]) (fun x71 h72 O73 => ?_)
                  replace O73 : Hold B h72 [(x5, obS (c3.1 : Sl Spot)), (AV.ptr o8 1 0 0, .pt 4 [iv c3.2.x1, iv c3.2.y1, iv c3.2.x2, iv c3.2.y2]), (x16, obS (c14.1 : Sl Spot)), (x21, obS (c19.1 : Sl Spot)), (AV.ptr o25 1 0 0, .pt 4 [iv c24.1.x1, iv c24.1.y1, iv c24.1.x2, iv c24.1.y2]), (AV.ptr o32 1 0 0, .pt 4 [iv c31.1.x1, iv c31.1.y1, iv c31.1.x2, iv c31.1.y2]), (z60, obS (q61 : Sl Spot)), (x66, obS (c64.1 : Sl Spot)), (x71, obS (c69.1 : Sl Spot))] := O73
                  refine sim_let (v := x71) rfl ?_
                  refine sim_let (v := iv c69.2) rfl ?_
                  refine sim_call1 he_impl_BoxOfSpots ((O73.tab (A := Spot) (s := c69.1) 8 rfl).snap) (fun c74 => ?_)
                  refine sim_let2 (hand_plain (by rfl) _ _) ?_
                  refine sim_let (v := AV.agg [iv c74.1.x1, iv c74.1.y1, iv c74.1.x2, iv c74.1.y2]) rfl ?_
                  refine sim_let (v := iv c74.2) rfl ?_
                  refine sim_box O73 (cs := [iv 0, iv 0, iv 0, iv 0]) (by first | rfl | simp) (fun o75 h76 O77 => ?_)
                  replace O77 : Hold B h76 [(x5, obS (c3.1 : Sl Spot)), (AV.ptr o8 1 0 0, .pt 4 [iv c3.2.x1, iv c3.2.y1, iv c3.2.x2, iv c3.2.y2]), (x16, obS (c14.1 : Sl Spot)), (x21, obS (c19.1 : Sl Spot)), (AV.ptr o25 1 0 0, .pt 4 [iv c24.1.x1, iv c24.1.y1, iv c24.1.x2, iv c24.1.y2]), (AV.ptr o32 1 0 0, .pt 4 [iv c31.1.x1, iv c31.1.y1, iv c31.1.x2, iv c31.1.y2]), (z60, obS (q61 : Sl Spot)), (x66, obS (c64.1 : Sl Spot)), (x71, obS (c69.1 : Sl Spot)), (AV.ptr o75 1 0 0, .pt 4 [iv 0, iv 0, iv 0, iv 0])] := O77
                  refine sim_store O77 9 (cs' := [iv c74.1.x1, iv c74.1.y1, iv c74.1.x2, iv c74.1.y2]) rfl (by first | rfl | simp) (by simp) (by first | rfl | simp) (by first | rfl | simp [splice]) (fun h79 O80 => ?_)
                  replace O80 : Hold B h79 [(x5, obS (c3.1 : Sl Spot)), (AV.ptr o8 1 0 0, .pt 4 [iv c3.2.x1, iv c3.2.y1, iv c3.2.x2, iv c3.2.y2]), (x16, obS (c14.1 : Sl Spot)), (x21, obS (c19.1 : Sl Spot)), (AV.ptr o25 1 0 0, .pt 4 [iv c24.1.x1, iv c24.1.y1, iv c24.1.x2, iv c24.1.y2]), (AV.ptr o32 1 0 0, .pt 4 [iv c31.1.x1, iv c31.1.y1, iv c31.1.x2, iv c31.1.y2]), (z60, obS (q61 : Sl Spot)), (x66, obS (c64.1 : Sl Spot)), (x71, obS (c69.1 : Sl Spot)), (AV.ptr o75 1 0 0, .pt 4 [iv c74.1.x1, iv c74.1.y1, iv c74.1.x2, iv c74.1.y2])] := O80
                  refine sim_let (v := bv (!decide (c64.2 = 0))) (aCmp_ne _ _) ?_
                  refine sim_guardF (e := bv) (fun hb81 => ?_) (fun c83 => ?_)
                  · refine sim_call2 he_spec_SameSpots ((O80.tab (A := Spot) (s := c64.1) 7 rfl).snap) ((O80.tab (A := Spot) (s := c14.1) 2 rfl).snap) (fun c82 => ?_)
                    refine sim_let2 (hand_plain (by rfl) _ _) ?_
                    refine sim_let (v := bv (!c82)) (aUn_not _) ?_
                    exact sim_ret rfl
                  · refine sim_let (v := bv (bif !decide (c64.2 = 0) then true else c83)) (pick_b' _ _ _) ?_
                    refine sim_guardF (e := bv) (fun hb84 => ?_) (fun c85 => ?_)
                    · refine sim_let (v := bv (!decide (c69.2 = 0))) (aCmp_ne _ _) ?_
                      exact sim_ret rfl
                    · refine sim_let (v := bv (bif (bif !decide (c64.2 = 0) then true else c83) then true else c85)) (pick_b' _ _ _) ?_
                      refine sim_guardF (e := bv) (fun hb86 => ?_) (fun c87 => ?_)
                      · refine sim_let (v := bv (!decide (c74.2 = 0))) (aCmp_ne _ _) ?_
                        exact sim_ret rfl
                      · refine sim_let (v := bv (bif (bif (bif !decide (c64.2 = 0) then true else c83) then true else c85) then true else c87)) (pick_b' _ _ _) ?_
                        refine sim_cond (fun c88 => ?_) (fun c88 => ?_)
                        · exact sim_ret (release_plain (by rfl) _)
                        · refine sim_let (v := AV.ptr o25 1 0 0) rfl ?_
                          refine sim_let (v := iv c24.1.x1) (O80.ld 4 rfl false 1 0) ?_
                          refine sim_let (v := AV.ptr o25 1 0 2) rfl ?_
                          refine sim_let (v := iv c24.1.x2) (O80.ld 4 rfl false 1 2) ?_
                          refine sim_let (v := bv (decide (c24.1.x1 = c24.1.x2))) (aCmp_eq _ _) ?_
                          refine sim_guardT (e := bv) (fun hb89 => ?_) (fun c90 => ?_)
                          · refine sim_let (v := AV.ptr o25 1 0 1) rfl ?_
                            refine sim_let (v := iv c24.1.y1) (O80.ld 4 rfl false 1 1) ?_
                            refine sim_let (v := AV.ptr o25 1 0 3) rfl ?_
                            refine sim_let (v := iv c24.1.y2) (O80.ld 4 rfl false 1 3) ?_
                            refine sim_let (v := bv (decide (c24.1.y1 = c24.1.y2))) (aCmp_eq _ _) ?_
                            exact sim_ret rfl
                          · refine sim_let (v := bv (bif decide (c24.1.x1 = c24.1.x2) then c90 else false)) (pick_b _ _ _) ?_
                            refine sim_guardF (e := bv) (fun hb91 => ?_) (fun c92 => ?_)
                            · refine sim_let (v := AV.ptr o75 1 0 2) rfl ?_
                              refine sim_let (v := iv c74.1.x2) (O80.ld 9 rfl false 1 2) ?_
                              refine sim_let (v := AV.ptr o75 1 0 0) rfl ?_
                              refine sim_let (v := iv c74.1.x1) (O80.ld 9 rfl false 1 0) ?_
                              refine sim_let (v := iv (wr (c74.1.x2 - c74.1.x1))) (aBin_sub _ _) ?_
                              refine sim_let (v := AV.ptr o75 1 0 3) rfl ?_
                              refine sim_let (v := iv c74.1.y2) (O80.ld 9 rfl false 1 3) ?_
                              refine sim_let (v := AV.ptr o75 1 0 1) rfl ?_
                              refine sim_let (v := iv c74.1.y1) (O80.ld 9 rfl false 1 1) ?_
                              refine sim_let (v := iv (wr (c74.1.y2 - c74.1.y1))) (aBin_sub _ _) ?_
                              refine sim_let (v := iv (max (wr (c74.1.x2 - c74.1.x1)) (wr (c74.1.y2 - c74.1.y1)))) (aFold_max _ _) ?_
                              refine sim_let (v := bv (decide (max (wr (c74.1.x2 - c74.1.x1)) (wr (c74.1.y2 - c74.1.y1)) = 255))) (aCmp_eq _ _) ?_
                              exact sim_ret rfl
                            · refine sim_let (v := bv (bif (bif decide (c24.1.x1 = c24.1.x2) then c90 else false) then true else c92)) (pick_b' _ _ _) ?_
                              exact sim_ret (release_plain (by rfl) _)
                · obtain ⟨q96, q98, z95, h93, rfl, O94⟩ := hq
                  rw [e_lk0r_laws_FnNormalSpots]
                  exact sim_ret (release_plain (by rfl) _)
theorem tt_laws_FnNormalSpots : PureOK Try.prog n_laws_FnNormalSpots (C1 (fun c : Bool => enc c) t_laws_FnNormalSpots) := pureC1 (Econs tt_impl_BoxOfSpots (Econs tt_impl_NormalSpots (Econs tt_laws_f6big (Econs tt_spec_BoxOfSpots (Econs tt_spec_DrawNormalSpots (Econs tt_spec_NormalSpots (Econs tt_spec_SameSpots E0))))))) mixed hb_laws_FnNormalSpots fun code_ => ts_laws_FnNormalSpots _ (by simp [envL]) (by simp [envL]) (by simp [envL]) (by simp [envL]) (by simp [envL]) (by simp [envL]) (by simp [envL]) code_

/-- The source has been read up to `k` at most. -/
structure SK (s : l00Src) (k : Int) : Prop where
  lo : 0 ≤ s.pos
  hi : s.pos ≤ k

theorem SK.mono {s : l00Src} {k k' : Int} (h : SK s k) (hk : k ≤ k') : SK s k' := ⟨h.lo, by have := h.hi; omega⟩

theorem and255 (a : Int) : 0 ≤ wr (IntKind.u64.wrap ((BitVec.ofInt 64 a &&& BitVec.ofInt 64 255).toNat : Nat)) ∧ wr (IntKind.u64.wrap ((BitVec.ofInt 64 a &&& BitVec.ofInt 64 255).toNat : Nat)) ≤ 255 := by
  have h1 : (BitVec.ofInt 64 a &&& BitVec.ofInt 64 255).toNat ≤ 255 := by
    rw [BitVec.toNat_and]
    have : (BitVec.ofInt 64 255).toNat = 255 := by decide
    rw [this]
    exact Nat.and_le_right
  generalize (BitVec.ofInt 64 a &&& BitVec.ofInt 64 255).toNat = r at h1
  have h2 : IntKind.u64.wrap (r : Int) = r := by
    simp only [IntKind.wrap, IntKind.bits, IntKind.signed]
    simp only [Bool.false_and, Bool.false_eq_true, if_false]
    omega
  rw [h2, wr_id (by omega) (by omega)]
  omega

theorem getI_in {A : Type} {l : List A} {i : Int} (h0 : 0 ≤ i) (h1 : i < (l.length : Nat)) : ∃ a, getI l i = some a ∧ l[i.toNat]? = some a := by
  obtain ⟨m, rfl⟩ := Int.eq_ofNat_of_zero_le h0
  have h2 : m < l.length := by omega
  exact ⟨l[m], getI_nat (List.getElem?_eq_getElem h2), by simp [h2]⟩

theorem remI_pos {a b : Int} (ha : 0 ≤ a) (hb : 0 < b) : ∃ r, remI a b = some r ∧ 0 ≤ r ∧ r < b := by
  refine ⟨a.tmod b, ?_, Int.tmod_nonneg b ha, Int.tmod_lt_of_pos a hb⟩
  have : ¬ b = 0 := by omega
  simp [remI, this]

theorem dr_next {s : l00Src} {k : Int} (h : SK s k) (hk : k ≤ 1000000000000) : ∃ r s', t_spec_l00Src_next s = some (r, s') ∧ SK s' (k + 1) ∧ 0 ≤ r ∧ r ≤ 255 := by
  obtain ⟨h1, h2⟩ := h
  have w : wr (s.pos + 1) = s.pos + 1 := wr_id (by omega) (by omega)
  have b1 := fun a => (and255 a).1
  have b2 := fun a => (and255 a).2
  unfold t_spec_l00Src_next
  rw [w]
  by_cases c : s.pos < ((s.code.getD []).length : Nat)
  · obtain ⟨a, ha, _⟩ := getI_in h1 c
    have c2 : s.pos + 1 ≤ ((s.code.getD []).length : Nat) := by omega
    have := a.toNat_lt
    simp only [c, decide_true, cond_true, ha, obind_sm, c2]
    exact ⟨_, _, rfl, ⟨by simp only; omega, by simp only; omega⟩, by omega, by omega⟩
  · have c2 : ¬ s.pos + 1 ≤ ((s.code.getD []).length : Nat) := by omega
    simp only [c, decide_false, cond_false, c2]
    exact ⟨_, _, rfl, ⟨by simp only; omega, by simp only; omega⟩, b1 _, b2 _⟩

theorem dr_pick {s : l00Src} {k : Int} (h : SK s k) (hk : k ≤ 100000000000) {n : Int} (hn : n ≤ 60000) : ∃ r s', t_spec_l00Src_pick s n = some (r, s') ∧ SK s' (k + 2) ∧ 0 ≤ r ∧ (1 ≤ n → r < n) ∧ (n ≤ 1 → r = 0) := by
  unfold t_spec_l00Src_pick
  by_cases c : n ≤ 1
  · simp only [c, decide_true, cond_true]
    exact ⟨0, _, rfl, ⟨h.lo, by have := h.hi; simp only; omega⟩, by omega, fun _ => by omega, fun _ => rfl⟩
  · obtain ⟨r1, s1, e1, k1, p1, q1⟩ := dr_next h (by omega)
    simp only [c, decide_false, cond_false]
    have e1' : t_spec_l00Src_next ⟨s.code, s.pos, s.seed⟩ = some (r1, s1) := e1
    rw [e1', obind_sm]
    by_cases c2 : 200 < n
    · obtain ⟨r2, s2, e2, k2, p2, q2⟩ := dr_next k1 (by omega)
      have e2' : t_spec_l00Src_next ⟨s1.code, s1.pos, s1.seed⟩ = some (r2, s2) := e2
      have w1 : wr (r1 * 256) = r1 * 256 := wr_id (by omega) (by omega)
      have w2 : wr (r1 * 256 + r2) = r1 * 256 + r2 := wr_id (by omega) (by omega)
      obtain ⟨q, e3, p3, q3⟩ := remI_pos (a := r1 * 256 + r2) (b := n) (by omega) (by omega)
      simp only [c2, decide_true, cond_true, e2', obind_sm, w1, w2, e3]
      exact ⟨_, _, rfl, ⟨k2.lo, by have := k2.hi; simp only; omega⟩, p3, fun _ => q3, fun h => False.elim h⟩
    · obtain ⟨q, e3, p3, q3⟩ := remI_pos (a := r1) (b := n) (by omega) (by omega)
      simp only [c2, decide_false, cond_false, e3, obind_sm]
      exact ⟨_, _, rfl, ⟨k1.lo, by have := k1.hi; simp only; omega⟩, p3, fun _ => q3, fun h => False.elim h⟩

theorem dr_one {s : l00Src} {k : Int} (h : SK s k) (hk : k ≤ 100000000000) {n : Int} (hn : n ≤ 60000) : ∃ b s', t_spec_l00Src_one s n = some (b, s') ∧ SK s' (k + 2) := by
  obtain ⟨r, s', e, k', _⟩ := dr_pick h hk hn
  have e' : t_spec_l00Src_pick ⟨s.code, s.pos, s.seed⟩ n = some (r, s') := e
  unfold t_spec_l00Src_one
  simp only [e', obind_sm]
  exact ⟨_, _, rfl, k'⟩

theorem dr_among {s : l00Src} {k : Int} (h : SK s k) (hk : k ≤ 100000000000) {l : List Int} (h0 : l ≠ []) (hl : l.length ≤ 60000) : ∃ r s', t_spec_l00Src_among s (some l) = some (r, s') ∧ SK s' (k + 2) ∧ r ∈ l := by
  have hp : 0 < l.length := List.length_pos_iff.2 h0
  obtain ⟨r, s', e, k', p, q, _⟩ := dr_pick h hk (n := (l.length : Nat)) (by omega)
  have e' : t_spec_l00Src_pick ⟨s.code, s.pos, s.seed⟩ (l.length : Nat) = some (r, s') := e
  obtain ⟨a, ha, ha2⟩ := getI_in (l := l) p (q (by omega))
  unfold t_spec_l00Src_among
  simp only [Option.getD_some, e', obind_sm, ha]
  exact ⟨_, _, rfl, k', List.mem_of_getElem? ha2⟩

theorem dr_box {s : l00Src} {k : Int} (h : SK s k) (hk : k ≤ 10000000000) : ∃ b s', t_spec_l02DrawBox s = some (b, s') ∧ SK s' (k + 20) := by
  obtain ⟨r1, s1, e1, k1, _⟩ := dr_pick h (by omega) (n := 900) (by omega)
  obtain ⟨r2, s2, e2, k2, _⟩ := dr_pick k1 (by omega) (n := 900) (by omega)
  obtain ⟨r3, s3, e3, k3, _⟩ := dr_pick k2 (by omega) (n := 300) (by omega)
  obtain ⟨r4, s4, e4, k4, _⟩ := dr_pick k3 (by omega) (n := 300) (by omega)
  obtain ⟨r5, s5, e5, k5, _⟩ := dr_pick k4 (by omega) (n := 16) (by omega)
  unfold t_spec_l02DrawBox
  simp only [e1, e2, e3, e4, e5, obind_sm]
  by_cases c1 : r5 = 0
  · obtain ⟨r6, s6, e6, k6, _⟩ := dr_among k5 (by omega) (l := [(-1), wr (r1 + r3), wr ((wr (r1 + r3)) + 1)]) (by simp) (by simp)
    simp only [c1, decide_true, cond_true, e6, obind_sm]
    exact ⟨_, _, rfl, k6.mono (by omega)⟩
  · by_cases c2 : r5 = 1
    · obtain ⟨r6, s6, e6, k6, _⟩ := dr_among k5 (by omega) (l := [4095, 4096, (-1)]) (by simp) (by simp)
      simp only [c1, c2, decide_false, decide_true, cond_true, cond_false, e6, obind_sm]
      exact ⟨_, _, rfl, k6.mono (by omega)⟩
    · simp only [c1, c2, decide_false, cond_false]
      exact ⟨_, _, rfl, k5.mono (by omega)⟩

theorem wr_succ {k n : Nat} (h : k < n) (hn : n ≤ 4294967296) : wr ((k : Int) + 1) = ((k + 1 : Nat) : Int) := by
  rw [wr_id (by omega) (by omega)]
  omega

theorem get_lt {A : Type} {l : List A} {k : Nat} {a : A} (h : l[k]? = some a) : k < l.length := (List.getElem?_eq_some_iff.1 h).1

/-- A point that is one; the points of a stroke that is one. -/
structure PtV (p : Point) : Prop where
  x0 : 0 ≤ p.x
  x1 : p.x ≤ 4095
  y0 : 0 ≤ p.y
  y1 : p.y ≤ 4095
  t0 : 0 ≤ p.t
  t1 : p.t ≤ 3600000

structure StV (l : List Point) : Prop where
  pts : ∀ p ∈ l, PtV p
  inc : ∀ (k : Nat) p q, l[k]? = some p → l[k + 1]? = some q → p.t < q.t
  n1 : 1 ≤ l.length
  n2 : l.length ≤ 60

/-- Points of a bounded size. -/
structure PtB (p : Point) : Prop where
  x0 : -10000000 ≤ p.x
  x1 : p.x ≤ 10000000
  y0 : -10000000 ≤ p.y
  y1 : p.y ≤ 10000000
  t0 : -10000000 ≤ p.t
  t1 : p.t ≤ 10000000

structure StB (s : Stroke) : Prop where
  n : (s.points.getD []).length ≤ 100
  pts : ∀ p ∈ s.points.getD [], PtB p

theorem PtV.b {p : Point} (h : PtV p) : PtB p := by
  obtain ⟨h1, h2, h3, h4, h5, h6⟩ := h
  exact ⟨by omega, by omega, by omega, by omega, by omega, by omega⟩

theorem StV.b {l : List Point} (h : StV l) : StB ⟨some l⟩ := ⟨Nat.le_trans h.n2 (by omega), fun p hp => (h.pts p hp).b⟩

theorem appS_cons {A : Type} (s : Sl A) (a : A) (l : List A) : appS s (a :: l) = some (s.getD [] ++ a :: l) := by cases s <;> rfl

theorem appO_one {A : Type} (s : Sl A) (a : A) (h : (s.getD []).length ≤ 1000000) : appO s [a] = some (some (s.getD [] ++ [a])) := by
  rw [appO_some (by simp; omega), appS_cons]

theorem inc_app {l : List Point} {p : Point} (h : ∀ (k : Nat) p q, l[k]? = some p → l[k + 1]? = some q → p.t < q.t) (hp : ∀ q ∈ l, q.t < p.t) : ∀ (k : Nat) a b, (l ++ [p])[k]? = some a → (l ++ [p])[k + 1]? = some b → a.t < b.t := by
  intro k a b h1 h2
  have hk := get_lt h2
  simp only [List.length_append, List.length_cons, List.length_nil] at hk
  rw [List.getElem?_append_left (by omega)] at h1
  by_cases c : k + 1 < l.length
  · rw [List.getElem?_append_left c] at h2
    exact h k a b h1 h2
  · have e : k + 1 = l.length := by omega
    rw [e, List.getElem?_append_right (Nat.le_refl _), Nat.sub_self] at h2
    simp at h2
    subst h2
    exact hp a (List.mem_of_getElem? h1)

theorem cl_4095 (x : Int) : 0 ≤ max (0 : Int) (min 4095 x) ∧ max (0 : Int) (min 4095 x) ≤ 4095 := by omega

/-- What the drawing of a stroke keeps. -/
structure StI (s : Sl Point) (i : Nat) (t0 t : Int) : Prop where
  len : (s.getD []).length = i
  som : 0 < i → ∃ l, s = .some l
  pts : ∀ p ∈ s.getD [], PtV p ∧ t0 ≤ p.t ∧ p.t < t
  inc : ∀ (k : Nat) p q, (s.getD [])[k]? = some p → (s.getD [])[k + 1]? = some q → p.t < q.t

theorem StI.step {s : Sl Point} {i : Nat} {t0 t t' x y : Int} (h : StI s i t0 t) (hx : 0 ≤ x ∧ x ≤ 4095) (hy : 0 ≤ y ∧ y ≤ 4095) (ht : t0 ≤ t) (h0 : 0 ≤ t0) (h1 : t ≤ 3600000) (ht' : t < t') : StI (some (s.getD [] ++ [⟨x, y, t⟩])) (i + 1) t0 t' := by
  refine ⟨by simp [h.len], fun _ => ⟨_, rfl⟩, fun p hp => ?_, inc_app h.inc fun q hq => (h.pts q hq).2.2⟩
  rcases List.mem_append.1 hp with hp | hp
  · have := h.pts p hp
    exact ⟨this.1, this.2.1, by omega⟩
  · simp only [List.mem_singleton] at hp
    subst hp
    exact ⟨⟨hx.1, hx.2, hy.1, hy.2, by simp only; omega, by simp only; omega⟩, ht, ht'⟩

theorem dr_stroke {s : l00Src} {k : Int} (h : SK s k) (hk : k ≤ 1000000000) {time x y : Int} (t0 : 0 ≤ time) (t1 : time ≤ 3000000) (hx : 0 ≤ x ∧ x ≤ 4095) (hy : 0 ≤ y ∧ y ≤ 4095) :
    ∃ l s', t_spec_l02DrawStroke s time x y = some (⟨some l⟩, s') ∧ SK s' (k + 1000) ∧ StV l ∧ l.length ≤ 10 ∧ ∀ p ∈ l, time ≤ p.t ∧ p.t ≤ time + 300 := by
  obtain ⟨r1, s1, e1, k1, p1, q1, _⟩ := dr_pick h (by omega) (n := 60) (by omega)
  obtain ⟨r2, s2, e2, k2, p2, q2, _⟩ := dr_pick k1 (by omega) (n := 60) (by omega)
  obtain ⟨r3, s3, e3, k3, p3, q3, _⟩ := dr_pick k2 (by omega) (n := 10) (by omega)
  have q1' := q1 (by omega)
  have q2' := q2 (by omega)
  have q3' := q3 (by omega)
  have w1 : wr (1 + r3) = 1 + r3 := wr_id (by omega) (by omega)
  have w2 : wr (r1 - 20) = r1 - 20 := wr_id (by omega) (by omega)
  have w3 : wr (r2 - 30) = r2 - 30 := wr_id (by omega) (by omega)
  obtain ⟨N, hN⟩ := Int.eq_ofNat_of_zero_le (a := 1 + r3) (by omega)
  unfold t_spec_l02DrawStroke
  simp only [e1, e2, e3, obind_sm, w1, w2, w3]
  obtain ⟨⟨c1, c2, c3, c4⟩, f1, f2, f3⟩ := loopT_ex (step := s0_spec_l02DrawStroke) (fun i (t : (Sl UInt8) × Int × Int × (Sl Point) × Int × Int × Int × Int × Int × Int) => SK ⟨t.1, t.2.1, t.2.2.1⟩ (k + 6 + 12 * i) ∧ StI t.2.2.2.1 i time t.2.2.2.2.1 ∧ (time ≤ t.2.2.2.2.1 ∧ t.2.2.2.2.1 ≤ time + 20 * i) ∧
      (0 ≤ t.2.2.2.2.2.1 ∧ t.2.2.2.2.2.1 ≤ 4095) ∧ (0 ≤ t.2.2.2.2.2.2.1 ∧ t.2.2.2.2.2.2.1 ≤ 4095) ∧ (-100 ≤ t.2.2.2.2.2.2.2.1 ∧ t.2.2.2.2.2.2.2.1 ≤ 100) ∧ (-100 ≤ t.2.2.2.2.2.2.2.2.1 ∧ t.2.2.2.2.2.2.2.2.1 ≤ 100) ∧ t.2.2.2.2.2.2.2.2.2 = N - (i : Int))
    N (fun r => SK ⟨r.1, r.2.1, r.2.2.1⟩ (k + 6 + 12 * N) ∧ StI r.2.2.2 N time (time + 20 * N + 1))
    (fun i ⟨v1, v2, v3, v4, v5, v6, v7, v8, v9, v10⟩ hi ⟨g1, g2, g3, g4, g5, g6, g7, g8⟩ => by
      simp only at g1 g2 g3 g4 g5 g6 g7 g8
      obtain ⟨r4, s4, e4, k4, p4, q4, _⟩ := dr_pick g1 (by omega) (n := 20) (by omega)
      obtain ⟨r5, s5, e5, k5, p5, q5, _⟩ := dr_pick k4 (by omega) (n := 9) (by omega)
      obtain ⟨r6, s6, e6, k6, p6, q6, _⟩ := dr_pick k5 (by omega) (n := 9) (by omega)
      obtain ⟨b7, s7, e7, k7⟩ := dr_one k6 (by omega) (n := 3) (by omega)
      have q4' := q4 (by omega)
      have q5' := q5 (by omega)
      have q6' := q6 (by omega)
      have a0 := appO_one v4 (⟨v6, v7, v5⟩ : Point) (by rw [g2.len]; omega)
      have a0' : appS v4 [(⟨v6, v7, v5⟩ : Point)] = some (v4.getD [] ++ [⟨v6, v7, v5⟩]) := appS_cons _ _ _
      have a1 : wr (v6 + v8) = v6 + v8 := wr_id (by omega) (by omega)
      have a2 : wr (v6 + v8 + r5) = v6 + v8 + r5 := wr_id (by omega) (by omega)
      have a3 : wr (v6 + v8 + r5 - 4) = v6 + v8 + r5 - 4 := wr_id (by omega) (by omega)
      have a4 : wr (v7 + v9) = v7 + v9 := wr_id (by omega) (by omega)
      have a5 : wr (v7 + v9 + r6) = v7 + v9 + r6 := wr_id (by omega) (by omega)
      have a6 : wr (v7 + v9 + r6 - 4) = v7 + v9 + r6 - 4 := wr_id (by omega) (by omega)
      have a7 : wr (1 + r4) = 1 + r4 := wr_id (by omega) (by omega)
      have a8 : wr (v5 + (1 + r4)) = v5 + (1 + r4) := wr_id (by omega) (by omega)
      have a9 : wr (v10 - 1) = v10 - 1 := wr_id (by omega) (by omega)
      have c : 0 < v10 := by omega
      have st := g2.step (x := v6) (y := v7) (t' := v5 + (1 + r4)) g4 g5 (by omega) (by omega) (by omega) (by omega)
      cases b7 with
      | true =>
        obtain ⟨r8, s8, e8, k8, p8, q8, _⟩ := dr_pick k7 (by omega) (n := 80) (by omega)
        obtain ⟨r9, s9, e9, k9, p9, q9, _⟩ := dr_pick k8 (by omega) (n := 80) (by omega)
        have q8' := q8 (by omega)
        have q9' := q9 (by omega)
        have b1 : wr (r8 - 40) = r8 - 40 := wr_id (by omega) (by omega)
        have b2 : wr (r9 - 40) = r9 - 40 := wr_id (by omega) (by omega)
        have e : s0_spec_l02DrawStroke (v1, v2, v3, v4, v5, v6, v7, v8, v9, v10) = some (.inl (s9.code, s9.pos, s9.seed, some (v4.getD [] ++ [⟨v6, v7, v5⟩]), v5 + (1 + r4), max 0 (min 4095 (v6 + v8 + r5 - 4)), max 0 (min 4095 (v7 + v9 + r6 - 4)), r8 - 40, r9 - 40, v10 - 1)) := by
          unfold s0_spec_l02DrawStroke
          simp only [c, decide_true, cond_true, e4, e5, e6, e7, e8, e9, obind_sm, a0, a0', a1, a2, a3, a4, a5, a6, a7, a8, a9, b1, b2]
        exact .inl ⟨_, e, k9.mono (by omega), st, ⟨by simp only; omega, by simp only; omega⟩, cl_4095 _, cl_4095 _, ⟨by simp only; omega, by simp only; omega⟩, ⟨by simp only; omega, by simp only; omega⟩, by simp only; omega⟩
      | false =>
        have e : s0_spec_l02DrawStroke (v1, v2, v3, v4, v5, v6, v7, v8, v9, v10) = some (.inl (s7.code, s7.pos, s7.seed, some (v4.getD [] ++ [⟨v6, v7, v5⟩]), v5 + (1 + r4), max 0 (min 4095 (v6 + v8 + r5 - 4)), max 0 (min 4095 (v7 + v9 + r6 - 4)), v8, v9, v10 - 1)) := by
          unfold s0_spec_l02DrawStroke
          simp only [c, decide_true, cond_true, cond_false, e4, e5, e6, e7, obind_sm, a0, a0', a1, a2, a3, a4, a5, a6, a7, a8, a9]
        exact .inl ⟨_, e, k7.mono (by omega), st, ⟨by simp only; omega, by simp only; omega⟩, cl_4095 _, cl_4095 _, g6, g7, by simp only; omega⟩)
    (fun ⟨v1, v2, v3, v4, v5, v6, v7, v8, v9, v10⟩ ⟨g1, g2, g3, g4, g5, g6, g7, g8⟩ => by
      simp only at g1 g2 g3 g8
      have c : ¬ 0 < v10 := by omega
      have e : s0_spec_l02DrawStroke (v1, v2, v3, v4, v5, v6, v7, v8, v9, v10) = some (.inr (v1, v2, v3, v4)) := by
        unfold s0_spec_l02DrawStroke
        simp only [c, decide_false, cond_false]
      refine ⟨_, e, g1, g2.len, g2.som, fun p hp => ?_, g2.inc⟩
      have := g2.pts p hp
      exact ⟨this.1, this.2.1, by omega⟩)
    (s := (s3.code, s3.pos, s3.seed, none, time, x, y, r1 - 20, r2 - 30, 1 + r3)) ⟨k3.mono (by omega), ⟨rfl, fun h => by omega, fun p hp => (by cases hp), fun k p q h1 _ => (by simp at h1)⟩, ⟨by simp only; omega, by simp only; omega⟩, hx, hy, ⟨by simp only; omega, by simp only; omega⟩, ⟨by simp only; omega, by simp only; omega⟩, by simp only; omega⟩
  simp only at f2 f3
  obtain ⟨l, rfl⟩ := f3.som (by omega)
  have hl : l.length = N := f3.len
  rw [f1]
  refine ⟨l, _, rfl, f2.mono (by omega), ⟨fun p hp => (f3.pts p hp).1, f3.inc, by omega, by omega⟩, by omega, fun p hp => ?_⟩
  have := f3.pts p hp
  omega

theorem last_ok {l : List Point} (h : StV l) : ∃ p, t_spec_l02Last ⟨some l⟩ = some p.t ∧ l[l.length - 1]? = some p ∧ p ∈ l ∧ ∀ q ∈ l, q.t ≤ p.t := by
  have h1 := h.n1
  have h2 := h.n2
  obtain ⟨p, hp⟩ : ∃ p, l[l.length - 1]? = some p := ⟨l[l.length - 1], List.getElem?_eq_getElem (by omega)⟩
  have w : wr (((l.length : Nat) : Int) - 1) = ((l.length - 1 : Nat) : Int) := by rw [wr_id (by omega) (by omega)]; omega
  refine ⟨p, ?_, hp, List.mem_of_getElem? hp, fun q hq => ?_⟩
  · unfold t_spec_l02Last
    simp only [Option.getD_some, w, getI_nat hp, obind_sm]
  · obtain ⟨k, hk⟩ := List.mem_iff_getElem?.1 hq
    have key : ∀ (d k : Nat) (a b : Point), l[k]? = some a → l[k + d]? = some b → a.t ≤ b.t := by
      intro d
      induction d with
      | zero => intro k a b h1 h2; rw [Nat.add_zero, h1] at h2; cases h2; exact Int.le_refl _
      | succ d ih =>
        intro k a b h1 h2
        have hlt := get_lt h2
        obtain ⟨m, hm⟩ : ∃ m, l[k + d]? = some m := ⟨l[k + d], List.getElem?_eq_getElem (by omega)⟩
        have := ih k a m h1 hm
        have := h.inc (k + d) m b hm (by rw [Nat.add_assoc]; exact h2)
        omega
    have hk2 := get_lt hk
    exact key (l.length - 1 - k) k q p hk (by rw [← hp]; congr 1; omega)

/-- Ink that is one. -/
structure InkV (L : List Stroke) : Prop where
  st : ∀ s ∈ L, ∃ l, s = ⟨some l⟩ ∧ StV l
  inc : ∀ (k : Nat) l l', L[k]? = some ⟨some l⟩ → L[k + 1]? = some ⟨some l'⟩ → ∀ p ∈ l, ∀ q ∈ l', p.t < q.t
  n : L.length ≤ 16

/-- What the drawing of ink keeps. -/
structure InkI (s : Sl Stroke) (i : Nat) (t : Int) : Prop where
  len : (s.getD []).length = i
  som : 0 < i → ∃ l, s = .some l
  st : ∀ x ∈ s.getD [], ∃ l, x = ⟨some l⟩ ∧ StV l ∧ ∀ p ∈ l, p.t < t
  inc : ∀ (k : Nat) l l', (s.getD [])[k]? = some ⟨some l⟩ → (s.getD [])[k + 1]? = some ⟨some l'⟩ → ∀ p ∈ l, ∀ q ∈ l', p.t < q.t

theorem InkI.step {s : Sl Stroke} {i : Nat} {t t' : Int} {l : List Point} (h : InkI s i t) (hl : StV l) (h0 : ∀ p ∈ l, t ≤ p.t ∧ p.t < t') (ht : t ≤ t') : InkI (some (s.getD [] ++ [⟨some l⟩])) (i + 1) t' := by
  refine ⟨by simp [h.len], fun _ => ⟨_, rfl⟩, fun x hx => ?_, ?_⟩
  · rcases List.mem_append.1 hx with hx | hx
    · obtain ⟨l', e, h1, h2⟩ := h.st x hx
      exact ⟨l', e, h1, fun p hp => Int.lt_of_lt_of_le (h2 p hp) ht⟩
    · simp only [List.mem_singleton] at hx
      exact ⟨l, hx, hl, fun p hp => (h0 p hp).2⟩
  · intro k a b h1 h2
    simp only [Option.getD_some] at h1 h2
    have hk := get_lt h2
    simp only [List.length_append, List.length_cons, List.length_nil] at hk
    rw [List.getElem?_append_left (by omega)] at h1
    by_cases c : k + 1 < (s.getD []).length
    · rw [List.getElem?_append_left c] at h2
      exact h.inc k a b h1 h2
    · have e : k + 1 = (s.getD []).length := by omega
      rw [e, List.getElem?_append_right (Nat.le_refl _), Nat.sub_self] at h2
      simp only [List.getElem?_cons_zero, Option.some.injEq, Stroke.mk.injEq] at h2
      subst h2
      intro p hp q hq
      obtain ⟨l', e', _, h3⟩ := h.st _ (List.mem_of_getElem? h1)
      simp only [Stroke.mk.injEq, Option.some.injEq] at e'
      subst e'
      exact Int.lt_of_lt_of_le (h3 p hp) (h0 q hq).1

theorem dr_ink {s : l00Src} {k : Int} (h : SK s k) (hk : k ≤ 100000000) {most : Int} (h1 : 0 ≤ most) (h2 : most ≤ 10) : ∃ L s', t_spec_l02Draw s most = some (⟨L⟩, s') ∧ SK s' (k + 20000) ∧ InkV (L.getD []) ∧ (L.getD []).length ≤ most := by
  obtain ⟨r1, s1, e1, k1, p1, q1, _⟩ := dr_pick h (by omega) (n := 100) (by omega)
  obtain ⟨r2, s2, e2, k2, p2, q2, _⟩ := dr_pick k1 (by omega) (n := 200) (by omega)
  obtain ⟨r3, s3, e3, k3, p3, q3, _⟩ := dr_pick k2 (by omega) (n := most + 1) (by omega)
  have q1' := q1 (by omega)
  have q2' := q2 (by omega)
  have q3' := q3 (by omega)
  have w0 : wr (most + 1) = most + 1 := wr_id (by omega) (by omega)
  have w1 : wr (100 + r2) = 100 + r2 := wr_id (by omega) (by omega)
  obtain ⟨N, hN⟩ := Int.eq_ofNat_of_zero_le (a := r3) (by omega)
  unfold t_spec_l02Draw
  simp only [e1, e2, w0, e3, obind_sm, w1]
  obtain ⟨⟨c1, c2, c3, c4⟩, f1, f2, f3⟩ := loopT_ex (step := s0_spec_l02Draw) (fun i (t : (Sl UInt8) × Int × Int × (Sl Stroke) × Int × Int × Int) => SK ⟨t.1, t.2.1, t.2.2.1⟩ (k + 6 + 1100 * i) ∧ InkI t.2.2.2.1 i t.2.2.2.2.1 ∧ (0 ≤ t.2.2.2.2.1 ∧ t.2.2.2.2.1 ≤ 100 + 600 * i) ∧
      (0 ≤ t.2.2.2.2.2.1 ∧ t.2.2.2.2.2.1 ≤ 300 + 200 * i) ∧ t.2.2.2.2.2.2 = N - (i : Int))
    N (fun r => SK ⟨r.1, r.2.1, r.2.2.1⟩ (k + 6 + 1100 * N) ∧ ∃ t, InkI r.2.2.2 N t)
    (fun i ⟨v1, v2, v3, v4, v5, v6, v7⟩ hi ⟨g1, g2, g3, g4, g5⟩ => by
      simp only at g1 g2 g3 g4 g5
      obtain ⟨r4, s4, e4, k4, p4, q4, _⟩ := dr_pick g1 (by omega) (n := 200) (by omega)
      have q4' := q4 (by omega)
      have a1 : wr (300 + r4) = 300 + r4 := wr_id (by omega) (by omega)
      obtain ⟨l, s5, e5, k5, sv, _, st⟩ := dr_stroke k4 (by omega) (time := v5) (x := v6) (y := 300 + r4) (by omega) (by omega) (by omega) (by omega)
      obtain ⟨p, e6, _, pm, pl⟩ := last_ok sv
      obtain ⟨r7, s7, e7, k7, p7, q7, _⟩ := dr_pick k5 (by omega) (n := 200) (by omega)
      obtain ⟨r8, s8, e8, k8, p8, q8, _⟩ := dr_pick k7 (by omega) (n := 200) (by omega)
      have q7' := q7 (by omega)
      have q8' := q8 (by omega)
      have pt := st p pm
      have a0 := appO_one v4 (⟨some l⟩ : Stroke) (by rw [g2.len]; omega)
      have a0' : appS v4 [(⟨some l⟩ : Stroke)] = some (v4.getD [] ++ [⟨some l⟩]) := appS_cons _ _ _
      have a2 : wr (p.t + 1) = p.t + 1 := wr_id (by omega) (by omega)
      have a3 : wr (p.t + 1 + r7) = p.t + 1 + r7 := wr_id (by omega) (by omega)
      have a4 : wr (v6 + r8) = v6 + r8 := wr_id (by omega) (by omega)
      have a5 : wr (v7 - 1) = v7 - 1 := wr_id (by omega) (by omega)
      have c : 0 < v7 := by omega
      have e : s0_spec_l02Draw (v1, v2, v3, v4, v5, v6, v7) = some (.inl (s8.code, s8.pos, s8.seed, some (v4.getD [] ++ [⟨some l⟩]), p.t + 1 + r7, v6 + r8, v7 - 1)) := by
        unfold s0_spec_l02Draw
        simp only [c, decide_true, cond_true, e4, a1, e5, e6, e7, e8, obind_sm, a0, a0', a2, a3, a4, a5]
      have nx := g2.step (t' := p.t + 1 + r7) sv (fun q hq => ⟨(st q hq).1, by have := pl q hq; omega⟩) (by omega)
      exact .inl ⟨_, e, k8.mono (by omega), nx, ⟨by simp only; omega, by simp only; omega⟩, ⟨by simp only; omega, by simp only; omega⟩, by simp only; omega⟩)
    (fun ⟨v1, v2, v3, v4, v5, v6, v7⟩ ⟨g1, g2, g3, g4, g5⟩ => by
      simp only at g1 g2 g5
      have c : ¬ 0 < v7 := by omega
      have e : s0_spec_l02Draw (v1, v2, v3, v4, v5, v6, v7) = some (.inr (v1, v2, v3, v4)) := by
        unfold s0_spec_l02Draw
        simp only [c, decide_false, cond_false]
      exact ⟨_, e, g1, v5, g2⟩)
    (s := (s3.code, s3.pos, s3.seed, none, r1, 100 + r2, r3)) ⟨k3.mono (by omega), ⟨rfl, fun h => by omega, fun p hp => (by cases hp), fun k p q h1 _ => (by simp at h1)⟩, ⟨by simp only; omega, by simp only; omega⟩, ⟨by simp only; omega, by simp only; omega⟩, by simp only; omega⟩
  simp only at f2 f3
  obtain ⟨t, f3⟩ := f3
  rw [f1]
  refine ⟨c4, _, rfl, f2.mono (by omega), ⟨fun x hx => ?_, f3.inc, by rw [f3.len]; omega⟩, by rw [f3.len]; omega⟩
  obtain ⟨l, e, h1, _⟩ := f3.st x hx
  exact ⟨l, e, h1⟩

theorem dr_long {n : Int} (h0 : 0 ≤ n) (h1 : n ≤ 100) : ∃ s, t_spec_l02Long n = some s ∧ StB s := by
  obtain ⟨N, rfl⟩ := Int.eq_ofNat_of_zero_le h0
  obtain ⟨r, f1, f2, f3⟩ := loopT_ex (step := s0_spec_l02Long N) (fun i (t : (Sl Point) × Int) => (t.1.getD []).length = i ∧ (∀ p ∈ t.1.getD [], PtB p) ∧ t.2 = (i : Int)) N (fun r => (r.getD []).length = N ∧ ∀ p ∈ r.getD [], PtB p)
    (fun i ⟨v1, v2⟩ hi ⟨g1, g2, g3⟩ => by
      simp only at g1 g2 g3
      subst g3
      have c : (i : Int) < (N : Int) := by omega
      have dv : 0 ≤ Int.tdiv (i : Int) 2 ∧ Int.tdiv (i : Int) 2 ≤ i := by rw [Int.tdiv_eq_ediv_of_nonneg (by omega)]; omega
      have w1 : wr (10 + (i : Int)) = 10 + i := wr_id (by omega) (by omega)
      have w2 : wr (Int.tdiv (i : Int) 2) = Int.tdiv (i : Int) 2 := wr_id (by omega) (by omega)
      have w3 : wr (50 - Int.tdiv (i : Int) 2) = 50 - Int.tdiv (i : Int) 2 := wr_id (by omega) (by omega)
      have w4 : wr (3 * (i : Int)) = 3 * i := wr_id (by omega) (by omega)
      have a0 := appO_one v1 (⟨10 + (i : Int), 50 - Int.tdiv (i : Int) 2, 3 * (i : Int)⟩ : Point) (by omega)
      have a0' : appS v1 [(⟨10 + (i : Int), 50 - Int.tdiv (i : Int) 2, 3 * (i : Int)⟩ : Point)] = some (v1.getD [] ++ [⟨10 + (i : Int), 50 - Int.tdiv (i : Int) 2, 3 * (i : Int)⟩]) := appS_cons _ _ _
      refine .inl ⟨(some (v1.getD [] ++ [⟨10 + (i : Int), 50 - Int.tdiv (i : Int) 2, 3 * (i : Int)⟩]), ((i + 1 : Nat) : Int)), ?_, by simp [g1], fun p hp => ?_, rfl⟩
      · unfold s0_spec_l02Long
        simp only [c, decide_true, cond_true, w1, w2, w3, w4, a0, a0', obind_sm, wr_succ hi (by omega)]
      · rcases List.mem_append.1 hp with hp | hp
        · exact g2 p hp
        · simp only [List.mem_singleton] at hp
          subst hp
          exact ⟨by simp only; omega, by simp only; omega, by simp only; omega, by simp only; omega, by simp only; omega, by simp only; omega⟩)
    (fun ⟨v1, v2⟩ ⟨g1, g2, g3⟩ => by
      simp only at g1 g2 g3
      subst g3
      refine ⟨v1, ?_, g1, g2⟩
      unfold s0_spec_l02Long
      simp only [Int.lt_irrefl, decide_false, cond_false])
    (s := (none, 0)) ⟨rfl, fun p hp => (by cases hp), rfl⟩
  refine ⟨⟨r⟩, ?_, by simp only; omega, f3⟩
  unfold t_spec_l02Long
  simp only [f1, obind_sm]

theorem InkV.b {L : List Stroke} (h : InkV L) : ∀ x ∈ L, StB x := fun x hx => by
  obtain ⟨l, rfl, hl⟩ := h.st x hx
  exact hl.b

theorem set_st {L : List Stroke} {k : Int} {l : List Point} {q : Point} (h : ∀ x ∈ L, StB x) (hl : StB ⟨some l⟩) (hq : PtB q) : ∀ x ∈ (setS (some L) k (⟨setS (some l) 0 q⟩ : Stroke)).getD [], StB x := by
  intro x hx
  simp only [setS, Option.map_some, Option.getD_some] at hx
  rcases List.mem_or_eq_of_mem_set hx with hx | rfl
  · exact h x hx
  · refine ⟨by simpa using hl.n, fun p hp => ?_⟩
    simp only [Option.getD_some] at hp
    rcases List.mem_or_eq_of_mem_set hp with hp | rfl
    · exact hl.pts p (by simpa using hp)
    · exact hq

theorem dr_bent {s : l00Src} {k : Int} (h : SK s k) (hk : k ≤ 10000000) : ∃ L s', t_spec_l02Bent s = some (⟨L⟩, s') ∧ SK s' (k + 30000) ∧ (L.getD []).length ≤ 100 ∧ ∀ x ∈ L.getD [], StB x := by
  obtain ⟨L, s1, e1, k1, iv, il⟩ := dr_ink h (by omega) (most := 5) (by omega) (by omega)
  obtain ⟨r2, s2, e2, k2, p2, q2, _⟩ := dr_pick k1 (by omega) (n := 20) (by omega)
  have q2' := q2 (by omega)
  have ib := iv.b
  have first : 0 < (((L.getD []).length : Nat) : Int) → ∀ r : Int, 0 ≤ r → r < (((L.getD []).length : Nat) : Int) → ∃ L' l p, L = some L' ∧ getI (L.getD []) r = some ⟨some l⟩ ∧ getI l 0 = some p ∧ StV l := fun h0 r hr0 hr1 => by
    obtain ⟨x, hx, hx2⟩ := getI_in hr0 hr1
    obtain ⟨l, rfl, hl⟩ := iv.st x (List.mem_of_getElem? hx2)
    obtain ⟨p, hp, _⟩ := getI_in (l := l) (i := 0) (by omega) (by have := hl.n1; omega)
    cases L with
    | none => simp at h0
    | some L' => exact ⟨L', l, p, rfl, hx, hp, hl⟩
  unfold t_spec_l02Bent
  simp only [e1, e2, obind_sm]
  by_cases c0 : r2 = 0
  · have d0 : decide (r2 = 0) = true := decide_eq_true c0
    have a0 := appO_one L (⟨none⟩ : Stroke) (by omega)
    have a0' : appS L [(⟨none⟩ : Stroke)] = some (L.getD [] ++ [⟨none⟩]) := appS_cons _ _ _
    simp only [d0, cond_true, a0, a0', obind_sm]
    refine ⟨_, _, rfl, k2.mono (by omega), by simp; omega, fun x hx => ?_⟩
    rcases List.mem_append.1 hx with hx | hx
    · exact ib x hx
    · simp only [List.mem_singleton] at hx
      subst hx
      exact ⟨by simp, fun p hp => by cases hp⟩
  have d0 : decide (r2 = 0) = false := decide_eq_false c0
  by_cases c1 : r2 = 1
  · have d1 : decide (r2 = 1) = true := decide_eq_true c1
    by_cases n0 : 0 < (((L.getD []).length : Nat) : Int)
    · obtain ⟨r3, s3, e3, k3, p3, q3, _⟩ := dr_pick k2 (by omega) (n := (((L.getD []).length : Nat) : Int)) (by omega)
      have q3' := q3 (by omega)
      obtain ⟨L', l, p, rfl, g1, g2, hl⟩ := first n0 r3 p3 q3'
      simp only [Option.getD_some] at n0 e3 g1 ib
      obtain ⟨r4, s4, e4, k4, m4⟩ := dr_among k3 (by omega) (l := [-1, 4095, 4096]) (by simp) (by simp)
      simp only [d0, d1, decide_true, decide_false, cond_true, cond_false, n0, e3, obind_sm, g1, Option.getD_some, g2, e4]
      have pb := (hl.pts p (List.mem_of_getElem? (getI_iff.1 g2).2)).b
      refine ⟨_, _, rfl, k4.mono (by omega), by simp only [setS, Option.map_some, Option.getD_some, List.length_set] at il ⊢; omega, set_st ib hl.b ⟨?_, ?_, pb.y0, pb.y1, pb.t0, pb.t1⟩⟩
      all_goals
        simp only [List.mem_cons, List.not_mem_nil, or_false] at m4
        simp only
        omega
    · simp only [d0, d1, decide_true, decide_false, cond_true, cond_false, n0]
      exact ⟨_, _, rfl, k2.mono (by omega), by omega, ib⟩
  have d1 : decide (r2 = 1) = false := decide_eq_false c1
  by_cases c2 : r2 = 2
  · have d2 : decide (r2 = 2) = true := decide_eq_true c2
    by_cases n0 : 0 < (((L.getD []).length : Nat) : Int)
    · obtain ⟨r3, s3, e3, k3, p3, q3, _⟩ := dr_pick k2 (by omega) (n := (((L.getD []).length : Nat) : Int)) (by omega)
      have q3' := q3 (by omega)
      obtain ⟨L', l, p, rfl, g1, g2, hl⟩ := first n0 r3 p3 q3'
      simp only [Option.getD_some] at n0 e3 g1 ib
      obtain ⟨r4, s4, e4, k4, m4⟩ := dr_among k3 (by omega) (l := [-1, 0, 3600000, 3600001]) (by simp) (by simp)
      simp only [d0, d1, d2, decide_true, decide_false, cond_true, cond_false, n0, e3, obind_sm, g1, Option.getD_some, g2, e4]
      have pb := (hl.pts p (List.mem_of_getElem? (getI_iff.1 g2).2)).b
      refine ⟨_, _, rfl, k4.mono (by omega), by simp only [setS, Option.map_some, Option.getD_some, List.length_set] at il ⊢; omega, set_st ib hl.b ⟨pb.x0, pb.x1, pb.y0, pb.y1, ?_, ?_⟩⟩
      all_goals
        simp only [List.mem_cons, List.not_mem_nil, or_false] at m4
        simp only
        omega
    · simp only [d0, d1, d2, decide_true, decide_false, cond_true, cond_false, n0]
      exact ⟨_, _, rfl, k2.mono (by omega), by omega, ib⟩
  have d2 : decide (r2 = 2) = false := decide_eq_false c2
  by_cases c3 : r2 = 3
  · have d3 : decide (r2 = 3) = true := decide_eq_true c3
    obtain ⟨r3, s3, e3, k3, p3, q3, _⟩ := dr_pick k2 (by omega) (n := 2) (by omega)
    have q3' := q3 (by omega)
    have w : wr (60 + r3) = 60 + r3 := wr_id (by omega) (by omega)
    obtain ⟨x, e4, hx⟩ := dr_long (n := 60 + r3) (by omega) (by omega)
    simp only [d0, d1, d2, d3, decide_true, decide_false, cond_true, cond_false, e3, w, e4, obind_sm]
    refine ⟨_, _, rfl, k3.mono (by omega), by simp, fun y hy => ?_⟩
    simp only [Option.getD_some, List.mem_singleton] at hy
    subst hy
    exact hx
  have d3 : decide (r2 = 3) = false := decide_eq_false c3
  by_cases c4 : r2 = 4
  · have d4 : decide (r2 = 4) = true := decide_eq_true c4
    obtain ⟨r3, s3, e3, k3, p3, q3, _⟩ := dr_pick k2 (by omega) (n := 2) (by omega)
    have q3' := q3 (by omega)
    have w : wr (16 + r3) = 16 + r3 := wr_id (by omega) (by omega)
    obtain ⟨N, hN⟩ := Int.eq_ofNat_of_zero_le (a := 16 + r3) (by omega)
    obtain ⟨r, f1, f2, f3⟩ := loopT_ex (step := s0_spec_l02Bent (r3, s3)) (fun i (t : (Sl Stroke) × Int) => (t.1.getD []).length = i ∧ (∀ p ∈ t.1.getD [], StB p) ∧ t.2 = (i : Int)) N (fun r => (r.getD []).length = N ∧ ∀ p ∈ r.getD [], StB p)
      (fun i ⟨v1, v2⟩ hi ⟨g1, g2, g3⟩ => by
        simp only at g1 g2 g3
        subst g3
        have c : (i : Int) < 16 + r3 := by omega
        have a0 := appO_one v1 (⟨some [⟨(i : Int), 5, (i : Int)⟩]⟩ : Stroke) (by omega)
        have a0' : appS v1 [(⟨some [⟨(i : Int), 5, (i : Int)⟩]⟩ : Stroke)] = some (v1.getD [] ++ [⟨some [⟨(i : Int), 5, (i : Int)⟩]⟩]) := appS_cons _ _ _
        refine .inl ⟨(some (v1.getD [] ++ [⟨some [⟨(i : Int), 5, (i : Int)⟩]⟩]), ((i + 1 : Nat) : Int)), ?_, by simp [g1], fun p hp => ?_, rfl⟩
        · unfold s0_spec_l02Bent
          simp only [w, c, decide_true, cond_true, a0, a0', obind_sm, wr_succ hi (by omega)]
        · rcases List.mem_append.1 hp with hp | hp
          · exact g2 p hp
          · simp only [List.mem_singleton] at hp
            subst hp
            refine ⟨by simp, fun q hq => ?_⟩
            simp only [Option.getD_some, List.mem_singleton] at hq
            subst hq
            exact ⟨by simp only; omega, by simp only; omega, by simp only; omega, by simp only; omega, by simp only; omega, by simp only; omega⟩)
      (fun ⟨v1, v2⟩ ⟨g1, g2, g3⟩ => by
        simp only at g1 g2 g3
        subst g3
        have c : ¬ (N : Int) < 16 + r3 := by omega
        refine ⟨v1, ?_, g1, g2⟩
        unfold s0_spec_l02Bent
        simp only [w, c, decide_false, cond_false])
      (s := (none, 0)) ⟨rfl, fun p hp => (by cases hp), rfl⟩
    simp only [d0, d1, d2, d3, d4, decide_true, decide_false, cond_true, cond_false, e3, f1, obind_sm]
    exact ⟨_, _, rfl, k3.mono (by omega), by omega, f3⟩
  · have d4 : decide (r2 = 4) = false := decide_eq_false c4
    simp only [d0, d1, d2, d3, d4, cond_false]
    exact ⟨_, _, rfl, k2.mono (by omega), by omega, ib⟩

theorem dr_l05 {s : l00Src} {k : Int} (h : SK s k) (hk : k ≤ 1000000) : ∃ st s', t_spec_l05Stroke s = some (st, s') ∧ SK s' (k + 40000) ∧ StB st := by
  obtain ⟨b1, s1, e1, k1⟩ := dr_one h (by omega) (n := 12) (by omega)
  unfold t_spec_l05Stroke
  simp only [e1, obind_sm]
  cases b1 with
  | true =>
    obtain ⟨L, s2, e2, k2, ll, lb⟩ := dr_bent k1 (by omega)
    simp only [cond_true, e2, obind_sm]
    by_cases n0 : 0 < (((L.getD []).length : Nat) : Int)
    · obtain ⟨x, g1, g2⟩ := getI_in (l := L.getD []) (i := 0) (by omega) (by omega)
      simp only [n0, decide_true, cond_true, g1, obind_sm]
      exact ⟨_, _, rfl, k2.mono (by omega), lb _ (List.mem_of_getElem? g2)⟩
    · simp only [n0, decide_false, cond_false]
      exact ⟨_, _, rfl, k2.mono (by omega), by simp, fun p hp => by cases hp⟩
  | false =>
    obtain ⟨b2, s2, e2, k2⟩ := dr_one k1 (by omega) (n := 2) (by omega)
    simp only [cond_false, e2, obind_sm]
    cases b2 with
    | true =>
      obtain ⟨r3, s3, e3, k3, p3, q3, _⟩ := dr_pick k2 (by omega) (n := 60) (by omega)
      obtain ⟨r4, s4, e4, k4, p4, q4, _⟩ := dr_pick k3 (by omega) (n := 60) (by omega)
      have q3' := q3 (by omega)
      have q4' := q4 (by omega)
      have w1 : wr (300 + r3) = 300 + r3 := wr_id (by omega) (by omega)
      have w2 : wr (300 + r4) = 300 + r4 := wr_id (by omega) (by omega)
      obtain ⟨l, s5, e5, k5, sv, _, _⟩ := dr_stroke k4 (by omega) (time := 5) (x := 300 + r3) (y := 300 + r4) (by omega) (by omega) (by omega) (by omega)
      simp only [cond_true, e3, e4, w1, w2, e5, obind_sm]
      exact ⟨_, _, rfl, k5.mono (by omega), sv.b⟩
    | false =>
      obtain ⟨r3, s3, e3, k3, p3, q3, _⟩ := dr_pick k2 (by omega) (n := 7) (by omega)
      have q3' := q3 (by omega)
      have w1 : wr (1 + r3) = 1 + r3 := wr_id (by omega) (by omega)
      obtain ⟨N, hN⟩ := Int.eq_ofNat_of_zero_le (a := 1 + r3) (by omega)
      obtain ⟨⟨c1, c2, c3, c4⟩, f1, f2, f3, f4⟩ := loopT_ex (step := s0_spec_l05Stroke) (fun i (t : (Sl UInt8) × Int × Int × (Sl Point) × Int) => SK ⟨t.1, t.2.1, t.2.2.1⟩ (k + 6 + 4 * i) ∧ (t.2.2.2.1.getD []).length = i ∧ (∀ p ∈ t.2.2.2.1.getD [], PtB p) ∧ t.2.2.2.2 = N - (i : Int))
        N (fun r => SK ⟨r.1, r.2.1, r.2.2.1⟩ (k + 6 + 4 * N) ∧ (r.2.2.2.getD []).length = N ∧ ∀ p ∈ r.2.2.2.getD [], PtB p)
        (fun i ⟨v1, v2, v3, v4, v5⟩ hi ⟨g1, g2, g3, g4⟩ => by
          simp only at g1 g2 g3 g4
          obtain ⟨r4, s4, e4, k4, p4, q4, _⟩ := dr_pick g1 (by omega) (n := 9) (by omega)
          obtain ⟨r5, s5, e5, k5, p5, q5, _⟩ := dr_pick k4 (by omega) (n := 9) (by omega)
          have q4' := q4 (by omega)
          have q5' := q5 (by omega)
          have a0 := appO_one v4 (⟨r4, r5, (((v4.getD []).length : Nat) : Int)⟩ : Point) (by omega)
          have a0' : appS v4 [(⟨r4, r5, (((v4.getD []).length : Nat) : Int)⟩ : Point)] = some (v4.getD [] ++ [⟨r4, r5, (((v4.getD []).length : Nat) : Int)⟩]) := appS_cons _ _ _
          have a5 : wr (v5 - 1) = v5 - 1 := wr_id (by omega) (by omega)
          have c : 0 < v5 := by omega
          have e : s0_spec_l05Stroke (v1, v2, v3, v4, v5) = some (.inl (s5.code, s5.pos, s5.seed, some (v4.getD [] ++ [⟨r4, r5, (((v4.getD []).length : Nat) : Int)⟩]), v5 - 1)) := by
            unfold s0_spec_l05Stroke
            simp only [c, decide_true, cond_true, e4, e5, obind_sm, a0, a0', a5]
          refine .inl ⟨_, e, k5.mono (by omega), by simp [g2], fun p hp => ?_, by simp only; omega⟩
          rcases List.mem_append.1 hp with hp | hp
          · exact g3 p hp
          · simp only [List.mem_singleton] at hp
            subst hp
            exact ⟨by simp only; omega, by simp only; omega, by simp only; omega, by simp only; omega, by simp only; omega, by simp only; omega⟩)
        (fun ⟨v1, v2, v3, v4, v5⟩ ⟨g1, g2, g3, g4⟩ => by
          simp only at g1 g2 g3 g4
          have c : ¬ 0 < v5 := by omega
          have e : s0_spec_l05Stroke (v1, v2, v3, v4, v5) = some (.inr (v1, v2, v3, v4)) := by
            unfold s0_spec_l05Stroke
            simp only [c, decide_false, cond_false]
          exact ⟨_, e, g1, g2, g3⟩)
        (s := (s3.code, s3.pos, s3.seed, none, 1 + r3)) ⟨k3.mono (by omega), rfl, fun p hp => (by cases hp), by simp only; omega⟩
      simp only at f2 f3 f4
      simp only [cond_false, e3, w1, obind_sm]
      rw [f1]
      exact ⟨_, _, rfl, f2.mono (by omega), by simp only; omega, f4⟩

def vP (p : Point) : Bool := within p.x 0 4095 && within p.y 0 4095 && within p.t 0 3600000

def fV (l : List Point) (k : Nat) (a : Point) : Option Bool := bif (!vP a || (decide (0 < k) && decide (a.t ≤ (l.getD (k - 1) ⟨0, 0, 0⟩).t))) then some false else none

/-- The points are those of a stroke that is one. -/
def vS (l : List Point) : Bool := match firstL (fV l) l 0 with
  | none => decide (1 ≤ l.length) && decide (l.length ≤ 60)
  | some r => r

theorem l02Point_vP (p : Point) : t_spec_l02Point p = some (vP p) := by
  unfold t_spec_l02Point vP
  simp only [obind_sm]
  cases within p.x 0 4095 <;> cases within p.y 0 4095 <;> cases within p.t 0 3600000 <;> rfl

theorem vP_iff {p : Point} : vP p = true ↔ PtV p := by
  unfold vP within
  simp only [Bool.and_eq_true, decide_eq_true_eq]
  constructor
  · rintro ⟨⟨⟨h1, h2⟩, h3, h4⟩, h5, h6⟩
    exact ⟨h1, h2, h3, h4, h5, h6⟩
  · rintro ⟨h1, h2, h3, h4, h5, h6⟩
    exact ⟨⟨⟨h1, h2⟩, h3, h4⟩, h5, h6⟩

theorem prev_get {A : Type} {l : List A} {k : Nat} {d : A} (hk : k < l.length) (h0 : 0 < k) (hl : l.length ≤ 4294967296) : getI l (wr ((k : Int) - 1)) = some (l.getD (k - 1) d) := by
  have w : wr ((k : Int) - 1) = ((k - 1 : Nat) : Int) := by rw [wr_id (by omega) (by omega)]; omega
  rw [w]
  apply getI_nat
  rw [List.getD_eq_getElem?_getD, List.getElem?_eq_getElem (by omega)]
  rfl

theorem l02Stroke_vS (s : Stroke) (hl : (s.points.getD []).length ≤ 4294967296) : t_spec_l02Stroke s = some (vS (s.points.getD [])) := by
  obtain ⟨l, hL⟩ : ∃ l, s.points.getD [] = l := ⟨_, rfl⟩
  rw [hL] at hl ⊢
  have lp := loopT_first (step := s0_spec_l02Stroke s) l (fV l) (.inl ()) .inr
    (fun k a ha => by
      have hk := get_lt ha
      have c : (k : Int) < (l.length : Nat) := by omega
      have ws := wr_succ hk hl
      unfold s0_spec_l02Stroke fV
      simp only [hL, c, decide_true, cond_true, getI_nat ha, obind_sm, l02Point_vP, ws]
      by_cases k0 : k = 0
      · have D1 : decide ((0 : Int) < (k : Int)) = false := decide_eq_false (by omega)
        have D2 : decide (0 < k) = false := decide_eq_false (by omega)
        rw [D1, D2]
        cases vP a <;> rfl
      · have D1 : decide ((0 : Int) < (k : Int)) = true := decide_eq_true (by omega)
        have D2 : decide (0 < k) = true := decide_eq_true (by omega)
        rw [D1, D2, prev_get (d := ⟨0, 0, 0⟩) hk (by omega) hl]
        simp only [obind_sm]
        cases vP a <;> cases decide (a.t ≤ (l.getD (k - 1) ⟨0, 0, 0⟩).t) <;> rfl)
    (by
      unfold s0_spec_l02Stroke
      simp only [hL, Int.lt_irrefl, decide_false, cond_false])
  have d1 : within ((l.length : Nat) : Int) 1 60 = (decide (1 ≤ l.length) && decide (l.length ≤ 60)) := by
    unfold within
    congr 1 <;> exact decide_eq_decide.2 (by omega)
  unfold t_spec_l02Stroke vS
  rw [lp]
  cases firstL (fV l) l 0 with
  | none =>
    simp only [obind_sm, hL, d1]
  | some r => rfl

theorem firstL_no {A R : Type} {f : Nat → A → Option R} : ∀ {l : List A} {k : Nat}, firstL f l k = none → ∀ i a, l[i]? = some a → f (k + i) a = none
  | [], _, _, i, a, ha => by simp at ha
  | b :: l, k, h, i, a, ha => by
    unfold firstL at h
    cases e : f k b with
    | some r => rw [e] at h; cases h
    | none =>
      rw [e] at h
      cases i with
      | zero =>
        simp only [List.getElem?_cons_zero, Option.some.injEq] at ha
        subst ha
        exact e
      | succ i =>
        have := firstL_no h i a (by simpa using ha)
        rw [← this]
        congr 1
        omega

theorem firstL_so {A R : Type} {f : Nat → A → Option R} : ∀ {l : List A} {k : Nat} {r : R}, firstL f l k = some r → ∃ i a, f i a = some r
  | [], _, _, h => by cases h
  | b :: l, k, r, h => by
    unfold firstL at h
    cases e : f k b with
    | some r' => rw [e] at h; cases h; exact ⟨k, b, e⟩
    | none => rw [e] at h; exact firstL_so h

theorem vS_iff {l : List Point} : vS l = true ↔ StV l := by
  unfold vS
  constructor
  · intro h
    cases e : firstL (fV l) l 0 with
    | some r =>
      rw [e] at h
      simp only at h
      subst h
      obtain ⟨i, a, hf⟩ := firstL_so e
      unfold fV at hf
      cases h2 : (!vP a || (decide (0 < i) && decide (a.t ≤ (l.getD (i - 1) ⟨0, 0, 0⟩).t))) <;> rw [h2] at hf <;> cases hf
    | none =>
      rw [e] at h
      simp only [Bool.and_eq_true, decide_eq_true_eq] at h
      have no := firstL_no e
      have no' : ∀ i a, l[i]? = some a → vP a = true ∧ (0 < i → (l.getD (i - 1) ⟨0, 0, 0⟩).t < a.t) := fun i a ha => by
        have h1 := no i a ha
        rw [Nat.zero_add] at h1
        unfold fV at h1
        cases h2 : (!vP a || (decide (0 < i) && decide (a.t ≤ (l.getD (i - 1) ⟨0, 0, 0⟩).t))) with
        | true => rw [h2] at h1; cases h1
        | false =>
          simp only [Bool.or_eq_false_iff, Bool.not_eq_false', Bool.and_eq_false_iff, decide_eq_false_iff_not] at h2
          exact ⟨h2.1, fun h3 => by rcases h2.2 with h4 | h4 <;> omega⟩
      refine ⟨fun p hp => ?_, fun k p q h1 h2 => ?_, h.1, h.2⟩
      · obtain ⟨i, hi⟩ := List.mem_iff_getElem?.1 hp
        exact vP_iff.1 (no' i p hi).1
      · have h3 := (no' (k + 1) q h2).2 (by omega)
        rw [Nat.add_sub_cancel, List.getD_eq_getElem?_getD, h1] at h3
        exact h3
  · intro h
    have e : firstL (fV l) l 0 = none := firstL_none fun i a ha => by
      rw [Nat.zero_add]
      unfold fV
      have h1 := vP_iff.2 (h.pts a (List.mem_of_getElem? ha))
      have h2 : (decide (0 < i) && decide (a.t ≤ (l.getD (i - 1) ⟨0, 0, 0⟩).t)) = false := by
        by_cases c : 0 < i
        · obtain ⟨p, hp⟩ : ∃ p, l[i - 1]? = some p := ⟨l[i - 1]'(by have := get_lt ha; omega), List.getElem?_eq_getElem _⟩
          have h3 := h.inc (i - 1) p a hp (by rw [Nat.sub_add_cancel c]; exact ha)
          rw [List.getD_eq_getElem?_getD, hp]
          have : ¬ a.t ≤ p.t := by omega
          simp [this]
        · simp [c]
      rw [h1, h2]
      rfl
    rw [e]
    have h1 := h.n1
    have h2 := h.n2
    simp [h1, h2]

theorem StB.le {s : Stroke} (h : StB s) : (s.points.getD []).length ≤ 4294967296 := Nat.le_trans h.n (by omega)

def pt (l : List Point) (i : Nat) : Point := l.getD i ⟨0, 0, 0⟩

theorem get_pt {l : List Point} {i : Nat} (h : i < l.length) : getI l ((i : Nat) : Int) = some (pt l i) := by
  apply getI_nat
  unfold pt
  rw [List.getD_eq_getElem?_getD, List.getElem?_eq_getElem h]
  rfl

/-- One pair lies ahead of another. -/
def Pre (p q i j : Nat) : Prop := (i = p + 1 ∧ j = q + 1) ∨ (i = p + 1 ∧ j = q) ∨ (i = p ∧ j = q + 1)

/-- A path's cost, from the first pair on. -/
inductive Pth (C : Nat → Nat → Int) (R : Nat → Nat → Prop) : Nat → Nat → Int → Prop
  | start : R 0 0 → Pth C R 0 0 (C 0 0)
  | step {p q i j : Nat} {c : Int} : Pth C R p q c → Pre p q i j → R i j → Pth C R i j (c + C i j)

/-- The least cost of the paths to a pair, `B` where there is none. -/
def Opt (B : Int) (C : Nat → Nat → Int) (R : Nat → Nat → Prop) (i j : Nat) (v : Int) : Prop :=
  (v = B ∧ ∀ c, ¬ Pth C R i j c) ∨ (v < B ∧ Pth C R i j v ∧ ∀ c, Pth C R i j c → v ≤ c)

theorem Opt.le {B : Int} {C : Nat → Nat → Int} {R : Nat → Nat → Prop} {i j : Nat} {v : Int} (h : Opt B C R i j v) : v ≤ B := by
  rcases h with ⟨h, _⟩ | ⟨h, _⟩ <;> omega

theorem Pth.mono {C D : Nat → Nat → Int} {R S : Nat → Nat → Prop} {i j : Nat} {c : Int} (h : Pth C R i j c) (hR : ∀ p q, p ≤ i → q ≤ j → R p q → S p q) (hC : ∀ p q, p ≤ i → q ≤ j → C p q = D p q) : Pth D S i j c := by
  induction h with
  | start h =>
    rw [hC 0 0 (Nat.le_refl _) (Nat.le_refl _)]
    exact .start (hR 0 0 (Nat.le_refl _) (Nat.le_refl _) h)
  | @step p q i j c h1 h2 h3 ih =>
    have hle : p ≤ i ∧ q ≤ j := by rcases h2 with h | h | h <;> omega
    rw [hC i j (Nat.le_refl _) (Nat.le_refl _)]
    exact .step (ih (fun a b h4 h5 => hR a b (by omega) (by omega)) (fun a b h4 h5 => hC a b (by omega) (by omega))) h2 (hR i j (Nat.le_refl _) (Nat.le_refl _) h3)

def fAt (l : List Feat) (i : Nat) : Feat := l.getD i ⟨0, 0, 0⟩

def siz (x : Int) : Int := if x < 0 then -x else x

def fcost (a b : Feat) : Int := siz (a.x - b.x) + siz (a.y - b.y) + 16 * min (siz (a.d - b.d)) (8 - siz (a.d - b.d))

/-- A table's entry. -/
def Val (T : List (Sl Int)) (p q : Nat) (v : Int) : Prop := ∃ row, T[p]? = some (some row) ∧ row[q]? = some v

abbrev far : Int := 1099511627776

abbrev elC (a b : List Feat) : Nat → Nat → Int := fun i j => fcost (fAt a i) (fAt b j)

abbrev elR (band : Int) : Nat → Nat → Prop := fun i j => siz ((i : Int) - (j : Int)) ≤ band

/-- The table's rows ahead of `i`, and `j` entries of row `i`, are the least costs. -/
structure Tbl (a b : List Feat) (band : Int) (i j : Nat) (T : List (Sl Int)) : Prop where
  len : T.length = a.length
  val : ∀ p q, q < b.length → (p < i ∨ p = i ∧ q < j) → ∃ v, Val T p q v ∧ Opt far (elC a b) (elR band) p q v

theorem Val.set {T : List (Sl Int)} {i j p q : Nat} {row : List Int} {v w : Int} (hr : T[i]? = some (some row)) (hj : j < row.length) :
    Val (T.set i (some (row.set j w))) p q v ↔ (p = i ∧ q = j ∧ v = w) ∨ (¬ (p = i ∧ q = j) ∧ Val T p q v) := by
  have hi := get_lt hr
  unfold Val
  constructor
  · rintro ⟨r, h1, h2⟩
    by_cases c : i = p
    · subst c
      rw [List.getElem?_set_self hi] at h1
      cases h1
      by_cases d : j = q
      · subst d
        rw [List.getElem?_set_self hj] at h2
        cases h2
        exact .inl ⟨rfl, rfl, rfl⟩
      · rw [List.getElem?_set_ne d] at h2
        exact .inr ⟨fun h => d h.2.symm, row, hr, h2⟩
    · rw [List.getElem?_set_ne c] at h1
      exact .inr ⟨fun h => c h.1.symm, r, h1, h2⟩
  · rintro (⟨rfl, rfl, rfl⟩ | ⟨hne, r, h1, h2⟩)
    · exact ⟨_, List.getElem?_set_self hi, List.getElem?_set_self hj⟩
    · by_cases c : i = p
      · subst c
        rw [hr] at h1
        cases h1
        have d : j ≠ q := fun h => hne ⟨rfl, h.symm⟩
        exact ⟨_, List.getElem?_set_self hi, by rw [List.getElem?_set_ne d]; exact h2⟩
      · exact ⟨r, by rw [List.getElem?_set_ne c]; exact h1, h2⟩

theorem Tbl.step {a b : List Feat} {band : Int} {i j : Nat} {T : List (Sl Int)} {row : List Int} {v : Int} (h : Tbl a b band i j T) (hr : T[i]? = some (some row)) (hj : j < row.length) (ho : Opt far (elC a b) (elR band) i j v) : Tbl a b band i (j + 1) (T.set i (some (row.set j v))) := by
  refine ⟨by simp [h.len], fun p q hq hpq => ?_⟩
  by_cases e : p = i ∧ q = j
  · obtain ⟨rfl, rfl⟩ := e
    exact ⟨v, (Val.set hr hj).2 (.inl ⟨rfl, rfl, rfl⟩), ho⟩
  · obtain ⟨w, h1, h2⟩ := h.val p q hq (by omega)
    exact ⟨w, (Val.set hr hj).2 (.inr ⟨e, h1⟩), h2⟩

/-- A path through rows from the first one on, from any column `f`. -/
def PF (C : Nat → Nat → Int) (f i j : Nat) (c : Int) : Prop := f ≤ j ∧ Pth (fun p q => C p (q + f)) (fun _ _ => True) i (j - f) c

theorem PF.start {C : Nat → Nat → Int} (j : Nat) : PF C j 0 j (C 0 j) := by
  refine ⟨Nat.le_refl _, ?_⟩
  have h := Pth.start (C := fun p q => C p (q + j)) (R := fun _ _ => True) trivial
  simp only [Nat.zero_add] at h
  rw [Nat.sub_self]
  exact h

theorem PF.step {C : Nat → Nat → Int} {f p q i j : Nat} {c : Int} (h : PF C f p q c) (hp : Pre p q i j) : PF C f i j (c + C i j) := by
  obtain ⟨h1, h2⟩ := h
  have hj : q ≤ j := by unfold Pre at hp; omega
  refine ⟨by omega, ?_⟩
  have h3 : Pth (fun p q => C p (q + f)) (fun _ _ => True) i (j - f) (c + C i (j - f + f)) := Pth.step (i := i) (j := j - f) h2 (by unfold Pre at *; omega) trivial
  rw [Nat.sub_add_cancel (by omega)] at h3
  exact h3

/-- The least of the paths to a pair, and where it begins. -/
def PO (C : Nat → Nat → Int) (i j : Nat) (x : Part) : Prop := ∃ f : Nat, x.frm = (f : Int) ∧ PF C f i j x.cost ∧ ∀ g c, PF C g i j c → x.cost ≤ c

def PVal (T : List (Sl Part)) (p q : Nat) (v : Part) : Prop := ∃ row, T[p]? = some (some row) ∧ row[q]? = some v

theorem PVal.set {T : List (Sl Part)} {i j p q : Nat} {row : List Part} {v w : Part} (hr : T[i]? = some (some row)) (hj : j < row.length) :
    PVal (T.set i (some (row.set j w))) p q v ↔ (p = i ∧ q = j ∧ v = w) ∨ (¬ (p = i ∧ q = j) ∧ PVal T p q v) := by
  have hi := get_lt hr
  unfold PVal
  constructor
  · rintro ⟨r, h1, h2⟩
    by_cases c : i = p
    · subst c
      rw [List.getElem?_set_self hi] at h1
      cases h1
      by_cases d : j = q
      · subst d
        rw [List.getElem?_set_self hj] at h2
        cases h2
        exact .inl ⟨rfl, rfl, rfl⟩
      · rw [List.getElem?_set_ne d] at h2
        exact .inr ⟨fun h => d h.2.symm, row, hr, h2⟩
    · rw [List.getElem?_set_ne c] at h1
      exact .inr ⟨fun h => c h.1.symm, r, h1, h2⟩
  · rintro (⟨rfl, rfl, rfl⟩ | ⟨hne, r, h1, h2⟩)
    · exact ⟨_, List.getElem?_set_self hi, List.getElem?_set_self hj⟩
    · by_cases c : i = p
      · subst c
        rw [hr] at h1
        cases h1
        have d : j ≠ q := fun h => hne ⟨rfl, h.symm⟩
        exact ⟨_, List.getElem?_set_self hi, by rw [List.getElem?_set_ne d]; exact h2⟩
      · exact ⟨r, by rw [List.getElem?_set_ne c]; exact h1, h2⟩

/-- The entries ahead of a place are the least parts. -/
structure PTbl (a b : List Feat) (i j : Nat) (T : List (Sl Part)) : Prop where
  len : T.length = a.length
  rows : ∀ (k : Nat) (row : List Part), T[k]? = some (some row) → row.length = b.length
  val : ∀ p q, q < b.length → (p < i ∨ p = i ∧ q < j) → ∃ v, PVal T p q v ∧ PO (elC a b) p q v

theorem rows_set {m : Nat} {T : List (Sl Part)} {i : Nat} {r : List Part} (h : ∀ (k : Nat) (row : List Part), T[k]? = some (some row) → row.length = m) (hr : r.length = m) : ∀ (k : Nat) (row : List Part), (T.set i (some r))[k]? = some (some row) → row.length = m := by
  intro k row hk
  by_cases c : i = k
  · subst c
    have hlt := get_lt hk
    rw [List.length_set] at hlt
    rw [List.getElem?_set_self hlt] at hk
    cases hk
    exact hr
  · rw [List.getElem?_set_ne c] at hk
    exact h k row hk

theorem PTbl.step {a b : List Feat} {i j : Nat} {T : List (Sl Part)} {row : List Part} {v : Part} (h : PTbl a b i j T) (hr : T[i]? = some (some row)) (hj : j < b.length) (ho : PO (elC a b) i j v) : PTbl a b i (j + 1) (T.set i (some (row.set j v))) := by
  have hl := h.rows _ _ hr
  refine ⟨by rw [List.length_set, h.len], rows_set h.rows (by rw [List.length_set, hl]), fun p q hq hpq => ?_⟩
  by_cases e : p = i ∧ q = j
  · obtain ⟨rfl, rfl⟩ := e
    exact ⟨v, (PVal.set hr (by omega)).2 (.inl ⟨rfl, rfl, rfl⟩), ho⟩
  · obtain ⟨w, h1, h2⟩ := h.val p q hq (by omega)
    exact ⟨w, (PVal.set hr (by omega)).2 (.inr ⟨e, h1⟩), h2⟩

def d2 (a b : Point) : Int := (a.x - b.x) * (a.x - b.x) + (a.y - b.y) * (a.y - b.y)

theorem pt_some {l : List Point} {k : Nat} (hk : k < l.length) : l[k]? = some (pt l k) := (getI_iff.1 (get_pt hk)).2

/-- One box is in another one. -/
structure InB (a b : Box) : Prop where
  x1 : b.x1 ≤ a.x1
  y1 : b.y1 ≤ a.y1
  x2 : a.x2 ≤ b.x2
  y2 : a.y2 ≤ b.y2

theorem InB.refl (a : Box) : InB a a := ⟨Int.le_refl _, Int.le_refl _, Int.le_refl _, Int.le_refl _⟩

theorem InB.trans {a b c : Box} (h : InB a b) (g : InB b c) : InB a c := ⟨Int.le_trans g.x1 h.x1, Int.le_trans g.y1 h.y1, Int.le_trans h.x2 g.x2, Int.le_trans h.y2 g.y2⟩

theorem join_l (a b : Box) : InB a (joinBox a b) := by unfold joinBox; exact ⟨by simp only; omega, by simp only; omega, by simp only; omega, by simp only; omega⟩

theorem join_r (a b : Box) : InB b (joinBox a b) := by unfold joinBox; exact ⟨by simp only; omega, by simp only; omega, by simp only; omega, by simp only; omega⟩

theorem join_min {a b c : Box} (h : InB a c) (g : InB b c) : InB (joinBox a b) c := by
  obtain ⟨h1, h2, h3, h4⟩ := h
  obtain ⟨g1, g2, g3, g4⟩ := g
  unfold joinBox
  exact ⟨by simp only; omega, by simp only; omega, by simp only; omega, by simp only; omega⟩

theorem InB.anti {a b : Box} (h : InB a b) (g : InB b a) : a = b := by
  obtain ⟨h1, h2, h3, h4⟩ := h
  obtain ⟨g1, g2, g3, g4⟩ := g
  obtain ⟨a1, a2, a3, a4⟩ := a
  obtain ⟨b1, b2, b3, b4⟩ := b
  simp only at *
  have e1 : a1 = b1 := by omega
  have e2 : a2 = b2 := by omega
  have e3 : a3 = b3 := by omega
  have e4 : a4 = b4 := by omega
  subst e1 e2 e3 e4
  rfl

theorem join_in {a b : Box} (h : InB b a) : joinBox a b = a := (join_min (InB.refl a) h).anti (join_l a b)

theorem quo_nn {n d : Int} (h0 : 0 ≤ n) (h1 : n ≤ 1000000000) (hd : 0 < d) : quoI n d = some (n / d) ∧ remI n d = some (n % d) := by
  have z : ¬ d = 0 := by omega
  unfold quoI remI
  have q0 := Int.ediv_nonneg h0 (Int.le_of_lt hd)
  have q1 : n / d ≤ n := Int.ediv_le_self d h0
  simp only [z, decide_false, cond_false, Int.tdiv_eq_ediv_of_nonneg h0, Int.tmod_eq_emod_of_nonneg h0]
  exact ⟨by rw [wr_id (by omega) (by omega)], by first | rfl | trivial⟩

/-- A list that is built by a loop, element by element. -/
theorem buildLoop {A : Type} (l : List A) {n : Nat} (hn : l.length = n) (h1 : n ≤ 1000) (i0 : Nat) (s0 : Sl A) (hs0 : s0.getD [] = []) (step : ((Sl A) × Int) → Option (Sum ((Sl A) × Int) (Sl A)))
    (next : ∀ (w : Sl A) (k : Nat) a, l[k]? = some a → step (w, ((k + i0 : Nat) : Int)) = obind (appO w [a]) fun _ => some (.inl (appS w [a], wr (((k + i0 : Nat) : Int) + 1))))
    (hi0 : i0 ≤ 1000) (fin : ∀ (w : Sl A), step (w, ((n + i0 : Nat) : Int)) = some (.inr w)) : ∃ q, loopT step (s0, (i0 : Int)) = some q ∧ q.getD [] = l := by
  have h := loopT_ex (step := step) (fun k t => t.1.getD [] = l.take k ∧ t.2 = ((k + i0 : Nat) : Int)) n (fun q => q.getD [] = l)
    (fun k ⟨w, i⟩ hk ⟨g1, g2⟩ => by
      simp only at g1 g2
      subst g2
      obtain ⟨a, ha⟩ : ∃ a, l[k]? = some a := ⟨l[k]'(by omega), List.getElem?_eq_getElem _⟩
      have e := next w k a ha
      have ws : wr (((k + i0 : Nat) : Int) + 1) = ((k + 1 + i0 : Nat) : Int) := by rw [wr_id (by omega) (by omega)]; omega
      rw [ws, appO_one w a (by rw [g1, List.length_take]; omega), obind_sm, appS_cons] at e
      refine .inl ⟨_, e, ?_, rfl⟩
      show w.getD [] ++ [a] = _
      rw [g1, List.take_add_one, ha]
      rfl)
    (fun ⟨w, i⟩ ⟨g1, g2⟩ => by
      simp only at g1 g2
      subst g2
      refine ⟨w, fin w, ?_⟩
      rw [g1, List.take_of_length_le (by omega)])
    (s := (s0, (i0 : Int))) ⟨by rw [hs0, List.take_zero], by simp⟩
  exact h

def spots (l : List Point) : List Spot := l.map fun p => ⟨p.x, p.y⟩

theorem specSpots_ok (s : Stroke) (hs : StB s) : ∃ q n, t_spec_SpotsOf s = some (q, n) ∧ ((vS (s.points.getD []) = false ∧ n = 1 ∧ q.getD [] = []) ∨ (vS (s.points.getD []) = true ∧ n = 0 ∧ q.getD [] = spots (s.points.getD []))) := by
  unfold t_spec_SpotsOf
  rw [l02Stroke_vS s hs.le]
  cases hv : vS (s.points.getD []) with
  | false => exact ⟨_, _, rfl, .inl ⟨rfl, rfl, rfl⟩⟩
  | true =>
    have h := vS_iff.1 hv
    have n2 := h.n2
    obtain ⟨q, e, hq⟩ := buildLoop (spots (s.points.getD [])) (n := (s.points.getD []).length) (by simp [spots]) (by omega) 0 (some []) rfl (s0_spec_SpotsOf s) (fun w k a ha => by
      have hk : k < (s.points.getD []).length := by have := get_lt ha; simpa [spots] using this
      have c : (k : Int) < (((s.points.getD []).length : Nat) : Int) := by omega
      have ea : a = ⟨(pt (s.points.getD []) k).x, (pt (s.points.getD []) k).y⟩ := by
        unfold spots at ha
        rw [List.getElem?_map, pt_some hk] at ha
        exact (Option.some.inj ha).symm
      subst ea
      unfold s0_spec_SpotsOf t_spec_l06Spot
      simp only [Nat.add_zero, c, decide_true, cond_true, get_pt hk, obind_sm]) (by omega) (fun w => by
      unfold s0_spec_SpotsOf
      simp only [Nat.add_zero, Int.lt_irrefl, decide_false, cond_false])
    have e' : loopT (s0_spec_SpotsOf s) (some [], 0) = some q := e
    refine ⟨q, 0, ?_, .inr ⟨rfl, rfl, hq⟩⟩
    simp only [obind_sm, Bool.not_true, cond_false, e']

def fE (b : List Spot) (k : Nat) (x : Spot) : Option Bool := bif !decide (x = b.getD k ⟨0, 0⟩) then some false else none

def sameL (a b : List Spot) : Bool := decide (a.length = b.length) && (match firstL (fE b) a 0 with | none => true | some r => r)

theorem sameL_refl (a : List Spot) : sameL a a = true := by
  have e : firstL (fE a) a 0 = none := firstL_none fun i x hx => by
    unfold fE
    rw [Nat.zero_add, List.getD_eq_getElem?_getD, hx]
    simp
  unfold sameL
  rw [e]
  simp

theorem sameS_ok (a b : Sl Spot) (hl : (a.getD []).length ≤ 1000000) : t_impl_SameSpots a b = some (sameL (a.getD []) (b.getD [])) ∧ t_spec_SameSpots a b = some (sameL (a.getD []) (b.getD [])) := by
  unfold t_impl_SameSpots t_spec_SameSpots t_slices_Equal_impl_Spot_impl_Spot t_spec_l06Same sameL
  have dl : decide ((((a.getD []).length : Nat) : Int) = (((b.getD []).length : Nat) : Int)) = decide ((a.getD []).length = (b.getD []).length) := decide_eq_decide.2 (by omega)
  rw [dl]
  cases h : decide ((a.getD []).length = (b.getD []).length) with
  | false => exact ⟨rfl, rfl⟩
  | true =>
    have hl2 := of_decide_eq_true h
    have nx : ∀ (k : Nat) x, (a.getD [])[k]? = some x → getI (b.getD []) (k : Int) = some ((b.getD []).getD k ⟨0, 0⟩) := fun k x hx => by
      have hk := get_lt hx
      apply getI_nat
      rw [List.getD_eq_getElem?_getD, List.getElem?_eq_getElem (by omega)]
      rfl
    have l1 := loopT_first (step := s0_slices_Equal_impl_Spot_impl_Spot a b) (a.getD []) (fE (b.getD [])) (.inl ()) .inr
      (fun k x hx => by
        have hk := get_lt hx
        have c : (k : Int) < (((a.getD []).length : Nat) : Int) := by omega
        unfold s0_slices_Equal_impl_Spot_impl_Spot fE
        simp only [c, decide_true, cond_true, getI_nat hx, nx k x hx, obind_sm, wr_succ hk (Nat.le_trans hl (by decide))]
        cases decide (x = (b.getD []).getD k ⟨0, 0⟩) <;> rfl)
      (by
        unfold s0_slices_Equal_impl_Spot_impl_Spot
        simp only [Int.lt_irrefl, decide_false, cond_false])
    have l2 := loopT_first (step := s0_spec_l06Same a b) (a.getD []) (fE (b.getD [])) (.inl ()) .inr
      (fun k x hx => by
        have hk := get_lt hx
        have c : (k : Int) < (((a.getD []).length : Nat) : Int) := by omega
        unfold s0_spec_l06Same fE
        simp only [c, decide_true, cond_true, getI_nat hx, nx k x hx, obind_sm, wr_succ hk (Nat.le_trans hl (by decide))]
        cases decide (x = (b.getD []).getD k ⟨0, 0⟩) <;> rfl)
      (by
        unfold s0_spec_l06Same
        simp only [Int.lt_irrefl, decide_false, cond_false])
    simp only [Bool.not_true, cond_false, l1, l2, Bool.true_and]
    cases firstL (fE (b.getD [])) (a.getD []) 0 with
    | none => simp only [obind_sm]; constructor <;> first | rfl | trivial
    | some r => simp only [obind_sm]; constructor <;> first | rfl | trivial

theorem own_spots (s : Sl Spot) (hl : (s.getD []).length ≤ 1000) : appO (some ([] : List Spot)) (s.getD []) = some (some (s.getD [])) ∧ appS (some ([] : List Spot)) (s.getD []) = some (s.getD []) := by
  refine ⟨?_, rfl⟩
  rw [appO_some (by simp only [Option.getD_some, List.length_nil]; omega)]
  rfl

theorem ediv_is {a D z : Int} (hD : 0 < D) (h1 : z * D ≤ a) (h2 : a < z * D + D) : a / D = z := by
  have e1 := Int.le_ediv_of_mul_le hD h1
  have e2 : a / D < z + 1 := Int.ediv_lt_of_lt_mul hD (by rw [Int.add_mul, Int.one_mul]; exact h2)
  omega

theorem ediv_in {a D : Int} (hD : 0 < D) : a / D * D ≤ a ∧ a < a / D * D + D := by
  have e1 := Int.ediv_mul_le a (show D ≠ 0 by omega)
  have e2 := Int.lt_ediv_add_one_mul_self a hD
  rw [Int.add_mul, Int.one_mul] at e2
  exact ⟨e1, e2⟩

def nearQ (n d : Int) : Int := (2 * n + d) / (2 * d)

theorem nearQ_ok {n d : Int} (h0 : 0 ≤ n) (h1 : n ≤ 10000000) (hd : 0 < d) (hd2 : d ≤ 100000) : t_impl_nearestDiv n d = some (nearQ n d) ∧ t_spec_l05Near n d = some (nearQ n d) := by
  constructor
  · obtain ⟨e1, e2⟩ := quo_nn (n := n) (d := d) h0 (by omega) hd
    obtain ⟨b1, b2⟩ := ediv_in (a := n) hd
    have q0 := Int.ediv_nonneg h0 (Int.le_of_lt hd)
    have q1 : n / d ≤ n := Int.ediv_le_self d h0
    have m0 := Int.emod_nonneg n (show d ≠ 0 by omega)
    obtain ⟨q, hq⟩ : ∃ q, n / d = q := ⟨_, rfl⟩
    rw [hq] at e1 b1 b2 q0 q1
    have c : ¬ n % d < 0 := by omega
    have w1 : wr (q * d) = q * d := wr_id (by omega) (by omega)
    have w2 : wr (n - q * d) = n - q * d := wr_id (by omega) (by omega)
    have w3 : wr (d - (n - q * d)) = d - (n - q * d) := wr_id (by omega) (by omega)
    have w4 : wr (q + 1) = q + 1 := wr_id (by omega) (by omega)
    unfold t_impl_nearestDiv t_impl_floorDiv nearQ
    simp only [e1, e2, obind_sm, c, decide_false, cond_false, w1, w2, w3, w4]
    by_cases g : d - (n - q * d) ≤ n - q * d
    · have e : (2 * n + d) / (2 * d) = q + 1 := ediv_is (by omega) (by
        have : (q + 1) * (2 * d) = 2 * (q * d) + 2 * d := by grind
        omega) (by
        have : (q + 1) * (2 * d) = 2 * (q * d) + 2 * d := by grind
        omega)
      simp only [g, decide_true, cond_true, e]
    · have e : (2 * n + d) / (2 * d) = q := ediv_is (by omega) (by
        have : q * (2 * d) = 2 * (q * d) := by grind
        omega) (by
        have : q * (2 * d) = 2 * (q * d) := by grind
        omega)
      simp only [g, decide_false, cond_false, e]
  · have w1 : wr (2 * n) = 2 * n := wr_id (by omega) (by omega)
    have w2 : wr (2 * n + d) = 2 * n + d := wr_id (by omega) (by omega)
    have w3 : wr (2 * d) = 2 * d := wr_id (by omega) (by omega)
    obtain ⟨e1, e2⟩ := quo_nn (n := 2 * n + d) (d := 2 * d) (by omega) (by omega) (by omega)
    have m0 := Int.emod_nonneg (2 * n + d) (show 2 * d ≠ 0 by omega)
    have c : ¬ (2 * n + d) % (2 * d) < 0 := by omega
    unfold t_spec_l05Near t_spec_l05Down nearQ
    simp only [w1, w2, w3, e1, e2, obind_sm, c, decide_false, cond_false]

theorem nearQ_mono {n m d : Int} (h : n ≤ m) (hd : 0 < d) : nearQ n d ≤ nearQ m d := Int.ediv_le_ediv (by omega) (by omega)

theorem nearQ_nn {n d : Int} (h : 0 ≤ n) (hd : 0 < d) : 0 ≤ nearQ n d := Int.ediv_nonneg (by omega) (by omega)

theorem nearQ_0 {d : Int} (hd : 0 < d) : nearQ 0 d = 0 := ediv_is (by omega) (by omega) (by omega)

theorem nearQ_all {d : Int} (hd : 0 < d) : nearQ (d * 255) d = 255 := ediv_is (by omega) (by omega) (by omega)

theorem nearQ_le {n d : Int} (hd : 0 < d) : nearQ n d ≤ n / d + 1 := by
  obtain ⟨b1, b2⟩ := ediv_in (a := n) hd
  obtain ⟨q, hq⟩ : ∃ q, n / d = q := ⟨_, rfl⟩
  rw [hq] at b1 b2 ⊢
  have e : nearQ n d < q + 1 + 1 := Int.ediv_lt_of_lt_mul (by omega) (by
    have : (q + 1 + 1) * (2 * d) = 2 * (q * d) + 4 * d := by grind
    omega)
  omega

/-- One coordinate of a place in the normal square: of `u` in a width of `w`, for a side `S`. -/
def nrm1 (w S u : Int) : Int := (255 - w * 255 / S) / 2 + nearQ (u * 255) S

theorem nrm1_in {w S u : Int} (hw : 0 ≤ w) (hS : w ≤ S) (hS0 : 0 < S) (hu : 0 ≤ u) (huw : u ≤ w) : 0 ≤ nrm1 w S u ∧ nrm1 w S u ≤ 255 := by
  have m := nearQ_mono (n := u * 255) (m := w * 255) (d := S) (by omega) hS0
  have n0 := nearQ_nn (n := u * 255) (d := S) (by omega) hS0
  have q0 := Int.ediv_nonneg (show 0 ≤ w * 255 by omega) (Int.le_of_lt hS0)
  unfold nrm1
  by_cases e : w = S
  · subst e
    have e1 : w * 255 / w = 255 := ediv_is hS0 (by omega) (by omega)
    rw [nearQ_all hS0] at m
    rw [e1]
    omega
  · have l := nearQ_le (n := w * 255) hS0
    have q1 : w * 255 / S < 255 := Int.ediv_lt_of_lt_mul hS0 (by omega)
    omega

theorem nrm1_lo {S : Int} (hS0 : 0 < S) : nrm1 S S 0 = 0 := by
  have e1 : S * 255 / S = 255 := ediv_is hS0 (by omega) (by omega)
  unfold nrm1
  rw [e1, Int.zero_mul, nearQ_0 hS0]
  rfl

theorem nrm1_hi {S : Int} (hS0 : 0 < S) : nrm1 S S S = 255 := by
  have e1 : S * 255 / S = 255 := ediv_is hS0 (by omega) (by omega)
  unfold nrm1
  rw [e1, nearQ_all hS0]
  rfl

def side (b : Box) : Int := max (max (b.x2 - b.x1) (b.y2 - b.y1)) 1

def nrm (b : Box) (p : Spot) : Spot := ⟨nrm1 (b.x2 - b.x1) (side b) (p.x - b.x1), nrm1 (b.y2 - b.y1) (side b) (p.y - b.y1)⟩

structure BxV (b : Box) : Prop where
  v1 : 0 ≤ b.x1
  v2 : b.x1 ≤ b.x2
  v3 : b.x2 ≤ 4095
  v4 : 0 ≤ b.y1
  v5 : b.y1 ≤ b.y2
  v6 : b.y2 ≤ 4095

theorem validBox_iff {b : Box} : validBox b = true ↔ BxV b := by
  unfold validBox within
  simp only [Bool.and_eq_true, decide_eq_true_eq]
  constructor
  · rintro ⟨⟨⟨⟨h1, h2⟩, h3, h4⟩, h5⟩, h6⟩
    exact ⟨h1, h2, h5, h3, h4, h6⟩
  · rintro ⟨h1, h2, h3, h4, h5, h6⟩
    exact ⟨⟨⟨⟨h1, h2⟩, h4, h5⟩, h3⟩, h6⟩

def inQ (b : Box) (p : Spot) : Bool := within p.x b.x1 b.x2 && within p.y b.y1 b.y2

theorem inQ_iff {b : Box} {p : Spot} : inQ b p = true ↔ (b.x1 ≤ p.x ∧ p.x ≤ b.x2) ∧ (b.y1 ≤ p.y ∧ p.y ≤ b.y2) := by
  unfold inQ within
  simp only [Bool.and_eq_true, decide_eq_true_eq]

theorem nrm_in {b : Box} (hb : BxV b) {p : Spot} (hp : inQ b p = true) : (0 ≤ (nrm b p).x ∧ (nrm b p).x ≤ 255) ∧ (0 ≤ (nrm b p).y ∧ (nrm b p).y ≤ 255) := by
  obtain ⟨h1, h2⟩ := inQ_iff.1 hp
  obtain ⟨b1, b2, b3, b4, b5, b6⟩ := hb
  have s1 : b.x2 - b.x1 ≤ side b := by unfold side; omega
  have s2 : b.y2 - b.y1 ≤ side b := by unfold side; omega
  have s3 : 0 < side b := by unfold side; omega
  exact ⟨nrm1_in (by omega) s1 s3 (by omega) (by omega), nrm1_in (by omega) s2 s3 (by omega) (by omega)⟩

theorem nrm_ok {b : Box} (hb : BxV b) {p : Spot} (hp : inQ b p = true) : t_impl_normalSpot p b = some (nrm b p) ∧ t_spec_l07Normal p b = some (nrm b p) := by
  have hin := nrm_in hb hp
  obtain ⟨h1, h2⟩ := inQ_iff.1 hp
  obtain ⟨b1, b2, b3, b4, b5, b6⟩ := hb
  have w1 : wr (b.x2 - b.x1) = b.x2 - b.x1 := wr_id (by omega) (by omega)
  have w2 : wr (b.y2 - b.y1) = b.y2 - b.y1 := wr_id (by omega) (by omega)
  obtain ⟨S, hS⟩ : ∃ S, side b = S := ⟨_, rfl⟩
  have s0 : max (max (b.x2 - b.x1) (b.y2 - b.y1)) 1 = S := hS
  have s0' : max (1 : Int) (max (b.x2 - b.x1) (b.y2 - b.y1)) = S := by rw [Int.max_comm]; exact hS
  have s1 : b.x2 - b.x1 ≤ S := by rw [← hS]; unfold side; omega
  have s2 : b.y2 - b.y1 ≤ S := by rw [← hS]; unfold side; omega
  have s3 : 0 < S := by rw [← hS]; unfold side; omega
  have s4 : S ≤ 4095 := by rw [← hS]; unfold side; omega
  have w3 : wr ((b.x2 - b.x1) * 255) = (b.x2 - b.x1) * 255 := wr_id (by omega) (by omega)
  have w4 : wr ((b.y2 - b.y1) * 255) = (b.y2 - b.y1) * 255 := wr_id (by omega) (by omega)
  have w5 : wr (p.x - b.x1) = p.x - b.x1 := wr_id (by omega) (by omega)
  have w6 : wr (p.y - b.y1) = p.y - b.y1 := wr_id (by omega) (by omega)
  have w7 : wr ((p.x - b.x1) * 255) = (p.x - b.x1) * 255 := wr_id (by omega) (by omega)
  have w8 : wr ((p.y - b.y1) * 255) = (p.y - b.y1) * 255 := wr_id (by omega) (by omega)
  have q1 := (quo_nn (n := (b.x2 - b.x1) * 255) (d := S) (by omega) (by omega) s3).1
  have q2 := (quo_nn (n := (b.y2 - b.y1) * 255) (d := S) (by omega) (by omega) s3).1
  obtain ⟨n1, n1'⟩ := nearQ_ok (n := (p.x - b.x1) * 255) (d := S) (by omega) (by omega) s3 (by omega)
  obtain ⟨n2, n2'⟩ := nearQ_ok (n := (p.y - b.y1) * 255) (d := S) (by omega) (by omega) s3 (by omega)
  have left : ∀ w : Int, 0 ≤ w → w ≤ S → wr (255 - w * 255 / S) = 255 - w * 255 / S ∧ Int.tdiv (255 - w * 255 / S) 2 = (255 - w * 255 / S) / 2 ∧ wr ((255 - w * 255 / S) / 2) = (255 - w * 255 / S) / 2 := by
    intro w h h'
    have q0 := Int.ediv_nonneg (show 0 ≤ w * 255 by omega) (Int.le_of_lt s3)
    have q1 : w * 255 / S < 256 := Int.ediv_lt_of_lt_mul s3 (by omega)
    refine ⟨wr_id (by omega) (by omega), Int.tdiv_eq_ediv_of_nonneg (by omega), wr_id (by omega) (by omega)⟩
  obtain ⟨l1, l2, l3⟩ := left (b.x2 - b.x1) (by omega) s1
  obtain ⟨m1, m2, m3⟩ := left (b.y2 - b.y1) (by omega) s2
  have ex : (nrm b p).x = (255 - (b.x2 - b.x1) * 255 / S) / 2 + nearQ ((p.x - b.x1) * 255) S := by rw [← hS]; rfl
  have ey : (nrm b p).y = (255 - (b.y2 - b.y1) * 255 / S) / 2 + nearQ ((p.y - b.y1) * 255) S := by rw [← hS]; rfl
  have w9 : wr ((255 - (b.x2 - b.x1) * 255 / S) / 2 + nearQ ((p.x - b.x1) * 255) S) = (nrm b p).x := by rw [← ex]; exact wr_id (by omega) (by omega)
  have wa : wr ((255 - (b.y2 - b.y1) * 255 / S) / 2 + nearQ ((p.y - b.y1) * 255) S) = (nrm b p).y := by rw [← ey]; exact wr_id (by omega) (by omega)
  unfold t_impl_normalSpot t_impl_sideOfBox t_spec_l07Normal t_spec_l07Side
  simp only [w1, w2, s0, s0', obind_sm, w3, w4, w5, w6, w7, w8, q1, q2, n1, n1', n2, n2', l1, l2, l3, m1, m2, m3, w9, wa]
  exact ⟨trivial, trivial⟩

theorem normLoop {L : List Spot} {b : Box} (hl : L.length ≤ 1000) (s0 : Sl Spot) (hs0 : s0.getD [] = []) (step : ((Sl Spot) × Int) → Option (Sum ((Sl Spot) × Int) (Sum (Sl Spot) Int)))
    (good : ∀ (w : Sl Spot) (k : Nat) p, L[k]? = some p → inQ b p = true → step (w, (k : Int)) = obind (appO w [nrm b p]) fun _ => some (.inl (appS w [nrm b p], wr ((k : Int) + 1))))
    (bad : ∀ (w : Sl Spot) (k : Nat) p, L[k]? = some p → inQ b p = false → step (w, (k : Int)) = some (.inr (.inr 2)))
    (fin : ∀ (w : Sl Spot), step (w, ((L.length : Nat) : Int)) = some (.inr (.inl w))) :
    ((∀ p ∈ L, inQ b p = true) ∧ ∃ q, loopT step (s0, 0) = some (.inl q) ∧ q.getD [] = L.map (nrm b)) ∨ ((∃ p ∈ L, inQ b p = false) ∧ loopT step (s0, 0) = some (.inr 2)) := by
  obtain ⟨r, e, hr⟩ := loopT_ex (step := step) (fun k t => t.1.getD [] = (L.take k).map (nrm b) ∧ t.2 = (k : Int) ∧ ∀ p ∈ L.take k, inQ b p = true) L.length (fun r => ((∀ p ∈ L, inQ b p = true) ∧ ∃ q, r = .inl q ∧ q.getD [] = L.map (nrm b)) ∨ ((∃ p ∈ L, inQ b p = false) ∧ r = .inr 2))
    (fun k ⟨w, i⟩ hk ⟨g1, g2, g3⟩ => by
      simp only at g1 g2 g3
      subst g2
      obtain ⟨p, hp⟩ : ∃ p, L[k]? = some p := ⟨L[k], List.getElem?_eq_getElem hk⟩
      cases h : inQ b p with
      | true =>
        have e := good w k p hp h
        rw [wr_succ hk (by omega), appO_one w _ (by rw [g1, List.length_map, List.length_take]; omega), obind_sm, appS_cons] at e
        refine .inl ⟨_, e, ?_, rfl, fun q hq => ?_⟩
        · show w.getD [] ++ [nrm b p] = _
          rw [g1, List.take_add_one, hp]
          simp
        · rw [List.take_add_one, hp] at hq
          rcases List.mem_append.1 hq with hq | hq
          · exact g3 q hq
          · have : q = p := by simpa using hq
            subst this
            exact h
      | false => exact .inr ⟨_, bad w k p hp h, .inr ⟨⟨p, List.mem_of_getElem? hp, h⟩, rfl⟩⟩)
    (fun ⟨w, i⟩ ⟨g1, g2, g3⟩ => by
      simp only at g1 g2 g3
      subst g2
      rw [List.take_length] at g1 g3
      exact ⟨_, fin w, .inl ⟨g3, w, rfl, g1⟩⟩)
    (s := (s0, 0)) ⟨by rw [hs0]; rfl, rfl, fun p hp => by cases hp⟩
  rcases hr with ⟨h1, q, rfl, h2⟩ | ⟨h1, rfl⟩
  · exact .inl ⟨h1, q, e, h2⟩
  · exact .inr ⟨h1, e⟩

/-- What the places in the square are; the program's and the reference's are alike. -/
def NR (L : List Spot) (b : Box) (q : Sl Spot) (n : Int) : Prop := (n = 0 ∧ validBox b = true ∧ (∀ p ∈ L, inQ b p = true) ∧ q.getD [] = L.map (nrm b)) ∨ (q = none ∧ ((n = 1 ∧ validBox b = false) ∨ (n = 2 ∧ validBox b = true ∧ ∃ p ∈ L, inQ b p = false)))

theorem NR.same {L : List Spot} {b : Box} {q q' : Sl Spot} {n n' : Int} (h : NR L b q n) (h' : NR L b q' n') : n = n' ∧ q.getD [] = q'.getD [] := by
  rcases h with ⟨rfl, h1, h2, h3⟩ | ⟨rfl, ⟨rfl, h1⟩ | ⟨rfl, h1, p, h2, h3⟩⟩ <;> rcases h' with ⟨rfl, g1, g2, g3⟩ | ⟨rfl, ⟨rfl, g1⟩ | ⟨rfl, g1, p', g2, g3⟩⟩
  · exact ⟨rfl, by rw [h3, g3]⟩
  · rw [h1] at g1; cases g1
  · rw [h2 _ g2] at g3; cases g3
  · rw [h1] at g1; cases g1
  · exact ⟨rfl, rfl⟩
  · rw [h1] at g1; cases g1
  · rw [g2 _ h2] at h3; cases h3
  · rw [h1] at g1; cases g1
  · exact ⟨rfl, rfl⟩

theorem implNorm_ok (l : Sl Spot) (b : Box) (hl : (l.getD []).length ≤ 1000) : ∃ q n, t_impl_NormalSpots l b = some (q, n) ∧ NR (l.getD []) b q n := by
  unfold t_impl_NormalSpots
  cases hb : validBox b with
  | false => exact ⟨_, _, rfl, .inr ⟨rfl, .inl ⟨rfl, hb⟩⟩⟩
  | true =>
    have bv := validBox_iff.1 hb
    have lp := normLoop (b := b) hl none rfl (s0_impl_NormalSpots l b) (fun w k p hp h => by
      have hk := get_lt hp
      have c : (k : Int) < (((l.getD []).length : Nat) : Int) := by omega
      have n := (nrm_ok bv h).1
      unfold inQ at h
      rw [Bool.and_eq_true] at h
      unfold s0_impl_NormalSpots
      simp only [c, decide_true, cond_true, getI_nat hp, obind_sm, h.1, h.2, Bool.not_true, cond_false, n]) (fun w k p hp h => by
      have hk := get_lt hp
      have c : (k : Int) < (((l.getD []).length : Nat) : Int) := by omega
      unfold inQ at h
      unfold s0_impl_NormalSpots
      simp only [c, decide_true, cond_true, getI_nat hp, obind_sm]
      cases h1 : within p.x b.x1 b.x2 <;> cases h2 : within p.y b.y1 b.y2 <;> rw [h1, h2] at h <;> first | rfl | cases h) (fun w => by
      unfold s0_impl_NormalSpots
      simp only [Int.lt_irrefl, decide_false, cond_false])
    rcases lp with ⟨h1, q, e, h2⟩ | ⟨h1, e⟩
    · refine ⟨q, 0, ?_, .inl ⟨rfl, hb, h1, h2⟩⟩
      simp only [obind_sm, Bool.not_true, cond_false, e]
    · refine ⟨none, 2, ?_, .inr ⟨rfl, .inr ⟨rfl, hb, h1⟩⟩⟩
      simp only [obind_sm, Bool.not_true, cond_false, e]

theorem specNorm_ok (l : Sl Spot) (b : Box) (hl : (l.getD []).length ≤ 1000) : ∃ q n, t_spec_NormalSpots l b = some (q, n) ∧ NR (l.getD []) b q n := by
  unfold t_spec_NormalSpots
  cases hb : validBox b with
  | false => exact ⟨_, _, rfl, .inr ⟨rfl, .inl ⟨rfl, hb⟩⟩⟩
  | true =>
    have bv := validBox_iff.1 hb
    have lp := normLoop (b := b) hl (some []) rfl (s0_spec_NormalSpots l b) (fun w k p hp h => by
      have hk := get_lt hp
      have c : (k : Int) < (((l.getD []).length : Nat) : Int) := by omega
      have n := (nrm_ok bv h).2
      unfold inQ at h
      rw [Bool.and_eq_true] at h
      unfold s0_spec_NormalSpots
      simp only [c, decide_true, cond_true, getI_nat hp, obind_sm, h.1, h.2, Bool.not_true, cond_false, n]) (fun w k p hp h => by
      have hk := get_lt hp
      have c : (k : Int) < (((l.getD []).length : Nat) : Int) := by omega
      unfold inQ at h
      unfold s0_spec_NormalSpots
      simp only [c, decide_true, cond_true, getI_nat hp, obind_sm]
      cases h1 : within p.x b.x1 b.x2 <;> cases h2 : within p.y b.y1 b.y2 <;> rw [h1, h2] at h <;> first | rfl | cases h) (fun w => by
      unfold s0_spec_NormalSpots
      simp only [Int.lt_irrefl, decide_false, cond_false])
    rcases lp with ⟨h1, q, e, h2⟩ | ⟨h1, e⟩
    · refine ⟨q, 0, ?_, .inl ⟨rfl, hb, h1, h2⟩⟩
      simp only [obind_sm, Bool.not_true, cond_false, e]
    · refine ⟨none, 2, ?_, .inr ⟨rfl, .inr ⟨rfl, hb, h1⟩⟩⟩
      simp only [obind_sm, Bool.not_true, cond_false, e]

def sq : Box := ⟨0, 0, 4095, 4095⟩

def spt (l : List Spot) (i : Nat) : Spot := l.getD i ⟨0, 0⟩

theorem get_spt {l : List Spot} {i : Nat} (h : i < l.length) : getI l ((i : Nat) : Int) = some (spt l i) ∧ l[i]? = some (spt l i) := by
  have e : l[i]? = some (spt l i) := by
    unfold spt
    rw [List.getD_eq_getElem?_getD, List.getElem?_eq_getElem h]
    rfl
  exact ⟨getI_nat e, e⟩

def sbox (p : Spot) : Box := ⟨p.x, p.y, p.x, p.y⟩

def sbN (l : List Spot) : Nat → Box
  | 0 => sbox (spt l 0)
  | k + 1 => joinBox (sbN l k) (sbox (spt l k))

def sbS (l : List Spot) : Box := sbN l l.length

theorem sbN_in (l : List Spot) : ∀ {k i : Nat}, i < k → InB (sbox (spt l i)) (sbN l k)
  | 0, i, h => by omega
  | k + 1, i, h => by
    by_cases c : i = k
    · subst c
      exact join_r _ _
    · exact (sbN_in l (k := k) (by omega)).trans (join_l _ _)

theorem sbN_min {l : List Spot} {b : Box} (n1 : 1 ≤ l.length) (h : ∀ i, i < l.length → InB (sbox (spt l i)) b) : ∀ {k : Nat}, k ≤ l.length → InB (sbN l k) b
  | 0, _ => h 0 n1
  | k + 1, hk => join_min (sbN_min n1 h (k := k) (by omega)) (h k (by omega))

/-- The box's sides are reached. -/
theorem sbN_at (l : List Spot) (n1 : 1 ≤ l.length) : ∀ {k : Nat}, k ≤ l.length → (∃ i, i < l.length ∧ (spt l i).x = (sbN l k).x1) ∧ (∃ i, i < l.length ∧ (spt l i).x = (sbN l k).x2) ∧ (∃ i, i < l.length ∧ (spt l i).y = (sbN l k).y1) ∧ (∃ i, i < l.length ∧ (spt l i).y = (sbN l k).y2)
  | 0, _ => ⟨⟨0, n1, rfl⟩, ⟨0, n1, rfl⟩, ⟨0, n1, rfl⟩, ⟨0, n1, rfl⟩⟩
  | k + 1, hk => by
    obtain ⟨⟨i1, a1, a2⟩, ⟨i2, b1, b2⟩, ⟨i3, c1, c2⟩, ⟨i4, d1, d2⟩⟩ := sbN_at l n1 (k := k) (by omega)
    have e : sbN l (k + 1) = joinBox (sbN l k) (sbox (spt l k)) := rfl
    rw [e]
    unfold joinBox sbox
    simp only
    refine ⟨?_, ?_, ?_, ?_⟩
    · rcases Int.le_total (sbN l k).x1 (spt l k).x with h | h
      · exact ⟨i1, a1, by rw [Int.min_eq_left h]; exact a2⟩
      · exact ⟨k, hk, by rw [Int.min_eq_right h]⟩
    · rcases Int.le_total (sbN l k).x2 (spt l k).x with h | h
      · exact ⟨k, hk, by rw [Int.max_eq_right h]⟩
      · exact ⟨i2, b1, by rw [Int.max_eq_left h]; exact b2⟩
    · rcases Int.le_total (sbN l k).y1 (spt l k).y with h | h
      · exact ⟨i3, c1, by rw [Int.min_eq_left h]; exact c2⟩
      · exact ⟨k, hk, by rw [Int.min_eq_right h]⟩
    · rcases Int.le_total (sbN l k).y2 (spt l k).y with h | h
      · exact ⟨k, hk, by rw [Int.max_eq_right h]⟩
      · exact ⟨i4, d1, by rw [Int.max_eq_left h]; exact d2⟩

def fB (_ : Nat) (p : Spot) : Option Int := bif !inQ sq p then some 1 else none

def boxR (l : List Spot) : Box × Int := match firstL fB l 0 with
  | some r => (⟨0, 0, 0, 0⟩, r)
  | none => bif decide (l.length = 0) then (⟨0, 0, 0, 0⟩, 6) else (sbS l, 0)

theorem boxSp_ok (l : Sl Spot) (hl : (l.getD []).length ≤ 1000) : t_impl_BoxOfSpots l = some (boxR (l.getD [])) ∧ t_spec_BoxOfSpots l = some (boxR (l.getD [])) := by
  obtain ⟨L, hL⟩ : ∃ L, l.getD [] = L := ⟨_, rfl⟩
  have l1 := loopT_first (step := s0_impl_BoxOfSpots l) L fB (.inl ()) .inr
    (fun k p hp => by
      have hk := get_lt hp
      have c : (k : Int) < ((L.length : Nat) : Int) := by omega
      rw [hL] at hl
      unfold s0_impl_BoxOfSpots fB inQ sq
      simp only [hL, c, decide_true, cond_true, getI_nat hp, obind_sm, wr_succ hk (show L.length ≤ 4294967296 by omega)]
      cases within p.x 0 4095 <;> cases within p.y 0 4095 <;> rfl)
    (by
      unfold s0_impl_BoxOfSpots
      simp only [hL, Int.lt_irrefl, decide_false, cond_false])
  have l2 := loopT_first (step := s0_spec_BoxOfSpots l) L fB (.inl ()) .inr
    (fun k p hp => by
      have hk := get_lt hp
      have c : (k : Int) < ((L.length : Nat) : Int) := by omega
      rw [hL] at hl
      unfold s0_spec_BoxOfSpots t_spec_l07Spot fB inQ sq
      simp only [hL, c, decide_true, cond_true, getI_nat hp, obind_sm, wr_succ hk (show L.length ≤ 4294967296 by omega)]
      cases within p.x 0 4095 <;> cases within p.y 0 4095 <;> rfl)
    (by
      unfold s0_spec_BoxOfSpots
      simp only [hL, Int.lt_irrefl, decide_false, cond_false])
  unfold t_impl_BoxOfSpots t_spec_BoxOfSpots boxR
  rw [hL] at hl ⊢
  rw [l1, l2]
  cases firstL fB L 0 with
  | some r => exact ⟨rfl, rfl⟩
  | none =>
    have dz : decide (((L.length : Nat) : Int) = 0) = decide (L.length = 0) := decide_eq_decide.2 (by omega)
    simp only [obind_sm, dz]
    by_cases z : L.length = 0
    · simp only [z, decide_true, cond_true]
      exact ⟨trivial, trivial⟩
    · have g0 : getI L 0 = some (spt L 0) := (get_spt (l := L) (i := 0) (by omega)).1
      have a1 := loopT_at (step := s1_impl_BoxOfSpots l) L.length (fun k => ((sbN L k).x1, (sbN L k).y1, (sbN L k).x2, (sbN L k).y2, (k : Int))) ((sbS L).x1, (sbS L).y1, (sbS L).x2, (sbS L).y2)
        (fun k hk => by
          have c : (k : Int) < ((L.length : Nat) : Int) := by omega
          unfold s1_impl_BoxOfSpots
          simp only [hL, c, decide_true, cond_true, (get_spt hk).1, obind_sm, wr_succ hk (show L.length ≤ 4294967296 by omega)]
          rfl)
        (by
          unfold s1_impl_BoxOfSpots
          simp only [hL, Int.lt_irrefl, decide_false, cond_false]
          rfl)
        0 (Nat.zero_le _)
      have a1' : loopT (s1_impl_BoxOfSpots l) ((spt L 0).x, (spt L 0).y, (spt L 0).x, (spt L 0).y, 0) = some ((sbS L).x1, (sbS L).y1, (sbS L).x2, (sbS L).y2) := a1
      have a2 := loopT_at (step := s1_spec_BoxOfSpots l) (L.length - 1) (fun k => ((sbN L (k + 1)).x1, (sbN L (k + 1)).y1, (sbN L (k + 1)).x2, (sbN L (k + 1)).y2, ((k + 1 : Nat) : Int))) ((sbS L).x1, (sbS L).y1, (sbS L).x2, (sbS L).y2)
        (fun k hk => by
          have c : ((k + 1 : Nat) : Int) < ((L.length : Nat) : Int) := by omega
          have ws : wr (((k + 1 : Nat) : Int) + 1) = ((k + 1 + 1 : Nat) : Int) := by rw [wr_id (by omega) (by omega)]; omega
          unfold s1_spec_BoxOfSpots
          simp only [hL, c, decide_true, cond_true, (get_spt (l := L) (i := k + 1) (by omega)).1, obind_sm, ws]
          rfl)
        (by
          have e : L.length - 1 + 1 = L.length := by omega
          unfold s1_spec_BoxOfSpots
          simp only [hL, e, Int.lt_irrefl, decide_false, cond_false]
          rfl)
        0 (Nat.zero_le _)
      have b1 : sbN L 1 = sbox (spt L 0) := join_in (InB.refl _)
      simp only [Nat.zero_add, b1] at a2
      have a2' : loopT (s1_spec_BoxOfSpots l) ((spt L 0).x, (spt L 0).y, (spt L 0).x, (spt L 0).y, 1) = some ((sbS L).x1, (sbS L).y1, (sbS L).x2, (sbS L).y2) := a2
      simp only [z, decide_false, cond_false, g0, obind_sm, a1', a2']
      exact ⟨trivial, trivial⟩

theorem boxR_0 {l : List Spot} (h : (boxR l).2 = 0) : (∀ p ∈ l, inQ sq p = true) ∧ 1 ≤ l.length ∧ (boxR l).1 = sbS l := by
  unfold boxR at h ⊢
  cases e : firstL fB l 0 with
  | some r =>
    rw [e] at h
    simp only at h
    subst h
    obtain ⟨i, a, hf⟩ := firstL_so e
    unfold fB at hf
    cases h2 : inQ sq a <;> rw [h2] at hf <;> cases hf
  | none =>
    rw [e] at h
    have no := firstL_no e
    by_cases z : l.length = 0
    · simp [z] at h
    · refine ⟨fun p hp => ?_, by omega, by simp [z]⟩
      obtain ⟨k, hk⟩ := List.mem_iff_getElem?.1 hp
      have := no k p hk
      unfold fB at this
      cases h2 : inQ sq p with
      | true => rfl
      | false => rw [h2] at this; cases this

theorem boxR_of {l : List Spot} (h : ∀ p ∈ l, inQ sq p = true) (n1 : 1 ≤ l.length) : boxR l = (sbS l, 0) := by
  have e : firstL fB l 0 = none := firstL_none fun i x hx => by
    unfold fB
    rw [h x (List.mem_of_getElem? hx)]
    rfl
  have z : ¬ l.length = 0 := by omega
  unfold boxR
  rw [e]
  simp [z]

theorem spt_mem {l : List Spot} {i : Nat} (h : i < l.length) : spt l i ∈ l := List.mem_of_getElem? (get_spt h).2

theorem mem_spt {l : List Spot} {p : Spot} (h : p ∈ l) : ∃ i, i < l.length ∧ spt l i = p := by
  obtain ⟨k, hk⟩ := List.mem_iff_getElem?.1 h
  have hlt := get_lt hk
  have e := (get_spt hlt).2
  rw [hk] at e
  exact ⟨k, hlt, (Option.some.inj e).symm⟩

theorem sbS_v {l : List Spot} (h : ∀ p ∈ l, inQ sq p = true) (n1 : 1 ≤ l.length) : BxV (sbS l) ∧ ∀ p ∈ l, inQ (sbS l) p = true := by
  have hin : ∀ p ∈ l, inQ (sbS l) p = true := fun p hp => by
    obtain ⟨i, hi, rfl⟩ := mem_spt hp
    have i0 := sbN_in l (k := l.length) hi
    exact inQ_iff.2 ⟨⟨i0.x1, i0.x2⟩, ⟨i0.y1, i0.y2⟩⟩
  have mn := sbN_min (l := l) (b := sq) n1 (fun i hi => by
    obtain ⟨h1, h2⟩ := inQ_iff.1 (h _ (spt_mem hi))
    exact ⟨h1.1, h2.1, h1.2, h2.2⟩) (k := l.length) (Nat.le_refl _)
  obtain ⟨h1, h2⟩ := inQ_iff.1 (hin _ (spt_mem (l := l) (i := 0) (by omega)))
  exact ⟨⟨mn.x1, by omega, mn.x2, mn.y1, by omega, mn.y2⟩, hin⟩

/-- The normalized places reach from one side to the other one. -/
theorem reach {l : List Spot} (h : ∀ p ∈ l, inQ sq p = true) (n1 : 1 ≤ l.length) (hz : ¬ ((sbS l).x1 = (sbS l).x2 ∧ (sbS l).y1 = (sbS l).y2)) :
    max ((sbS (l.map (nrm (sbS l)))).x2 - (sbS (l.map (nrm (sbS l)))).x1) ((sbS (l.map (nrm (sbS l)))).y2 - (sbS (l.map (nrm (sbS l)))).y1) = 255 := by
  obtain ⟨bv, hin⟩ := sbS_v h n1
  obtain ⟨b, hb⟩ : ∃ b, sbS l = b := ⟨_, rfl⟩
  obtain ⟨⟨i1, a1, a2⟩, ⟨i2, b1, b2⟩, ⟨i3, c1, c2⟩, ⟨i4, d1, d2⟩⟩ := sbN_at l n1 (k := l.length) (Nat.le_refl _)
  have hb' : sbN l l.length = b := hb
  rw [hb'] at a2 b2 c2 d2
  rw [hb] at hz bv hin ⊢
  obtain ⟨M, hM⟩ : ∃ M, l.map (nrm b) = M := ⟨_, rfl⟩
  have ml : M.length = l.length := by rw [← hM]; simp
  have pe : ∀ i, i < l.length → spt M i = nrm b (spt l i) := fun i hi => by
    have e := (get_spt (l := M) (i := i) (by omega)).2
    rw [← hM, List.getElem?_map, (get_spt hi).2] at e
    have := Option.some.inj e
    rw [hM] at this
    exact this.symm
  have mn := sbN_min (l := M) (b := ⟨0, 0, 255, 255⟩) (by omega) (fun i hi => by
    rw [pe i (by omega)]
    obtain ⟨h1, h2⟩ := nrm_in bv (hin _ (spt_mem (l := l) (i := i) (by omega)))
    exact ⟨h1.1, h2.1, h1.2, h2.2⟩) (k := M.length) (Nat.le_refl _)
  have at_ : ∀ i, i < l.length → InB (sbox (nrm b (spt l i))) (sbS M) := fun i hi => by
    rw [← pe i hi]
    exact sbN_in M (by omega)
  rw [hM]
  have mn' : InB (sbS M) ⟨0, 0, 255, 255⟩ := mn
  obtain ⟨m1, m2, m3, m4⟩ := mn'
  simp only at m1 m2 m3 m4
  obtain ⟨v1, v2, v3, v4, v5, v6⟩ := bv
  have q0 := at_ 0 (by omega)
  have qx := Int.le_trans q0.x1 q0.x2
  have qy := Int.le_trans q0.y1 q0.y2
  rcases Int.le_total (b.y2 - b.y1) (b.x2 - b.x1) with c | c
  · have S : side b = b.x2 - b.x1 := by unfold side; omega
    have S0 : 0 < b.x2 - b.x1 := by omega
    have lo := (at_ i1 a1).x1
    have hi := (at_ i2 b1).x2
    have e1 : (sbox (nrm b (spt l i1))).x1 = 0 := by
      show nrm1 (b.x2 - b.x1) (side b) ((spt l i1).x - b.x1) = 0
      rw [S, a2, Int.sub_self]
      exact nrm1_lo S0
    have e2 : (sbox (nrm b (spt l i2))).x2 = 255 := by
      show nrm1 (b.x2 - b.x1) (side b) ((spt l i2).x - b.x1) = 255
      rw [S, b2]
      exact nrm1_hi S0
    omega
  · have S : side b = b.y2 - b.y1 := by unfold side; omega
    have S0 : 0 < b.y2 - b.y1 := by omega
    have lo := (at_ i3 c1).y1
    have hi := (at_ i4 d1).y2
    have e1 : (sbox (nrm b (spt l i3))).y1 = 0 := by
      show nrm1 (b.y2 - b.y1) (side b) ((spt l i3).y - b.y1) = 0
      rw [S, c2, Int.sub_self]
      exact nrm1_lo S0
    have e2 : (sbox (nrm b (spt l i4))).y2 = 255 := by
      show nrm1 (b.y2 - b.y1) (side b) ((spt l i4).y - b.y1) = 255
      rw [S, d2]
      exact nrm1_hi S0
    omega

theorem dr_l07 {s : l00Src} {k : Int} (h : SK s k) (hk : k ≤ 1000) : ∃ q s', t_spec_l07Spots s = some (q, s') ∧ SK s' (k + 50000) ∧ (q.getD []).length ≤ 1000 := by
  obtain ⟨st, s1, e1, k1, ss⟩ := dr_l05 h (by omega)
  obtain ⟨q, n, e2, hq⟩ := specSpots_ok st ss
  have ql : (q.getD []).length ≤ 100 := by
    rcases hq with ⟨_, _, e⟩ | ⟨_, _, e⟩
    · rw [e]; simp
    · rw [e]
      have := ss.n
      simpa [spots] using this
  obtain ⟨o1, o2⟩ := own_spots q (by omega)
  obtain ⟨b3, s3, e3, k3⟩ := dr_one k1 (by omega) (n := 12) (by omega)
  unfold t_spec_l07Spots
  rw [e1, obind_sm, e2, obind_sm]
  simp only [o1, o2]
  obtain ⟨w, hw⟩ : ∃ w, q.getD [] = w := ⟨_, rfl⟩
  rw [hw] at ql ⊢
  simp only [obind_sm, Option.getD_some]
  by_cases n0 : 0 < ((w.length : Nat) : Int)
  · have d0 : decide (0 < ((w.length : Nat) : Int)) = true := decide_eq_true n0
    rw [d0, cond_true, e3, obind_sm]
    cases b3 with
    | true =>
      obtain ⟨r4, s4, e4, k4, _⟩ := dr_among k3 (by omega) (l := [-1, 4095, 4096]) (by simp) (by simp)
      obtain ⟨x, g1, _⟩ := getI_in (l := w) (i := 0) (by omega) n0
      rw [cond_true, cond_true, e4, obind_sm, g1, obind_sm]
      refine ⟨_, _, rfl, k4.mono (by omega), ?_⟩
      show (w.set _ _).length ≤ 1000
      rw [List.length_set]
      omega
    | false =>
      rw [cond_true, cond_false]
      exact ⟨_, _, rfl, k3.mono (by omega), by show w.length ≤ 1000; omega⟩
  · have d0 : decide (0 < ((w.length : Nat) : Int)) = false := decide_eq_false n0
    rw [d0, cond_false]
    exact ⟨_, _, rfl, k1.mono (by omega), by show w.length ≤ 1000; omega⟩

theorem dr_normal (code : Sl UInt8) : ∃ q b, t_spec_DrawNormalSpots code = some (q, b) ∧ (q.getD []).length ≤ 1000 := by
  have hs : SK ⟨code, 0, 0⟩ 0 := ⟨by simp, by simp⟩
  obtain ⟨q, s1, e1, k1, ql⟩ := dr_l07 hs (by omega)
  have E2 := (boxSp_ok q ql).2
  obtain ⟨⟨bx, n⟩, hR⟩ : ∃ r, boxR (q.getD []) = r := ⟨_, rfl⟩
  rw [hR] at E2
  obtain ⟨b2, s2, e2, k2⟩ := dr_box k1 (by omega)
  obtain ⟨b3, s3, e3, k3⟩ := dr_one k1 (by omega) (n := 10) (by omega)
  obtain ⟨b4, s4, e4, k4⟩ := dr_box k3 (by omega)
  obtain ⟨b5, s5, e5, k5⟩ := dr_one k3 (by omega) (n := 3) (by omega)
  obtain ⟨r6, s6, e6, k6, _, _, _⟩ := dr_pick k5 (by omega) (n := 50) (by omega)
  obtain ⟨b7, s7, e7, k7⟩ := dr_one k6 (by omega) (n := 3) (by omega)
  obtain ⟨r8, s8, e8, k8, _, _, _⟩ := dr_pick k7 (by omega) (n := 50) (by omega)
  obtain ⟨b9, s9, e9, k9⟩ := dr_one k5 (by omega) (n := 3) (by omega)
  obtain ⟨ra, sa, ea, ka, _, _, _⟩ := dr_pick k9 (by omega) (n := 50) (by omega)
  unfold t_spec_DrawNormalSpots
  rw [e1, obind_sm, E2, obind_sm]
  cases hn : decide (n = 0) with
  | false =>
    rw [Bool.not_false, cond_true, e2, obind_sm]
    exact ⟨_, _, rfl, ql⟩
  | true =>
    rw [Bool.not_true, cond_false, e3, obind_sm, cond_false]
    cases b3 with
    | true =>
      rw [cond_true, e4, obind_sm]
      exact ⟨_, _, rfl, ql⟩
    | false =>
      rw [cond_false, e5, obind_sm]
      cases b5 with
      | true =>
        rw [cond_true, e6, obind_sm, obind_sm, e7, obind_sm]
        cases b7 with
        | true =>
          rw [cond_true, e8, obind_sm, obind_sm]
          exact ⟨_, _, rfl, ql⟩
        | false =>
          rw [cond_false]
          exact ⟨_, _, rfl, ql⟩
      | false =>
        rw [cond_false, e9, obind_sm]
        cases b9 with
        | true =>
          rw [cond_true, ea, obind_sm, obind_sm]
          exact ⟨_, _, rfl, ql⟩
        | false =>
          rw [cond_false]
          exact ⟨_, _, rfl, ql⟩

theorem buildLoop2 {A ρ : Type} (e : Sl A → ρ) (l : List A) {n : Nat} (hn : l.length = n) (h1 : n ≤ 1000) (s0 : Sl A) (hs0 : s0.getD [] = []) (step : ((Sl A) × Int) → Option (Sum ((Sl A) × Int) ρ))
    (next : ∀ (w : Sl A) (k : Nat) a, l[k]? = some a → step (w, (k : Int)) = obind (appO w [a]) fun _ => some (.inl (appS w [a], wr ((k : Int) + 1))))
    (fin : ∀ (w : Sl A), step (w, (n : Int)) = some (.inr (e w))) : ∃ q, loopT step (s0, 0) = some (e q) ∧ q.getD [] = l := by
  obtain ⟨r, h1, q, rfl, h2⟩ := loopT_ex (step := step) (fun k t => t.1.getD [] = l.take k ∧ t.2 = (k : Int)) n (fun r => ∃ q, r = e q ∧ q.getD [] = l)
    (fun k ⟨w, i⟩ hk ⟨g1, g2⟩ => by
      simp only at g1 g2
      subst g2
      obtain ⟨a, ha⟩ : ∃ a, l[k]? = some a := ⟨l[k]'(by omega), List.getElem?_eq_getElem _⟩
      have e := next w k a ha
      rw [wr_succ hk (by omega), appO_one w a (by rw [g1, List.length_take]; omega), obind_sm, appS_cons] at e
      refine .inl ⟨_, e, ?_, rfl⟩
      show w.getD [] ++ [a] = _
      rw [g1, List.take_add_one, ha]
      rfl)
    (fun ⟨w, i⟩ ⟨g1, g2⟩ => by
      simp only at g1 g2
      subst g2
      refine ⟨_, fin w, w, rfl, ?_⟩
      rw [g1, List.take_of_length_le (by omega)])
    (s := (s0, 0)) ⟨by rw [hs0, List.take_zero], rfl⟩
  exact ⟨q, h1, h2⟩

theorem sameSp {a b : Sl Spot} (h : a.getD [] = b.getD []) (hl : (a.getD []).length ≤ 1000) : t_spec_SameSpots a b = some true := by
  have := (sameS_ok a b (by omega)).2
  rw [h, sameL_refl] at this
  exact this

theorem nrm_move (b : Box) (p : Spot) : nrm ⟨0, 0, b.x2 - b.x1, b.y2 - b.y1⟩ ⟨p.x - b.x1, p.y - b.y1⟩ = nrm b p := by
  unfold nrm side
  simp only [Int.sub_zero]

theorem true_FnNormalSpots (code : Sl UInt8) : t_laws_FnNormalSpots code = some true := by
  unfold t_laws_FnNormalSpots t_laws_f6big
  by_cases c0 : 4096 < (((code.getD []).length : Nat) : Int)
  · simp only [c0, decide_true, obind_sm, cond_true]
  obtain ⟨l, b, D1, hl⟩ := dr_normal code
  obtain ⟨x, n, E1, r1⟩ := implNorm_ok l b hl
  obtain ⟨m, n', E2, r2⟩ := specNorm_ok l b hl
  obtain ⟨hn, hq⟩ := r1.same r2
  subst hn
  have xl : (x.getD []).length ≤ 1000 := by
    rcases r1 with ⟨_, _, _, h⟩ | ⟨rfl, _⟩
    · rw [h]; simpa using hl
    · simp
  have F1 := sameSp hq xl
  obtain ⟨B1, B2⟩ := boxSp_ok l hl
  simp only [c0, decide_false, obind_sm, cond_false, D1, E1, E2, F1, B1, B2, decide_true, Bool.not_true]
  by_cases z1 : n = 0
  · by_cases z2 : (boxR (l.getD [])).2 = 0
    · have d1 : decide (n = 0) = true := decide_eq_true z1
      have d2 : decide ((boxR (l.getD [])).2 = 0) = true := decide_eq_true z2
      simp only [d1, d2, Bool.not_true, cond_false, obind_sm]
      obtain ⟨L, hL⟩ : ∃ L, l.getD [] = L := ⟨_, rfl⟩
      rcases r1 with ⟨_, hb, hin, hx⟩ | ⟨_, ⟨h, _⟩ | ⟨h, _⟩⟩
      · rw [hL] at hl hin hx z2 ⊢
        obtain ⟨hsq, n1, e3⟩ := boxR_0 z2
        have bv := validBox_iff.1 hb
        obtain ⟨bv1, bv2, bv3, bv4, bv5, bv6⟩ := id bv
        obtain ⟨q, lp, hq2⟩ := buildLoop2 (ρ := Sum (Sl Spot) Bool) .inl (L.map fun p => (⟨p.x - b.x1, p.y - b.y1⟩ : Spot)) (n := L.length) (by simp) (by omega) (some []) rfl (s0_laws_FnNormalSpots (l, b) (x, n)) (fun w k a ha => by
            have hk : k < L.length := by have := get_lt ha; simpa using this
            have c : (k : Int) < ((L.length : Nat) : Int) := by omega
            have ea : a = ⟨(spt L k).x - b.x1, (spt L k).y - b.y1⟩ := by
              rw [List.getElem?_map, (get_spt hk).2] at ha
              exact (Option.some.inj ha).symm
            subst ea
            have hp := hin _ (spt_mem hk)
            obtain ⟨i1, i2⟩ := inQ_iff.1 hp
            obtain ⟨j1, j2⟩ := nrm_in bv hp
            have gx : getI (x.getD []) (k : Int) = some (nrm b (spt L k)) := getI_nat (by rw [hx, List.getElem?_map, (get_spt hk).2]; rfl)
            have w1 : wr ((spt L k).x - b.x1) = (spt L k).x - b.x1 := wr_id (by omega) (by omega)
            have w2 : wr ((spt L k).y - b.y1) = (spt L k).y - b.y1 := wr_id (by omega) (by omega)
            have t1 : decide ((nrm b (spt L k)).x < 0) = false := decide_eq_false (by omega)
            have t2 : decide (255 < (nrm b (spt L k)).x) = false := decide_eq_false (by omega)
            have t3 : decide ((nrm b (spt L k)).y < 0) = false := decide_eq_false (by omega)
            have t4 : decide (255 < (nrm b (spt L k)).y) = false := decide_eq_false (by omega)
            unfold s0_laws_FnNormalSpots
            simp only [hL, c, decide_true, cond_true, gx, obind_sm, t1, t2, t3, t4, cond_false, (get_spt hk).1, w1, w2]) (fun w => by
            unfold s0_laws_FnNormalSpots
            simp only [hL, Int.lt_irrefl, decide_false, cond_false])
        have ql : (q.getD []).length ≤ 1000 := by rw [hq2]; simpa using hl
        have w1 : wr (b.x2 - b.x1) = b.x2 - b.x1 := wr_id (by omega) (by omega)
        have w2 : wr (b.y2 - b.y1) = b.y2 - b.y1 := wr_id (by omega) (by omega)
        obtain ⟨y, n3, E3, r3⟩ := implNorm_ok q ⟨0, 0, b.x2 - b.x1, b.y2 - b.y1⟩ ql
        have y0 : n3 = 0 ∧ y.getD [] = L.map (nrm b) := by
          have vb : validBox ⟨0, 0, b.x2 - b.x1, b.y2 - b.y1⟩ = true := validBox_iff.2 ⟨by simp only; omega, by simp only; omega, by simp only; omega, by simp only; omega, by simp only; omega, by simp only; omega⟩
          have vi : ∀ p ∈ q.getD [], inQ ⟨0, 0, b.x2 - b.x1, b.y2 - b.y1⟩ p = true := fun p hp => by
            rw [hq2] at hp
            obtain ⟨p0, hp0, rfl⟩ := List.mem_map.1 hp
            obtain ⟨i1, i2⟩ := inQ_iff.1 (hin p0 hp0)
            exact inQ_iff.2 ⟨by simp only; omega, by simp only; omega⟩
          rcases r3 with ⟨h1, _, _, h4⟩ | ⟨_, ⟨_, h⟩ | ⟨_, _, p, h, h'⟩⟩
          · refine ⟨h1, ?_⟩
            rw [h4, hq2, List.map_map]
            apply List.map_congr_left
            intro p _
            exact nrm_move b p
          · rw [vb] at h; cases h
          · rw [vi p h] at h'; cases h'
        obtain ⟨rfl, hy⟩ := y0
        obtain ⟨ov, oin⟩ := sbS_v hsq n1
        obtain ⟨z, n4, E4, r4⟩ := implNorm_ok l (sbS L) (by rw [hL]; exact hl)
        rw [hL] at r4
        have z0 : n4 = 0 ∧ z.getD [] = L.map (nrm (sbS L)) := by
          rcases r4 with ⟨h1, _, _, h4⟩ | ⟨_, ⟨_, h⟩ | ⟨_, _, p, h, h'⟩⟩
          · exact ⟨h1, h4⟩
          · rw [validBox_iff.2 ov] at h; cases h
          · rw [oin p h] at h'; cases h'
        obtain ⟨rfl, hz⟩ := z0
        have zsq : ∀ p ∈ z.getD [], inQ sq p = true := fun p hp => by
          rw [hz] at hp
          obtain ⟨p0, hp0, rfl⟩ := List.mem_map.1 hp
          obtain ⟨i1, i2⟩ := nrm_in ov (oin p0 hp0)
          exact inQ_iff.2 ⟨⟨i1.1, by show _ ≤ (4095 : Int); omega⟩, ⟨i2.1, by show _ ≤ (4095 : Int); omega⟩⟩
        have zl : (z.getD []).length = L.length := by rw [hz]; simp
        have zB := boxR_of zsq (by omega)
        have B3 := (boxSp_ok z (by omega)).1
        rw [zB] at B3
        obtain ⟨zv, _⟩ := sbS_v zsq (by omega)
        obtain ⟨zv1, zv2, zv3, zv4, zv5, zv6⟩ := zv
        have w3 : wr ((sbS (z.getD [])).x2 - (sbS (z.getD [])).x1) = (sbS (z.getD [])).x2 - (sbS (z.getD [])).x1 := wr_id (by omega) (by omega)
        have w4 : wr ((sbS (z.getD [])).y2 - (sbS (z.getD [])).y1) = (sbS (z.getD [])).y2 - (sbS (z.getD [])).y1 := wr_id (by omega) (by omega)
        have F3 := sameSp (a := y) (b := x) (by rw [hy, hx]) (by rw [hy]; simpa using hl)
        simp only [lp, obind_sm, w1, w2, E3, e3, E4, B3, F3, decide_true, Bool.not_true, cond_false, w3, w4]
        by_cases cx : (sbS L).x1 = (sbS L).x2
        · by_cases cy : (sbS L).y1 = (sbS L).y2
          · simp only [cx, cy, decide_true, cond_true, obind_sm]
          · have R := reach hsq n1 (fun h => cy h.2)
            rw [← hz] at R
            have dx : decide ((sbS L).x1 = (sbS L).x2) = true := decide_eq_true cx
            have dy : decide ((sbS L).y1 = (sbS L).y2) = false := decide_eq_false cy
            have dR : decide (max ((sbS (z.getD [])).x2 - (sbS (z.getD [])).x1) ((sbS (z.getD [])).y2 - (sbS (z.getD [])).y1) = 255) = true := decide_eq_true R
            simp only [dx, dy, dR, cond_true, cond_false, obind_sm]
        · have R := reach hsq n1 (fun h => cx h.1)
          rw [← hz] at R
          have dx : decide ((sbS L).x1 = (sbS L).x2) = false := decide_eq_false cx
          have dR : decide (max ((sbS (z.getD [])).x2 - (sbS (z.getD [])).x1) ((sbS (z.getD [])).y2 - (sbS (z.getD [])).y1) = 255) = true := decide_eq_true R
          simp only [dx, dR, cond_true, cond_false, obind_sm]
      · omega
      · omega
    · have d1 : decide (n = 0) = true := decide_eq_true z1
      have d2 : decide ((boxR (l.getD [])).2 = 0) = false := decide_eq_false z2
      simp only [d1, d2, Bool.not_true, Bool.not_false, cond_false, cond_true, obind_sm]
  · have d1 : decide (n = 0) = false := decide_eq_false z1
    simp only [d1, Bool.not_false, cond_true, obind_sm]

theorem ok_laws_FnNormalSpots : PureOK Try.prog n_laws_FnNormalSpots (G1 (fun a : Sl UInt8 => Wt.big a) fun _ => bv true) := lawC1 tt_laws_FnNormalSpots fun a _ => true_FnNormalSpots a

theorem law_FnNormalSpots (a : Sl UInt8) (ha : Row.fine a) : G1 (fun a : Sl UInt8 => Wt.big a) (fun _ => bv true) [enc a] = some (bv true) := G1_enc _ _ a (by simp [Wt.fb a ha])

theorem isC_5 {cs : List AV} (h : IsC Try.prog 5 cs) : ∃ x : UInt8, cs = Row.cells x ∧ Row.fine x := by
  obtain ⟨n, rfl, hn⟩ := IsC.intE Try.underlying5 h
  exact byte_of hn
theorem isC_22 {cs : List AV} (h : IsC Try.prog 22 cs) : ∃ x : (Sl UInt8), cs = Row.cells x ∧ Row.fine x := by
  rcases IsC.sliceE Try.underlying22 h with rfl | ⟨rows, rfl, h1, h2⟩
  · exact ⟨none, rfl, Sl.fineNil⟩
  · exact Sl.isC (by kernel_rfl) h1 fun row hr => isC_5 (h2 row hr)
theorem own : ownKnob Try.prog.godebug = none := by kernel_rfl
theorem laidOut : laidOutB Try.prog = true := by kernel_rfl

set_option maxRecDepth 100000 in
theorem holds : Rows.FnNormalSpotsSaid :=
  OpenClaim.holds_of_wide 8 Try.f8 rfl rfl rfl rfl rfl rfl rfl ⟨rfl, rfl, rfl, rfl, rfl⟩ rfl rfl rfl rfl rfl (by kernel_rfl) Try.func8 (by kernel_rfl)
    (of_decide_eq_true (by kernel_rfl)) (by unfold Func.isWrapper; rw [if_neg (by decide +kernel)]; exact ⟨rfl, rfl⟩)
    (fun os started H enc _ => law_lifted (C := Try.checked) (s := Rows.fnNormalSpotsSpec) own started (by kernel_rfl) Try.func8
      (ChangeSpec.witness6 (enc := enc) (C := Try.checked) false ⟨#[], #[.slice none 0 0], []⟩ 8 (by kernel_rfl) (by kernel_rfl) (by kernel_rfl) (by kernel_rfl))
      laidOut rfl (tb := 4) rfl Try.underlying4 (ts := [22, 5]) (by kernel_rfl)
      (fun ds h => by match ds, h with | [d0], _ => rfl)
      hb_laws_FnNormalSpots ok_laws_FnNormalSpots (by
    intro l h
    obtain ⟨a0, l0, rfl, g0, k0⟩ := h
    cases k0
    obtain ⟨b0, e0, w0⟩ := isC_22 (isV_one (by kernel_rfl) g0)
    obtain rfl := one_enc e0
    exact law_FnNormalSpots b0 w0))
#print axioms holds
end Go.Proofs.Ytdikndbpcceogaa
