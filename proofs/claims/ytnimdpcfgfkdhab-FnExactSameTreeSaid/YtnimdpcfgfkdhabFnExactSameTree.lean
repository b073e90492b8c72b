/-
  The law FnExactSameTree holds, for all arguments: it returns true, and its arguments read behind the call as before. No condition.
-/
import Derived.Test.YtnimdpcfgfkdhabFnExactSameTreeGen
import Derived.Test.YtnimdpcfgfkdhabRows
namespace Go.Proofs.Ytnimdpcfgfkdhab
open Go Go.Eng Go.Eng.Cod

theorem ok_laws_szTreeNodeS : PureOK Try.prog n_laws_szTreeNodeS (G2 (fun (q : Sl TreeNode) left => szOK q left) fun q left => iv (szR left (Wt.wt q))) :=
  pureG2 E0 mixed hb_laws_szTreeNodeS fun q left h => by
  have T := lookT q (w := 4) rfl
  obtain ⟨h1, h2, h3⟩ := (szOK_iff q left).1 h
  have h4 := sz_len h2 h3 (big_len h1)
  rw [wt_zero (fun _ => rfl) q]
  by_cases hl : left < ((q.getD []).length : Nat)
  · have : left - ((q.getD []).length : Nat) < 0 := by omega
    simp [e_laws_szTreeNodeS, T.len, h4, this, szR_lt hl]
  · have : ¬ left - ((q.getD []).length : Nat) < 0 := by omega
    simp [e_laws_szTreeNodeS, T.len, h4, this, szR_ge hl]

theorem ok_laws_toTreeNode : PureOK Try.prog n_laws_toTreeNode (T1 fun b : TreeNode => b) := pureT1 E0 mixed hb_laws_toTreeNode fun b => by
  simp [e_laws_toTreeNode, envL, aBox, aLoad, cut, aStore, splice, retL, resL, pack]

theorem ok_laws_eqTreeNode : PureOK Try.prog n_laws_eqTreeNode (T2 fun a b : TreeNode => decide (a = b)) := pureT2 E0 mixed hb_laws_eqTreeNode fun a b => by
  simp [e_laws_eqTreeNode, envL, aBox, aLoad, cut]
  obtain ⟨a0, a1, a2, a3⟩ := a
  obtain ⟨b0, b1, b2, b3⟩ := b
  simp

theorem lp_laws_toTreeNodeS (env : Nat → Contract) (q : Sl TreeNode) (hq : fit q = true) (he : env n_laws_toTreeNode = .pure (T1 fun b : TreeNode => b)) : obind (loopP hm0_laws_toTreeNodeS xm0_laws_toTreeNodeS (lb0_laws_toTreeNodeS env) [Sl.enc q, und, nilS, .sl 0 (q.getD []).length 0 (q.getD []).length, iv 0, Sl.enc q, iv ((q.getD []).length : Nat), .sl 0 (q.getD []).length 0 (q.getD []).length, .top, .top, .top, .top, .top, .top, .top, .top, .top, .top, .top, .top, .top, .top, und] [⟨4, List.replicate (q.getD []).length [(iv 0), (iv 0), (iv 0), (iv 0)]⟩]) (fun r => lk0_laws_toTreeNodeS env r.1 r.2.1 r.2.2) = some (.sl 0 (q.getD []).length 0 (q.getD []).length, mt (nws q) 0) := by
  have T := lookT q (w := 4) rfl
  have L := loop_fill (A := TreeNode) (by decide) (q.getD []) (hm := hm0_laws_toTreeNodeS) (xm := xm0_laws_toTreeNodeS) (body := lb0_laws_toTreeNodeS env) (K := fun r => lk0_laws_toTreeNodeS env r.1 r.2.1 r.2.2) [(iv 0), (iv 0), (iv 0), (iv 0)] (fun i => [Sl.enc q, und, nilS, .sl 0 (q.getD []).length 0 (q.getD []).length, iv (i : Int), Sl.enc q, iv ((q.getD []).length : Nat), .sl 0 (q.getD []).length 0 (q.getD []).length, .top, .top, .top, .top, .top, .top, .top, .top, .top, .top, .top, .top, .top, .top, und]) (by
    intro pre a suf rows objs hl hr
    have S := Stp.mk' hl (fit_max hq)
    have hn : pre.length + 1 + suf.length = (q.getD []).length := by rw [hl]; simp; omega
    have hfit : fit a = true := fit_mem hq (by rw [hl]; simp)
    have fa := fun objs => fill_addr (w := 4) (rows := rows) (objs := objs) (z := [(iv 0), (iv 0), (iv 0), (iv 0)]) hr hn
    have fs := fun objs v => fill_store (w := 4) (rows := rows) (objs := objs) (z := [(iv 0), (iv 0), (iv 0), (iv 0)]) (v := v) hr hn rfl
    rw [loopP.eq_1]
    simp [e_lb0_laws_toTreeNodeS, T.len, T.idx, T.load, S.idx, S.lt, S.elt, cut, S.wr, fa, he]
    rw [fs _ _ rfl (by simp)]
    simp [restr])
  simp at L
  rw [L, loopP.eq_1]
  simp [e_lb0_laws_toTreeNodeS, T.len, restr, e_lk0x0_laws_toTreeNodeS]
  rfl
theorem ok_laws_toTreeNodeS : PureOK Try.prog n_laws_toTreeNodeS (G1 (fun q : Sl TreeNode => fit q) nws) :=
  pureG1 (E1 ok_laws_toTreeNode) mixed hb_laws_toTreeNodeS fun q hq => by
  have T := lookT q (w := 4) rfl
  have M := make_ok (bytes := 32) [(iv 0), (iv 0), (iv 0), (iv 0)] [] (fit_len hq) (by decide)
  simp at M
  have L := fun env he => lp_laws_toTreeNodeS env q hq he
  simp [e_laws_toTreeNodeS, T.len, M, L, envL]
  exact release_nws (by decide) q

theorem lp_laws_eqTreeNodeS (env : Nat → Contract) (q p : Sl TreeNode) (hq : fit q = true) (hl : (q.getD []).length = (p.getD []).length) (he : env n_laws_eqTreeNode = .pure (T2 fun a b : TreeNode => decide (a = b))) : obind (loopP hm0_laws_eqTreeNodeS xm0_laws_eqTreeNodeS (lb0_laws_eqTreeNodeS env) [Sl.enc q, Sl.enc p, und, und, .top, iv 0, Sl.enc q, iv ((q.getD []).length : Nat), Sl.enc p, iv ((p.getD []).length : Nat), bv false, .top, .top, .top, .top, .top, .top, .top, .top, .top, .top, .top, .top, .top, .top, .top, .top] []) (fun r => lk0_laws_eqTreeNodeS env r.1 r.2.1 r.2.2) = some (bif decide (q.getD [] = p.getD []) then (bv true, []) else (bv false, [])) := by
  have T := lookT q (w := 4) rfl
  have U := lookT p (w := 4) rfl
  have L := loop_eq (A := TreeNode) hl (fit_max hq) (hmk := hm0_laws_eqTreeNodeS) (xm := xm0_laws_eqTreeNodeS) (body := lb0_laws_eqTreeNodeS env) (K := fun r => lk0_laws_eqTreeNodeS env r.1 r.2.1 r.2.2) [] (fun i => [Sl.enc q, Sl.enc p, und, und, .top, iv (i : Int), Sl.enc q, iv ((q.getD []).length : Nat), Sl.enc p, iv ((p.getD []).length : Nat), bv false, .top, .top, .top, .top, .top, .top, .top, .top, .top, .top, .top, .top, .top, .top, .top, .top]) (bv true, []) (bv false, [])
    (by
      intro pre x y S h1 h2 h3
      have h4 : (p.getD [])[pre.length] = y := by simpa [h3] using h2
      rw [loopP.eq_1]
      simp [e_lb0_laws_eqTreeNodeS, T.len, T.idx, T.load, U.idx, U.load, S.idx, S.lt, S.elt, h1, h3, h4, cut, S.wr, he]
      cases decide (x = y) <;> simp [restr, e_lk0r_laws_eqTreeNodeS])
    (by
      rw [loopP.eq_1]
      simp [e_lb0_laws_eqTreeNodeS, T.len, restr, e_lk0x0_laws_eqTreeNodeS])
  simpa using L
theorem ok_laws_eqTreeNodeS : PureOK Try.prog n_laws_eqTreeNodeS (G2 (fun q _ : Sl TreeNode => fit q) fun q p => bv (decide (q.getD [] = p.getD []))) :=
  pureG2 (E1 ok_laws_eqTreeNode) mixed hb_laws_eqTreeNodeS fun q p hq => by
  have T := lookT q (w := 4) rfl
  have U := lookT p (w := 4) rfl
  by_cases hl : (q.getD []).length = (p.getD []).length
  · have L := fun env he => lp_laws_eqTreeNodeS env q p hq hl he
    simp [e_laws_eqTreeNodeS, T.len, U.len, hl, envL] at L ⊢
    simp [L]
  · have h2 : ¬ q.getD [] = p.getD [] := fun e => hl (by rw [e])
    have h3 : ¬ ((q.getD []).length : Int) = (p.getD []).length := by omega
    simp [e_laws_eqTreeNodeS, T.len, U.len, h3, h2]

theorem lp_slices_Equal_impl_TreeNode_impl_TreeNode (env : Nat → Contract) (q p : Sl TreeNode) (hq : fit q = true) (hl : (q.getD []).length = (p.getD []).length) : obind (loopP hm0_slices_Equal_impl_TreeNode_impl_TreeNode xm0_slices_Equal_impl_TreeNode_impl_TreeNode (lb0_slices_Equal_impl_TreeNode_impl_TreeNode env) [Sl.enc q, Sl.enc p, und, und, .top, .top, Sl.enc q, iv ((q.getD []).length : Nat), Sl.enc p, iv ((p.getD []).length : Nat), bv false, Sl.enc q, iv ((q.getD []).length : Nat), iv 0, .top, .top, .top, .top, .top, .top, .top, .top, .top, .top, .top, .top] []) (fun r => lk0_slices_Equal_impl_TreeNode_impl_TreeNode env r.1 r.2.1 r.2.2) = some (bif decide (q.getD [] = p.getD []) then (bv true, []) else (bv false, [])) := by
  have T := lookT q (w := 4) rfl
  have U := lookT p (w := 4) rfl
  have L := loop_eq (A := TreeNode) hl (fit_max hq) (hmk := hm0_slices_Equal_impl_TreeNode_impl_TreeNode) (xm := xm0_slices_Equal_impl_TreeNode_impl_TreeNode) (body := lb0_slices_Equal_impl_TreeNode_impl_TreeNode env) (K := fun r => lk0_slices_Equal_impl_TreeNode_impl_TreeNode env r.1 r.2.1 r.2.2) [] (fun i => [Sl.enc q, Sl.enc p, und, und, .top, .top, Sl.enc q, iv ((q.getD []).length : Nat), Sl.enc p, iv ((p.getD []).length : Nat), bv false, Sl.enc q, iv ((q.getD []).length : Nat), iv (i : Int), .top, .top, .top, .top, .top, .top, .top, .top, .top, .top, .top, .top]) (bv true, []) (bv false, [])
    (by
      intro pre x y S h1 h2 h3
      have h4 : (p.getD [])[pre.length] = y := by simpa [h3] using h2
      rw [loopP.eq_1]
      simp [e_lb0_slices_Equal_impl_TreeNode_impl_TreeNode, T.len, T.idx, T.load, U.idx, U.load, S.idx, S.lt, S.elt, h1, h3, h4, cut, S.wr, (aCmp_TreeNode _ _).1, (aCmp_TreeNode _ _).2]
      cases decide (x = y) <;> simp [restr, e_lk0r_slices_Equal_impl_TreeNode_impl_TreeNode])
    (by
      rw [loopP.eq_1]
      simp [e_lb0_slices_Equal_impl_TreeNode_impl_TreeNode, T.len, restr, e_lk0x0_slices_Equal_impl_TreeNode_impl_TreeNode])
  simpa using L
theorem ok_slices_Equal_impl_TreeNode_impl_TreeNode : PureOK Try.prog n_slices_Equal_impl_TreeNode_impl_TreeNode (G2 (fun q _ : Sl TreeNode => fit q) fun q p => bv (decide (q.getD [] = p.getD []))) :=
  pureG2 E0 mixed hb_slices_Equal_impl_TreeNode_impl_TreeNode fun q p hq => by
  have T := lookT q (w := 4) rfl
  have U := lookT p (w := 4) rfl
  by_cases hl : (q.getD []).length = (p.getD []).length
  · have L := fun env => lp_slices_Equal_impl_TreeNode_impl_TreeNode env q p hq hl
    simp [e_slices_Equal_impl_TreeNode_impl_TreeNode, T.len, U.len, hl] at L ⊢
    simp [L]
  · have h2 : ¬ q.getD [] = p.getD [] := fun e => hl (by rw [e])
    have h3 : ¬ ((q.getD []).length : Int) = (p.getD []).length := by omega
    simp [e_slices_Equal_impl_TreeNode_impl_TreeNode, T.len, U.len, h3, h2]

theorem ok_laws_szTree : PureOK Try.prog n_laws_szTree (G2 (fun (q : Tree) left => szOK q left) fun q left => iv (szR left (Wt.wt q))) :=
  pureG2 (E1 ok_laws_szTreeNodeS) mixed hb_laws_szTree fun q left h => by
  have h' : szOK q.nodes left = true := h
  obtain ⟨h1, h2, h3⟩ := (szOK_iff q left).1 h
  rw [wt_Tree]
  by_cases hl : left < (Wt.wt q.nodes : Nat)
  · simp [e_laws_szTree, envL, aBox, aLoad, cut, h', szR_lt hl]
  · have : ¬ left - (Wt.wt q.nodes : Nat) < 0 := by omega
    simp [e_laws_szTree, envL, aBox, aLoad, cut, h', szR_ge hl, this]

theorem ok_laws_toTree : PureOK Try.prog n_laws_toTree (G1 (fun b : Tree => fit b) nag) :=
  pureG1 (E1 ok_laws_toTreeNodeS) mixed hb_laws_toTree fun b h => by
  have h' : fit b.nodes = true := h
  simp [e_laws_toTree, envL, aBox, aLoad, cut, aStore, splice, h', hand_nws, retL, resL, pack]
  refine Rels.release (RelsL.agg (.cons (At.rels (tr_nws b.nodes (by decide)) ?_ (by decide)) (.nil _)))
  simp

theorem ok_laws_eqTree : PureOK Try.prog n_laws_eqTree (G2 (fun b _ : Tree => fit b) fun b c => bv (decide (b.nodes.getD [] = c.nodes.getD []))) :=
  pureG2 (E1 ok_laws_eqTreeNodeS) mixed hb_laws_eqTree fun b c h => by
  have h' : fit b.nodes = true := h
  simp [e_laws_eqTree, envL, aBox, aLoad, cut, h']

theorem ok_impl_SameTree : PureOK Try.prog n_impl_SameTree (G2 (fun b _ : Tree => fit b) fun a b => bv (decide (a.nodes.getD [] = b.nodes.getD []))) :=
  pureG2 (E1 ok_slices_Equal_impl_TreeNode_impl_TreeNode) mixed hb_impl_SameTree fun b c h => by
  have h' : fit b.nodes = true := h
  simp [e_impl_SameTree, envL, aBox, aLoad, cut, h']

theorem lp_spec_SameTree (env : Nat → Contract) {y0 y1 y6 y7 y8 y9 y10 y11 y12 : AV} (a b : Tree) (h : fit a = true) (hl : (a.nodes.getD []).length = (b.nodes.getD []).length) :
    (obind (loopP hm0_spec_SameTree xm0_spec_SameTree (lb0_spec_SameTree env) [y0, y1, .ptr 0 1 0 0, .ptr 1 1 0 0, .top, iv 0, y6, y7, y8, y9, y10, y11, y12, .top, .top, .top, .top, .top, .top, .top, .top, .top, .top, .top, .top, .top, .top, .top, .top, .top, .top] [⟨1, [[Sl.enc a.nodes]]⟩, ⟨1, [[Sl.enc b.nodes]]⟩]) fun r => lk0_spec_SameTree env r.1 r.2.1 r.2.2) = some (bif decide (a.nodes.getD [] = b.nodes.getD []) then (bv true, [⟨1, [[Sl.enc a.nodes]]⟩, ⟨1, [[Sl.enc b.nodes]]⟩]) else (bv false, [⟨1, [[Sl.enc a.nodes]]⟩, ⟨1, [[Sl.enc b.nodes]]⟩])) := by
  have T := lookT a.nodes (w := 4) rfl
  have U := lookT b.nodes (w := 4) rfl
  have L := loop_eq (A := TreeNode) hl (fit_max (q := a.nodes) h) (hmk := hm0_spec_SameTree) (xm := xm0_spec_SameTree) (body := lb0_spec_SameTree env) (K := fun r => lk0_spec_SameTree env r.1 r.2.1 r.2.2) [⟨1, [[Sl.enc a.nodes]]⟩, ⟨1, [[Sl.enc b.nodes]]⟩] (fun i => [y0, y1, .ptr 0 1 0 0, .ptr 1 1 0 0, .top, iv (i : Int), y6, y7, y8, y9, y10, y11, y12, .top, .top, .top, .top, .top, .top, .top, .top, .top, .top, .top, .top, .top, .top, .top, .top, .top, .top]) (bv true, [⟨1, [[Sl.enc a.nodes]]⟩, ⟨1, [[Sl.enc b.nodes]]⟩]) (bv false, [⟨1, [[Sl.enc a.nodes]]⟩, ⟨1, [[Sl.enc b.nodes]]⟩])
    (by
      intro pre x y S h1 h2 h3
      have h4 : (b.nodes.getD [])[pre.length] = y := by simpa [h3] using h2
      have b1 : ∀ g n o ep i j, aLoad g n (.ptr o ep i j) [⟨1, [[Sl.enc a.nodes]]⟩, ⟨1, [[Sl.enc b.nodes]]⟩] = aLoad g n (.ptr o ep i j) [⟨1, [[Sl.enc a.nodes]]⟩, ⟨1, [[Sl.enc b.nodes]]⟩] := fun _ _ _ _ _ _ => rfl
      have c0 : aLoad false 1 (.ptr 0 1 0 0) [⟨1, [[Sl.enc a.nodes]]⟩, ⟨1, [[Sl.enc b.nodes]]⟩] = some (Sl.enc a.nodes) := rfl
      have c1 : aLoad false 1 (.ptr 1 1 0 0) [⟨1, [[Sl.enc a.nodes]]⟩, ⟨1, [[Sl.enc b.nodes]]⟩] = some (Sl.enc b.nodes) := rfl
      rw [loopP.eq_1]
      simp [e_lb0_spec_SameTree, c0, c1, T.len, T.idx, T.load, U.idx, U.load, S.idx, S.lt, S.elt, h1, h3, h4, cut, S.wr, (aCmp_TreeNode _ _).1, (aCmp_TreeNode _ _).2]
      cases decide (x = y) <;> simp [restr, e_lk0r_spec_SameTree])
    (by
      have c0 : aLoad false 1 (.ptr 0 1 0 0) [⟨1, [[Sl.enc a.nodes]]⟩, ⟨1, [[Sl.enc b.nodes]]⟩] = some (Sl.enc a.nodes) := rfl
      rw [loopP.eq_1]
      simp [e_lb0_spec_SameTree, c0, T.len, restr, e_lk0x0_spec_SameTree])
  simpa using L
theorem ok_spec_SameTree : PureOK Try.prog n_spec_SameTree (G2 (fun b _ : Tree => fit b) fun a b => bv (decide (a.nodes.getD [] = b.nodes.getD []))) :=
  pureG2 E0 mixed hb_spec_SameTree fun a b h => by
  have T := lookT a.nodes (w := 4) rfl
  have U := lookT b.nodes (w := 4) rfl
  by_cases hl : (a.nodes.getD []).length = (b.nodes.getD []).length
  · have L := fun env {y0 y1 y6 y7 y8 y9 y10 y11 y12} => @lp_spec_SameTree env y0 y1 y6 y7 y8 y9 y10 y11 y12 a b h hl
    simp [e_spec_SameTree, aBox, aLoad, cut, T.len, U.len, hl] at L ⊢
    simp [L]
  · have h2 : ¬ a.nodes.getD [] = b.nodes.getD [] := fun e => hl (by rw [e])
    have h3 : ¬ ((a.nodes.getD []).length : Int) = (b.nodes.getD []).length := by omega
    simp [e_spec_SameTree, aBox, aLoad, cut, T.len, U.len, h3, h2]

theorem ok_laws_FnExactSameTree : PureOK Try.prog n_laws_FnExactSameTree (G2 (fun a b : Tree => Wt.big a && Wt.big b) fun _ _ => bv true) :=
  pureG2 (E5 ok_laws_szTree ok_laws_toTree ok_spec_SameTree ok_impl_SameTree ok_laws_eqTree) mixed hb_laws_FnExactSameTree fun a b h => by
  simp at h
  have s1 : szOK a 1048576 = true := by simp [szOK, h]
  by_cases h1 : (1048576 : Int) < (Wt.wt a : Nat)
  · simp [e_laws_FnExactSameTree, envL, aBox, aLoad, cut, s1, szR_lt h1]
  · have r1 : ¬ (1048576 : Int) - (Wt.wt a : Nat) < 0 := by omega
    have s2 : szOK b (1048576 - (Wt.wt a : Nat)) = true := by simp [szOK, h]; omega
    have f1 : fit a = true := fit_wt h1 (by decide)
    by_cases h2 : (1048576 - (Wt.wt a : Nat) : Int) < (Wt.wt b : Nat)
    · simp [e_laws_FnExactSameTree, envL, aBox, aLoad, cut, s1, szR_ge h1, r1, s2, szR_lt h2]
    · have r2 : ¬ (1048576 : Int) - (Wt.wt a : Nat) - (Wt.wt b : Nat) < 0 := by omega
      have f2 : fit b = true := fit_wt h2 (by omega)
      simp [e_laws_FnExactSameTree, envL, aBox, aLoad, cut, s1, szR_ge h1, r1, s2, szR_ge h2, r2, f1, f2, aStore, splice, hand_nag, snapD_nag, fit_norm f1, fit_norm f2]
theorem law_FnExactSameTree (a b : Tree) (ha : Row.fine a) (hb : Row.fine b) : G2 (fun a b : Tree => Wt.big a && Wt.big b) (fun _ _ => bv true) [enc a, enc b] = some (bv true) := G2_enc _ _ a b (by simp [Wt.fb a ha, Wt.fb b hb])

theorem isC_2 {cs : List AV} (h : IsC Try.prog 2 cs) : ∃ x : Int, cs = Row.cells x ∧ Row.fine x := by
  obtain ⟨n, rfl, hn⟩ := IsC.intE Try.underlying2 h
  exact ⟨n, rfl, fine_int hn⟩
theorem isC_82 {cs : List AV} (h : IsC Try.prog 82 cs) : ∃ x : TreeNode, cs = Row.cells x ∧ Row.fine x := by
  replace h := IsC.structE Try.underlying82 h
  obtain ⟨c0, r0, rfl, q0, k0⟩ := IsFs.consE h
  obtain ⟨c1, r1, rfl, q1, k1⟩ := IsFs.consE k0
  obtain ⟨c2, r2, rfl, q2, k2⟩ := IsFs.consE k1
  obtain ⟨c3, r3, rfl, q3, k3⟩ := IsFs.consE k2
  cases IsFs.nilE k3
  obtain ⟨v0, rfl, w0⟩ := isC_2 q0
  obtain ⟨v1, rfl, w1⟩ := isC_2 q1
  obtain ⟨v2, rfl, w2⟩ := isC_2 q2
  obtain ⟨v3, rfl, w3⟩ := isC_2 q3
  exact ⟨⟨v0, v1, v2, v3⟩, rfl, w0, w1, w2, w3⟩
theorem isC_40 {cs : List AV} (h : IsC Try.prog 40 cs) : ∃ x : (Sl TreeNode), cs = Row.cells x ∧ Row.fine x := by
  rcases IsC.sliceE Try.underlying40 h with rfl | ⟨rows, rfl, h1, h2⟩
  · exact ⟨none, rfl, Sl.fineNil⟩
  · exact Sl.isC (by kernel_rfl) h1 fun row hr => isC_82 (h2 row hr)
theorem isC_42 {cs : List AV} (h : IsC Try.prog 42 cs) : ∃ x : Tree, cs = Row.cells x ∧ Row.fine x := by
  replace h := IsC.structE Try.underlying42 h
  obtain ⟨c0, r0, rfl, q0, k0⟩ := IsFs.consE h
  cases IsFs.nilE k0
  obtain ⟨v0, rfl, w0⟩ := isC_40 q0
  exact ⟨⟨v0⟩, rfl, w0⟩
theorem own : ownKnob Try.prog.godebug = none := by kernel_rfl
theorem laidOut : laidOutB Try.prog = true := by kernel_rfl

set_option maxRecDepth 100000 in
theorem holds : Rows.FnExactSameTreeSaid :=
  OpenClaim.holds_of_wide 7 Try.f7 rfl rfl rfl rfl rfl rfl rfl ⟨rfl, rfl, rfl, rfl, rfl⟩ rfl rfl rfl rfl rfl (by kernel_rfl) Try.func7 (by kernel_rfl)
    (of_decide_eq_true (by kernel_rfl)) (by unfold Func.isWrapper; rw [if_neg (by decide +kernel)]; exact ⟨rfl, rfl⟩)
    (fun os started H enc _ => law_lifted (C := Try.checked) (s := Rows.fnExactSameTreeSpec) own started (by kernel_rfl) Try.func7
      (ChangeSpec.witness6 (enc := enc) (C := Try.checked) false ⟨#[], #[.agg #[.slice none 0 0], .agg #[.slice none 0 0]], []⟩ 8 (by kernel_rfl) (by kernel_rfl) (by kernel_rfl) (by kernel_rfl))
      laidOut rfl (tb := 4) rfl Try.underlying4 (ts := [42, 40, 82, 2]) (by kernel_rfl)
      (fun ds h => by match ds, h with | [d0, d1], _ => rfl)
      hb_laws_FnExactSameTree ok_laws_FnExactSameTree (by
    intro l h
    obtain ⟨a0, l0, rfl, g0, k0⟩ := h
    obtain ⟨a1, l1, rfl, g1, k1⟩ := k0
    cases k1
    obtain ⟨c0, rfl, m0⟩ := IsV.structE Try.underlying42 g0
    obtain ⟨b0, rfl, w0⟩ := isC_42 m0
    obtain ⟨c1, rfl, m1⟩ := IsV.structE Try.underlying42 g1
    obtain ⟨b1, rfl, w1⟩ := isC_42 m1
    exact law_FnExactSameTree b0 b1 w0 w1))
#print axioms holds
end Go.Proofs.Ytnimdpcfgfkdhab
