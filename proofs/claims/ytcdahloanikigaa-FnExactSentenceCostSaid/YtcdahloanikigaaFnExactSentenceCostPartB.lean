import Derived.Test.YtcdahloanikigaaFnExactSentenceCostPartA
namespace Go.Proofs.Ytcdahloanikigaa
open Go Go.Eng Go.Eng.Cod
set_option maxRecDepth 100000
set_option linter.unusedVariables false
set_option linter.unusedSimpArgs false
theorem tl3_q75 (env : Nat → Contract) {B : Base}  (l_ : Lattice) (l_p : Pt Lattice) (text_ : ByteArray) (x1 : AV) (l5 : List Int) (z13 : AV) (m15 : Nat) (w23 : Int) (w41 : Int) (a52 : Edg) (m53 : Nat) (hm55 : (l_.edges.getD [])[m53]? = some a52)  {st : (Sl Int) × Int} {tm : TM} {h : kA7} (R : (fun (st : (Sl Int) × Int) tm h57 => match st with | (w56, w59) => tm = ((AV.fptr (Row.w Lattice) (l_p.tab.map Row.cells) l_p.i 0) :: (sv text_) :: und :: und :: (iv 0) :: (iv (wr ((text_.size : Int) + 1))) :: x1 :: z13 :: (iv w23) :: (iv w41) :: (elp (Sl.enc l_.edges) m53 0) :: (iv w59) :: .top :: .top :: (sv text_) :: (iv (text_.size : Int)) :: (iv (wr ((text_.size : Int) + 1))) :: (AV.fptr (Row.w Lattice) (l_p.tab.map Row.cells) l_p.i 0) :: (AV.fptr (Row.w Lattice) (l_p.tab.map Row.cells) l_p.i 0) :: (AV.fptr (Row.w Lattice) (l_p.tab.map Row.cells) l_p.i 0) :: (iv l_.nodes) :: (iv (wr ((text_.size : Int) + 1))) :: (iv (wr (l_.nodes * (wr ((text_.size : Int) + 1))))) :: x1 :: x1 :: (iv ((((some l5).getD []).length : Nat) : Int)) :: .top :: .top :: .top :: .top :: .top :: .top :: .top :: x1 :: (elp x1 m15 0) :: (iv w23) :: (AV.fptr (Row.w Lattice) (l_p.tab.map Row.cells) l_p.i 0) :: (AV.fptr (Row.w Lattice) (l_p.tab.map Row.cells) l_p.i 0) :: (AV.fptr (Row.w Lattice) (l_p.tab.map Row.cells) l_p.i 0) :: (iv l_.nodes) :: (bv (decide (w23 < l_.nodes))) :: .top :: .top :: (iv w41) :: (AV.fptr (Row.w Lattice) (l_p.tab.map Row.cells) l_p.i 0) :: (AV.fptr (Row.w Lattice) (l_p.tab.map Row.cells) l_p.i 0) :: (AV.fptr (Row.w Lattice) (l_p.tab.map Row.cells) l_p.i 1) :: (Sl.enc l_.edges) :: (iv (((l_.edges.getD []).length : Nat) : Int)) :: (bv (decide (w41 < (((l_.edges.getD []).length : Nat) : Int)))) :: .top :: .top :: (AV.fptr (Row.w Lattice) (l_p.tab.map Row.cells) l_p.i 0) :: (AV.fptr (Row.w Lattice) (l_p.tab.map Row.cells) l_p.i 0) :: (AV.fptr (Row.w Lattice) (l_p.tab.map Row.cells) l_p.i 1) :: (Sl.enc l_.edges) :: (iv w41) :: (elp (Sl.enc l_.edges) m53 0) :: .top :: .top :: .top :: .top :: .top :: .top :: .top :: .top :: .top :: .top :: .top :: .top :: .top :: .top :: .top :: .top :: .top :: .top :: .top :: .top :: .top :: .top :: .top :: .top :: .top :: .top :: .top :: .top :: .top :: .top :: .top :: .top :: .top :: .top :: .top :: .top :: .top :: .top :: .top :: .top :: .top :: .top :: .top :: .top :: .top :: .top :: .top :: .top :: .top :: .top :: .top :: .top :: .top :: .top :: .top :: .top :: .top :: .top :: .top :: .top :: .top :: .top :: .top :: .top :: .top :: .top :: .top :: .top :: .top :: .top :: .top :: .top :: .top :: .top :: .top :: .top :: .top :: und :: und :: und :: und :: und :: und :: und :: und :: und :: und :: []) ∧ Hold B h57 [(x1, obS (w56 : Sl Int))]) st tm h) : Sim (kB3 hm3_q75 xm3_q75 (lb3_q75 env) tm h) (kAw (kGt text_ w23 a52) st) (fun (q : Sl Int) (r : Res) => match q with | q62 => ∃ (q63 : Int) (z64 : AV) (z65 : AV) (h60 : kA7), r = (.exit 6, ((AV.fptr (Row.w Lattice) (l_p.tab.map Row.cells) l_p.i 0) :: (sv text_) :: und :: und :: (iv 0) :: (iv (wr ((text_.size : Int) + 1))) :: x1 :: z13 :: (iv w23) :: (iv w41) :: (elp (Sl.enc l_.edges) m53 0) :: (iv q63) :: z64 :: z65 :: (sv text_) :: (iv (text_.size : Int)) :: (iv (wr ((text_.size : Int) + 1))) :: (AV.fptr (Row.w Lattice) (l_p.tab.map Row.cells) l_p.i 0) :: (AV.fptr (Row.w Lattice) (l_p.tab.map Row.cells) l_p.i 0) :: (AV.fptr (Row.w Lattice) (l_p.tab.map Row.cells) l_p.i 0) :: (iv l_.nodes) :: (iv (wr ((text_.size : Int) + 1))) :: (iv (wr (l_.nodes * (wr ((text_.size : Int) + 1))))) :: x1 :: x1 :: (iv ((((some l5).getD []).length : Nat) : Int)) :: .top :: .top :: .top :: .top :: .top :: .top :: .top :: x1 :: (elp x1 m15 0) :: (iv w23) :: (AV.fptr (Row.w Lattice) (l_p.tab.map Row.cells) l_p.i 0) :: (AV.fptr (Row.w Lattice) (l_p.tab.map Row.cells) l_p.i 0) :: (AV.fptr (Row.w Lattice) (l_p.tab.map Row.cells) l_p.i 0) :: (iv l_.nodes) :: (bv (decide (w23 < l_.nodes))) :: .top :: .top :: (iv w41) :: (AV.fptr (Row.w Lattice) (l_p.tab.map Row.cells) l_p.i 0) :: (AV.fptr (Row.w Lattice) (l_p.tab.map Row.cells) l_p.i 0) :: (AV.fptr (Row.w Lattice) (l_p.tab.map Row.cells) l_p.i 1) :: (Sl.enc l_.edges) :: (iv (((l_.edges.getD []).length : Nat) : Int)) :: (bv (decide (w41 < (((l_.edges.getD []).length : Nat) : Int)))) :: .top :: .top :: (AV.fptr (Row.w Lattice) (l_p.tab.map Row.cells) l_p.i 0) :: (AV.fptr (Row.w Lattice) (l_p.tab.map Row.cells) l_p.i 0) :: (AV.fptr (Row.w Lattice) (l_p.tab.map Row.cells) l_p.i 1) :: (Sl.enc l_.edges) :: (iv w41) :: (elp (Sl.enc l_.edges) m53 0) :: .top :: .top :: .top :: .top :: .top :: .top :: .top :: .top :: .top :: .top :: .top :: .top :: .top :: .top :: .top :: .top :: .top :: .top :: .top :: .top :: .top :: .top :: .top :: .top :: .top :: .top :: .top :: .top :: .top :: .top :: .top :: .top :: .top :: .top :: .top :: .top :: .top :: .top :: .top :: .top :: .top :: .top :: .top :: .top :: .top :: .top :: .top :: .top :: .top :: .top :: .top :: .top :: .top :: .top :: .top :: .top :: .top :: .top :: .top :: .top :: .top :: .top :: .top :: .top :: .top :: .top :: .top :: .top :: .top :: .top :: .top :: .top :: .top :: .top :: .top :: .top :: .top :: und :: und :: und :: und :: und :: und :: und :: und :: und :: und :: []), h60) ∧ Hold B h60 [(x1, obS (q62 : Sl Int))]) := by
  refine kB1 (Rel := fun (st : (Sl Int) × Int) tm h57 => match st with | (w56, w59) => tm = ((AV.fptr (Row.w Lattice) (l_p.tab.map Row.cells) l_p.i 0) :: (sv text_) :: und :: und :: (iv 0) :: (iv (wr ((text_.size : Int) + 1))) :: x1 :: z13 :: (iv w23) :: (iv w41) :: (elp (Sl.enc l_.edges) m53 0) :: (iv w59) :: .top :: .top :: (sv text_) :: (iv (text_.size : Int)) :: (iv (wr ((text_.size : Int) + 1))) :: (AV.fptr (Row.w Lattice) (l_p.tab.map Row.cells) l_p.i 0) :: (AV.fptr (Row.w Lattice) (l_p.tab.map Row.cells) l_p.i 0) :: (AV.fptr (Row.w Lattice) (l_p.tab.map Row.cells) l_p.i 0) :: (iv l_.nodes) :: (iv (wr ((text_.size : Int) + 1))) :: (iv (wr (l_.nodes * (wr ((text_.size : Int) + 1))))) :: x1 :: x1 :: (iv ((((some l5).getD []).length : Nat) : Int)) :: .top :: .top :: .top :: .top :: .top :: .top :: .top :: x1 :: (elp x1 m15 0) :: (iv w23) :: (AV.fptr (Row.w Lattice) (l_p.tab.map Row.cells) l_p.i 0) :: (AV.fptr (Row.w Lattice) (l_p.tab.map Row.cells) l_p.i 0) :: (AV.fptr (Row.w Lattice) (l_p.tab.map Row.cells) l_p.i 0) :: (iv l_.nodes) :: (bv (decide (w23 < l_.nodes))) :: .top :: .top :: (iv w41) :: (AV.fptr (Row.w Lattice) (l_p.tab.map Row.cells) l_p.i 0) :: (AV.fptr (Row.w Lattice) (l_p.tab.map Row.cells) l_p.i 0) :: (AV.fptr (Row.w Lattice) (l_p.tab.map Row.cells) l_p.i 1) :: (Sl.enc l_.edges) :: (iv (((l_.edges.getD []).length : Nat) : Int)) :: (bv (decide (w41 < (((l_.edges.getD []).length : Nat) : Int)))) :: .top :: .top :: (AV.fptr (Row.w Lattice) (l_p.tab.map Row.cells) l_p.i 0) :: (AV.fptr (Row.w Lattice) (l_p.tab.map Row.cells) l_p.i 0) :: (AV.fptr (Row.w Lattice) (l_p.tab.map Row.cells) l_p.i 1) :: (Sl.enc l_.edges) :: (iv w41) :: (elp (Sl.enc l_.edges) m53 0) :: .top :: .top :: .top :: .top :: .top :: .top :: .top :: .top :: .top :: .top :: .top :: .top :: .top :: .top :: .top :: .top :: .top :: .top :: .top :: .top :: .top :: .top :: .top :: .top :: .top :: .top :: .top :: .top :: .top :: .top :: .top :: .top :: .top :: .top :: .top :: .top :: .top :: .top :: .top :: .top :: .top :: .top :: .top :: .top :: .top :: .top :: .top :: .top :: .top :: .top :: .top :: .top :: .top :: .top :: .top :: .top :: .top :: .top :: .top :: .top :: .top :: .top :: .top :: .top :: .top :: .top :: .top :: .top :: .top :: .top :: .top :: .top :: .top :: .top :: .top :: .top :: .top :: und :: und :: und :: und :: und :: und :: und :: und :: und :: und :: []) ∧ Hold B h57 [(x1, obS (w56 : Sl Int))]) (fun st tm h57 R => ?_) R
  obtain ⟨w56, w59⟩ := st
  obtain ⟨rfl, O58⟩ := R
  rw [e_lb3_q75]
  unfold kGt
  dsimp only
  refine kA1 (v := iv (wr (w59 + 1))) (kAk _ _) ?_
  refine kA1 (v := bv (decide ((wr (w59 + 1)) < (wr ((text_.size : Int) + 1))))) (kAh _ _) ?_
  refine kBs (e := bv) (fun hb67 => ?_) (fun c68 => ?_)
  · refine kA1 (v := elp (Sl.enc l_.edges) m53 0) (kI3 _ _ _) ?_
    refine kA1 (v := elp (Sl.enc l_.edges) m53 0) ((Tab.enc h57 l_.edges).fld _ _ _) ?_
    refine kA1 (v := iv a52.frm) ((Tab.enc h57 l_.edges).ld hm55 false 1 0) ?_
    refine kA1 (v := bv (decide (a52.frm = w23))) (aCmp_eq _ _) ?_
    exact kA5 rfl
  · refine kA1 (v := bv (bif decide ((wr (w59 + 1)) < (wr ((text_.size : Int) + 1))) then c68 else false)) (kCn _ _ _) ?_
    refine kAa (fun c69 => ?_) (fun c69 => ?_)
    · refine kA1 (v := iv (wr (w23 * (wr ((text_.size : Int) + 1))))) (kHp _ _) ?_
      refine kA1 (v := iv (wr ((wr (w23 * (wr ((text_.size : Int) + 1)))) + w59))) (kAk _ _) ?_
      refine kAo (O58.tab (A := Int) (s := w56) 0 rfl) (fun m71 a70 hi72 hm73 => ?_)
      refine kA1 (v := iv a70) ((O58.tab (A := Int) (s := w56) 0 rfl).ld hm73 false 1 0) ?_
      refine kA1 (v := bv (decide (a70 < 0))) (kAh _ _) ?_
      refine sim_g10F (e := bv) (fun hb74 => ?_) (fun y77 y78 y79 y80 y81 y82 y83 y84 y85 c76 => ?_)
      · refine kAe ?_
        refine kAe ?_
        refine kAe ?_
        refine kAp ?_
        refine kA1 (v := iv (wr (w59 + 1))) (kAk _ _) ?_
        refine kAe ?_
        refine kAp ?_
        refine sim_subB11 (fun s75 => ?_)
        refine kAe ?_
        refine kAe ?_
        refine kAp ?_
        refine kA1 (v := elp (Sl.enc l_.edges) m53 0) (kI3 _ _ _) ?_
        refine kAe ?_
        refine kAp ?_
        refine kA1 (v := elp (Sl.enc l_.edges) m53 2) ((Tab.enc h57 l_.edges).fld _ _ _) ?_
        refine kAe ?_
        refine kAp ?_
        refine kA1 (v := sv a52.label) ((Tab.enc h57 l_.edges).ld hm55 false 1 2) ?_
        refine kAe ?_
        refine kA1 (v := bv (!decide (s75 = a52.label))) (aCmp_neS _ _) ?_
        exact kA5 rfl
      · refine kA1 (v := bv (bif decide (a70 < 0) then true else c76)) (kCh _ _ _) ?_
        refine kAa (fun c86 => ?_) (fun c86 => ?_)
        · refine kA1 (v := iv (wr (w59 + 1))) (kAk _ _) ?_
          exact kA5 ⟨rfl, rfl, O58⟩
        · refine kA1 (v := elp (Sl.enc l_.edges) m53 0) (kI3 _ _ _) ?_
          refine kA1 (v := elp (Sl.enc l_.edges) m53 1) ((Tab.enc h57 l_.edges).fld _ _ _) ?_
          refine kA1 (v := iv a52.upto) ((Tab.enc h57 l_.edges).ld hm55 false 1 1) ?_
          refine kA1 (v := iv (wr (a52.upto * (wr ((text_.size : Int) + 1))))) (kHp _ _) ?_
          refine kA1 (v := iv (wr ((wr (a52.upto * (wr ((text_.size : Int) + 1)))) + w59))) (kAk _ _) ?_
          refine kA1 (v := iv (wr ((wr ((wr (a52.upto * (wr ((text_.size : Int) + 1)))) + w59)) + 1))) (kAk _ _) ?_
          refine kAo (O58.tab (A := Int) (s := w56) 0 rfl) (fun m89 a88 hi90 hm91 => ?_)
          refine kA1 (v := iv a88) ((O58.tab (A := Int) (s := w56) 0 rfl).ld hm91 false 1 0) ?_
          refine kA1 (v := bv (decide (a88 < 0))) (kAh _ _) ?_
          refine kBt (e := bv) (fun hb92 => ?_) (fun c93 => ?_)
          · refine kA1 (v := elp (Sl.enc l_.edges) m53 0) (kI3 _ _ _) ?_
            refine kA1 (v := elp (Sl.enc l_.edges) m53 3) ((Tab.enc h57 l_.edges).fld _ _ _) ?_
            refine kA1 (v := iv a52.cost) ((Tab.enc h57 l_.edges).ld hm55 false 1 3) ?_
            refine kA1 (v := iv (wr (a70 + a52.cost))) (kAk _ _) ?_
            refine kA1 (v := bv (decide ((wr (a70 + a52.cost)) < a88))) (kAh _ _) ?_
            exact kA5 rfl
          · refine kA1 (v := bv (bif decide (a88 < 0) then true else c93)) (kCh _ _ _) ?_
            refine kAa (fun c94 => ?_) (fun c94 => ?_)
            · refine kA1 (v := elp (Sl.enc l_.edges) m53 0) (kI3 _ _ _) ?_
              refine kA1 (v := elp (Sl.enc l_.edges) m53 1) ((Tab.enc h57 l_.edges).fld _ _ _) ?_
              refine kA1 (v := iv a52.upto) ((Tab.enc h57 l_.edges).ld hm55 false 1 1) ?_
              refine kA1 (v := iv (wr (a52.upto * (wr ((text_.size : Int) + 1))))) (kHp _ _) ?_
              refine kA1 (v := iv (wr ((wr (a52.upto * (wr ((text_.size : Int) + 1)))) + w59))) (kAk _ _) ?_
              refine kA1 (v := iv (wr ((wr ((wr (a52.upto * (wr ((text_.size : Int) + 1)))) + w59)) + 1))) (kAk _ _) ?_
              refine kA1 (v := elp (Sl.enc l_.edges) m53 0) (kI3 _ _ _) ?_
              refine kA1 (v := elp (Sl.enc l_.edges) m53 3) ((Tab.enc h57 l_.edges).fld _ _ _) ?_
              refine kA1 (v := iv a52.cost) ((Tab.enc h57 l_.edges).ld hm55 false 1 3) ?_
              refine kA1 (v := iv (wr (a70 + a52.cost))) (kAk _ _) ?_
              refine kAo (O58.tab (A := Int) (s := w56) 0 rfl) (fun m96 a95 hi97 hm98 => ?_)
              refine kEl (A := Int) O58 0 (wr (a70 + a52.cost)) rfl hi97 hm98 rfl (by simp) (by first | rfl | simp) (by first | rfl | simp [kBk]) (fun h99 O100 => ?_)
              replace O100 : Hold B h99 [(x1, obS ((kGk w56 (wr ((wr ((wr (a52.upto * (wr ((text_.size : Int) + 1)))) + w59)) + 1)) (wr (a70 + a52.cost))) : Sl Int))] := O100
              refine kA1 (v := iv (wr (w59 + 1))) (kAk _ _) ?_
              exact kA5 ⟨rfl, rfl, O100⟩
            · refine kA1 (v := iv (wr (w59 + 1))) (kAk _ _) ?_
              exact kA5 ⟨rfl, rfl, O58⟩
    · exact kA5 ⟨nofun, _, _, _, _, rfl, O58⟩
theorem tl2_q75 (env : Nat → Contract) {B : Base}  (l_ : Lattice) (l_p : Pt Lattice) (hp_l_ : l_p.get = some l_) (text_ : ByteArray) (x1 : AV) (l5 : List Int) (z13 : AV) (m15 : Nat) (w23 : Int)  {st : (Sl Int) × Int} {tm : TM} {h : kA7} (R : (fun (st : (Sl Int) × Int) tm h39 => match st with | (w38, w41) => tm = ((AV.fptr (Row.w Lattice) (l_p.tab.map Row.cells) l_p.i 0) :: (sv text_) :: und :: und :: (iv 0) :: (iv (wr ((text_.size : Int) + 1))) :: x1 :: z13 :: (iv w23) :: (iv w41) :: .top :: .top :: .top :: .top :: (sv text_) :: (iv (text_.size : Int)) :: (iv (wr ((text_.size : Int) + 1))) :: (AV.fptr (Row.w Lattice) (l_p.tab.map Row.cells) l_p.i 0) :: (AV.fptr (Row.w Lattice) (l_p.tab.map Row.cells) l_p.i 0) :: (AV.fptr (Row.w Lattice) (l_p.tab.map Row.cells) l_p.i 0) :: (iv l_.nodes) :: (iv (wr ((text_.size : Int) + 1))) :: (iv (wr (l_.nodes * (wr ((text_.size : Int) + 1))))) :: x1 :: x1 :: (iv ((((some l5).getD []).length : Nat) : Int)) :: .top :: .top :: .top :: .top :: .top :: .top :: .top :: x1 :: (elp x1 m15 0) :: (iv w23) :: (AV.fptr (Row.w Lattice) (l_p.tab.map Row.cells) l_p.i 0) :: (AV.fptr (Row.w Lattice) (l_p.tab.map Row.cells) l_p.i 0) :: (AV.fptr (Row.w Lattice) (l_p.tab.map Row.cells) l_p.i 0) :: (iv l_.nodes) :: (bv (decide (w23 < l_.nodes))) :: .top :: .top :: .top :: .top :: .top :: .top :: .top :: .top :: .top :: .top :: .top :: .top :: .top :: .top :: .top :: .top :: .top :: .top :: .top :: .top :: .top :: .top :: .top :: .top :: .top :: .top :: .top :: .top :: .top :: .top :: .top :: .top :: .top :: .top :: .top :: .top :: .top :: .top :: .top :: .top :: .top :: .top :: .top :: .top :: .top :: .top :: .top :: .top :: .top :: .top :: .top :: .top :: .top :: .top :: .top :: .top :: .top :: .top :: .top :: .top :: .top :: .top :: .top :: .top :: .top :: .top :: .top :: .top :: .top :: .top :: .top :: .top :: .top :: .top :: .top :: .top :: .top :: .top :: .top :: .top :: .top :: .top :: .top :: .top :: .top :: .top :: .top :: .top :: .top :: .top :: .top :: .top :: .top :: .top :: und :: und :: und :: und :: und :: und :: und :: und :: und :: und :: []) ∧ Hold B h39 [(x1, obS (w38 : Sl Int))]) st tm h) : Sim (kB3 hm2_q75 xm2_q75 (lb2_q75 env) tm h) (kAw (s2_q75 l_ text_ w23) st) (fun (q : Sl Int) (r : Res) => match q with | q44 => ∃ (q45 : Int) (z46 : AV) (z47 : AV) (z48 : AV) (z49 : AV) (h42 : kA7), r = (.exit 4, ((AV.fptr (Row.w Lattice) (l_p.tab.map Row.cells) l_p.i 0) :: (sv text_) :: und :: und :: (iv 0) :: (iv (wr ((text_.size : Int) + 1))) :: x1 :: z13 :: (iv w23) :: (iv q45) :: z46 :: z47 :: z48 :: z49 :: (sv text_) :: (iv (text_.size : Int)) :: (iv (wr ((text_.size : Int) + 1))) :: (AV.fptr (Row.w Lattice) (l_p.tab.map Row.cells) l_p.i 0) :: (AV.fptr (Row.w Lattice) (l_p.tab.map Row.cells) l_p.i 0) :: (AV.fptr (Row.w Lattice) (l_p.tab.map Row.cells) l_p.i 0) :: (iv l_.nodes) :: (iv (wr ((text_.size : Int) + 1))) :: (iv (wr (l_.nodes * (wr ((text_.size : Int) + 1))))) :: x1 :: x1 :: (iv ((((some l5).getD []).length : Nat) : Int)) :: .top :: .top :: .top :: .top :: .top :: .top :: .top :: x1 :: (elp x1 m15 0) :: (iv w23) :: (AV.fptr (Row.w Lattice) (l_p.tab.map Row.cells) l_p.i 0) :: (AV.fptr (Row.w Lattice) (l_p.tab.map Row.cells) l_p.i 0) :: (AV.fptr (Row.w Lattice) (l_p.tab.map Row.cells) l_p.i 0) :: (iv l_.nodes) :: (bv (decide (w23 < l_.nodes))) :: .top :: .top :: .top :: .top :: .top :: .top :: .top :: .top :: .top :: .top :: .top :: .top :: .top :: .top :: .top :: .top :: .top :: .top :: .top :: .top :: .top :: .top :: .top :: .top :: .top :: .top :: .top :: .top :: .top :: .top :: .top :: .top :: .top :: .top :: .top :: .top :: .top :: .top :: .top :: .top :: .top :: .top :: .top :: .top :: .top :: .top :: .top :: .top :: .top :: .top :: .top :: .top :: .top :: .top :: .top :: .top :: .top :: .top :: .top :: .top :: .top :: .top :: .top :: .top :: .top :: .top :: .top :: .top :: .top :: .top :: .top :: .top :: .top :: .top :: .top :: .top :: .top :: .top :: .top :: .top :: .top :: .top :: .top :: .top :: .top :: .top :: .top :: .top :: .top :: .top :: .top :: .top :: .top :: .top :: und :: und :: und :: und :: und :: und :: und :: und :: und :: und :: []), h42) ∧ Hold B h42 [(x1, obS (q44 : Sl Int))]) := by
  refine kB1 (Rel := fun (st : (Sl Int) × Int) tm h39 => match st with | (w38, w41) => tm = ((AV.fptr (Row.w Lattice) (l_p.tab.map Row.cells) l_p.i 0) :: (sv text_) :: und :: und :: (iv 0) :: (iv (wr ((text_.size : Int) + 1))) :: x1 :: z13 :: (iv w23) :: (iv w41) :: .top :: .top :: .top :: .top :: (sv text_) :: (iv (text_.size : Int)) :: (iv (wr ((text_.size : Int) + 1))) :: (AV.fptr (Row.w Lattice) (l_p.tab.map Row.cells) l_p.i 0) :: (AV.fptr (Row.w Lattice) (l_p.tab.map Row.cells) l_p.i 0) :: (AV.fptr (Row.w Lattice) (l_p.tab.map Row.cells) l_p.i 0) :: (iv l_.nodes) :: (iv (wr ((text_.size : Int) + 1))) :: (iv (wr (l_.nodes * (wr ((text_.size : Int) + 1))))) :: x1 :: x1 :: (iv ((((some l5).getD []).length : Nat) : Int)) :: .top :: .top :: .top :: .top :: .top :: .top :: .top :: x1 :: (elp x1 m15 0) :: (iv w23) :: (AV.fptr (Row.w Lattice) (l_p.tab.map Row.cells) l_p.i 0) :: (AV.fptr (Row.w Lattice) (l_p.tab.map Row.cells) l_p.i 0) :: (AV.fptr (Row.w Lattice) (l_p.tab.map Row.cells) l_p.i 0) :: (iv l_.nodes) :: (bv (decide (w23 < l_.nodes))) :: .top :: .top :: .top :: .top :: .top :: .top :: .top :: .top :: .top :: .top :: .top :: .top :: .top :: .top :: .top :: .top :: .top :: .top :: .top :: .top :: .top :: .top :: .top :: .top :: .top :: .top :: .top :: .top :: .top :: .top :: .top :: .top :: .top :: .top :: .top :: .top :: .top :: .top :: .top :: .top :: .top :: .top :: .top :: .top :: .top :: .top :: .top :: .top :: .top :: .top :: .top :: .top :: .top :: .top :: .top :: .top :: .top :: .top :: .top :: .top :: .top :: .top :: .top :: .top :: .top :: .top :: .top :: .top :: .top :: .top :: .top :: .top :: .top :: .top :: .top :: .top :: .top :: .top :: .top :: .top :: .top :: .top :: .top :: .top :: .top :: .top :: .top :: .top :: .top :: .top :: .top :: .top :: .top :: .top :: und :: und :: und :: und :: und :: und :: und :: und :: und :: und :: []) ∧ Hold B h39 [(x1, obS (w38 : Sl Int))]) (fun st tm h39 R => ?_) R
  obtain ⟨w38, w41⟩ := st
  obtain ⟨rfl, O40⟩ := R
  rw [e_lb2_q75]
  unfold s2_q75
  dsimp only
  refine kA1 (v := AV.fptr (Row.w Lattice) (l_p.tab.map Row.cells) l_p.i 0) rfl ?_
  refine kA1 (v := AV.fptr (Row.w Lattice) (l_p.tab.map Row.cells) l_p.i 1) rfl ?_
  refine kA1 (v := Sl.enc l_.edges) (kBx hp_l_ false 1 1) ?_
  refine kA1 (v := iv (((l_.edges.getD []).length : Nat) : Int)) (Tab.enc h39 l_.edges).len ?_
  refine kA1 (v := bv (decide (w41 < (((l_.edges.getD []).length : Nat) : Int)))) (kAh _ _) ?_
  refine kAa (fun c51 => ?_) (fun c51 => ?_)
  · refine kA1 (v := AV.fptr (Row.w Lattice) (l_p.tab.map Row.cells) l_p.i 0) rfl ?_
    refine kA1 (v := AV.fptr (Row.w Lattice) (l_p.tab.map Row.cells) l_p.i 1) rfl ?_
    refine kA1 (v := Sl.enc l_.edges) (kBx hp_l_ false 1 1) ?_
    refine kAo (Tab.enc h39 l_.edges) (fun m53 a52 hi54 hm55 => ?_)
    refine kB0 ((tl3_q75 env l_ l_p text_ x1 l5 z13 m15 w23 w41 a52 m53 hm55) ⟨rfl, O40⟩) (fun qq105 r hq => ?_)
    revert hq
    revert qq105
    intro q62 hq
    obtain ⟨q63, z64, z65, h60, rfl, O61⟩ := hq
    rw [e_lk3x6_q75]
    refine kA1 (v := iv (wr (w41 + 1))) (kAk _ _) ?_
    exact kA5 ⟨rfl, rfl, O61⟩
  · exact kA5 ⟨nofun, _, _, _, _, _, _, rfl, O40⟩
theorem tl1_q75 (env : Nat → Contract) {B : Base}  (l_ : Lattice) (l_p : Pt Lattice) (hp_l_ : l_p.get = some l_) (text_ : ByteArray) (x1 : AV) (l5 : List Int) (z13 : AV) (m15 : Nat)  {st : (Sl Int) × Int} {tm : TM} {h : kA7} (R : (fun (st : (Sl Int) × Int) tm h21 => match st with | (w20, w23) => tm = ((AV.fptr (Row.w Lattice) (l_p.tab.map Row.cells) l_p.i 0) :: (sv text_) :: und :: und :: (iv 0) :: (iv (wr ((text_.size : Int) + 1))) :: x1 :: z13 :: (iv w23) :: .top :: .top :: .top :: .top :: .top :: (sv text_) :: (iv (text_.size : Int)) :: (iv (wr ((text_.size : Int) + 1))) :: (AV.fptr (Row.w Lattice) (l_p.tab.map Row.cells) l_p.i 0) :: (AV.fptr (Row.w Lattice) (l_p.tab.map Row.cells) l_p.i 0) :: (AV.fptr (Row.w Lattice) (l_p.tab.map Row.cells) l_p.i 0) :: (iv l_.nodes) :: (iv (wr ((text_.size : Int) + 1))) :: (iv (wr (l_.nodes * (wr ((text_.size : Int) + 1))))) :: x1 :: x1 :: (iv ((((some l5).getD []).length : Nat) : Int)) :: .top :: .top :: .top :: .top :: .top :: .top :: .top :: x1 :: (elp x1 m15 0) :: .top :: .top :: .top :: .top :: .top :: .top :: .top :: .top :: .top :: .top :: .top :: .top :: .top :: .top :: .top :: .top :: .top :: .top :: .top :: .top :: .top :: .top :: .top :: .top :: .top :: .top :: .top :: .top :: .top :: .top :: .top :: .top :: .top :: .top :: .top :: .top :: .top :: .top :: .top :: .top :: .top :: .top :: .top :: .top :: .top :: .top :: .top :: .top :: .top :: .top :: .top :: .top :: .top :: .top :: .top :: .top :: .top :: .top :: .top :: .top :: .top :: .top :: .top :: .top :: .top :: .top :: .top :: .top :: .top :: .top :: .top :: .top :: .top :: .top :: .top :: .top :: .top :: .top :: .top :: .top :: .top :: .top :: .top :: .top :: .top :: .top :: .top :: .top :: .top :: .top :: .top :: .top :: .top :: .top :: .top :: .top :: .top :: .top :: .top :: .top :: und :: und :: und :: und :: und :: und :: und :: und :: und :: und :: []) ∧ Hold B h21 [(x1, obS (w20 : Sl Int))]) st tm h) : Sim (kB3 hm1_q75 xm1_q75 (lb1_q75 env) tm h) (kAw (s1_q75 l_ text_) st) (fun (q : Sl Int) (r : Res) => match q with | q26 => ∃ (q27 : Int) (z28 : AV) (z29 : AV) (z30 : AV) (z31 : AV) (z32 : AV) (h24 : kA7), r = (.exit 2, ((AV.fptr (Row.w Lattice) (l_p.tab.map Row.cells) l_p.i 0) :: (sv text_) :: und :: und :: (iv 0) :: (iv (wr ((text_.size : Int) + 1))) :: x1 :: z13 :: (iv q27) :: z28 :: z29 :: z30 :: z31 :: z32 :: (sv text_) :: (iv (text_.size : Int)) :: (iv (wr ((text_.size : Int) + 1))) :: (AV.fptr (Row.w Lattice) (l_p.tab.map Row.cells) l_p.i 0) :: (AV.fptr (Row.w Lattice) (l_p.tab.map Row.cells) l_p.i 0) :: (AV.fptr (Row.w Lattice) (l_p.tab.map Row.cells) l_p.i 0) :: (iv l_.nodes) :: (iv (wr ((text_.size : Int) + 1))) :: (iv (wr (l_.nodes * (wr ((text_.size : Int) + 1))))) :: x1 :: x1 :: (iv ((((some l5).getD []).length : Nat) : Int)) :: .top :: .top :: .top :: .top :: .top :: .top :: .top :: x1 :: (elp x1 m15 0) :: .top :: .top :: .top :: .top :: .top :: .top :: .top :: .top :: .top :: .top :: .top :: .top :: .top :: .top :: .top :: .top :: .top :: .top :: .top :: .top :: .top :: .top :: .top :: .top :: .top :: .top :: .top :: .top :: .top :: .top :: .top :: .top :: .top :: .top :: .top :: .top :: .top :: .top :: .top :: .top :: .top :: .top :: .top :: .top :: .top :: .top :: .top :: .top :: .top :: .top :: .top :: .top :: .top :: .top :: .top :: .top :: .top :: .top :: .top :: .top :: .top :: .top :: .top :: .top :: .top :: .top :: .top :: .top :: .top :: .top :: .top :: .top :: .top :: .top :: .top :: .top :: .top :: .top :: .top :: .top :: .top :: .top :: .top :: .top :: .top :: .top :: .top :: .top :: .top :: .top :: .top :: .top :: .top :: .top :: .top :: .top :: .top :: .top :: .top :: .top :: und :: und :: und :: und :: und :: und :: und :: und :: und :: und :: []), h24) ∧ Hold B h24 [(x1, obS (q26 : Sl Int))]) := by
  refine kB1 (Rel := fun (st : (Sl Int) × Int) tm h21 => match st with | (w20, w23) => tm = ((AV.fptr (Row.w Lattice) (l_p.tab.map Row.cells) l_p.i 0) :: (sv text_) :: und :: und :: (iv 0) :: (iv (wr ((text_.size : Int) + 1))) :: x1 :: z13 :: (iv w23) :: .top :: .top :: .top :: .top :: .top :: (sv text_) :: (iv (text_.size : Int)) :: (iv (wr ((text_.size : Int) + 1))) :: (AV.fptr (Row.w Lattice) (l_p.tab.map Row.cells) l_p.i 0) :: (AV.fptr (Row.w Lattice) (l_p.tab.map Row.cells) l_p.i 0) :: (AV.fptr (Row.w Lattice) (l_p.tab.map Row.cells) l_p.i 0) :: (iv l_.nodes) :: (iv (wr ((text_.size : Int) + 1))) :: (iv (wr (l_.nodes * (wr ((text_.size : Int) + 1))))) :: x1 :: x1 :: (iv ((((some l5).getD []).length : Nat) : Int)) :: .top :: .top :: .top :: .top :: .top :: .top :: .top :: x1 :: (elp x1 m15 0) :: .top :: .top :: .top :: .top :: .top :: .top :: .top :: .top :: .top :: .top :: .top :: .top :: .top :: .top :: .top :: .top :: .top :: .top :: .top :: .top :: .top :: .top :: .top :: .top :: .top :: .top :: .top :: .top :: .top :: .top :: .top :: .top :: .top :: .top :: .top :: .top :: .top :: .top :: .top :: .top :: .top :: .top :: .top :: .top :: .top :: .top :: .top :: .top :: .top :: .top :: .top :: .top :: .top :: .top :: .top :: .top :: .top :: .top :: .top :: .top :: .top :: .top :: .top :: .top :: .top :: .top :: .top :: .top :: .top :: .top :: .top :: .top :: .top :: .top :: .top :: .top :: .top :: .top :: .top :: .top :: .top :: .top :: .top :: .top :: .top :: .top :: .top :: .top :: .top :: .top :: .top :: .top :: .top :: .top :: .top :: .top :: .top :: .top :: .top :: .top :: und :: und :: und :: und :: und :: und :: und :: und :: und :: und :: []) ∧ Hold B h21 [(x1, obS (w20 : Sl Int))]) (fun st tm h21 R => ?_) R
  obtain ⟨w20, w23⟩ := st
  obtain ⟨rfl, O22⟩ := R
  rw [e_lb1_q75]
  unfold s1_q75
  dsimp only
  refine kA1 (v := AV.fptr (Row.w Lattice) (l_p.tab.map Row.cells) l_p.i 0) rfl ?_
  refine kA1 (v := AV.fptr (Row.w Lattice) (l_p.tab.map Row.cells) l_p.i 0) rfl ?_
  refine kA1 (v := iv l_.nodes) (kBx hp_l_ false 1 0) ?_
  refine kA1 (v := bv (decide (w23 < l_.nodes))) (kAh _ _) ?_
  refine kAa (fun c37 => ?_) (fun c37 => ?_)
  · refine kB0 ((tl2_q75 env l_ l_p hp_l_ text_ x1 l5 z13 m15 w23) ⟨rfl, O22⟩) (fun qq108 r hq => ?_)
    revert hq
    revert qq108
    intro q44 hq
    obtain ⟨q45, z46, z47, z48, z49, h42, rfl, O43⟩ := hq
    rw [e_lk2x4_q75]
    refine kA1 (v := iv (wr (w23 + 1))) (kAk _ _) ?_
    exact kA5 ⟨rfl, rfl, O43⟩
  · exact kA5 ⟨nofun, _, _, _, _, _, _, _, rfl, O22⟩
theorem tl0_q75 (env : Nat → Contract) {B : Base}  (l_ : Lattice) (l_p : Pt Lattice) (text_ : ByteArray) (x1 : AV) (l5 : List Int)  {st : (Sl Int) × Int} {tm : TM} {h : kA7} (R : (fun (st : (Sl Int) × Int) tm h7 => match st with | (w6, w9) => tm = ((AV.fptr (Row.w Lattice) (l_p.tab.map Row.cells) l_p.i 0) :: (sv text_) :: und :: und :: (iv 0) :: (iv (wr ((text_.size : Int) + 1))) :: x1 :: .top :: und :: und :: und :: und :: und :: und :: (sv text_) :: (iv (text_.size : Int)) :: (iv (wr ((text_.size : Int) + 1))) :: (AV.fptr (Row.w Lattice) (l_p.tab.map Row.cells) l_p.i 0) :: (AV.fptr (Row.w Lattice) (l_p.tab.map Row.cells) l_p.i 0) :: (AV.fptr (Row.w Lattice) (l_p.tab.map Row.cells) l_p.i 0) :: (iv l_.nodes) :: (iv (wr ((text_.size : Int) + 1))) :: (iv (wr (l_.nodes * (wr ((text_.size : Int) + 1))))) :: x1 :: x1 :: (iv ((((some l5).getD []).length : Nat) : Int)) :: (iv w9) :: .top :: .top :: .top :: .top :: .top :: .top :: und :: und :: und :: und :: und :: und :: und :: und :: und :: und :: und :: und :: und :: und :: und :: und :: und :: und :: und :: und :: und :: und :: und :: und :: und :: und :: und :: und :: und :: und :: und :: und :: und :: und :: und :: und :: und :: und :: und :: und :: und :: und :: und :: und :: und :: und :: und :: und :: und :: und :: und :: und :: und :: und :: und :: und :: und :: und :: und :: und :: und :: und :: und :: und :: und :: und :: und :: und :: und :: und :: und :: und :: und :: und :: und :: und :: und :: und :: und :: und :: und :: und :: und :: und :: und :: und :: und :: und :: und :: und :: und :: und :: und :: und :: und :: und :: und :: und :: und :: und :: und :: und :: und :: und :: und :: und :: und :: und :: und :: und :: und :: und :: []) ∧ Hold B h7 [(x1, obS (w6 : Sl Int))]) st tm h) : Sim (kB3 hm0_q75 xm0_q75 (lb0_q75 env) tm h) (kAw (s0_q75 l5) st) (fun (q : Sl Int) (r : Res) => match q with | q12 => ∃ (z13 : AV) (h10 : kA7), r = (.exit 0, ((AV.fptr (Row.w Lattice) (l_p.tab.map Row.cells) l_p.i 0) :: (sv text_) :: und :: und :: (iv 0) :: (iv (wr ((text_.size : Int) + 1))) :: x1 :: z13 :: und :: und :: und :: und :: und :: und :: (sv text_) :: (iv (text_.size : Int)) :: (iv (wr ((text_.size : Int) + 1))) :: (AV.fptr (Row.w Lattice) (l_p.tab.map Row.cells) l_p.i 0) :: (AV.fptr (Row.w Lattice) (l_p.tab.map Row.cells) l_p.i 0) :: (AV.fptr (Row.w Lattice) (l_p.tab.map Row.cells) l_p.i 0) :: (iv l_.nodes) :: (iv (wr ((text_.size : Int) + 1))) :: (iv (wr (l_.nodes * (wr ((text_.size : Int) + 1))))) :: x1 :: x1 :: (iv ((((some l5).getD []).length : Nat) : Int)) :: .top :: .top :: .top :: .top :: .top :: .top :: .top :: und :: und :: und :: und :: und :: und :: und :: und :: und :: und :: und :: und :: und :: und :: und :: und :: und :: und :: und :: und :: und :: und :: und :: und :: und :: und :: und :: und :: und :: und :: und :: und :: und :: und :: und :: und :: und :: und :: und :: und :: und :: und :: und :: und :: und :: und :: und :: und :: und :: und :: und :: und :: und :: und :: und :: und :: und :: und :: und :: und :: und :: und :: und :: und :: und :: und :: und :: und :: und :: und :: und :: und :: und :: und :: und :: und :: und :: und :: und :: und :: und :: und :: und :: und :: und :: und :: und :: und :: und :: und :: und :: und :: und :: und :: und :: und :: und :: und :: und :: und :: und :: und :: und :: und :: und :: und :: und :: und :: und :: und :: und :: und :: []), h10) ∧ Hold B h10 [(x1, obS (q12 : Sl Int))]) := by
  refine kB1 (Rel := fun (st : (Sl Int) × Int) tm h7 => match st with | (w6, w9) => tm = ((AV.fptr (Row.w Lattice) (l_p.tab.map Row.cells) l_p.i 0) :: (sv text_) :: und :: und :: (iv 0) :: (iv (wr ((text_.size : Int) + 1))) :: x1 :: .top :: und :: und :: und :: und :: und :: und :: (sv text_) :: (iv (text_.size : Int)) :: (iv (wr ((text_.size : Int) + 1))) :: (AV.fptr (Row.w Lattice) (l_p.tab.map Row.cells) l_p.i 0) :: (AV.fptr (Row.w Lattice) (l_p.tab.map Row.cells) l_p.i 0) :: (AV.fptr (Row.w Lattice) (l_p.tab.map Row.cells) l_p.i 0) :: (iv l_.nodes) :: (iv (wr ((text_.size : Int) + 1))) :: (iv (wr (l_.nodes * (wr ((text_.size : Int) + 1))))) :: x1 :: x1 :: (iv ((((some l5).getD []).length : Nat) : Int)) :: (iv w9) :: .top :: .top :: .top :: .top :: .top :: .top :: und :: und :: und :: und :: und :: und :: und :: und :: und :: und :: und :: und :: und :: und :: und :: und :: und :: und :: und :: und :: und :: und :: und :: und :: und :: und :: und :: und :: und :: und :: und :: und :: und :: und :: und :: und :: und :: und :: und :: und :: und :: und :: und :: und :: und :: und :: und :: und :: und :: und :: und :: und :: und :: und :: und :: und :: und :: und :: und :: und :: und :: und :: und :: und :: und :: und :: und :: und :: und :: und :: und :: und :: und :: und :: und :: und :: und :: und :: und :: und :: und :: und :: und :: und :: und :: und :: und :: und :: und :: und :: und :: und :: und :: und :: und :: und :: und :: und :: und :: und :: und :: und :: und :: und :: und :: und :: und :: und :: und :: und :: und :: und :: []) ∧ Hold B h7 [(x1, obS (w6 : Sl Int))]) (fun st tm h7 R => ?_) R
  obtain ⟨w6, w9⟩ := st
  obtain ⟨rfl, O8⟩ := R
  rw [e_lb0_q75]
  unfold s0_q75
  dsimp only
  refine kA1 (v := bv (decide (w9 < ((((some l5).getD []).length : Nat) : Int)))) (kAh _ _) ?_
  refine kAa (fun c112 => ?_) (fun c112 => ?_)
  · refine kAo (O8.tab (A := Int) (s := w6) 0 rfl) (fun m114 a113 hi115 hm116 => ?_)
    refine kEl (A := Int) O8 0 (-1) rfl hi115 hm116 rfl (by simp) (by first | rfl | simp) (by first | rfl | simp [kBk]) (fun h117 O118 => ?_)
    replace O118 : Hold B h117 [(x1, obS ((kGk w6 w9 (-1)) : Sl Int))] := O118
    refine kA1 (v := iv (wr (w9 + 1))) (kAk _ _) ?_
    exact kA5 ⟨rfl, rfl, O118⟩
  · exact kA5 ⟨nofun, _, _, rfl, O8⟩
theorem ts_q75 (env : Nat → Contract)  (l_ : Lattice) (text_ : ByteArray) {l_p : Pt Lattice} (hp_l_ : l_p.get = some l_) : Sim (kAl Try.prog env n_q75 [AV.fptr (Row.w Lattice) (l_p.tab.map Row.cells) l_p.i 0, sv text_] []) (t_q75 l_ text_) fun c p => release p.2 depth p.1 = some ((fun c : Int => enc c) c) := by
  have O := Hold.nil []
  generalize hB : (⟨[], []⟩ : Base) = B at O
  clear hB
  rw [e_q75]
  unfold t_q75
  refine kA1 (v := iv (text_.size : Int)) rfl ?_
  refine kA1 (v := iv (wr ((text_.size : Int) + 1))) (kAk _ _) ?_
  refine kA1 (v := AV.fptr (Row.w Lattice) (l_p.tab.map Row.cells) l_p.i 0) rfl ?_
  refine kA1 (v := AV.fptr (Row.w Lattice) (l_p.tab.map Row.cells) l_p.i 0) rfl ?_
  refine kA1 (v := iv l_.nodes) (kBx hp_l_ false 1 0) ?_
  refine kA1 (v := iv (wr (l_.nodes * (wr ((text_.size : Int) + 1))))) (kHp _ _) ?_
  refine kFl (A := Int) O 0 rfl (by decide) (fun l5 x1 h2 O3 => ?_)
  replace O3 : Hold B h2 [(x1, obS ((some l5) : Sl Int))] := O3
  refine kA1 (v := iv ((((some l5).getD []).length : Nat) : Int)) (O3.tab (A := Int) (s := (some l5)) 0 rfl).len ?_
  refine kB0 ((tl0_q75 env l_ l_p text_ x1 l5) ⟨rfl, O3⟩) (fun qq122 r hq => ?_)
  revert hq
  revert qq122
  intro q12 hq
  obtain ⟨z13, h10, rfl, O11⟩ := hq
  rw [e_lk0x0_q75]
  refine kAo (O11.tab (A := Int) (s := q12) 0 rfl) (fun m15 a14 hi16 hm17 => ?_)
  refine kEl (A := Int) O11 0 0 rfl hi16 hm17 rfl (by simp) (by first | rfl | simp) (by first | rfl | simp [kBk]) (fun h18 O19 => ?_)
  replace O19 : Hold B h18 [(x1, obS ((kGk q12 0 0) : Sl Int))] := O19
  refine kB0 ((tl1_q75 env l_ l_p hp_l_ text_ x1 l5 z13 m15) ⟨rfl, O19⟩) (fun qq111 r hq => ?_)
  revert hq
  revert qq111
  intro q26 hq
  obtain ⟨q27, z28, z29, z30, z31, z32, h24, rfl, O25⟩ := hq
  rw [e_lk1x2_q75]
  refine kA1 (v := AV.fptr (Row.w Lattice) (l_p.tab.map Row.cells) l_p.i 0) rfl ?_
  refine kA1 (v := AV.fptr (Row.w Lattice) (l_p.tab.map Row.cells) l_p.i 0) rfl ?_
  refine kA1 (v := iv l_.nodes) (kBx hp_l_ false 1 0) ?_
  refine kA1 (v := iv (wr (l_.nodes * (wr ((text_.size : Int) + 1))))) (kHp _ _) ?_
  refine kA1 (v := iv (wr ((wr (l_.nodes * (wr ((text_.size : Int) + 1)))) - 1))) (kC4 _ _) ?_
  refine kAo (O25.tab (A := Int) (s := q26) 0 rfl) (fun m34 a33 hi35 hm36 => ?_)
  refine kA1 (v := iv a33) ((O25.tab (A := Int) (s := q26) 0 rfl).ld hm36 false 1 0) ?_
  exact kA5 (kA3 (by rfl) _)
theorem tt_q75 : kAi Try.prog n_q75 (C2 (fun c : Int => enc c) tp_q75) := kC2 E0 kBb hb_q75 fun l_p text_ => kCm fun l_ hp_l_ => ts_q75 _  l_ text_ hp_l_
def s0_q67 (list_ : Sl Lattice) (x_ : Lexicon) (words_ : Sl ByteArray) : (Int × Int) → Option (Sum (Int × Int) (Sum Int (Int × Int))) := fun (w17, w18) =>
  bif decide (w18 < (((words_.getD []).length : Nat) : Int)) then
    kA0 (kC1 (words_.getD []) w18) fun a36 =>
    kA0 (t_q76 x_ a36) fun c40 =>
    bif decide (c40 < 0) then
      some (.inr (.inr (0, 3)))
    else
      kA0 (kC1 (list_.getD []) w18) fun a43 =>
      kA0 (kC1 (words_.getD []) w18) fun a47 =>
      kA0 (t_q75 a43 a47) fun c51 =>
      bif decide (c51 < 0) then
        some (.inr (.inr (0, 3)))
      else
        kA0 (kC1 (x_.entries.getD []) c40) fun a54 =>
        some (.inl (wr (w17 + (wr (c51 + a54.cost))), wr (w18 + 1)))
  else
    some (.inr (.inl w17))
def s1_q67 (list_ : Sl Lattice) (x_ : Lexicon) (words_ : Sl ByteArray) : (Int × Int) → Option (Sum (Int × Int) (Sum Int (Int × Int))) := fun (w66, w67) =>
  bif decide (w67 < (((words_.getD []).length : Nat) : Int)) then
    kA0 (kC1 (words_.getD []) w67) fun a85 =>
    kA0 (t_q76 x_ a85) fun c89 =>
    bif decide (c89 < 0) then
      some (.inr (.inr (0, 3)))
    else
      kA0 (kC1 (list_.getD []) w67) fun a92 =>
      kA0 (kC1 (words_.getD []) w67) fun a96 =>
      kA0 (t_q75 a92 a96) fun c100 =>
      bif decide (c100 < 0) then
        some (.inr (.inr (0, 3)))
      else
        kA0 (kC1 (x_.entries.getD []) c89) fun a103 =>
        some (.inl (wr (w66 + (wr (c100 + a103.cost))), wr (w67 + 1)))
  else
    some (.inr (.inl w66))
def t_q67 (list_ : Sl Lattice) (x_ : Lexicon) (m_ : Model) (words_ : Sl ByteArray) : Option (Int × Int) :=
  kA0 (t_q80 list_ x_ m_) fun c9 =>
  kA0 (bif decide (c9 = 0) then (some (!decide ((((words_.getD []).length : Nat) : Int) = (((list_.getD []).length : Nat) : Int)))) else some false) fun c11 =>
  bif (bif decide (c9 = 0) then c11 else false) then
    bif !decide (2 = 0) then
      some (0, 2)
    else
      kA0 (t_q84 m_ words_) fun c14 =>
      kA0 (kAw (s0_q67 list_ x_ words_) (c14, 0)) fun qq61 => match qq61 with
      | (.inl q23) =>
          some (q23, 0)
      | (.inr (q29, q30)) =>
          some (q29, q30)
  else
    bif !decide (c9 = 0) then
      some (0, c9)
    else
      kA0 (t_q84 m_ words_) fun c63 =>
      kA0 (kAw (s1_q67 list_ x_ words_) (c63, 0)) fun qq110 => match qq110 with
      | (.inl q72) =>
          some (q72, 0)
      | (.inr (q78, q79)) =>
          some (q78, q79)
theorem tl0_q67 (env : Nat → Contract) {B : Base} (he_q75 : env n_q75 = .pure (C2 (fun c : Int => enc c) tp_q75)) (he_q76 : env n_q76 = .pure (C2 (fun c : Int => enc c) tp_q76)) (he_q80 : env n_q80 = .pure (C3 (fun c : Int => enc c) tp_q80)) (he_q84 : env n_q84 = .pure (C2 (fun c : Int => enc c) tp_q84)) (list_ : Sl Lattice) (x_ : Lexicon) (m_ : Model) (words_ : Sl ByteArray) (o1 : Nat) (o5 : Nat) (c9 : Int) (c11 : Bool) (c14 : Int)  {st : Int × Int} {tm : TM} {h : kA7} (R : (fun (st : Int × Int) tm h15 => match st with | (w17, w18) => tm = ((Sl.enc list_) :: (AV.agg [Sl.enc x_.entries]) :: (AV.agg [iv m_.default, Sl.enc m_.bigrams]) :: (Sl.enc words_) :: und :: (AV.ptr o1 1 0 0) :: (AV.ptr o5 1 0 0) :: und :: .top :: .top :: (iv 2) :: (iv w17) :: (iv w18) :: .top :: .top :: (Sl.enc list_) :: (iv c9) :: (iv c9) :: (bv (decide (c9 = 0))) :: (bv (decide (c9 = 0))) :: .top :: .top :: .top :: .top :: (cond (decide (c9 = 0)) (bv c11) und) :: (bv (bif decide (c9 = 0) then c11 else false)) :: (iv 2) :: (bv (!decide (2 = 0))) :: und :: (Sl.enc words_) :: (iv c14) :: .top :: .top :: .top :: .top :: .top :: .top :: .top :: .top :: .top :: .top :: .top :: .top :: .top :: .top :: .top :: .top :: .top :: .top :: .top :: .top :: .top :: .top :: .top :: .top :: .top :: .top :: .top :: .top :: .top :: .top :: .top :: .top :: .top :: und :: []) ∧ Hold B h15 [(AV.ptr o1 1 0 0, .pt 1 [Sl.enc x_.entries]), (AV.ptr o5 1 0 0, .pt 2 [iv m_.default, Sl.enc m_.bigrams])]) st tm h) : Sim (kB3 hm0_q67 xm0_q67 (lb0_q67 env) tm h) (kAw (s0_q67 list_ x_ words_) st) (fun (q : Sum Int (Int × Int)) (r : Res) => match q with | .inl q23 => ∃ (q24 : Int) (z21 : AV) (z22 : AV) (z25 : AV) (z26 : AV) (h19 : kA7), r = (.exit 0, ((Sl.enc list_) :: (AV.agg [Sl.enc x_.entries]) :: (AV.agg [iv m_.default, Sl.enc m_.bigrams]) :: (Sl.enc words_) :: und :: (AV.ptr o1 1 0 0) :: (AV.ptr o5 1 0 0) :: und :: z21 :: z22 :: (iv 2) :: (iv q23) :: (iv q24) :: z25 :: z26 :: (Sl.enc list_) :: (iv c9) :: (iv c9) :: (bv (decide (c9 = 0))) :: (bv (decide (c9 = 0))) :: .top :: .top :: .top :: .top :: (cond (decide (c9 = 0)) (bv c11) und) :: (bv (bif decide (c9 = 0) then c11 else false)) :: (iv 2) :: (bv (!decide (2 = 0))) :: und :: (Sl.enc words_) :: (iv c14) :: .top :: .top :: .top :: .top :: .top :: .top :: .top :: .top :: .top :: .top :: .top :: .top :: .top :: .top :: .top :: .top :: .top :: .top :: .top :: .top :: .top :: .top :: .top :: .top :: .top :: .top :: .top :: .top :: .top :: .top :: .top :: .top :: .top :: und :: []), h19) ∧ Hold B h19 [(AV.ptr o1 1 0 0, .pt 1 [Sl.enc x_.entries]), (AV.ptr o5 1 0 0, .pt 2 [iv m_.default, Sl.enc m_.bigrams])] | .inr (q29, q30) => ∃ (q31 : Int) (q32 : Int) (q33 : Int) (z34 : AV) (h27 : kA7), r = (.ret, ((Sl.enc list_) :: (AV.agg [Sl.enc x_.entries]) :: (AV.agg [iv m_.default, Sl.enc m_.bigrams]) :: (Sl.enc words_) :: und :: (AV.ptr o1 1 0 0) :: (AV.ptr o5 1 0 0) :: und :: (iv q29) :: (iv q30) :: (iv 2) :: (iv q31) :: (iv q32) :: (iv q33) :: z34 :: (Sl.enc list_) :: (iv c9) :: (iv c9) :: (bv (decide (c9 = 0))) :: (bv (decide (c9 = 0))) :: .top :: .top :: .top :: .top :: (cond (decide (c9 = 0)) (bv c11) und) :: (bv (bif decide (c9 = 0) then c11 else false)) :: (iv 2) :: (bv (!decide (2 = 0))) :: und :: (Sl.enc words_) :: (iv c14) :: .top :: .top :: .top :: .top :: .top :: .top :: .top :: .top :: .top :: .top :: .top :: .top :: .top :: .top :: .top :: .top :: .top :: .top :: .top :: .top :: .top :: .top :: .top :: .top :: .top :: .top :: .top :: .top :: .top :: .top :: .top :: .top :: .top :: und :: []), h27) ∧ Hold B h27 [(AV.ptr o1 1 0 0, .pt 1 [Sl.enc x_.entries]), (AV.ptr o5 1 0 0, .pt 2 [iv m_.default, Sl.enc m_.bigrams])]) := by
  refine kB1 (Rel := fun (st : Int × Int) tm h15 => match st with | (w17, w18) => tm = ((Sl.enc list_) :: (AV.agg [Sl.enc x_.entries]) :: (AV.agg [iv m_.default, Sl.enc m_.bigrams]) :: (Sl.enc words_) :: und :: (AV.ptr o1 1 0 0) :: (AV.ptr o5 1 0 0) :: und :: .top :: .top :: (iv 2) :: (iv w17) :: (iv w18) :: .top :: .top :: (Sl.enc list_) :: (iv c9) :: (iv c9) :: (bv (decide (c9 = 0))) :: (bv (decide (c9 = 0))) :: .top :: .top :: .top :: .top :: (cond (decide (c9 = 0)) (bv c11) und) :: (bv (bif decide (c9 = 0) then c11 else false)) :: (iv 2) :: (bv (!decide (2 = 0))) :: und :: (Sl.enc words_) :: (iv c14) :: .top :: .top :: .top :: .top :: .top :: .top :: .top :: .top :: .top :: .top :: .top :: .top :: .top :: .top :: .top :: .top :: .top :: .top :: .top :: .top :: .top :: .top :: .top :: .top :: .top :: .top :: .top :: .top :: .top :: .top :: .top :: .top :: .top :: und :: []) ∧ Hold B h15 [(AV.ptr o1 1 0 0, .pt 1 [Sl.enc x_.entries]), (AV.ptr o5 1 0 0, .pt 2 [iv m_.default, Sl.enc m_.bigrams])]) (fun st tm h15 R => ?_) R
  obtain ⟨w17, w18⟩ := st
  obtain ⟨rfl, O16⟩ := R
  rw [e_lb0_q67]
  unfold s0_q67
  dsimp only
  refine kA1 (v := iv (((words_.getD []).length : Nat) : Int)) (Tab.enc h15 words_).len ?_
  refine kA1 (v := bv (decide (w18 < (((words_.getD []).length : Nat) : Int)))) (kAh _ _) ?_
  refine kAa (fun c35 => ?_) (fun c35 => ?_)
  · refine kAo (Tab.enc h15 words_) (fun m37 a36 hi38 hm39 => ?_)
    refine kA1 (v := sv a36) ((Tab.enc h15 words_).ld hm39 false 1 0) ?_
    refine kDi (y' := tp_q76 ⟨[x_], 0⟩ a36) (by simp only [tp_q76, get_pt1, kA6]) ?_
    refine kBg he_q76 (O16.snapRn 0 rfl x_ rfl rfl) (kBi _ _) (fun c40 => ?_)
    refine kAm (kAb (by rfl) _ _) ?_
    refine kA1 (v := bv (decide (c40 < 0))) (kAh _ _) ?_
    refine kAa (fun c41 => ?_) (fun c41 => ?_)
    · exact kA5 ⟨nofun, _, _, _, _, _, rfl, O16⟩
    · refine kAo (Tab.enc h15 list_) (fun m44 a43 hi45 hm46 => ?_)
      refine kAo (Tab.enc h15 words_) (fun m48 a47 hi49 hm50 => ?_)
      refine kA1 (v := sv a47) ((Tab.enc h15 words_).ld hm50 false 1 0) ?_
      refine kDi (y' := tp_q75 ⟨list_.getD [], m44⟩ a47) (by simp only [tp_q75, kEf hm46, kA6]) ?_
      refine kC3 he_q75 (kD8 _ list_ hm46) (kBi _ _) (fun c51 => ?_)
      refine kAm (kAb (by rfl) _ _) ?_
      refine kA1 (v := bv (decide (c51 < 0))) (kAh _ _) ?_
      refine kAa (fun c52 => ?_) (fun c52 => ?_)
      · exact kA5 ⟨nofun, _, _, _, _, _, rfl, O16⟩
      · refine kA1 (v := AV.ptr o1 1 0 0) rfl ?_
        refine kA1 (v := Sl.enc x_.entries) (O16.ld 0 rfl false 1 0) ?_
        refine kAo (Tab.enc h15 x_.entries) (fun m55 a54 hi56 hm57 => ?_)
        refine kA1 (v := elp (Sl.enc x_.entries) m55 1) ((Tab.enc h15 x_.entries).fld _ _ _) ?_
        refine kA1 (v := iv a54.cost) ((Tab.enc h15 x_.entries).ld hm57 false 1 1) ?_
        refine kA1 (v := iv (wr (c51 + a54.cost))) (kAk _ _) ?_
        refine kA1 (v := iv (wr (w17 + (wr (c51 + a54.cost))))) (kAk _ _) ?_
        refine kA1 (v := iv (wr (w18 + 1))) (kAk _ _) ?_
        exact kA5 ⟨rfl, rfl, O16⟩
  · exact kA5 ⟨nofun, _, _, _, _, _, _, rfl, O16⟩
theorem tl1_q67 (env : Nat → Contract) {B : Base} (he_q75 : env n_q75 = .pure (C2 (fun c : Int => enc c) tp_q75)) (he_q76 : env n_q76 = .pure (C2 (fun c : Int => enc c) tp_q76)) (he_q80 : env n_q80 = .pure (C3 (fun c : Int => enc c) tp_q80)) (he_q84 : env n_q84 = .pure (C2 (fun c : Int => enc c) tp_q84)) (list_ : Sl Lattice) (x_ : Lexicon) (m_ : Model) (words_ : Sl ByteArray) (o1 : Nat) (o5 : Nat) (c9 : Int) (c11 : Bool) (c63 : Int)  {st : Int × Int} {tm : TM} {h : kA7} (R : (fun (st : Int × Int) tm h64 => match st with | (w66, w67) => tm = ((Sl.enc list_) :: (AV.agg [Sl.enc x_.entries]) :: (AV.agg [iv m_.default, Sl.enc m_.bigrams]) :: (Sl.enc words_) :: und :: (AV.ptr o1 1 0 0) :: (AV.ptr o5 1 0 0) :: und :: .top :: .top :: (iv c9) :: (iv w66) :: (iv w67) :: .top :: .top :: (Sl.enc list_) :: (iv c9) :: (iv c9) :: (bv (decide (c9 = 0))) :: (bv (decide (c9 = 0))) :: .top :: .top :: .top :: .top :: (cond (decide (c9 = 0)) (bv c11) und) :: (bv (bif decide (c9 = 0) then c11 else false)) :: (iv c9) :: (bv (!decide (c9 = 0))) :: und :: (Sl.enc words_) :: (iv c63) :: .top :: .top :: .top :: .top :: .top :: .top :: .top :: .top :: .top :: .top :: .top :: .top :: .top :: .top :: .top :: .top :: .top :: .top :: .top :: .top :: .top :: .top :: .top :: .top :: .top :: .top :: .top :: .top :: .top :: .top :: .top :: .top :: .top :: und :: []) ∧ Hold B h64 [(AV.ptr o1 1 0 0, .pt 1 [Sl.enc x_.entries]), (AV.ptr o5 1 0 0, .pt 2 [iv m_.default, Sl.enc m_.bigrams])]) st tm h) : Sim (kB3 hm1_q67 xm1_q67 (lb1_q67 env) tm h) (kAw (s1_q67 list_ x_ words_) st) (fun (q : Sum Int (Int × Int)) (r : Res) => match q with | .inl q72 => ∃ (q73 : Int) (z70 : AV) (z71 : AV) (z74 : AV) (z75 : AV) (h68 : kA7), r = (.exit 0, ((Sl.enc list_) :: (AV.agg [Sl.enc x_.entries]) :: (AV.agg [iv m_.default, Sl.enc m_.bigrams]) :: (Sl.enc words_) :: und :: (AV.ptr o1 1 0 0) :: (AV.ptr o5 1 0 0) :: und :: z70 :: z71 :: (iv c9) :: (iv q72) :: (iv q73) :: z74 :: z75 :: (Sl.enc list_) :: (iv c9) :: (iv c9) :: (bv (decide (c9 = 0))) :: (bv (decide (c9 = 0))) :: .top :: .top :: .top :: .top :: (cond (decide (c9 = 0)) (bv c11) und) :: (bv (bif decide (c9 = 0) then c11 else false)) :: (iv c9) :: (bv (!decide (c9 = 0))) :: und :: (Sl.enc words_) :: (iv c63) :: .top :: .top :: .top :: .top :: .top :: .top :: .top :: .top :: .top :: .top :: .top :: .top :: .top :: .top :: .top :: .top :: .top :: .top :: .top :: .top :: .top :: .top :: .top :: .top :: .top :: .top :: .top :: .top :: .top :: .top :: .top :: .top :: .top :: und :: []), h68) ∧ Hold B h68 [(AV.ptr o1 1 0 0, .pt 1 [Sl.enc x_.entries]), (AV.ptr o5 1 0 0, .pt 2 [iv m_.default, Sl.enc m_.bigrams])] | .inr (q78, q79) => ∃ (q80 : Int) (q81 : Int) (q82 : Int) (z83 : AV) (h76 : kA7), r = (.ret, ((Sl.enc list_) :: (AV.agg [Sl.enc x_.entries]) :: (AV.agg [iv m_.default, Sl.enc m_.bigrams]) :: (Sl.enc words_) :: und :: (AV.ptr o1 1 0 0) :: (AV.ptr o5 1 0 0) :: und :: (iv q78) :: (iv q79) :: (iv c9) :: (iv q80) :: (iv q81) :: (iv q82) :: z83 :: (Sl.enc list_) :: (iv c9) :: (iv c9) :: (bv (decide (c9 = 0))) :: (bv (decide (c9 = 0))) :: .top :: .top :: .top :: .top :: (cond (decide (c9 = 0)) (bv c11) und) :: (bv (bif decide (c9 = 0) then c11 else false)) :: (iv c9) :: (bv (!decide (c9 = 0))) :: und :: (Sl.enc words_) :: (iv c63) :: .top :: .top :: .top :: .top :: .top :: .top :: .top :: .top :: .top :: .top :: .top :: .top :: .top :: .top :: .top :: .top :: .top :: .top :: .top :: .top :: .top :: .top :: .top :: .top :: .top :: .top :: .top :: .top :: .top :: .top :: .top :: .top :: .top :: und :: []), h76) ∧ Hold B h76 [(AV.ptr o1 1 0 0, .pt 1 [Sl.enc x_.entries]), (AV.ptr o5 1 0 0, .pt 2 [iv m_.default, Sl.enc m_.bigrams])]) := by
  refine kB1 (Rel := fun (st : Int × Int) tm h64 => match st with | (w66, w67) => tm = ((Sl.enc list_) :: (AV.agg [Sl.enc x_.entries]) :: (AV.agg [iv m_.default, Sl.enc m_.bigrams]) :: (Sl.enc words_) :: und :: (AV.ptr o1 1 0 0) :: (AV.ptr o5 1 0 0) :: und :: .top :: .top :: (iv c9) :: (iv w66) :: (iv w67) :: .top :: .top :: (Sl.enc list_) :: (iv c9) :: (iv c9) :: (bv (decide (c9 = 0))) :: (bv (decide (c9 = 0))) :: .top :: .top :: .top :: .top :: (cond (decide (c9 = 0)) (bv c11) und) :: (bv (bif decide (c9 = 0) then c11 else false)) :: (iv c9) :: (bv (!decide (c9 = 0))) :: und :: (Sl.enc words_) :: (iv c63) :: .top :: .top :: .top :: .top :: .top :: .top :: .top :: .top :: .top :: .top :: .top :: .top :: .top :: .top :: .top :: .top :: .top :: .top :: .top :: .top :: .top :: .top :: .top :: .top :: .top :: .top :: .top :: .top :: .top :: .top :: .top :: .top :: .top :: und :: []) ∧ Hold B h64 [(AV.ptr o1 1 0 0, .pt 1 [Sl.enc x_.entries]), (AV.ptr o5 1 0 0, .pt 2 [iv m_.default, Sl.enc m_.bigrams])]) (fun st tm h64 R => ?_) R
  obtain ⟨w66, w67⟩ := st
  obtain ⟨rfl, O65⟩ := R
  rw [e_lb1_q67]
  unfold s1_q67
  dsimp only
  refine kA1 (v := iv (((words_.getD []).length : Nat) : Int)) (Tab.enc h64 words_).len ?_
  refine kA1 (v := bv (decide (w67 < (((words_.getD []).length : Nat) : Int)))) (kAh _ _) ?_
  refine kAa (fun c84 => ?_) (fun c84 => ?_)
  · refine kAo (Tab.enc h64 words_) (fun m86 a85 hi87 hm88 => ?_)
    refine kA1 (v := sv a85) ((Tab.enc h64 words_).ld hm88 false 1 0) ?_
    refine kDi (y' := tp_q76 ⟨[x_], 0⟩ a85) (by simp only [tp_q76, get_pt1, kA6]) ?_
    refine kBg he_q76 (O65.snapRn 0 rfl x_ rfl rfl) (kBi _ _) (fun c89 => ?_)
    refine kAm (kAb (by rfl) _ _) ?_
    refine kA1 (v := bv (decide (c89 < 0))) (kAh _ _) ?_
    refine kAa (fun c90 => ?_) (fun c90 => ?_)
    · exact kA5 ⟨nofun, _, _, _, _, _, rfl, O65⟩
    · refine kAo (Tab.enc h64 list_) (fun m93 a92 hi94 hm95 => ?_)
      refine kAo (Tab.enc h64 words_) (fun m97 a96 hi98 hm99 => ?_)
      refine kA1 (v := sv a96) ((Tab.enc h64 words_).ld hm99 false 1 0) ?_
      refine kDi (y' := tp_q75 ⟨list_.getD [], m93⟩ a96) (by simp only [tp_q75, kEf hm95, kA6]) ?_
      refine kC3 he_q75 (kD8 _ list_ hm95) (kBi _ _) (fun c100 => ?_)
      refine kAm (kAb (by rfl) _ _) ?_
      refine kA1 (v := bv (decide (c100 < 0))) (kAh _ _) ?_
      refine kAa (fun c101 => ?_) (fun c101 => ?_)
      · exact kA5 ⟨nofun, _, _, _, _, _, rfl, O65⟩
      · refine kA1 (v := AV.ptr o1 1 0 0) rfl ?_
        refine kA1 (v := Sl.enc x_.entries) (O65.ld 0 rfl false 1 0) ?_
        refine kAo (Tab.enc h64 x_.entries) (fun m104 a103 hi105 hm106 => ?_)
        refine kA1 (v := elp (Sl.enc x_.entries) m104 1) ((Tab.enc h64 x_.entries).fld _ _ _) ?_
        refine kA1 (v := iv a103.cost) ((Tab.enc h64 x_.entries).ld hm106 false 1 1) ?_
        refine kA1 (v := iv (wr (c100 + a103.cost))) (kAk _ _) ?_
        refine kA1 (v := iv (wr (w66 + (wr (c100 + a103.cost))))) (kAk _ _) ?_
        refine kA1 (v := iv (wr (w67 + 1))) (kAk _ _) ?_
        exact kA5 ⟨rfl, rfl, O65⟩
  · exact kA5 ⟨nofun, _, _, _, _, _, _, rfl, O65⟩
theorem ts_q67 (env : Nat → Contract) (he_q75 : env n_q75 = .pure (C2 (fun c : Int => enc c) tp_q75)) (he_q76 : env n_q76 = .pure (C2 (fun c : Int => enc c) tp_q76)) (he_q80 : env n_q80 = .pure (C3 (fun c : Int => enc c) tp_q80)) (he_q84 : env n_q84 = .pure (C2 (fun c : Int => enc c) tp_q84)) (list_ : Sl Lattice) (x_ : Lexicon) (m_ : Model) (words_ : Sl ByteArray) : Sim (kAl Try.prog env n_q67 [Sl.enc list_, AV.agg [Sl.enc x_.entries], AV.agg [iv m_.default, Sl.enc m_.bigrams], Sl.enc words_] []) (t_q67 list_ x_ m_ words_) fun c p => release p.2 depth p.1 = some ((fun c : Int × Int => AV.tup [enc c.1, enc c.2]) c) := by
  have O := Hold.nil []
  generalize hB : (⟨[], []⟩ : Base) = B at O
  clear hB
  rw [e_q67]
  unfold t_q67
  refine kAv O (cs := [Sl.enc x_.entries]) (by first | rfl | simp) (fun o1 h2 O3 => ?_)
  replace O3 : Hold B h2 [(AV.ptr o1 1 0 0, .pt 1 [Sl.enc x_.entries])] := O3
  refine kAv O3 (cs := [iv m_.default, Sl.enc m_.bigrams]) (by first | rfl | simp) (fun o5 h6 O7 => ?_)
  replace O7 : Hold B h6 [(AV.ptr o1 1 0 0, .pt 1 [Sl.enc x_.entries]), (AV.ptr o5 1 0 0, .pt 2 [iv m_.default, Sl.enc m_.bigrams])] := O7
  refine kDi (y' := tp_q80 list_ ⟨[x_], 0⟩ ⟨[m_], 0⟩) (by simp only [tp_q80, get_pt1, kA6]) ?_
  refine kF7 he_q80 (kB9 _ _) (O7.snapRn 0 rfl x_ rfl rfl) (O7.snapRn 1 rfl m_ rfl rfl) (fun c9 => ?_)
  refine kAm (kAb (by rfl) _ _) ?_
  refine kA1 (v := bv (decide (c9 = 0))) (aCmp_eq _ _) ?_
  refine kBs (e := bv) (fun hb10 => ?_) (fun c11 => ?_)
  · refine kA1 (v := iv (((words_.getD []).length : Nat) : Int)) (Tab.enc h6 words_).len ?_
    refine kA1 (v := iv (((list_.getD []).length : Nat) : Int)) (Tab.enc h6 list_).len ?_
    refine kA1 (v := bv (!decide ((((words_.getD []).length : Nat) : Int) = (((list_.getD []).length : Nat) : Int)))) (kCi _ _) ?_
    exact kA5 rfl
  · refine kA1 (v := bv (bif decide (c9 = 0) then c11 else false)) (kCn _ _ _) ?_
    refine kAa (fun c12 => ?_) (fun c12 => ?_)
    · refine kA1 (v := bv (!decide (2 = 0))) (kCi _ _) ?_
      refine kAa (fun c13 => ?_) (fun c13 => ?_)
      · exact kA5 (kA3 (by rfl) _)
      · refine kDi (y' := tp_q84 ⟨[m_], 0⟩ words_) (by simp only [tp_q84, get_pt1, kA6]) ?_
        refine kBg he_q84 (O7.snapRn 1 rfl m_ rfl rfl) (kB9 _ _) (fun c14 => ?_)
        refine kAm (kAb (by rfl) _ _) ?_
        refine kB0 ((tl0_q67 env he_q75 he_q76 he_q80 he_q84 list_ x_ m_ words_ o1 o5 c9 c11 c14) ⟨rfl, O7⟩) (fun qq61 r hq => ?_)
        rcases qq61 with q23 | ⟨q29, q30⟩
        · obtain ⟨q24, z21, z22, z25, z26, h19, rfl, O20⟩ := hq
          rw [e_lk0x0_q67]
          exact kA5 (kA3 (by rfl) _)
        · obtain ⟨q31, q32, q33, z34, h27, rfl, O28⟩ := hq
          rw [e_lk0r_q67]
          exact kA5 (kA3 (by rfl) _)
    · refine kA1 (v := bv (!decide (c9 = 0))) (kCi _ _) ?_
      refine kAa (fun c62 => ?_) (fun c62 => ?_)
      · exact kA5 (kA3 (by rfl) _)
      · refine kDi (y' := tp_q84 ⟨[m_], 0⟩ words_) (by simp only [tp_q84, get_pt1, kA6]) ?_
        refine kBg he_q84 (O7.snapRn 1 rfl m_ rfl rfl) (kB9 _ _) (fun c63 => ?_)
        refine kAm (kAb (by rfl) _ _) ?_
        refine kB0 ((tl1_q67 env he_q75 he_q76 he_q80 he_q84 list_ x_ m_ words_ o1 o5 c9 c11 c63) ⟨rfl, O7⟩) (fun qq110 r hq => ?_)
        rcases qq110 with q72 | ⟨q78, q79⟩
        · obtain ⟨q73, z70, z71, z74, z75, h68, rfl, O69⟩ := hq
          rw [e_lk1x0_q67]
          exact kA5 (kA3 (by rfl) _)
        · obtain ⟨q80, q81, q82, z83, h76, rfl, O77⟩ := hq
          rw [e_lk1r_q67]
          exact kA5 (kA3 (by rfl) _)
theorem tt_q67 : kAi Try.prog n_q67 (C4 (fun c : Int × Int => AV.tup [enc c.1, enc c.2]) t_q67) := pureC4 (kB7 tt_q75 (kB7 tt_q76 (kB7 tt_q80 (kB7 tt_q84 E0)))) kBb hb_q67 fun list_ x_ m_ words_ => ts_q67 _ (by simp [kBw]) (by simp [kBw]) (by simp [kBw]) (by simp [kBw]) list_ x_ m_ words_
def s0_q9 (x_ : Lexicon) : Int → Option (Sum Int (Sum Unit Bool)) := fun w7 =>
  bif decide (w7 < (((x_.entries.getD []).length : Nat) : Int)) then
    kA0 (kC1 (x_.entries.getD []) w7) fun a19 =>
    kA0 (t_q6 a19.word) fun c29 =>
    kA0 (bif !c29 then some false else (kA0 (some ((fun y => kB5 y 0 1000000) a19.cost)) fun c31 => some (!c31))) fun c32 =>
    kA0 (bif (bif !c29 then true else c32) then some false else (some (decide (0 < w7)))) fun c37 =>
    kA0 (bif (!(bif !c29 then true else c32) && c37) then (kA0 (kC1 (x_.entries.getD []) (wr (w7 - 1))) fun a41 => some (ltS a19.word a41.word || decide (a19.word = a41.word))) else some false) fun c45 =>
    kA0 (bif (bif !c29 then true else c32) then some false else (some (bif c37 then c45 else false))) fun c56 =>
    bif (bif (bif !c29 then true else c32) then true else c56) then
      some (.inr (.inr false))
    else
      some (.inl (wr (w7 + 1)))
  else
    some (.inr (.inl ()))
def t_q9 (x_ : Lexicon) : Option Bool :=
  kA0 (kAw (s0_q9 x_) 0) fun qq62 => match qq62 with
  | (.inl _) =>
      some (decide ((((x_.entries.getD []).length : Nat) : Int) ≤ 60))
  | (.inr q15) =>
      some q15
theorem tl0_q9 (env : Nat → Contract) {B : Base} (he_q6 : env n_q6 = .pure (C1 (fun c : Bool => enc c) t_q6)) (he_q14 : env n_q14 = .pure (T1 (fun y => kB5 y 0 1000000))) (x_ : Lexicon) (o1 : Nat)  {st : Int} {tm : TM} {h : kA7} (R : (fun (st : Int) tm h5 => match st with | w7 => tm = [AV.agg [Sl.enc x_.entries], AV.ptr o1 1 0 0, .top, .top, .top, AV.ptr o1 1 0 0, Sl.enc x_.entries, iv (((x_.entries.getD []).length : Nat) : Int), iv w7, .top, .top, .top, .top, .top, .top, .top, .top, .top, .top, .top, .top, .top, .top, .top, .top, .top, .top, .top, .top, .top, .top, .top, .top, .top, .top, .top, .top, .top, .top, .top, und, und, und, und] ∧ Hold B h5 [(AV.ptr o1 1 0 0, .pt 1 [Sl.enc x_.entries])]) st tm h) : Sim (kB3 hm0_q9 xm0_q9 (lb0_q9 env) tm h) (kAw (s0_q9 x_) st) (fun (q : Sum Unit Bool) (r : Res) => match q with | .inl _ => ∃ (z10 : AV) (z11 : AV) (z12 : AV) (h8 : kA7), r = (.exit 0, [AV.agg [Sl.enc x_.entries], AV.ptr o1 1 0 0, z10, z11, z12, AV.ptr o1 1 0 0, Sl.enc x_.entries, iv (((x_.entries.getD []).length : Nat) : Int), .top, .top, .top, .top, .top, .top, .top, .top, .top, .top, .top, .top, .top, .top, .top, .top, .top, .top, .top, .top, .top, .top, .top, .top, .top, .top, .top, .top, .top, .top, .top, .top, und, und, und, und], h8) ∧ Hold B h8 [(AV.ptr o1 1 0 0, .pt 1 [Sl.enc x_.entries])] | .inr q15 => ∃ (q16 : Int) (z17 : AV) (h13 : kA7), r = (.ret, [AV.agg [Sl.enc x_.entries], AV.ptr o1 1 0 0, bv q15, iv q16, z17, AV.ptr o1 1 0 0, Sl.enc x_.entries, iv (((x_.entries.getD []).length : Nat) : Int), .top, .top, .top, .top, .top, .top, .top, .top, .top, .top, .top, .top, .top, .top, .top, .top, .top, .top, .top, .top, .top, .top, .top, .top, .top, .top, .top, .top, .top, .top, .top, .top, und, und, und, und], h13) ∧ Hold B h13 [(AV.ptr o1 1 0 0, .pt 1 [Sl.enc x_.entries])]) := by
  refine kB1 (Rel := fun (st : Int) tm h5 => match st with | w7 => tm = [AV.agg [Sl.enc x_.entries], AV.ptr o1 1 0 0, .top, .top, .top, AV.ptr o1 1 0 0, Sl.enc x_.entries, iv (((x_.entries.getD []).length : Nat) : Int), iv w7, .top, .top, .top, .top, .top, .top, .top, .top, .top, .top, .top, .top, .top, .top, .top, .top, .top, .top, .top, .top, .top, .top, .top, .top, .top, .top, .top, .top, .top, .top, .top, und, und, und, und] ∧ Hold B h5 [(AV.ptr o1 1 0 0, .pt 1 [Sl.enc x_.entries])]) (fun w7 tm h5 R => ?_) R
  obtain ⟨rfl, O6⟩ := R
  rw [e_lb0_q9]
  unfold s0_q9
  dsimp only
  refine kA1 (v := bv (decide (w7 < (((x_.entries.getD []).length : Nat) : Int)))) (kAh _ _) ?_
  refine kAa (fun c18 => ?_) (fun c18 => ?_)
  · refine kAo (Tab.enc h5 x_.entries) (fun m20 a19 hi21 hm22 => ?_)
    refine kA1 (v := AV.agg [sv a19.word, iv a19.cost]) ((Tab.enc h5 x_.entries).ld hm22 true 2 0) ?_
    refine kAv O6 (cs := [sv (⟨#[]⟩ : ByteArray), iv 0]) (by first | rfl | simp) (fun o23 h24 O25 => ?_)
    replace O25 : Hold B h24 [(AV.ptr o1 1 0 0, .pt 1 [Sl.enc x_.entries]), (AV.ptr o23 1 0 0, .pt 2 [sv (⟨#[]⟩ : ByteArray), iv 0])] := O25
    refine kBr O25 1 (cs' := [sv a19.word, iv a19.cost]) rfl (by first | rfl | simp) (by simp) (by first | rfl | simp) (by first | rfl | simp [kBk]) (fun h27 O28 => ?_)
    replace O28 : Hold B h27 [(AV.ptr o1 1 0 0, .pt 1 [Sl.enc x_.entries]), (AV.ptr o23 1 0 0, .pt 2 [sv a19.word, iv a19.cost])] := O28
    refine kA1 (v := AV.ptr o23 1 0 0) rfl ?_
    refine kA1 (v := sv a19.word) (O28.ld 1 rfl false 1 0) ?_
    refine kCo he_q6 (kBi _ _) (fun c29 => ?_)
    refine kAm (kAb (by rfl) _ _) ?_
    refine kA1 (v := bv (!c29)) (kBq _) ?_
    refine sim_g4F (e := bv) (fun hb30 => ?_) (fun y33 y34 y35 c32 => ?_)
    · refine kAp ?_
      refine kA1 (v := AV.ptr o23 1 0 1) rfl ?_
      refine kAe ?_
      refine kAp ?_
      refine kA1 (v := iv a19.cost) (O28.ld 1 rfl false 1 1) ?_
      refine kAe ?_
      refine kI0 ?_
      refine kH5 (t := (fun y => kB5 y 0 1000000)) he_q14 (kAr _ _) (fun c31 => ?_)
      refine kAe ?_
      refine kA1 (v := bv (!c31)) (kBq _) ?_
      exact kA5 rfl
    · refine kA1 (v := bv (bif !c29 then true else c32)) (kCh _ _ _) ?_
      refine sim_g3F (e := bv) (fun hb36 => ?_) (fun y38 y39 c37 => ?_)
      · refine kAe ?_
        refine kAp ?_
        refine kA1 (v := bv (decide (0 < w7))) (kE0 _ _) ?_
        refine kAe ?_
        exact kA5 rfl
      · simp only [gv_FT]
        refine sim_g10T (e := bv) (fun hb40 => ?_) (fun y46 y47 y48 y49 y50 y51 y52 y53 y54 c45 => ?_)
        · refine kAp ?_
          refine kA1 (v := AV.ptr o23 1 0 0) rfl ?_
          refine kAe ?_
          refine kAp ?_
          refine kA1 (v := sv a19.word) (O28.ld 1 rfl false 1 0) ?_
          refine kAe ?_
          refine kAp ?_
          refine kA1 (v := AV.ptr o1 1 0 0) rfl ?_
          refine kAe ?_
          refine kAp ?_
          refine kA1 (v := Sl.enc x_.entries) (O28.ld 0 rfl false 1 0) ?_
          refine kAe ?_
          refine kAe ?_
          refine kAp ?_
          refine kA1 (v := iv (wr (w7 - 1))) (kC4 _ _) ?_
          refine kAe ?_
          refine kAp ?_
          refine kAo (Tab.enc h27 x_.entries) (fun m42 a41 hi43 hm44 => ?_)
          refine kAe ?_
          refine kAp ?_
          refine kA1 (v := elp (Sl.enc x_.entries) m42 0) ((Tab.enc h27 x_.entries).fld _ _ _) ?_
          refine kAe ?_
          refine kAp ?_
          refine kA1 (v := sv a41.word) ((Tab.enc h27 x_.entries).ld hm44 false 1 0) ?_
          refine kAe ?_
          refine kA1 (v := bv (ltS a19.word a41.word || decide (a19.word = a41.word))) (str_leq _ _) ?_
          exact kA5 rfl
        · refine kBt (e := bv) (fun hb55 => ?_) (fun c56 => ?_)
          · simp only [hb55, cond_true, cond_false, Bool.not_true, Bool.not_false, Bool.true_and, Bool.and_true, Bool.false_and, Bool.not_not]
            refine kA1 (v := bv (bif c37 then c45 else false)) (kCn _ _ _) ?_
            exact kA5 rfl
          · refine kA1 (v := bv (bif (bif !c29 then true else c32) then true else c56)) (kCh _ _ _) ?_
            refine kAa (fun c57 => ?_) (fun c57 => ?_)
            · have O58 : Hold B h27 [(AV.ptr o1 1 0 0, .pt 1 [Sl.enc x_.entries])] := O28.sel [0] (by decide) rfl
              exact kA5 ⟨nofun, _, _, _, rfl, O58⟩
            · refine kA1 (v := iv (wr (w7 + 1))) (kAk _ _) ?_
              have O59 : Hold B h27 [(AV.ptr o1 1 0 0, .pt 1 [Sl.enc x_.entries])] := O28.sel [0] (by decide) rfl
              exact kA5 ⟨rfl, rfl, O59⟩
  · exact kA5 ⟨nofun, _, _, _, _, rfl, O6⟩
theorem ts_q9 (env : Nat → Contract) (he_q6 : env n_q6 = .pure (C1 (fun c : Bool => enc c) t_q6)) (he_q14 : env n_q14 = .pure (T1 (fun y => kB5 y 0 1000000))) (x_ : Lexicon) : Sim (kAl Try.prog env n_q9 [AV.agg [Sl.enc x_.entries]] []) (t_q9 x_) fun c p => release p.2 depth p.1 = some ((fun c : Bool => enc c) c) := by
  have O := Hold.nil []
  generalize hB : (⟨[], []⟩ : Base) = B at O
  clear hB
  rw [e_q9]
  unfold t_q9
  refine kAv O (cs := [Sl.enc x_.entries]) (by first | rfl | simp) (fun o1 h2 O3 => ?_)
  replace O3 : Hold B h2 [(AV.ptr o1 1 0 0, .pt 1 [Sl.enc x_.entries])] := O3
  refine kA1 (v := AV.ptr o1 1 0 0) rfl ?_
  refine kA1 (v := Sl.enc x_.entries) (O3.ld 0 rfl false 1 0) ?_
  refine kA1 (v := iv (((x_.entries.getD []).length : Nat) : Int)) (Tab.enc h2 x_.entries).len ?_
  refine kB0 ((tl0_q9 env he_q6 he_q14 x_ o1) ⟨rfl, O3⟩) (fun qq62 r hq => ?_)
  rcases qq62 with _ | q15
  · obtain ⟨z10, z11, z12, h8, rfl, O9⟩ := hq
    rw [e_lk0x0_q9]
    refine kA1 (v := AV.ptr o1 1 0 0) rfl ?_
    refine kA1 (v := Sl.enc x_.entries) (O9.ld 0 rfl false 1 0) ?_
    refine kA1 (v := iv (((x_.entries.getD []).length : Nat) : Int)) (Tab.enc h8 x_.entries).len ?_
    refine kA1 (v := bv (decide ((((x_.entries.getD []).length : Nat) : Int) ≤ 60))) (kFf _ _) ?_
    exact kA5 (kA3 (by rfl) _)
  · obtain ⟨q16, z17, h13, rfl, O14⟩ := hq
    rw [e_lk0r_q9]
    exact kA5 (kA3 (by rfl) _)
theorem tt_q9 : kAi Try.prog n_q9 (C1 (fun c : Bool => enc c) t_q9) := kD1 (kB7 tt_q6 (kB7 ok_q14 E0)) kBb hb_q9 fun x_ => ts_q9 _ (by simp [kBw]) (by simp [kBw]) x_
def s0_q64 (p_ : Lattice → Option Bool) (s_ : Sl Lattice) : Int → Option (Sum Int (Sum Unit Int)) := fun w3 =>
  bif decide (w3 < (((s_.getD []).length : Nat) : Int)) then
    kA0 (kC1 (s_.getD []) w3) fun a13 =>
    kA0 (p_ a13) fun c17 =>
    bif c17 then
      some (.inr (.inr w3))
    else
      some (.inl (wr (w3 + 1)))
  else
    some (.inr (.inl ()))
def t_q64 (p_ : Lattice → Option Bool) (s_ : Sl Lattice) : Option Int :=
  kA0 (kAw (s0_q64 p_ s_) 0) fun qq26 => match qq26 with
  | (.inl _) =>
      some (-1)
  | (.inr q10) =>
      some q10
theorem tl0_q64 (env : Nat → Contract) {B : Base} {K : Type} [Cod K] {g : Nat} {caps : K → List AV} {P : K → Lattice → Option Bool} (hp : ∀ k (a : Lattice) h, Sim (kB2 (env g) (AV.agg (Row.cells a) :: caps k) h) (P k a) fun b r => r = (bv b, h))  (s_ : Sl Lattice) (f_ : K)  {st : Int} {tm : TM} {h : kA7} (R : (fun (st : Int) tm h1 => match st with | w3 => tm = [Sl.enc s_, AV.fn g (caps f_), und, und, .top, .top, Sl.enc s_, iv (((s_.getD []).length : Nat) : Int), iv w3, .top, .top, .top, .top, .top, .top, .top, .top, .top, .top] ∧ Hold B h1 []) st tm h) : Sim (kB3 hm0_q64 xm0_q64 (lb0_q64 env) tm h) (kAw (s0_q64 (P f_) s_) st) (fun (q : Sum Unit Int) (r : Res) => match q with | .inl _ => ∃ (z6 : AV) (z7 : AV) (h4 : kA7), r = (.exit 0, [Sl.enc s_, AV.fn g (caps f_), und, und, z6, z7, Sl.enc s_, iv (((s_.getD []).length : Nat) : Int), .top, .top, .top, .top, .top, .top, .top, .top, .top, .top, .top], h4) ∧ Hold B h4 [] | .inr q10 => ∃ (q11 : Int) (h8 : kA7), r = (.ret, [Sl.enc s_, AV.fn g (caps f_), und, und, iv q10, iv q11, Sl.enc s_, iv (((s_.getD []).length : Nat) : Int), .top, .top, .top, .top, .top, .top, .top, .top, .top, .top, .top], h8) ∧ Hold B h8 []) := by
  refine kB1 (Rel := fun (st : Int) tm h1 => match st with | w3 => tm = [Sl.enc s_, AV.fn g (caps f_), und, und, .top, .top, Sl.enc s_, iv (((s_.getD []).length : Nat) : Int), iv w3, .top, .top, .top, .top, .top, .top, .top, .top, .top, .top] ∧ Hold B h1 []) (fun w3 tm h1 R => ?_) R
  obtain ⟨rfl, O2⟩ := R
  rw [e_lb0_q64]
  unfold s0_q64
  dsimp only
  refine kA1 (v := bv (decide (w3 < (((s_.getD []).length : Nat) : Int)))) (kAh _ _) ?_
  refine kAa (fun c12 => ?_) (fun c12 => ?_)
  · refine kAo (Tab.enc h1 s_) (fun m14 a13 hi15 hm16 => ?_)
    refine kA1 (v := AV.agg [iv a13.nodes, Sl.enc a13.edges]) ((Tab.enc h1 s_).ld hm16 true 2 0) ?_
    refine sim_bind2 (hp f_ a13 _) (fun c17 v18 hh19 hq20 => ?_)
    cases hq20
    refine kAa (fun c21 => ?_) (fun c21 => ?_)
    · exact kA5 ⟨nofun, _, _, rfl, O2⟩
    · refine kA1 (v := iv (wr (w3 + 1))) (kAk _ _) ?_
      exact kA5 ⟨rfl, rfl, O2⟩
  · exact kA5 ⟨nofun, _, _, _, rfl, O2⟩
theorem ts_q64 (env : Nat → Contract) {K : Type} [Cod K] {g : Nat} {caps : K → List AV} {P : K → Lattice → Option Bool} (hp : ∀ k (a : Lattice) h, Sim (kB2 (env g) (AV.agg (Row.cells a) :: caps k) h) (P k a) fun b r => r = (bv b, h))  (s_ : Sl Lattice) (f_ : K) : Sim (kAl Try.prog env n_q64 [Sl.enc s_, AV.fn g (caps f_)] []) (t_q64 (P f_) s_) fun c p => release p.2 depth p.1 = some ((fun c : Int => enc c) c) := by
  have O := Hold.nil []
  generalize hB : (⟨[], []⟩ : Base) = B at O
  clear hB
  rw [e_q64]
  unfold t_q64
  refine kA1 (v := iv (((s_.getD []).length : Nat) : Int)) (Tab.enc [] s_).len ?_
  refine kB0 ((tl0_q64 env hp s_ f_) ⟨rfl, O⟩) (fun qq26 r hq => ?_)
  rcases qq26 with _ | q10
  · obtain ⟨z6, z7, h4, rfl, O5⟩ := hq
    rw [e_lk0x0_q64]
    exact kA5 (kA3 (by rfl) _)
  · obtain ⟨q11, h8, rfl, O9⟩ := hq
    rw [e_lk0r_q64]
    exact kA5 (kA3 (by rfl) _)
theorem kCl {g : Nat} {t : Lattice → Option Bool} (hg : kAi Try.prog g (C1 (fun c : Bool => enc c) t)) : kAi Try.prog n_q64 (C2 (fun c : Int => enc c) (fun (q : Sl Lattice) (k : Clo0 g) => t_q64 ((fun _ : Clo0 g => t) k) q)) := kC2 (kB7 hg E0) kBb hb_q64 fun q k => ts_q64 _ (caps := fun _ => []) (P := (fun _ : Clo0 g => t)) (fun k a h => callP0 (by simp [kBw]) (kAu _ a rfl)) q k
def t_q63 (p_ : Lattice → Option Bool) (s_ : Sl Lattice) : Option Bool :=
  kA0 (t_q64 p_ s_) fun c1 =>
  some (decide (0 ≤ c1))
theorem ts_q63 (env : Nat → Contract) {K : Type} [Cod K] {g : Nat} {caps : K → List AV} {P : K → Lattice → Option Bool} (hs : ∀ k h, snapD h (AV.fn g (caps k)) = some k) (he_q64 : env n_q64 = .pure (C2 (fun c : Int => enc c) (fun (q : Sl Lattice) (k : K) => t_q64 (P k) q))) (s_ : Sl Lattice) (f_ : K) : Sim (kAl Try.prog env n_q63 [Sl.enc s_, AV.fn g (caps f_)] []) (t_q63 (P f_) s_) fun c p => release p.2 depth p.1 = some ((fun c : Bool => enc c) c) := by
  have O := Hold.nil []
  generalize hB : (⟨[], []⟩ : Base) = B at O
  clear hB
  rw [e_q63]
  unfold t_q63
  refine kBg (t := fun (q : Sl Lattice) (k : K) => t_q64 (P k) q) he_q64 (kB9 _ _) (hs f_ _) (fun c1 => ?_)
  refine kAm (kAb (by rfl) _ _) ?_
  refine kA1 (v := bv (decide (0 ≤ c1))) (kFn _ _) ?_
  exact kA5 (kA3 (by rfl) _)
theorem kCa {g : Nat} {t : Lattice → Option Bool} (hg : kAi Try.prog g (C1 (fun c : Bool => enc c) t)) : kAi Try.prog n_q63 (C2 (fun c : Bool => enc c) (fun (q : Sl Lattice) (k : Clo0 g) => t_q63 ((fun _ : Clo0 g => t) k) q)) := kC2 (kB7 (kCl hg) E0) kBb hb_q63 fun q k => ts_q63 _ (caps := fun _ => []) (P := (fun _ : Clo0 g => t)) (fun k h => kGi h g) (by simp [kBw]) q k
def t_q13 (l_ : Lattice) (e_ : Edg) : Option Bool :=
  kA0 (bif decide (0 ≤ e_.frm) then (some (decide (e_.frm < e_.upto))) else some false) fun c10 =>
  kA0 (bif (bif decide (0 ≤ e_.frm) then c10 else false) then (some (decide (e_.upto < l_.nodes))) else some false) fun c12 =>
  kA0 (bif (bif (bif decide (0 ≤ e_.frm) then c10 else false) then c12 else false) then (kA0 (some ((fun y => kB5 y 0 1000000) e_.cost)) fun c14 => some c14) else some false) fun c15 =>
  some (bif (bif (bif decide (0 ≤ e_.frm) then c10 else false) then c12 else false) then c15 else false)
theorem ts_q13 (env : Nat → Contract) (he_q14 : env n_q14 = .pure (T1 (fun y => kB5 y 0 1000000))) (l_ : Lattice) (e_ : Edg) : Sim (kAl Try.prog env n_q13 [AV.agg [iv l_.nodes, Sl.enc l_.edges], AV.agg [iv e_.frm, iv e_.upto, sv e_.label, iv e_.cost]] []) (t_q13 l_ e_) fun c p => release p.2 depth p.1 = some ((fun c : Bool => enc c) c) := by
  have O := Hold.nil []
  generalize hB : (⟨[], []⟩ : Base) = B at O
  clear hB
  rw [e_q13]
  unfold t_q13
  refine kAv O (cs := [iv l_.nodes, Sl.enc l_.edges]) (by first | rfl | simp) (fun o1 h2 O3 => ?_)
  replace O3 : Hold B h2 [(AV.ptr o1 1 0 0, .pt 2 [iv l_.nodes, Sl.enc l_.edges])] := O3
  refine kAv O3 (cs := [iv e_.frm, iv e_.upto, sv e_.label, iv e_.cost]) (by first | rfl | simp) (fun o5 h6 O7 => ?_)
  replace O7 : Hold B h6 [(AV.ptr o1 1 0 0, .pt 2 [iv l_.nodes, Sl.enc l_.edges]), (AV.ptr o5 1 0 0, .pt 4 [iv e_.frm, iv e_.upto, sv e_.label, iv e_.cost])] := O7
  refine kA1 (v := AV.ptr o5 1 0 0) rfl ?_
  refine kA1 (v := iv e_.frm) (O7.ld 1 rfl false 1 0) ?_
  refine kA1 (v := bv (decide (0 ≤ e_.frm))) (kFn _ _) ?_
  refine kBs (e := bv) (fun hb9 => ?_) (fun c10 => ?_)
  · refine kA1 (v := AV.ptr o5 1 0 0) rfl ?_
    refine kA1 (v := iv e_.frm) (O7.ld 1 rfl false 1 0) ?_
    refine kA1 (v := AV.ptr o5 1 0 1) rfl ?_
    refine kA1 (v := iv e_.upto) (O7.ld 1 rfl false 1 1) ?_
    refine kA1 (v := bv (decide (e_.frm < e_.upto))) (kAh _ _) ?_
    exact kA5 rfl
  · refine kA1 (v := bv (bif decide (0 ≤ e_.frm) then c10 else false)) (kCn _ _ _) ?_
    refine kBs (e := bv) (fun hb11 => ?_) (fun c12 => ?_)
    · refine kA1 (v := AV.ptr o5 1 0 1) rfl ?_
      refine kA1 (v := iv e_.upto) (O7.ld 1 rfl false 1 1) ?_
      refine kA1 (v := AV.ptr o1 1 0 0) rfl ?_
      refine kA1 (v := iv l_.nodes) (O7.ld 0 rfl false 1 0) ?_
      refine kA1 (v := bv (decide (e_.upto < l_.nodes))) (kAh _ _) ?_
      exact kA5 rfl
    · refine kA1 (v := bv (bif (bif decide (0 ≤ e_.frm) then c10 else false) then c12 else false)) (kCn _ _ _) ?_
      refine kBs (e := bv) (fun hb13 => ?_) (fun c15 => ?_)
      · refine kA1 (v := AV.ptr o5 1 0 3) rfl ?_
        refine kA1 (v := iv e_.cost) (O7.ld 1 rfl false 1 3) ?_
        refine kEg (t := (fun y => kB5 y 0 1000000)) he_q14 (kAr _ _) (fun c14 => ?_)
        exact kA5 rfl
      · refine kA1 (v := bv (bif (bif (bif decide (0 ≤ e_.frm) then c10 else false) then c12 else false) then c15 else false)) (kCn _ _ _) ?_
        exact kA5 (kA3 (by rfl) _)
theorem tt_q13 : kAi Try.prog n_q13 (C2 (fun c : Bool => enc c) t_q13) := kC2 (kB7 ok_q14 E0) kBb hb_q13 fun l_ e_ => ts_q13 _ (by simp [kBw]) l_ e_
def t_q12 (a_ : Edg) (b_ : Edg) : Option Int :=
  kA0 (some (cmpI a_.frm b_.frm)) fun c9 =>
  kA0 (some (cmpI a_.upto b_.upto)) fun c10 =>
  kA0 (some (cmpS a_.label b_.label)) fun c11 =>
  kA0 (t_q2 (some ([c9, c10, c11] : List Int))) fun c16 =>
  some c16
theorem ts_q12 (env : Nat → Contract) (he_q0 : env n_q0 = .pure (T2 cmpI)) (he_q1 : env n_q1 = .pure (T2 cmpS)) (he_q2 : env n_q2 = .pure (C1 (fun c : Int => enc c) t_q2)) (a_ : Edg) (b_ : Edg) : Sim (kAl Try.prog env n_q12 [AV.agg [iv a_.frm, iv a_.upto, sv a_.label, iv a_.cost], AV.agg [iv b_.frm, iv b_.upto, sv b_.label, iv b_.cost]] []) (t_q12 a_ b_) fun c p => release p.2 depth p.1 = some ((fun c : Int => enc c) c) := by
  have O := Hold.nil []
  generalize hB : (⟨[], []⟩ : Base) = B at O
  clear hB
  rw [e_q12]
  unfold t_q12
  refine kAv O (cs := [iv a_.frm, iv a_.upto, sv a_.label, iv a_.cost]) (by first | rfl | simp) (fun o1 h2 O3 => ?_)
  replace O3 : Hold B h2 [(AV.ptr o1 1 0 0, .pt 4 [iv a_.frm, iv a_.upto, sv a_.label, iv a_.cost])] := O3
  refine kAv O3 (cs := [iv b_.frm, iv b_.upto, sv b_.label, iv b_.cost]) (by first | rfl | simp) (fun o5 h6 O7 => ?_)
  replace O7 : Hold B h6 [(AV.ptr o1 1 0 0, .pt 4 [iv a_.frm, iv a_.upto, sv a_.label, iv a_.cost]), (AV.ptr o5 1 0 0, .pt 4 [iv b_.frm, iv b_.upto, sv b_.label, iv b_.cost])] := O7
  refine kA1 (v := AV.ptr o1 1 0 0) rfl ?_
  refine kA1 (v := iv a_.frm) (O7.ld 0 rfl false 1 0) ?_
  refine kA1 (v := AV.ptr o5 1 0 0) rfl ?_
  refine kA1 (v := iv b_.frm) (O7.ld 1 rfl false 1 0) ?_
  refine kDg (t := cmpI) he_q0 (kAr _ _) (kAr _ _) (fun c9 => ?_)
  refine kA1 (v := AV.ptr o1 1 0 1) rfl ?_
  refine kA1 (v := iv a_.upto) (O7.ld 0 rfl false 1 1) ?_
  refine kA1 (v := AV.ptr o5 1 0 1) rfl ?_
  refine kA1 (v := iv b_.upto) (O7.ld 1 rfl false 1 1) ?_
  refine kDg (t := cmpI) he_q0 (kAr _ _) (kAr _ _) (fun c10 => ?_)
  refine kA1 (v := AV.ptr o1 1 0 2) rfl ?_
  refine kA1 (v := sv a_.label) (O7.ld 0 rfl false 1 2) ?_
  refine kA1 (v := AV.ptr o5 1 0 2) rfl ?_
  refine kA1 (v := sv b_.label) (O7.ld 1 rfl false 1 2) ?_
  refine kDg (t := cmpS) he_q1 (kBi _ _) (kBi _ _) (fun c11 => ?_)
  refine sim_build (A := Int) O7 ([c9, c10, c11] : List Int) rfl (by first | rfl | simp [kE1, kHi]) rfl (fun x12 h13 O14 => ?_)
  replace O14 : Hold B h13 [(AV.ptr o1 1 0 0, .pt 4 [iv a_.frm, iv a_.upto, sv a_.label, iv a_.cost]), (AV.ptr o5 1 0 0, .pt 4 [iv b_.frm, iv b_.upto, sv b_.label, iv b_.cost]), (x12, obS ((some ([c9, c10, c11] : List Int)) : Sl Int))] := O14
  refine kCo he_q2 ((O14.tab (A := Int) (s := (some ([c9, c10, c11] : List Int))) 2 rfl).snap) (fun c16 => ?_)
  refine kAm (kAb (by rfl) _ _) ?_
  exact kA5 (kA3 (by rfl) _)
theorem tt_q12 : kAi Try.prog n_q12 (C2 (fun c : Int => enc c) t_q12) := kC2 (kB7 ok_q0 (kB7 ok_q1 (kB7 tt_q2 E0))) kBb hb_q12 fun a_ b_ => ts_q12 _ (by simp [kBw]) (by simp [kBw]) (by simp [kBw]) a_ b_
def s0_q8 (l_ : Lattice) : Int → Option (Sum Int (Sum Unit Bool)) := fun w7 =>
  bif decide (w7 < (((l_.edges.getD []).length : Nat) : Int)) then
    kA0 (kC1 (l_.edges.getD []) w7) fun a22 =>
    kA0 (t_q13 l_ a22) fun c32 =>
    kA0 (bif !c32 then some false else (kA0 (some (kCu a22.label)) fun c34 => some (!c34))) fun c35 =>
    kA0 (bif (bif !c32 then true else c35) then some false else (some (decide (0 < w7)))) fun c40 =>
    kA0 (bif (!(bif !c32 then true else c35) && c40) then (kA0 (kC1 (l_.edges.getD []) (wr (w7 - 1))) fun a44 => kA0 (t_q12 a44 a22) fun c48 => some (decide (0 ≤ c48))) else some false) fun c49 =>
    kA0 (bif (bif !c32 then true else c35) then some false else (some (bif c40 then c49 else false))) fun c59 =>
    bif (bif (bif !c32 then true else c35) then true else c59) then
      some (.inr (.inr false))
    else
      some (.inl (wr (w7 + 1)))
  else
    some (.inr (.inl ()))
def t_q8 (l_ : Lattice) : Option Bool :=
  kA0 (kAw (s0_q8 l_) 0) fun qq65 => match qq65 with
  | (.inl _) =>
      kA0 (some (kB5 l_.nodes 1 20)) fun c13 =>
      kA0 (bif c13 then (some (decide ((((l_.edges.getD []).length : Nat) : Int) ≤ 200))) else some false) fun c15 =>
      some (bif c13 then c15 else false)
  | (.inr q18) =>
      some q18
theorem tl0_q8 (env : Nat → Contract) {B : Base} (he_q5 : env n_q5 = .pure (T1 kCu)) (he_q12 : env n_q12 = .pure (C2 (fun c : Int => enc c) t_q12)) (he_q13 : env n_q13 = .pure (C2 (fun c : Bool => enc c) t_q13)) (he_q23 : env n_q23 = .pure (T3 kB5)) (l_ : Lattice) (o1 : Nat)  {st : Int} {tm : TM} {h : kA7} (R : (fun (st : Int) tm h5 => match st with | w7 => tm = [AV.agg [iv l_.nodes, Sl.enc l_.edges], AV.ptr o1 1 0 0, .top, .top, .top, AV.ptr o1 1 0 1, Sl.enc l_.edges, iv (((l_.edges.getD []).length : Nat) : Int), iv w7, .top, .top, .top, .top, .top, .top, .top, .top, .top, .top, .top, .top, .top, .top, .top, .top, .top, .top, .top, .top, .top, .top, .top, .top, .top, .top, .top, .top, .top, .top, und, und, und, und, und, und, und, und, und] ∧ Hold B h5 [(AV.ptr o1 1 0 0, .pt 2 [iv l_.nodes, Sl.enc l_.edges])]) st tm h) : Sim (kB3 hm0_q8 xm0_q8 (lb0_q8 env) tm h) (kAw (s0_q8 l_) st) (fun (q : Sum Unit Bool) (r : Res) => match q with | .inl _ => ∃ (z10 : AV) (z11 : AV) (z12 : AV) (h8 : kA7), r = (.exit 0, [AV.agg [iv l_.nodes, Sl.enc l_.edges], AV.ptr o1 1 0 0, z10, z11, z12, AV.ptr o1 1 0 1, Sl.enc l_.edges, iv (((l_.edges.getD []).length : Nat) : Int), .top, .top, .top, .top, .top, .top, .top, .top, .top, .top, .top, .top, .top, .top, .top, .top, .top, .top, .top, .top, .top, .top, .top, .top, .top, .top, .top, .top, .top, .top, .top, und, und, und, und, und, und, und, und, und], h8) ∧ Hold B h8 [(AV.ptr o1 1 0 0, .pt 2 [iv l_.nodes, Sl.enc l_.edges])] | .inr q18 => ∃ (q19 : Int) (z20 : AV) (h16 : kA7), r = (.ret, [AV.agg [iv l_.nodes, Sl.enc l_.edges], AV.ptr o1 1 0 0, bv q18, iv q19, z20, AV.ptr o1 1 0 1, Sl.enc l_.edges, iv (((l_.edges.getD []).length : Nat) : Int), .top, .top, .top, .top, .top, .top, .top, .top, .top, .top, .top, .top, .top, .top, .top, .top, .top, .top, .top, .top, .top, .top, .top, .top, .top, .top, .top, .top, .top, .top, .top, und, und, und, und, und, und, und, und, und], h16) ∧ Hold B h16 [(AV.ptr o1 1 0 0, .pt 2 [iv l_.nodes, Sl.enc l_.edges])]) := by
  refine kB1 (Rel := fun (st : Int) tm h5 => match st with | w7 => tm = [AV.agg [iv l_.nodes, Sl.enc l_.edges], AV.ptr o1 1 0 0, .top, .top, .top, AV.ptr o1 1 0 1, Sl.enc l_.edges, iv (((l_.edges.getD []).length : Nat) : Int), iv w7, .top, .top, .top, .top, .top, .top, .top, .top, .top, .top, .top, .top, .top, .top, .top, .top, .top, .top, .top, .top, .top, .top, .top, .top, .top, .top, .top, .top, .top, .top, und, und, und, und, und, und, und, und, und] ∧ Hold B h5 [(AV.ptr o1 1 0 0, .pt 2 [iv l_.nodes, Sl.enc l_.edges])]) (fun w7 tm h5 R => ?_) R
  obtain ⟨rfl, O6⟩ := R
  rw [e_lb0_q8]
  unfold s0_q8
  dsimp only
  refine kA1 (v := bv (decide (w7 < (((l_.edges.getD []).length : Nat) : Int)))) (kAh _ _) ?_
  refine kAa (fun c21 => ?_) (fun c21 => ?_)
  · refine kAo (Tab.enc h5 l_.edges) (fun m23 a22 hi24 hm25 => ?_)
    refine kA1 (v := AV.agg [iv a22.frm, iv a22.upto, sv a22.label, iv a22.cost]) ((Tab.enc h5 l_.edges).ld hm25 true 4 0) ?_
    refine kAv O6 (cs := [iv 0, iv 0, sv (⟨#[]⟩ : ByteArray), iv 0]) (by first | rfl | simp) (fun o26 h27 O28 => ?_)
    replace O28 : Hold B h27 [(AV.ptr o1 1 0 0, .pt 2 [iv l_.nodes, Sl.enc l_.edges]), (AV.ptr o26 1 0 0, .pt 4 [iv 0, iv 0, sv (⟨#[]⟩ : ByteArray), iv 0])] := O28
    refine kBr O28 1 (cs' := [iv a22.frm, iv a22.upto, sv a22.label, iv a22.cost]) rfl (by first | rfl | simp) (by simp) (by first | rfl | simp) (by first | rfl | simp [kBk]) (fun h30 O31 => ?_)
    replace O31 : Hold B h30 [(AV.ptr o1 1 0 0, .pt 2 [iv l_.nodes, Sl.enc l_.edges]), (AV.ptr o26 1 0 0, .pt 4 [iv a22.frm, iv a22.upto, sv a22.label, iv a22.cost])] := O31
    refine kA1 (v := AV.agg [iv l_.nodes, Sl.enc l_.edges]) (O31.ld 0 rfl true 2 0) ?_
    refine kA1 (v := AV.agg [iv a22.frm, iv a22.upto, sv a22.label, iv a22.cost]) (O31.ld 1 rfl true 4 0) ?_
    refine kC3 he_q13 (kAu _ l_ rfl) (kAu _ a22 rfl) (fun c32 => ?_)
    refine kAm (kAb (by rfl) _ _) ?_
    refine kA1 (v := bv (!c32)) (kBq _) ?_
    refine sim_g4F (e := bv) (fun hb33 => ?_) (fun y36 y37 y38 c35 => ?_)
    · refine kAp ?_
      refine kA1 (v := AV.ptr o26 1 0 2) rfl ?_
      refine kAe ?_
      refine kAp ?_
      refine kA1 (v := sv a22.label) (O31.ld 1 rfl false 1 2) ?_
      refine kAe ?_
      refine kI0 ?_
      refine kH5 (t := kCu) he_q5 (kBi _ _) (fun c34 => ?_)
      refine kAe ?_
      refine kA1 (v := bv (!c34)) (kBq _) ?_
      exact kA5 rfl
    · refine kA1 (v := bv (bif !c32 then true else c35)) (kCh _ _ _) ?_
      refine sim_g3F (e := bv) (fun hb39 => ?_) (fun y41 y42 c40 => ?_)
      · refine kAe ?_
        refine kAp ?_
        refine kA1 (v := bv (decide (0 < w7))) (kE0 _ _) ?_
        refine kAe ?_
        exact kA5 rfl
      · simp only [gv_FT]
        refine sim_g9T (e := bv) (fun hb43 => ?_) (fun y50 y51 y52 y53 y54 y55 y56 y57 c49 => ?_)
        · refine kAp ?_
          refine kA1 (v := AV.ptr o1 1 0 1) rfl ?_
          refine kAe ?_
          refine kAp ?_
          refine kA1 (v := Sl.enc l_.edges) (O31.ld 0 rfl false 1 1) ?_
          refine kAe ?_
          refine kAe ?_
          refine kAp ?_
          refine kA1 (v := iv (wr (w7 - 1))) (kC4 _ _) ?_
          refine kAe ?_
          refine kAp ?_
          refine kAo (Tab.enc h30 l_.edges) (fun m45 a44 hi46 hm47 => ?_)
          refine kAe ?_
          refine kAp ?_
          refine kA1 (v := AV.agg [iv a44.frm, iv a44.upto, sv a44.label, iv a44.cost]) ((Tab.enc h30 l_.edges).ld hm47 true 4 0) ?_
          refine kAe ?_
          refine kAp ?_
          refine kA1 (v := AV.agg [iv a22.frm, iv a22.upto, sv a22.label, iv a22.cost]) (O31.ld 1 rfl true 4 0) ?_
          refine kAe ?_
          refine kI0 ?_
          refine kC3 he_q12 (kAu _ a44 rfl) (kAu _ a22 rfl) (fun c48 => ?_)
          refine kAm (kAb (by rfl) _ _) ?_
          refine kAe ?_
          refine kA1 (v := bv (decide (0 ≤ c48))) (kFn _ _) ?_
          exact kA5 rfl
        · refine kBt (e := bv) (fun hb58 => ?_) (fun c59 => ?_)
          · simp only [hb58, cond_true, cond_false, Bool.not_true, Bool.not_false, Bool.true_and, Bool.and_true, Bool.false_and, Bool.not_not]
            refine kA1 (v := bv (bif c40 then c49 else false)) (kCn _ _ _) ?_
            exact kA5 rfl
          · refine kA1 (v := bv (bif (bif !c32 then true else c35) then true else c59)) (kCh _ _ _) ?_
            refine kAa (fun c60 => ?_) (fun c60 => ?_)
            · have O61 : Hold B h30 [(AV.ptr o1 1 0 0, .pt 2 [iv l_.nodes, Sl.enc l_.edges])] := O31.sel [0] (by decide) rfl
              exact kA5 ⟨nofun, _, _, _, rfl, O61⟩
            · refine kA1 (v := iv (wr (w7 + 1))) (kAk _ _) ?_
              have O62 : Hold B h30 [(AV.ptr o1 1 0 0, .pt 2 [iv l_.nodes, Sl.enc l_.edges])] := O31.sel [0] (by decide) rfl
              exact kA5 ⟨rfl, rfl, O62⟩
  · exact kA5 ⟨nofun, _, _, _, _, rfl, O6⟩
theorem ts_q8 (env : Nat → Contract) (he_q5 : env n_q5 = .pure (T1 kCu)) (he_q12 : env n_q12 = .pure (C2 (fun c : Int => enc c) t_q12)) (he_q13 : env n_q13 = .pure (C2 (fun c : Bool => enc c) t_q13)) (he_q23 : env n_q23 = .pure (T3 kB5)) (l_ : Lattice) : Sim (kAl Try.prog env n_q8 [AV.agg [iv l_.nodes, Sl.enc l_.edges]] []) (t_q8 l_) fun c p => release p.2 depth p.1 = some ((fun c : Bool => enc c) c) := by
  have O := Hold.nil []
  generalize hB : (⟨[], []⟩ : Base) = B at O
  clear hB
  rw [e_q8]
  unfold t_q8
  refine kAv O (cs := [iv l_.nodes, Sl.enc l_.edges]) (by first | rfl | simp) (fun o1 h2 O3 => ?_)
  replace O3 : Hold B h2 [(AV.ptr o1 1 0 0, .pt 2 [iv l_.nodes, Sl.enc l_.edges])] := O3
  refine kA1 (v := AV.ptr o1 1 0 1) rfl ?_
  refine kA1 (v := Sl.enc l_.edges) (O3.ld 0 rfl false 1 1) ?_
  refine kA1 (v := iv (((l_.edges.getD []).length : Nat) : Int)) (Tab.enc h2 l_.edges).len ?_
  refine kB0 ((tl0_q8 env he_q5 he_q12 he_q13 he_q23 l_ o1) ⟨rfl, O3⟩) (fun qq65 r hq => ?_)
  rcases qq65 with _ | q18
  · obtain ⟨z10, z11, z12, h8, rfl, O9⟩ := hq
    rw [e_lk0x0_q8]
    refine kA1 (v := AV.ptr o1 1 0 0) rfl ?_
    refine kA1 (v := iv l_.nodes) (O9.ld 0 rfl false 1 0) ?_
    refine kF5 (t := kB5) he_q23 (kAr _ _) (kAr _ _) (kAr _ _) (fun c13 => ?_)
    refine kBs (e := bv) (fun hb14 => ?_) (fun c15 => ?_)
    · refine kA1 (v := AV.ptr o1 1 0 1) rfl ?_
      refine kA1 (v := Sl.enc l_.edges) (O9.ld 0 rfl false 1 1) ?_
      refine kA1 (v := iv (((l_.edges.getD []).length : Nat) : Int)) (Tab.enc h8 l_.edges).len ?_
      refine kA1 (v := bv (decide ((((l_.edges.getD []).length : Nat) : Int) ≤ 200))) (kFf _ _) ?_
      exact kA5 rfl
    · refine kA1 (v := bv (bif c13 then c15 else false)) (kCn _ _ _) ?_
      exact kA5 (kA3 (by rfl) _)
  · obtain ⟨q19, z20, h16, rfl, O17⟩ := hq
    rw [e_lk0r_q8]
    exact kA5 (kA3 (by rfl) _)
theorem tt_q8 : kAi Try.prog n_q8 (C1 (fun c : Bool => enc c) t_q8) := kD1 (kB7 ok_q5 (kB7 tt_q12 (kB7 tt_q13 (kB7 ok_q23 E0)))) kBb hb_q8 fun l_ => ts_q8 _ (by simp [kBw]) (by simp [kBw]) (by simp [kBw]) (by simp [kBw]) l_
def t_q20 (l_ : Lattice) : Option Bool :=
  kA0 (t_q8 l_) fun c5 =>
  some (!c5)
theorem ts_q20 (env : Nat → Contract) (he_q8 : env n_q8 = .pure (C1 (fun c : Bool => enc c) t_q8)) (l_ : Lattice) : Sim (kAl Try.prog env n_q20 [AV.agg [iv l_.nodes, Sl.enc l_.edges]] []) (t_q20 l_) fun c p => release p.2 depth p.1 = some ((fun c : Bool => enc c) c) := by
  have O := Hold.nil []
  generalize hB : (⟨[], []⟩ : Base) = B at O
  clear hB
  rw [e_q20]
  unfold t_q20
  refine kAv O (cs := [iv l_.nodes, Sl.enc l_.edges]) (by first | rfl | simp) (fun o1 h2 O3 => ?_)
  replace O3 : Hold B h2 [(AV.ptr o1 1 0 0, .pt 2 [iv l_.nodes, Sl.enc l_.edges])] := O3
  refine kA1 (v := AV.agg [iv l_.nodes, Sl.enc l_.edges]) (O3.ld 0 rfl true 2 0) ?_
  refine kBp he_q8 (kAu _ l_ rfl) (fun c5 => ?_)
  refine kAm (kAb (by rfl) _ _) ?_
  refine kA1 (v := bv (!c5)) (kBq _) ?_
  exact kA5 (kA3 (by rfl) _)
theorem tt_q20 : kAi Try.prog n_q20 (C1 (fun c : Bool => enc c) t_q20) := kD1 (kB7 tt_q8 E0) kBb hb_q20 fun l_ => ts_q20 _ (by simp [kBw]) l_
def t_q19 (list_ : Sl Lattice) (x_ : Lexicon) (m_ : Model) : Option Int :=
  kA0 (t_q9 x_) fun c9 =>
  kA0 (bif !c9 then some false else (kA0 (t_q10 m_) fun c11 => some (!c11))) fun c12 =>
  kA0 (bif (bif !c9 then true else c12) then some false else (kA0 (t_q63 t_q20 list_) fun c14 => some c14)) fun c15 =>
  bif (bif (bif !c9 then true else c12) then true else c15) then
    some 1
  else
    bif decide (8 < (((list_.getD []).length : Nat) : Int)) then
      some 2
    else
      some 0
theorem ts_q19 (env : Nat → Contract) (he_q9 : env n_q9 = .pure (C1 (fun c : Bool => enc c) t_q9)) (he_q10 : env n_q10 = .pure (C1 (fun c : Bool => enc c) t_q10)) (he_q63 : env n_q63 = .pure (C2 (fun c : Bool => enc c) (fun (q : Sl Lattice) (k : Clo0 n_q20) => t_q63 ((fun _ : Clo0 n_q20 => t_q20) k) q))) (list_ : Sl Lattice) (x_ : Lexicon) (m_ : Model) : Sim (kAl Try.prog env n_q19 [Sl.enc list_, AV.agg [Sl.enc x_.entries], AV.agg [iv m_.default, Sl.enc m_.bigrams]] []) (t_q19 list_ x_ m_) fun c p => release p.2 depth p.1 = some ((fun c : Int => enc c) c) := by
  have O := Hold.nil []
  generalize hB : (⟨[], []⟩ : Base) = B at O
  clear hB
  rw [e_q19]
  unfold t_q19
  refine kAv O (cs := [Sl.enc x_.entries]) (by first | rfl | simp) (fun o1 h2 O3 => ?_)
  replace O3 : Hold B h2 [(AV.ptr o1 1 0 0, .pt 1 [Sl.enc x_.entries])] := O3
  refine kAv O3 (cs := [iv m_.default, Sl.enc m_.bigrams]) (by first | rfl | simp) (fun o5 h6 O7 => ?_)
  replace O7 : Hold B h6 [(AV.ptr o1 1 0 0, .pt 1 [Sl.enc x_.entries]), (AV.ptr o5 1 0 0, .pt 2 [iv m_.default, Sl.enc m_.bigrams])] := O7
  refine kA1 (v := AV.agg [Sl.enc x_.entries]) (O7.ld 0 rfl true 1 0) ?_
  refine kBp he_q9 (kAu _ x_ rfl) (fun c9 => ?_)
  refine kAm (kAb (by rfl) _ _) ?_
  refine kA1 (v := bv (!c9)) (kBq _) ?_
  refine kBt (e := bv) (fun hb10 => ?_) (fun c12 => ?_)
  · refine kA1 (v := AV.agg [iv m_.default, Sl.enc m_.bigrams]) (O7.ld 1 rfl true 2 0) ?_
    refine kBp he_q10 (kAu _ m_ rfl) (fun c11 => ?_)
    refine kAm (kAb (by rfl) _ _) ?_
    refine kA1 (v := bv (!c11)) (kBq _) ?_
    exact kA5 rfl
  · refine kA1 (v := bv (bif !c9 then true else c12)) (kCh _ _ _) ?_
    refine kBt (e := bv) (fun hb13 => ?_) (fun c15 => ?_)
    · refine kBg (t := fun (q : Sl Lattice) (k : Clo0 n_q20) => t_q63 ((fun _ : Clo0 n_q20 => t_q20) k) q) he_q63 (kB9 _ _) (kGi _ _) (fun c14 => ?_)
      refine kAm (kAb (by rfl) _ _) ?_
      exact kA5 rfl
    · refine kA1 (v := bv (bif (bif !c9 then true else c12) then true else c15)) (kCh _ _ _) ?_
      refine kAa (fun c16 => ?_) (fun c16 => ?_)
      · exact kA5 (kA3 (by rfl) _)
      · refine kA1 (v := iv (((list_.getD []).length : Nat) : Int)) (Tab.enc h6 list_).len ?_
        refine kA1 (v := bv (decide (8 < (((list_.getD []).length : Nat) : Int)))) (kE0 _ _) ?_
        refine kAa (fun c17 => ?_) (fun c17 => ?_)
        · exact kA5 (kA3 (by rfl) _)
        · exact kA5 (kA3 (by rfl) _)
theorem tt_q19 : kAi Try.prog n_q19 (C3 (fun c : Int => enc c) t_q19) := pureC3 (kB7 tt_q9 (kB7 tt_q10 (kB7 (kCa tt_q20) E0))) kBb hb_q19 fun list_ x_ m_ => ts_q19 _ (by simp [kBw]) (by simp [kBw]) (by simp [kBw]) list_ x_ m_
def t_q16 (m_ : Model) (first_ : ByteArray) (second_ : ByteArray) : Option Int :=
  kA0 (t_q61 m_.bigrams (⟨first_, second_, 0⟩ : Bigram) (⟨⟩ : Clo0 kGn)) fun c5 =>
  bif !c5.2 then
    some m_.default
  else
    kA0 (kC1 (m_.bigrams.getD []) c5.1) fun a7 =>
    some a7.cost
theorem ts_q16 (env : Nat → Contract) (he_q61 : env n_q61 = .pure (C3 (fun c : Int × Bool => AV.tup [enc c.1, enc c.2]) t_q61)) (m_ : Model) (first_ : ByteArray) (second_ : ByteArray) : Sim (kAl Try.prog env n_q16 [AV.agg [iv m_.default, Sl.enc m_.bigrams], sv first_, sv second_] []) (t_q16 m_ first_ second_) fun c p => release p.2 depth p.1 = some ((fun c : Int => enc c) c) := by
  have O := Hold.nil []
  generalize hB : (⟨[], []⟩ : Base) = B at O
  clear hB
  rw [e_q16]
  unfold t_q16
  refine kAv O (cs := [iv m_.default, Sl.enc m_.bigrams]) (by first | rfl | simp) (fun o1 h2 O3 => ?_)
  replace O3 : Hold B h2 [(AV.ptr o1 1 0 0, .pt 2 [iv m_.default, Sl.enc m_.bigrams])] := O3
  refine kA1 (v := AV.ptr o1 1 0 1) rfl ?_
  refine kA1 (v := Sl.enc m_.bigrams) (O3.ld 0 rfl false 1 1) ?_
  refine kA1 (v := AV.agg [sv first_, sv second_, iv 0]) (by first | rfl | simp [aBuild, aFill, kBk]) ?_
  refine kF7 he_q61 (kB9 _ _) (kAu _ (⟨first_, second_, 0⟩ : Bigram) rfl) (kGi _ _) (fun c5 => ?_)
  refine kAm (kAb (by rfl) _ _) ?_
  refine kA1 (v := iv c5.1) rfl ?_
  refine kA1 (v := bv c5.2) rfl ?_
  refine kA1 (v := bv (!c5.2)) (kBq _) ?_
  refine kAa (fun c6 => ?_) (fun c6 => ?_)
  · refine kA1 (v := AV.ptr o1 1 0 0) rfl ?_
    refine kA1 (v := iv m_.default) (O3.ld 0 rfl false 1 0) ?_
    exact kA5 (kA3 (by rfl) _)
  · refine kA1 (v := AV.ptr o1 1 0 1) rfl ?_
    refine kA1 (v := Sl.enc m_.bigrams) (O3.ld 0 rfl false 1 1) ?_
    refine kAo (Tab.enc h2 m_.bigrams) (fun m8 a7 hi9 hm10 => ?_)
    refine kA1 (v := elp (Sl.enc m_.bigrams) m8 2) ((Tab.enc h2 m_.bigrams).fld _ _ _) ?_
    refine kA1 (v := iv a7.cost) ((Tab.enc h2 m_.bigrams).ld hm10 false 1 2) ?_
    exact kA5 (kA3 (by rfl) _)
theorem tt_q16 : kAi Try.prog n_q16 (C3 (fun c : Int => enc c) t_q16) := pureC3 (kB7 tt_q61 E0) kBb hb_q16 fun m_ first_ second_ => ts_q16 _ (by simp [kBw]) m_ first_ second_
def s0_q24 (m_ : Model) (words_ : Sl ByteArray) : (Int × ByteArray × Int) → Option (Sum (Int × ByteArray × Int) Int) := fun (w7, w8, w9) =>
  bif decide (w9 < (((words_.getD []).length : Nat) : Int)) then
    kA0 (kC1 (words_.getD []) w9) fun a16 =>
    kA0 (t_q16 m_ w8 a16) fun c20 =>
    some (.inl (wr (w7 + c20), a16, wr (w9 + 1)))
  else
    some (.inr w7)
def t_q24 (m_ : Model) (words_ : Sl ByteArray) : Option Int :=
  kA0 (kAw (s0_q24 m_ words_) (0, (⟨#[]⟩ : ByteArray), 0)) fun q12 =>
  some q12
theorem tl0_q24 (env : Nat → Contract) {B : Base} (he_q16 : env n_q16 = .pure (C3 (fun c : Int => enc c) t_q16)) (m_ : Model) (words_ : Sl ByteArray) (o1 : Nat)  {st : Int × ByteArray × Int} {tm : TM} {h : kA7} (R : (fun (st : Int × ByteArray × Int) tm h5 => match st with | (w7, w8, w9) => tm = [AV.agg [iv m_.default, Sl.enc m_.bigrams], Sl.enc words_, AV.ptr o1 1 0 0, und, iv 0, iv w7, sv w8, und, .top, Sl.enc words_, iv (((words_.getD []).length : Nat) : Int), iv w9, .top, .top, .top, .top, .top, .top, .top, .top, .top, .top, .top, und] ∧ Hold B h5 [(AV.ptr o1 1 0 0, .pt 2 [iv m_.default, Sl.enc m_.bigrams])]) st tm h) : Sim (kB3 hm0_q24 xm0_q24 (lb0_q24 env) tm h) (kAw (s0_q24 m_ words_) st) (fun (q : Int) (r : Res) => match q with | q12 => ∃ (q13 : ByteArray) (z14 : AV) (h10 : kA7), r = (.exit 0, [AV.agg [iv m_.default, Sl.enc m_.bigrams], Sl.enc words_, AV.ptr o1 1 0 0, und, iv 0, iv q12, sv q13, und, z14, Sl.enc words_, iv (((words_.getD []).length : Nat) : Int), .top, .top, .top, .top, .top, .top, .top, .top, .top, .top, .top, .top, und], h10) ∧ Hold B h10 [(AV.ptr o1 1 0 0, .pt 2 [iv m_.default, Sl.enc m_.bigrams])]) := by
  refine kB1 (Rel := fun (st : Int × ByteArray × Int) tm h5 => match st with | (w7, w8, w9) => tm = [AV.agg [iv m_.default, Sl.enc m_.bigrams], Sl.enc words_, AV.ptr o1 1 0 0, und, iv 0, iv w7, sv w8, und, .top, Sl.enc words_, iv (((words_.getD []).length : Nat) : Int), iv w9, .top, .top, .top, .top, .top, .top, .top, .top, .top, .top, .top, und] ∧ Hold B h5 [(AV.ptr o1 1 0 0, .pt 2 [iv m_.default, Sl.enc m_.bigrams])]) (fun st tm h5 R => ?_) R
  obtain ⟨w7, w8, w9⟩ := st
  obtain ⟨rfl, O6⟩ := R
  rw [e_lb0_q24]
  unfold s0_q24
  dsimp only
  refine kA1 (v := bv (decide (w9 < (((words_.getD []).length : Nat) : Int)))) (kAh _ _) ?_
  refine kAa (fun c15 => ?_) (fun c15 => ?_)
  · refine kAo (Tab.enc h5 words_) (fun m17 a16 hi18 hm19 => ?_)
    refine kA1 (v := sv a16) ((Tab.enc h5 words_).ld hm19 false 1 0) ?_
    refine kA1 (v := AV.agg [iv m_.default, Sl.enc m_.bigrams]) (O6.ld 0 rfl true 2 0) ?_
    refine kF7 he_q16 (kAu _ m_ rfl) (kBi _ _) (kBi _ _) (fun c20 => ?_)
    refine kAm (kAb (by rfl) _ _) ?_
    refine kA1 (v := iv (wr (w7 + c20))) (kAk _ _) ?_
    refine kA1 (v := iv (wr (w9 + 1))) (kAk _ _) ?_
    exact kA5 ⟨rfl, rfl, O6⟩
  · exact kA5 ⟨nofun, _, _, _, rfl, O6⟩
theorem ts_q24 (env : Nat → Contract) (he_q16 : env n_q16 = .pure (C3 (fun c : Int => enc c) t_q16)) (m_ : Model) (words_ : Sl ByteArray) : Sim (kAl Try.prog env n_q24 [AV.agg [iv m_.default, Sl.enc m_.bigrams], Sl.enc words_] []) (t_q24 m_ words_) fun c p => release p.2 depth p.1 = some ((fun c : Int => enc c) c) := by
  have O := Hold.nil []
  generalize hB : (⟨[], []⟩ : Base) = B at O
  clear hB
  rw [e_q24]
  unfold t_q24
  refine kAv O (cs := [iv m_.default, Sl.enc m_.bigrams]) (by first | rfl | simp) (fun o1 h2 O3 => ?_)
  replace O3 : Hold B h2 [(AV.ptr o1 1 0 0, .pt 2 [iv m_.default, Sl.enc m_.bigrams])] := O3
  refine kA1 (v := iv (((words_.getD []).length : Nat) : Int)) (Tab.enc h2 words_).len ?_
  refine kB0 ((tl0_q24 env he_q16 m_ words_ o1) ⟨rfl, O3⟩) (fun qq24 r hq => ?_)
  revert hq
  revert qq24
  intro q12 hq
  obtain ⟨q13, z14, h10, rfl, O11⟩ := hq
  rw [e_lk0x0_q24]
  exact kA5 (kA3 (by rfl) _)
theorem tt_q24 : kAi Try.prog n_q24 (C2 (fun c : Int => enc c) t_q24) := kC2 (kB7 tt_q16 E0) kBb hb_q24 fun m_ words_ => ts_q24 _ (by simp [kBw]) m_ words_
def t_q18 (e_ : Entry) (w_ : ByteArray) : Option Int :=
  kA0 (some (cmpS e_.word w_)) fun c5 =>
  some c5
theorem ts_q18 (env : Nat → Contract) (he_q1 : env n_q1 = .pure (T2 cmpS)) (e_ : Entry) (w_ : ByteArray) : Sim (kAl Try.prog env kHq [AV.agg [sv e_.word, iv e_.cost], sv w_] []) (t_q18 e_ w_) fun c p => release p.2 depth p.1 = some ((fun c : Int => enc c) c) := by
  have O := Hold.nil []
  generalize hB : (⟨[], []⟩ : Base) = B at O
  clear hB
  rw [e_q18]
  unfold t_q18
  refine kAv O (cs := [sv e_.word, iv e_.cost]) (by first | rfl | simp) (fun o1 h2 O3 => ?_)
  replace O3 : Hold B h2 [(AV.ptr o1 1 0 0, .pt 2 [sv e_.word, iv e_.cost])] := O3
  refine kA1 (v := AV.ptr o1 1 0 0) rfl ?_
  refine kA1 (v := sv e_.word) (O3.ld 0 rfl false 1 0) ?_
  refine sim_callV2 (t := cmpS) he_q1 (kBi _ _) (kBi _ _) (fun c5 => ?_)
  exact kA5 (kA3 (by rfl) _)
theorem tt_q18 : kAi Try.prog kHq (C2 (fun c : Int => enc c) t_q18) := kC2 (kB7 ok_q1 E0) kBb hb_q18 fun e_ w_ => ts_q18 _ (by simp [kBw]) e_ w_
def s3_q21 (l_ : Lattice) (text_ : ByteArray) (w25 : Sl Int) (w31 : Int) : ((Sl Int) × Bool × Int) → Option (Sum ((Sl Int) × Bool × Int) ((Sl Int) × Bool)) := fun (w70, w73, w74) =>
  bif decide (w74 < (((l_.edges.getD []).length : Nat) : Int)) then
    kA0 (kC1 (l_.edges.getD []) w74) fun a84 =>
    kA0 (subB text_ (some w31) (some (wr (w31 + 1)))) fun s94 =>
    kA0 (bif decide (a84.label = s94) then (kA0 (kC1 (w25.getD []) a84.frm) fun a96 => some (decide (a96 < 1099511627776))) else some false) fun c100 =>
    bif (bif decide (a84.label = s94) then c100 else false) then
      kA0 (kC1 (w70.getD []) a84.upto) fun a107 =>
      kA0 (kC1 (w25.getD []) a84.frm) fun a111 =>
      kA0 (kC1 (w70.getD []) a84.upto) fun a115 =>
      some (.inl ((kGk w70 a84.upto (min a107 (wr (a111 + a84.cost)))), true, wr (w74 + 1)))
    else
      some (.inl (w70, w73, wr (w74 + 1)))
  else
    some (.inr (w70, w73))
def s2_q21 (l61 : List Int) : ((Sl Int) × Int) → Option (Sum ((Sl Int) × Int) (Sl Int)) := fun (w62, w65) =>
  bif decide (w65 < ((((some l61).getD []).length : Nat) : Int)) then
    kA0 (kC1 (w62.getD []) w65) fun a127 =>
    some (.inl ((kGk w62 w65 1099511627776), wr (w65 + 1)))
  else
    some (.inr w62)
def s1_q21 (l_ : Lattice) (text_ : ByteArray) : ((Sl Int) × Int × Int) → Option (Sum ((Sl Int) × Int × Int) (Sum (Sl Int) Int)) := fun (w25, w28, w31) =>
  bif decide (w31 < (text_.size : Int)) then
    kA0 (kH8 0 l_.nodes) fun l61 =>
    kA0 (kAw (s2_q21 l61) ((some l61), 0)) fun q68 =>
    kA0 (kAw (s3_q21 l_ text_ w25 w31) (q68, false, 0)) fun (q77, q78) =>
    bif !q78 then
      some (.inr (.inr 1099511627776))
    else
      some (.inl (q77, w28, wr (w31 + 1)))
  else
    some (.inr (.inl w25))
def s0_q21 (l9 : List Int) : ((Sl Int) × Int) → Option (Sum ((Sl Int) × Int) (Sl Int)) := fun (w10, w13) =>
  bif decide (w13 < ((((some l9).getD []).length : Nat) : Int)) then
    kA0 (kC1 (w10.getD []) w13) fun a141 =>
    some (.inl ((kGk w10 w13 1099511627776), wr (w13 + 1)))
  else
    some (.inr w10)
def t_q21 (l_ : Lattice) (text_ : ByteArray) : Option Int :=
  kA0 (kH8 0 l_.nodes) fun l9 =>
  kA0 (kAw (s0_q21 l9) ((some l9), 0)) fun q16 =>
  kA0 (kC1 (q16.getD []) 0) fun a18 =>
  kA0 (kAw (s1_q21 l_ text_) ((kGk q16 0 0), 0, 0)) fun qq139 => match qq139 with
  | (.inl q35) =>
      kA0 (kC1 (q35.getD []) (wr (l_.nodes - 1))) fun a42 =>
      some a42
  | (.inr q50) =>
      some q50
theorem tl3_q21 (env : Nat → Contract) {B : Base}  (l_ : Lattice) (text_ : ByteArray) (o1 : Nat) (x5 : AV) (l9 : List Int) (z17 : AV) (m19 : Nat) (z24 : AV) (w25 : Sl Int) (w28 : Int) (w31 : Int) (x57 : AV) (l61 : List Int) (z69 : AV)  {st : (Sl Int) × Bool × Int} {tm : TM} {h : kA7} (R : (fun (st : (Sl Int) × Bool × Int) tm h71 => match st with | (w70, w73, w74) => tm = ((AV.agg [iv l_.nodes, Sl.enc l_.edges]) :: (sv text_) :: (AV.ptr o1 1 0 0) :: und :: (iv w28) :: z24 :: z17 :: (iv w31) :: x57 :: z69 :: (bv w73) :: und :: .top :: (AV.ptr o1 1 0 0) :: (iv l_.nodes) :: x5 :: x5 :: (iv ((((some l9).getD []).length : Nat) : Int)) :: .top :: .top :: .top :: .top :: .top :: .top :: .top :: x5 :: (elp x5 m19 0) :: (sv text_) :: (iv (text_.size : Int)) :: (iv w31) :: (bv (decide (w31 < (text_.size : Int)))) :: (iv w31) :: (AV.ptr o1 1 0 0) :: (iv l_.nodes) :: x57 :: x57 :: (iv ((((some l61).getD []).length : Nat) : Int)) :: .top :: .top :: .top :: .top :: .top :: .top :: .top :: (AV.ptr o1 1 0 1) :: (Sl.enc l_.edges) :: (iv (((l_.edges.getD []).length : Nat) : Int)) :: (iv w74) :: .top :: .top :: .top :: .top :: .top :: .top :: .top :: .top :: .top :: .top :: .top :: .top :: .top :: .top :: .top :: .top :: .top :: .top :: .top :: .top :: .top :: .top :: .top :: .top :: .top :: .top :: .top :: .top :: .top :: .top :: .top :: .top :: .top :: .top :: .top :: .top :: .top :: .top :: .top :: .top :: .top :: .top :: und :: und :: und :: und :: und :: und :: []) ∧ Hold B h71 [(AV.ptr o1 1 0 0, .pt 2 [iv l_.nodes, Sl.enc l_.edges]), (z24, obS (w25 : Sl Int)), (x57, obS (w70 : Sl Int))]) st tm h) : Sim (kB3 hm3_q21 xm3_q21 (lb3_q21 env) tm h) (kAw (s3_q21 l_ text_ w25 w31) st) (fun (q : (Sl Int) × Bool) (r : Res) => match q with | (q77, q78) => ∃ (z79 : AV) (h75 : kA7), r = (.exit 6, ((AV.agg [iv l_.nodes, Sl.enc l_.edges]) :: (sv text_) :: (AV.ptr o1 1 0 0) :: und :: (iv w28) :: z24 :: z17 :: (iv w31) :: x57 :: z69 :: (bv q78) :: und :: z79 :: (AV.ptr o1 1 0 0) :: (iv l_.nodes) :: x5 :: x5 :: (iv ((((some l9).getD []).length : Nat) : Int)) :: .top :: .top :: .top :: .top :: .top :: .top :: .top :: x5 :: (elp x5 m19 0) :: (sv text_) :: (iv (text_.size : Int)) :: (iv w31) :: (bv (decide (w31 < (text_.size : Int)))) :: (iv w31) :: (AV.ptr o1 1 0 0) :: (iv l_.nodes) :: x57 :: x57 :: (iv ((((some l61).getD []).length : Nat) : Int)) :: .top :: .top :: .top :: .top :: .top :: .top :: .top :: (AV.ptr o1 1 0 1) :: (Sl.enc l_.edges) :: (iv (((l_.edges.getD []).length : Nat) : Int)) :: .top :: .top :: .top :: .top :: .top :: .top :: .top :: .top :: .top :: .top :: .top :: .top :: .top :: .top :: .top :: .top :: .top :: .top :: .top :: .top :: .top :: .top :: .top :: .top :: .top :: .top :: .top :: .top :: .top :: .top :: .top :: .top :: .top :: .top :: .top :: .top :: .top :: .top :: .top :: .top :: .top :: .top :: .top :: und :: und :: und :: und :: und :: und :: []), h75) ∧ Hold B h75 [(AV.ptr o1 1 0 0, .pt 2 [iv l_.nodes, Sl.enc l_.edges]), (z24, obS (w25 : Sl Int)), (x57, obS (q77 : Sl Int))]) := by
  refine kB1 (Rel := fun (st : (Sl Int) × Bool × Int) tm h71 => match st with | (w70, w73, w74) => tm = ((AV.agg [iv l_.nodes, Sl.enc l_.edges]) :: (sv text_) :: (AV.ptr o1 1 0 0) :: und :: (iv w28) :: z24 :: z17 :: (iv w31) :: x57 :: z69 :: (bv w73) :: und :: .top :: (AV.ptr o1 1 0 0) :: (iv l_.nodes) :: x5 :: x5 :: (iv ((((some l9).getD []).length : Nat) : Int)) :: .top :: .top :: .top :: .top :: .top :: .top :: .top :: x5 :: (elp x5 m19 0) :: (sv text_) :: (iv (text_.size : Int)) :: (iv w31) :: (bv (decide (w31 < (text_.size : Int)))) :: (iv w31) :: (AV.ptr o1 1 0 0) :: (iv l_.nodes) :: x57 :: x57 :: (iv ((((some l61).getD []).length : Nat) : Int)) :: .top :: .top :: .top :: .top :: .top :: .top :: .top :: (AV.ptr o1 1 0 1) :: (Sl.enc l_.edges) :: (iv (((l_.edges.getD []).length : Nat) : Int)) :: (iv w74) :: .top :: .top :: .top :: .top :: .top :: .top :: .top :: .top :: .top :: .top :: .top :: .top :: .top :: .top :: .top :: .top :: .top :: .top :: .top :: .top :: .top :: .top :: .top :: .top :: .top :: .top :: .top :: .top :: .top :: .top :: .top :: .top :: .top :: .top :: .top :: .top :: .top :: .top :: .top :: .top :: .top :: .top :: und :: und :: und :: und :: und :: und :: []) ∧ Hold B h71 [(AV.ptr o1 1 0 0, .pt 2 [iv l_.nodes, Sl.enc l_.edges]), (z24, obS (w25 : Sl Int)), (x57, obS (w70 : Sl Int))]) (fun st tm h71 R => ?_) R
  obtain ⟨w70, w73, w74⟩ := st
  obtain ⟨rfl, O72⟩ := R
  rw [e_lb3_q21]
  unfold s3_q21
  dsimp only
  refine kA1 (v := bv (decide (w74 < (((l_.edges.getD []).length : Nat) : Int)))) (kAh _ _) ?_
  refine kAa (fun c83 => ?_) (fun c83 => ?_)
  · refine kAo (Tab.enc h71 l_.edges) (fun m85 a84 hi86 hm87 => ?_)
    refine kA1 (v := AV.agg [iv a84.frm, iv a84.upto, sv a84.label, iv a84.cost]) ((Tab.enc h71 l_.edges).ld hm87 true 4 0) ?_
    refine kAv O72 (cs := [iv 0, iv 0, sv (⟨#[]⟩ : ByteArray), iv 0]) (by first | rfl | simp) (fun o88 h89 O90 => ?_)
    replace O90 : Hold B h89 [(AV.ptr o1 1 0 0, .pt 2 [iv l_.nodes, Sl.enc l_.edges]), (z24, obS (w25 : Sl Int)), (x57, obS (w70 : Sl Int)), (AV.ptr o88 1 0 0, .pt 4 [iv 0, iv 0, sv (⟨#[]⟩ : ByteArray), iv 0])] := O90
    refine kBr O90 3 (cs' := [iv a84.frm, iv a84.upto, sv a84.label, iv a84.cost]) rfl (by first | rfl | simp) (by simp) (by first | rfl | simp) (by first | rfl | simp [kBk]) (fun h92 O93 => ?_)
    replace O93 : Hold B h92 [(AV.ptr o1 1 0 0, .pt 2 [iv l_.nodes, Sl.enc l_.edges]), (z24, obS (w25 : Sl Int)), (x57, obS (w70 : Sl Int)), (AV.ptr o88 1 0 0, .pt 4 [iv a84.frm, iv a84.upto, sv a84.label, iv a84.cost])] := O93
    refine kA1 (v := AV.ptr o88 1 0 2) rfl ?_
    refine kA1 (v := sv a84.label) (O93.ld 3 rfl false 1 2) ?_
    refine kA1 (v := iv (wr (w31 + 1))) (kAk _ _) ?_
    refine sim_subB11 (fun s94 => ?_)
    refine kA1 (v := bv (decide (a84.label = s94))) (kEq _ _) ?_
    refine sim_g6T (e := bv) (fun hb95 => ?_) (fun y101 y102 y103 y104 y105 c100 => ?_)
    · refine kAe ?_
      refine kAp ?_
      refine kA1 (v := AV.ptr o88 1 0 0) rfl ?_
      refine kAe ?_
      refine kAp ?_
      refine kA1 (v := iv a84.frm) (O93.ld 3 rfl false 1 0) ?_
      refine kAe ?_
      refine kAp ?_
      refine kAo (O93.tab (A := Int) (s := w25) 1 rfl) (fun m97 a96 hi98 hm99 => ?_)
      refine kAe ?_
      refine kAp ?_
      refine kA1 (v := iv a96) ((O93.tab (A := Int) (s := w25) 1 rfl).ld hm99 false 1 0) ?_
      refine kAe ?_
      refine kA1 (v := bv (decide (a96 < 1099511627776))) (kAh _ _) ?_
      exact kA5 rfl
    · refine kA1 (v := bv (bif decide (a84.label = s94) then c100 else false)) (kCn _ _ _) ?_
      refine kAa (fun c106 => ?_) (fun c106 => ?_)
      · refine kA1 (v := AV.ptr o88 1 0 1) rfl ?_
        refine kA1 (v := iv a84.upto) (O93.ld 3 rfl false 1 1) ?_
        refine kA1 (v := AV.ptr o88 1 0 1) rfl ?_
        refine kA1 (v := iv a84.upto) (O93.ld 3 rfl false 1 1) ?_
        refine kAo (O93.tab (A := Int) (s := w70) 2 rfl) (fun m108 a107 hi109 hm110 => ?_)
        refine kA1 (v := iv a107) ((O93.tab (A := Int) (s := w70) 2 rfl).ld hm110 false 1 0) ?_
        refine kA1 (v := AV.ptr o88 1 0 0) rfl ?_
        refine kA1 (v := iv a84.frm) (O93.ld 3 rfl false 1 0) ?_
        refine kAo (O93.tab (A := Int) (s := w25) 1 rfl) (fun m112 a111 hi113 hm114 => ?_)
        refine kA1 (v := iv a111) ((O93.tab (A := Int) (s := w25) 1 rfl).ld hm114 false 1 0) ?_
        refine kA1 (v := AV.ptr o88 1 0 3) rfl ?_
        refine kA1 (v := iv a84.cost) (O93.ld 3 rfl false 1 3) ?_
        refine kA1 (v := iv (wr (a111 + a84.cost))) (kAk _ _) ?_
        refine kA1 (v := iv (min a107 (wr (a111 + a84.cost)))) (aFold_min _ _) ?_
        refine kAo (O93.tab (A := Int) (s := w70) 2 rfl) (fun m116 a115 hi117 hm118 => ?_)
        refine kEl (A := Int) O93 2 (min a107 (wr (a111 + a84.cost))) rfl hi117 hm118 rfl (by simp) (by first | rfl | simp) (by first | rfl | simp [kBk]) (fun h119 O120 => ?_)
        replace O120 : Hold B h119 [(AV.ptr o1 1 0 0, .pt 2 [iv l_.nodes, Sl.enc l_.edges]), (z24, obS (w25 : Sl Int)), (x57, obS ((kGk w70 a84.upto (min a107 (wr (a111 + a84.cost)))) : Sl Int)), (AV.ptr o88 1 0 0, .pt 4 [iv a84.frm, iv a84.upto, sv a84.label, iv a84.cost])] := O120
        refine kA1 (v := iv (wr (w74 + 1))) (kAk _ _) ?_
        have O121 : Hold B h119 [(AV.ptr o1 1 0 0, .pt 2 [iv l_.nodes, Sl.enc l_.edges]), (z24, obS (w25 : Sl Int)), (x57, obS ((kGk w70 a84.upto (min a107 (wr (a111 + a84.cost)))) : Sl Int))] := O120.sel [0, 1, 2] (by decide) rfl
        exact kA5 ⟨rfl, rfl, O121⟩
      · refine kA1 (v := iv (wr (w74 + 1))) (kAk _ _) ?_
        have O122 : Hold B h92 [(AV.ptr o1 1 0 0, .pt 2 [iv l_.nodes, Sl.enc l_.edges]), (z24, obS (w25 : Sl Int)), (x57, obS (w70 : Sl Int))] := O93.sel [0, 1, 2] (by decide) rfl
        exact kA5 ⟨rfl, rfl, O122⟩
  · exact kA5 ⟨nofun, _, _, rfl, O72⟩
theorem tl2_q21 (env : Nat → Contract) {B : Base}  (l_ : Lattice) (text_ : ByteArray) (o1 : Nat) (x5 : AV) (l9 : List Int) (z17 : AV) (m19 : Nat) (z24 : AV) (w25 : Sl Int) (w28 : Int) (y30 : AV) (w31 : Int) (x57 : AV) (l61 : List Int)  {st : (Sl Int) × Int} {tm : TM} {h : kA7} (R : (fun (st : (Sl Int) × Int) tm h63 => match st with | (w62, w65) => tm = ((AV.agg [iv l_.nodes, Sl.enc l_.edges]) :: (sv text_) :: (AV.ptr o1 1 0 0) :: und :: (iv w28) :: z24 :: z17 :: (iv w31) :: x57 :: .top :: .top :: und :: y30 :: (AV.ptr o1 1 0 0) :: (iv l_.nodes) :: x5 :: x5 :: (iv ((((some l9).getD []).length : Nat) : Int)) :: .top :: .top :: .top :: .top :: .top :: .top :: .top :: x5 :: (elp x5 m19 0) :: (sv text_) :: (iv (text_.size : Int)) :: (iv w31) :: (bv (decide (w31 < (text_.size : Int)))) :: (iv w31) :: (AV.ptr o1 1 0 0) :: (iv l_.nodes) :: x57 :: x57 :: (iv ((((some l61).getD []).length : Nat) : Int)) :: (iv w65) :: .top :: .top :: .top :: .top :: .top :: .top :: .top :: .top :: .top :: .top :: .top :: .top :: .top :: .top :: .top :: .top :: .top :: .top :: .top :: .top :: .top :: .top :: .top :: .top :: .top :: .top :: .top :: .top :: .top :: .top :: .top :: .top :: .top :: .top :: .top :: .top :: .top :: .top :: .top :: .top :: .top :: .top :: .top :: .top :: .top :: .top :: .top :: .top :: .top :: .top :: .top :: .top :: und :: und :: und :: und :: und :: und :: []) ∧ Hold B h63 [(AV.ptr o1 1 0 0, .pt 2 [iv l_.nodes, Sl.enc l_.edges]), (z24, obS (w25 : Sl Int)), (x57, obS (w62 : Sl Int))]) st tm h) : Sim (kB3 hm2_q21 xm2_q21 (lb2_q21 env) tm h) (kAw (s2_q21 l61) st) (fun (q : Sl Int) (r : Res) => match q with | q68 => ∃ (z69 : AV) (h66 : kA7), r = (.exit 4, ((AV.agg [iv l_.nodes, Sl.enc l_.edges]) :: (sv text_) :: (AV.ptr o1 1 0 0) :: und :: (iv w28) :: z24 :: z17 :: (iv w31) :: x57 :: z69 :: .top :: und :: y30 :: (AV.ptr o1 1 0 0) :: (iv l_.nodes) :: x5 :: x5 :: (iv ((((some l9).getD []).length : Nat) : Int)) :: .top :: .top :: .top :: .top :: .top :: .top :: .top :: x5 :: (elp x5 m19 0) :: (sv text_) :: (iv (text_.size : Int)) :: (iv w31) :: (bv (decide (w31 < (text_.size : Int)))) :: (iv w31) :: (AV.ptr o1 1 0 0) :: (iv l_.nodes) :: x57 :: x57 :: (iv ((((some l61).getD []).length : Nat) : Int)) :: .top :: .top :: .top :: .top :: .top :: .top :: .top :: .top :: .top :: .top :: .top :: .top :: .top :: .top :: .top :: .top :: .top :: .top :: .top :: .top :: .top :: .top :: .top :: .top :: .top :: .top :: .top :: .top :: .top :: .top :: .top :: .top :: .top :: .top :: .top :: .top :: .top :: .top :: .top :: .top :: .top :: .top :: .top :: .top :: .top :: .top :: .top :: .top :: .top :: .top :: .top :: .top :: .top :: und :: und :: und :: und :: und :: und :: []), h66) ∧ Hold B h66 [(AV.ptr o1 1 0 0, .pt 2 [iv l_.nodes, Sl.enc l_.edges]), (z24, obS (w25 : Sl Int)), (x57, obS (q68 : Sl Int))]) := by
  refine kB1 (Rel := fun (st : (Sl Int) × Int) tm h63 => match st with | (w62, w65) => tm = ((AV.agg [iv l_.nodes, Sl.enc l_.edges]) :: (sv text_) :: (AV.ptr o1 1 0 0) :: und :: (iv w28) :: z24 :: z17 :: (iv w31) :: x57 :: .top :: .top :: und :: y30 :: (AV.ptr o1 1 0 0) :: (iv l_.nodes) :: x5 :: x5 :: (iv ((((some l9).getD []).length : Nat) : Int)) :: .top :: .top :: .top :: .top :: .top :: .top :: .top :: x5 :: (elp x5 m19 0) :: (sv text_) :: (iv (text_.size : Int)) :: (iv w31) :: (bv (decide (w31 < (text_.size : Int)))) :: (iv w31) :: (AV.ptr o1 1 0 0) :: (iv l_.nodes) :: x57 :: x57 :: (iv ((((some l61).getD []).length : Nat) : Int)) :: (iv w65) :: .top :: .top :: .top :: .top :: .top :: .top :: .top :: .top :: .top :: .top :: .top :: .top :: .top :: .top :: .top :: .top :: .top :: .top :: .top :: .top :: .top :: .top :: .top :: .top :: .top :: .top :: .top :: .top :: .top :: .top :: .top :: .top :: .top :: .top :: .top :: .top :: .top :: .top :: .top :: .top :: .top :: .top :: .top :: .top :: .top :: .top :: .top :: .top :: .top :: .top :: .top :: .top :: und :: und :: und :: und :: und :: und :: []) ∧ Hold B h63 [(AV.ptr o1 1 0 0, .pt 2 [iv l_.nodes, Sl.enc l_.edges]), (z24, obS (w25 : Sl Int)), (x57, obS (w62 : Sl Int))]) (fun st tm h63 R => ?_) R
  obtain ⟨w62, w65⟩ := st
  obtain ⟨rfl, O64⟩ := R
  rw [e_lb2_q21]
  unfold s2_q21
  dsimp only
  refine kA1 (v := bv (decide (w65 < ((((some l61).getD []).length : Nat) : Int)))) (kAh _ _) ?_
  refine kAa (fun c126 => ?_) (fun c126 => ?_)
  · refine kAo (O64.tab (A := Int) (s := w62) 2 rfl) (fun m128 a127 hi129 hm130 => ?_)
    refine kEl (A := Int) O64 2 1099511627776 rfl hi129 hm130 rfl (by simp) (by first | rfl | simp) (by first | rfl | simp [kBk]) (fun h131 O132 => ?_)
    replace O132 : Hold B h131 [(AV.ptr o1 1 0 0, .pt 2 [iv l_.nodes, Sl.enc l_.edges]), (z24, obS (w25 : Sl Int)), (x57, obS ((kGk w62 w65 1099511627776) : Sl Int))] := O132
    refine kA1 (v := iv (wr (w65 + 1))) (kAk _ _) ?_
    exact kA5 ⟨rfl, rfl, O132⟩
  · exact kA5 ⟨nofun, _, _, rfl, O64⟩
theorem tl1_q21 (env : Nat → Contract) {B : Base}  (l_ : Lattice) (text_ : ByteArray) (o1 : Nat) (x5 : AV) (l9 : List Int) (z17 : AV) (m19 : Nat)  {st : (Sl Int) × Int × Int} {tm : TM} {h : kA7} (R : (fun (st : (Sl Int) × Int × Int) tm h26 => match st with | (w25, w28, w31) => ∃ y29 y30 z24, tm = ((AV.agg [iv l_.nodes, Sl.enc l_.edges]) :: (sv text_) :: (AV.ptr o1 1 0 0) :: und :: (iv w28) :: z24 :: z17 :: .top :: .top :: y29 :: .top :: und :: y30 :: (AV.ptr o1 1 0 0) :: (iv l_.nodes) :: x5 :: x5 :: (iv ((((some l9).getD []).length : Nat) : Int)) :: .top :: .top :: .top :: .top :: .top :: .top :: .top :: x5 :: (elp x5 m19 0) :: (sv text_) :: (iv (text_.size : Int)) :: (iv w31) :: .top :: .top :: .top :: .top :: .top :: .top :: .top :: .top :: .top :: .top :: .top :: .top :: .top :: .top :: .top :: .top :: .top :: .top :: .top :: .top :: .top :: .top :: .top :: .top :: .top :: .top :: .top :: .top :: .top :: .top :: .top :: .top :: .top :: .top :: .top :: .top :: .top :: .top :: .top :: .top :: .top :: .top :: .top :: .top :: .top :: .top :: .top :: .top :: .top :: .top :: .top :: .top :: .top :: .top :: .top :: .top :: .top :: .top :: .top :: .top :: und :: und :: und :: und :: und :: und :: []) ∧ Hold B h26 [(AV.ptr o1 1 0 0, .pt 2 [iv l_.nodes, Sl.enc l_.edges]), (z24, obS (w25 : Sl Int))]) st tm h) : Sim (kB3 hm1_q21 xm1_q21 (lb1_q21 env) tm h) (kAw (s1_q21 l_ text_) st) (fun (q : Sum (Sl Int) Int) (r : Res) => match q with | .inl q35 => ∃ (q36 : Int) (z34 : AV) (z37 : AV) (z38 : AV) (z39 : AV) (z40 : AV) (z41 : AV) (h32 : kA7), r = (.exit 2, ((AV.agg [iv l_.nodes, Sl.enc l_.edges]) :: (sv text_) :: (AV.ptr o1 1 0 0) :: und :: (iv q36) :: z34 :: z17 :: z37 :: z38 :: z39 :: z40 :: und :: z41 :: (AV.ptr o1 1 0 0) :: (iv l_.nodes) :: x5 :: x5 :: (iv ((((some l9).getD []).length : Nat) : Int)) :: .top :: .top :: .top :: .top :: .top :: .top :: .top :: x5 :: (elp x5 m19 0) :: (sv text_) :: (iv (text_.size : Int)) :: .top :: .top :: .top :: .top :: .top :: .top :: .top :: .top :: .top :: .top :: .top :: .top :: .top :: .top :: .top :: .top :: .top :: .top :: .top :: .top :: .top :: .top :: .top :: .top :: .top :: .top :: .top :: .top :: .top :: .top :: .top :: .top :: .top :: .top :: .top :: .top :: .top :: .top :: .top :: .top :: .top :: .top :: .top :: .top :: .top :: .top :: .top :: .top :: .top :: .top :: .top :: .top :: .top :: .top :: .top :: .top :: .top :: .top :: .top :: .top :: .top :: und :: und :: und :: und :: und :: und :: []), h32) ∧ Hold B h32 [(AV.ptr o1 1 0 0, .pt 2 [iv l_.nodes, Sl.enc l_.edges]), (z34, obS (q35 : Sl Int))] | .inr q50 => ∃ (q49 : Sl Int) (q51 : Int) (q54 : Bool) (z48 : AV) (z52 : AV) (z53 : AV) (z55 : AV) (h46 : kA7), r = (.ret, ((AV.agg [iv l_.nodes, Sl.enc l_.edges]) :: (sv text_) :: (AV.ptr o1 1 0 0) :: und :: (iv q50) :: z48 :: z17 :: (iv q51) :: z52 :: z53 :: (bv q54) :: und :: z55 :: (AV.ptr o1 1 0 0) :: (iv l_.nodes) :: x5 :: x5 :: (iv ((((some l9).getD []).length : Nat) : Int)) :: .top :: .top :: .top :: .top :: .top :: .top :: .top :: x5 :: (elp x5 m19 0) :: (sv text_) :: (iv (text_.size : Int)) :: .top :: .top :: .top :: .top :: .top :: .top :: .top :: .top :: .top :: .top :: .top :: .top :: .top :: .top :: .top :: .top :: .top :: .top :: .top :: .top :: .top :: .top :: .top :: .top :: .top :: .top :: .top :: .top :: .top :: .top :: .top :: .top :: .top :: .top :: .top :: .top :: .top :: .top :: .top :: .top :: .top :: .top :: .top :: .top :: .top :: .top :: .top :: .top :: .top :: .top :: .top :: .top :: .top :: .top :: .top :: .top :: .top :: .top :: .top :: .top :: .top :: und :: und :: und :: und :: und :: und :: []), h46) ∧ Hold B h46 [(AV.ptr o1 1 0 0, .pt 2 [iv l_.nodes, Sl.enc l_.edges]), (z48, obS (q49 : Sl Int))]) := by
  refine kB1 (Rel := fun (st : (Sl Int) × Int × Int) tm h26 => match st with | (w25, w28, w31) => ∃ y29 y30 z24, tm = ((AV.agg [iv l_.nodes, Sl.enc l_.edges]) :: (sv text_) :: (AV.ptr o1 1 0 0) :: und :: (iv w28) :: z24 :: z17 :: .top :: .top :: y29 :: .top :: und :: y30 :: (AV.ptr o1 1 0 0) :: (iv l_.nodes) :: x5 :: x5 :: (iv ((((some l9).getD []).length : Nat) : Int)) :: .top :: .top :: .top :: .top :: .top :: .top :: .top :: x5 :: (elp x5 m19 0) :: (sv text_) :: (iv (text_.size : Int)) :: (iv w31) :: .top :: .top :: .top :: .top :: .top :: .top :: .top :: .top :: .top :: .top :: .top :: .top :: .top :: .top :: .top :: .top :: .top :: .top :: .top :: .top :: .top :: .top :: .top :: .top :: .top :: .top :: .top :: .top :: .top :: .top :: .top :: .top :: .top :: .top :: .top :: .top :: .top :: .top :: .top :: .top :: .top :: .top :: .top :: .top :: .top :: .top :: .top :: .top :: .top :: .top :: .top :: .top :: .top :: .top :: .top :: .top :: .top :: .top :: .top :: .top :: und :: und :: und :: und :: und :: und :: []) ∧ Hold B h26 [(AV.ptr o1 1 0 0, .pt 2 [iv l_.nodes, Sl.enc l_.edges]), (z24, obS (w25 : Sl Int))]) (fun st tm h26 R => ?_) R
  obtain ⟨w25, w28, w31⟩ := st
  obtain ⟨y29, y30, z24, rfl, O27⟩ := R
  rw [e_lb1_q21]
  unfold s1_q21
  dsimp only
  refine kA1 (v := bv (decide (w31 < (text_.size : Int)))) (kAh _ _) ?_
  refine kAa (fun c56 => ?_) (fun c56 => ?_)
  · refine kA1 (v := AV.ptr o1 1 0 0) rfl ?_
    refine kA1 (v := iv l_.nodes) (O27.ld 0 rfl false 1 0) ?_
    refine kFl (A := Int) O27 0 rfl (by decide) (fun l61 x57 h58 O59 => ?_)
    replace O59 : Hold B h58 [(AV.ptr o1 1 0 0, .pt 2 [iv l_.nodes, Sl.enc l_.edges]), (z24, obS (w25 : Sl Int)), (x57, obS ((some l61) : Sl Int))] := O59
    refine kA1 (v := iv ((((some l61).getD []).length : Nat) : Int)) (O59.tab (A := Int) (s := (some l61)) 2 rfl).len ?_
    refine kB0 ((tl2_q21 env l_ text_ o1 x5 l9 z17 m19 z24 w25 w28 y30 w31 x57 l61) ⟨rfl, O59⟩) (fun qq136 r hq => ?_)
    revert hq
    revert qq136
    intro q68 hq
    obtain ⟨z69, h66, rfl, O67⟩ := hq
    rw [e_lk2x4_q21]
    refine kA1 (v := AV.ptr o1 1 0 1) rfl ?_
    refine kA1 (v := Sl.enc l_.edges) (O67.ld 0 rfl false 1 1) ?_
    refine kA1 (v := iv (((l_.edges.getD []).length : Nat) : Int)) (Tab.enc h66 l_.edges).len ?_
    refine kB0 ((tl3_q21 env l_ text_ o1 x5 l9 z17 m19 z24 w25 w28 w31 x57 l61 z69) ⟨rfl, O67⟩) (fun qq125 r hq => ?_)
    obtain ⟨q77, q78⟩ := qq125
    obtain ⟨z79, h75, rfl, O76⟩ := hq
    rw [e_lk3x6_q21]
    refine kA1 (v := bv (!q78)) (kBq _) ?_
    refine kAa (fun c80 => ?_) (fun c80 => ?_)
    · have O81 : Hold B h75 [(AV.ptr o1 1 0 0, .pt 2 [iv l_.nodes, Sl.enc l_.edges]), (z24, obS (w25 : Sl Int))] := O76.sel [0, 1] (by decide) rfl
      exact kA5 ⟨nofun, _, _, _, _, _, _, _, _, rfl, O81⟩
    · refine kA1 (v := iv (wr (w31 + 1))) (kAk _ _) ?_
      have O82 : Hold B h75 [(AV.ptr o1 1 0 0, .pt 2 [iv l_.nodes, Sl.enc l_.edges]), (x57, obS (q77 : Sl Int))] := O76.sel [0, 2] (by decide) rfl
      exact kA5 ⟨rfl, _, _, _, rfl, O82⟩
  · exact kA5 ⟨nofun, _, _, _, _, _, _, _, _, rfl, O27⟩
theorem tl0_q21 (env : Nat → Contract) {B : Base}  (l_ : Lattice) (text_ : ByteArray) (o1 : Nat) (x5 : AV) (l9 : List Int)  {st : (Sl Int) × Int} {tm : TM} {h : kA7} (R : (fun (st : (Sl Int) × Int) tm h11 => match st with | (w10, w13) => tm = ((AV.agg [iv l_.nodes, Sl.enc l_.edges]) :: (sv text_) :: (AV.ptr o1 1 0 0) :: und :: (iv 0) :: x5 :: .top :: und :: und :: und :: und :: und :: und :: (AV.ptr o1 1 0 0) :: (iv l_.nodes) :: x5 :: x5 :: (iv ((((some l9).getD []).length : Nat) : Int)) :: (iv w13) :: .top :: .top :: .top :: .top :: .top :: .top :: und :: und :: und :: und :: und :: und :: und :: und :: und :: und :: und :: und :: und :: und :: und :: und :: und :: und :: und :: und :: und :: und :: und :: und :: und :: und :: und :: und :: und :: und :: und :: und :: und :: und :: und :: und :: und :: und :: und :: und :: und :: und :: und :: und :: und :: und :: und :: und :: und :: und :: und :: und :: und :: und :: und :: und :: und :: und :: und :: und :: und :: und :: und :: und :: und :: und :: und :: und :: und :: und :: und :: []) ∧ Hold B h11 [(AV.ptr o1 1 0 0, .pt 2 [iv l_.nodes, Sl.enc l_.edges]), (x5, obS (w10 : Sl Int))]) st tm h) : Sim (kB3 hm0_q21 xm0_q21 (lb0_q21 env) tm h) (kAw (s0_q21 l9) st) (fun (q : Sl Int) (r : Res) => match q with | q16 => ∃ (z17 : AV) (h14 : kA7), r = (.exit 0, ((AV.agg [iv l_.nodes, Sl.enc l_.edges]) :: (sv text_) :: (AV.ptr o1 1 0 0) :: und :: (iv 0) :: x5 :: z17 :: und :: und :: und :: und :: und :: und :: (AV.ptr o1 1 0 0) :: (iv l_.nodes) :: x5 :: x5 :: (iv ((((some l9).getD []).length : Nat) : Int)) :: .top :: .top :: .top :: .top :: .top :: .top :: .top :: und :: und :: und :: und :: und :: und :: und :: und :: und :: und :: und :: und :: und :: und :: und :: und :: und :: und :: und :: und :: und :: und :: und :: und :: und :: und :: und :: und :: und :: und :: und :: und :: und :: und :: und :: und :: und :: und :: und :: und :: und :: und :: und :: und :: und :: und :: und :: und :: und :: und :: und :: und :: und :: und :: und :: und :: und :: und :: und :: und :: und :: und :: und :: und :: und :: und :: und :: und :: und :: und :: und :: []), h14) ∧ Hold B h14 [(AV.ptr o1 1 0 0, .pt 2 [iv l_.nodes, Sl.enc l_.edges]), (x5, obS (q16 : Sl Int))]) := by
  refine kB1 (Rel := fun (st : (Sl Int) × Int) tm h11 => match st with | (w10, w13) => tm = ((AV.agg [iv l_.nodes, Sl.enc l_.edges]) :: (sv text_) :: (AV.ptr o1 1 0 0) :: und :: (iv 0) :: x5 :: .top :: und :: und :: und :: und :: und :: und :: (AV.ptr o1 1 0 0) :: (iv l_.nodes) :: x5 :: x5 :: (iv ((((some l9).getD []).length : Nat) : Int)) :: (iv w13) :: .top :: .top :: .top :: .top :: .top :: .top :: und :: und :: und :: und :: und :: und :: und :: und :: und :: und :: und :: und :: und :: und :: und :: und :: und :: und :: und :: und :: und :: und :: und :: und :: und :: und :: und :: und :: und :: und :: und :: und :: und :: und :: und :: und :: und :: und :: und :: und :: und :: und :: und :: und :: und :: und :: und :: und :: und :: und :: und :: und :: und :: und :: und :: und :: und :: und :: und :: und :: und :: und :: und :: und :: und :: und :: und :: und :: und :: und :: und :: []) ∧ Hold B h11 [(AV.ptr o1 1 0 0, .pt 2 [iv l_.nodes, Sl.enc l_.edges]), (x5, obS (w10 : Sl Int))]) (fun st tm h11 R => ?_) R
  obtain ⟨w10, w13⟩ := st
  obtain ⟨rfl, O12⟩ := R
  rw [e_lb0_q21]
  unfold s0_q21
  dsimp only
  refine kA1 (v := bv (decide (w13 < ((((some l9).getD []).length : Nat) : Int)))) (kAh _ _) ?_
  refine kAa (fun c140 => ?_) (fun c140 => ?_)
  · refine kAo (O12.tab (A := Int) (s := w10) 1 rfl) (fun m142 a141 hi143 hm144 => ?_)
    refine kEl (A := Int) O12 1 1099511627776 rfl hi143 hm144 rfl (by simp) (by first | rfl | simp) (by first | rfl | simp [kBk]) (fun h145 O146 => ?_)
    replace O146 : Hold B h145 [(AV.ptr o1 1 0 0, .pt 2 [iv l_.nodes, Sl.enc l_.edges]), (x5, obS ((kGk w10 w13 1099511627776) : Sl Int))] := O146
    refine kA1 (v := iv (wr (w13 + 1))) (kAk _ _) ?_
    exact kA5 ⟨rfl, rfl, O146⟩
  · exact kA5 ⟨nofun, _, _, rfl, O12⟩
theorem ts_q21 (env : Nat → Contract)  (l_ : Lattice) (text_ : ByteArray) : Sim (denFnM true Try.prog env n_q21 [AV.agg [iv l_.nodes, Sl.enc l_.edges], sv text_] []) (t_q21 l_ text_) fun c p => release p.2 depth p.1 = some ((fun c : Int => enc c) c) := by
  have O := Hold.nil []
  generalize hB : (⟨[], []⟩ : Base) = B at O
  clear hB
  rw [e_q21]
  unfold t_q21
  refine kAv O (cs := [iv l_.nodes, Sl.enc l_.edges]) (by first | rfl | simp) (fun o1 h2 O3 => ?_)
  replace O3 : Hold B h2 [(AV.ptr o1 1 0 0, .pt 2 [iv l_.nodes, Sl.enc l_.edges])] := O3
  refine kA1 (v := AV.ptr o1 1 0 0) rfl ?_
  refine kA1 (v := iv l_.nodes) (O3.ld 0 rfl false 1 0) ?_
  refine kFl (A := Int) O3 0 rfl (by decide) (fun l9 x5 h6 O7 => ?_)
  replace O7 : Hold B h6 [(AV.ptr o1 1 0 0, .pt 2 [iv l_.nodes, Sl.enc l_.edges]), (x5, obS ((some l9) : Sl Int))] := O7
  refine kA1 (v := iv ((((some l9).getD []).length : Nat) : Int)) (O7.tab (A := Int) (s := (some l9)) 1 rfl).len ?_
  refine kB0 ((tl0_q21 env l_ text_ o1 x5 l9) ⟨rfl, O7⟩) (fun qq150 r hq => ?_)
  revert hq
  revert qq150
  intro q16 hq
  obtain ⟨z17, h14, rfl, O15⟩ := hq
  rw [e_lk0x0_q21]
  refine kAo (O15.tab (A := Int) (s := q16) 1 rfl) (fun m19 a18 hi20 hm21 => ?_)
  refine kEl (A := Int) O15 1 0 rfl hi20 hm21 rfl (by simp) (by first | rfl | simp) (by first | rfl | simp [kBk]) (fun h22 O23 => ?_)
  replace O23 : Hold B h22 [(AV.ptr o1 1 0 0, .pt 2 [iv l_.nodes, Sl.enc l_.edges]), (x5, obS ((kGk q16 0 0) : Sl Int))] := O23
  refine kA1 (v := iv (text_.size : Int)) rfl ?_
  refine kB0 ((tl1_q21 env l_ text_ o1 x5 l9 z17 m19) ⟨_, _, _, rfl, O23⟩) (fun qq139 r hq => ?_)
  rcases qq139 with q35 | q50
  · obtain ⟨q36, z34, z37, z38, z39, z40, z41, h32, rfl, O33⟩ := hq
    rw [e_lk1x2_q21]
    refine kA1 (v := AV.ptr o1 1 0 0) rfl ?_
    refine kA1 (v := iv l_.nodes) (O33.ld 0 rfl false 1 0) ?_
    refine kA1 (v := iv (wr (l_.nodes - 1))) (kC4 _ _) ?_
    refine kAo (O33.tab (A := Int) (s := q35) 1 rfl) (fun m43 a42 hi44 hm45 => ?_)
    refine kA1 (v := iv a42) ((O33.tab (A := Int) (s := q35) 1 rfl).ld hm45 false 1 0) ?_
    exact kA5 (kA3 (by rfl) _)
  · obtain ⟨q49, q51, q54, z48, z52, z53, z55, h46, rfl, O47⟩ := hq
    rw [e_lk1r_q21]
    exact kA5 (kA3 (by rfl) _)
theorem tt_q21 : kAi Try.prog n_q21 (C2 (fun c : Int => enc c) t_q21) := pureCW2 E0 kBb hb_q21 fun l_ text_ => ts_q21 _  l_ text_
def t_q30 (a_ : Edg) (b_ : Edg) : Option Bool :=
  bif !decide (a_.frm = b_.frm) then
    some false
  else
    bif !decide (a_.upto = b_.upto) then
      some false
    else
      bif !decide (a_.label = b_.label) then
        some false
      else
        bif !decide (a_.cost = b_.cost) then
          some false
        else
          some true
theorem ts_q30 (env : Nat → Contract)  (a_ : Edg) (b_ : Edg) : Sim (kAl Try.prog env n_q30 [AV.agg [iv a_.frm, iv a_.upto, sv a_.label, iv a_.cost], AV.agg [iv b_.frm, iv b_.upto, sv b_.label, iv b_.cost]] []) (t_q30 a_ b_) fun c p => release p.2 depth p.1 = some ((fun c : Bool => enc c) c) := by
  have O := Hold.nil []
  generalize hB : (⟨[], []⟩ : Base) = B at O
  clear hB
  rw [e_q30]
  unfold t_q30
  refine kAv O (cs := [iv a_.frm, iv a_.upto, sv a_.label, iv a_.cost]) (by first | rfl | simp) (fun o1 h2 O3 => ?_)
  replace O3 : Hold B h2 [(AV.ptr o1 1 0 0, .pt 4 [iv a_.frm, iv a_.upto, sv a_.label, iv a_.cost])] := O3
  refine kAv O3 (cs := [iv b_.frm, iv b_.upto, sv b_.label, iv b_.cost]) (by first | rfl | simp) (fun o5 h6 O7 => ?_)
  replace O7 : Hold B h6 [(AV.ptr o1 1 0 0, .pt 4 [iv a_.frm, iv a_.upto, sv a_.label, iv a_.cost]), (AV.ptr o5 1 0 0, .pt 4 [iv b_.frm, iv b_.upto, sv b_.label, iv b_.cost])] := O7
  refine kA1 (v := AV.ptr o1 1 0 0) rfl ?_
  refine kA1 (v := iv a_.frm) (O7.ld 0 rfl false 1 0) ?_
  refine kA1 (v := AV.ptr o5 1 0 0) rfl ?_
  refine kA1 (v := iv b_.frm) (O7.ld 1 rfl false 1 0) ?_
  refine kA1 (v := bv (!decide (a_.frm = b_.frm))) (kCi _ _) ?_
  refine kAa (fun c9 => ?_) (fun c9 => ?_)
  · exact kA5 (kA3 (by rfl) _)
  · refine kA1 (v := AV.ptr o1 1 0 1) rfl ?_
    refine kA1 (v := iv a_.upto) (O7.ld 0 rfl false 1 1) ?_
    refine kA1 (v := AV.ptr o5 1 0 1) rfl ?_
    refine kA1 (v := iv b_.upto) (O7.ld 1 rfl false 1 1) ?_
    refine kA1 (v := bv (!decide (a_.upto = b_.upto))) (kCi _ _) ?_
    refine kAa (fun c10 => ?_) (fun c10 => ?_)
    · exact kA5 (kA3 (by rfl) _)
    · refine kA1 (v := AV.ptr o1 1 0 2) rfl ?_
      refine kA1 (v := sv a_.label) (O7.ld 0 rfl false 1 2) ?_
      refine kA1 (v := AV.ptr o5 1 0 2) rfl ?_
      refine kA1 (v := sv b_.label) (O7.ld 1 rfl false 1 2) ?_
      refine kA1 (v := bv (!decide (a_.label = b_.label))) (aCmp_neS _ _) ?_
      refine kAa (fun c11 => ?_) (fun c11 => ?_)
      · exact kA5 (kA3 (by rfl) _)
      · refine kA1 (v := AV.ptr o1 1 0 3) rfl ?_
        refine kA1 (v := iv a_.cost) (O7.ld 0 rfl false 1 3) ?_
        refine kA1 (v := AV.ptr o5 1 0 3) rfl ?_
        refine kA1 (v := iv b_.cost) (O7.ld 1 rfl false 1 3) ?_
        refine kA1 (v := bv (!decide (a_.cost = b_.cost))) (kCi _ _) ?_
        refine kAa (fun c12 => ?_) (fun c12 => ?_)
        · exact kA5 (kA3 (by rfl) _)
        · exact kA5 (kA3 (by rfl) _)
theorem tt_q30 : kAi Try.prog n_q30 (C2 (fun c : Bool => enc c) t_q30) := kC2 E0 kBb hb_q30 fun a_ b_ => ts_q30 _  a_ b_
def s0_q31 (a_ : Sl Edg) (b_ : Sl Edg) : Int → Option (Sum Int (Sum Unit Bool)) := fun w4 =>
  bif decide (w4 < (((a_.getD []).length : Nat) : Int)) then
    kA0 (kC1 (a_.getD []) w4) fun a14 =>
    kA0 (kC1 (b_.getD []) w4) fun a18 =>
    kA0 (t_q30 a14 a18) fun c22 =>
    bif !c22 then
      some (.inr (.inr false))
    else
      some (.inl (wr (w4 + 1)))
  else
    some (.inr (.inl ()))
def t_q31 (a_ : Sl Edg) (b_ : Sl Edg) : Option Bool :=
  bif !decide ((((a_.getD []).length : Nat) : Int) = (((b_.getD []).length : Nat) : Int)) then
    some false
  else
    kA0 (kAw (s0_q31 a_ b_) 0) fun qq28 => match qq28 with
    | (.inl _) =>
        some true
    | (.inr q11) =>
        some q11
theorem tl0_q31 (env : Nat → Contract) {B : Base} (he_q30 : env n_q30 = .pure (C2 (fun c : Bool => enc c) t_q30)) (a_ : Sl Edg) (b_ : Sl Edg)  {st : Int} {tm : TM} {h : kA7} (R : (fun (st : Int) tm h2 => match st with | w4 => tm = [Sl.enc a_, Sl.enc b_, und, und, .top, iv w4, Sl.enc a_, iv (((a_.getD []).length : Nat) : Int), Sl.enc b_, iv (((b_.getD []).length : Nat) : Int), bv (!decide ((((a_.getD []).length : Nat) : Int) = (((b_.getD []).length : Nat) : Int))), .top, .top, .top, .top, .top, .top, .top, .top, .top, .top, .top, .top, .top, .top, .top, .top] ∧ Hold B h2 []) st tm h) : Sim (kB3 hm0_q31 xm0_q31 (lb0_q31 env) tm h) (kAw (s0_q31 a_ b_) st) (fun (q : Sum Unit Bool) (r : Res) => match q with | .inl _ => ∃ (q8 : Int) (z7 : AV) (h5 : kA7), r = (.exit 0, [Sl.enc a_, Sl.enc b_, und, und, z7, iv q8, Sl.enc a_, iv (((a_.getD []).length : Nat) : Int), Sl.enc b_, iv (((b_.getD []).length : Nat) : Int), bv (!decide ((((a_.getD []).length : Nat) : Int) = (((b_.getD []).length : Nat) : Int))), .top, .top, .top, .top, .top, .top, .top, .top, .top, .top, .top, .top, .top, .top, .top, .top], h5) ∧ Hold B h5 [] | .inr q11 => ∃ (q12 : Int) (h9 : kA7), r = (.ret, [Sl.enc a_, Sl.enc b_, und, und, bv q11, iv q12, Sl.enc a_, iv (((a_.getD []).length : Nat) : Int), Sl.enc b_, iv (((b_.getD []).length : Nat) : Int), bv (!decide ((((a_.getD []).length : Nat) : Int) = (((b_.getD []).length : Nat) : Int))), .top, .top, .top, .top, .top, .top, .top, .top, .top, .top, .top, .top, .top, .top, .top, .top], h9) ∧ Hold B h9 []) := by
  refine kB1 (Rel := fun (st : Int) tm h2 => match st with | w4 => tm = [Sl.enc a_, Sl.enc b_, und, und, .top, iv w4, Sl.enc a_, iv (((a_.getD []).length : Nat) : Int), Sl.enc b_, iv (((b_.getD []).length : Nat) : Int), bv (!decide ((((a_.getD []).length : Nat) : Int) = (((b_.getD []).length : Nat) : Int))), .top, .top, .top, .top, .top, .top, .top, .top, .top, .top, .top, .top, .top, .top, .top, .top] ∧ Hold B h2 []) (fun w4 tm h2 R => ?_) R
  obtain ⟨rfl, O3⟩ := R
  rw [e_lb0_q31]
  unfold s0_q31
  dsimp only
  refine kA1 (v := iv (((a_.getD []).length : Nat) : Int)) (Tab.enc h2 a_).len ?_
  refine kA1 (v := bv (decide (w4 < (((a_.getD []).length : Nat) : Int)))) (kAh _ _) ?_
  refine kAa (fun c13 => ?_) (fun c13 => ?_)
  · refine kAo (Tab.enc h2 a_) (fun m15 a14 hi16 hm17 => ?_)
    refine kA1 (v := AV.agg [iv a14.frm, iv a14.upto, sv a14.label, iv a14.cost]) ((Tab.enc h2 a_).ld hm17 true 4 0) ?_
    refine kAo (Tab.enc h2 b_) (fun m19 a18 hi20 hm21 => ?_)
    refine kA1 (v := AV.agg [iv a18.frm, iv a18.upto, sv a18.label, iv a18.cost]) ((Tab.enc h2 b_).ld hm21 true 4 0) ?_
    refine kC3 he_q30 (kAu _ a14 rfl) (kAu _ a18 rfl) (fun c22 => ?_)
    refine kAm (kAb (by rfl) _ _) ?_
    refine kA1 (v := bv (!c22)) (kBq _) ?_
    refine kAa (fun c23 => ?_) (fun c23 => ?_)
    · exact kA5 ⟨nofun, _, _, rfl, O3⟩
    · refine kA1 (v := iv (wr (w4 + 1))) (kAk _ _) ?_
      exact kA5 ⟨rfl, rfl, O3⟩
  · exact kA5 ⟨nofun, _, _, _, rfl, O3⟩
theorem ts_q31 (env : Nat → Contract) (he_q30 : env n_q30 = .pure (C2 (fun c : Bool => enc c) t_q30)) (a_ : Sl Edg) (b_ : Sl Edg) : Sim (kAl Try.prog env n_q31 [Sl.enc a_, Sl.enc b_] []) (t_q31 a_ b_) fun c p => release p.2 depth p.1 = some ((fun c : Bool => enc c) c) := by
  have O := Hold.nil []
  generalize hB : (⟨[], []⟩ : Base) = B at O
  clear hB
  rw [e_q31]
  unfold t_q31
  refine kA1 (v := iv (((a_.getD []).length : Nat) : Int)) (Tab.enc [] a_).len ?_
  refine kA1 (v := iv (((b_.getD []).length : Nat) : Int)) (Tab.enc [] b_).len ?_
  refine kA1 (v := bv (!decide ((((a_.getD []).length : Nat) : Int) = (((b_.getD []).length : Nat) : Int)))) (kCi _ _) ?_
  refine kAa (fun c1 => ?_) (fun c1 => ?_)
  · exact kA5 (kA3 (by rfl) _)
  · refine kB0 ((tl0_q31 env he_q30 a_ b_) ⟨rfl, O⟩) (fun qq28 r hq => ?_)
    rcases qq28 with _ | q11
    · obtain ⟨q8, z7, h5, rfl, O6⟩ := hq
      rw [e_lk0x0_q31]
      exact kA5 (kA3 (by rfl) _)
    · obtain ⟨q12, h9, rfl, O10⟩ := hq
      rw [e_lk0r_q31]
      exact kA5 (kA3 (by rfl) _)
theorem tt_q31 : kAi Try.prog n_q31 (C2 (fun c : Bool => enc c) t_q31) := kC2 (kB7 tt_q30 E0) kBb hb_q31 fun a_ b_ => ts_q31 _ (by simp [kBw]) a_ b_
def t_q34 (a_ : Lattice) (b_ : Lattice) : Option Bool :=
  bif !decide (a_.nodes = b_.nodes) then
    some false
  else
    kA0 (t_q31 a_.edges b_.edges) fun c10 =>
    bif !c10 then
      some false
    else
      some true
theorem ts_q34 (env : Nat → Contract) (he_q31 : env n_q31 = .pure (C2 (fun c : Bool => enc c) t_q31)) (a_ : Lattice) (b_ : Lattice) : Sim (kAl Try.prog env n_q34 [AV.agg [iv a_.nodes, Sl.enc a_.edges], AV.agg [iv b_.nodes, Sl.enc b_.edges]] []) (t_q34 a_ b_) fun c p => release p.2 depth p.1 = some ((fun c : Bool => enc c) c) := by
  have O := Hold.nil []
  generalize hB : (⟨[], []⟩ : Base) = B at O
  clear hB
  rw [e_q34]
  unfold t_q34
  refine kAv O (cs := [iv a_.nodes, Sl.enc a_.edges]) (by first | rfl | simp) (fun o1 h2 O3 => ?_)
  replace O3 : Hold B h2 [(AV.ptr o1 1 0 0, .pt 2 [iv a_.nodes, Sl.enc a_.edges])] := O3
  refine kAv O3 (cs := [iv b_.nodes, Sl.enc b_.edges]) (by first | rfl | simp) (fun o5 h6 O7 => ?_)
  replace O7 : Hold B h6 [(AV.ptr o1 1 0 0, .pt 2 [iv a_.nodes, Sl.enc a_.edges]), (AV.ptr o5 1 0 0, .pt 2 [iv b_.nodes, Sl.enc b_.edges])] := O7
  refine kA1 (v := AV.ptr o1 1 0 0) rfl ?_
  refine kA1 (v := iv a_.nodes) (O7.ld 0 rfl false 1 0) ?_
  refine kA1 (v := AV.ptr o5 1 0 0) rfl ?_
  refine kA1 (v := iv b_.nodes) (O7.ld 1 rfl false 1 0) ?_
  refine kA1 (v := bv (!decide (a_.nodes = b_.nodes))) (kCi _ _) ?_
  refine kAa (fun c9 => ?_) (fun c9 => ?_)
  · exact kA5 (kA3 (by rfl) _)
  · refine kA1 (v := AV.ptr o1 1 0 1) rfl ?_
    refine kA1 (v := Sl.enc a_.edges) (O7.ld 0 rfl false 1 1) ?_
    refine kA1 (v := AV.ptr o5 1 0 1) rfl ?_
    refine kA1 (v := Sl.enc b_.edges) (O7.ld 1 rfl false 1 1) ?_
    refine kBg he_q31 (kB9 _ _) (kB9 _ _) (fun c10 => ?_)
    refine kAm (kAb (by rfl) _ _) ?_
    refine kA1 (v := bv (!c10)) (kBq _) ?_
    refine kAa (fun c11 => ?_) (fun c11 => ?_)
    · exact kA5 (kA3 (by rfl) _)
    · exact kA5 (kA3 (by rfl) _)
theorem tt_q34 : kAi Try.prog n_q34 (C2 (fun c : Bool => enc c) t_q34) := kC2 (kB7 tt_q31 E0) kBb hb_q34 fun a_ b_ => ts_q34 _ (by simp [kBw]) a_ b_
def s0_q35 (a_ : Sl Lattice) (b_ : Sl Lattice) : Int → Option (Sum Int (Sum Unit Bool)) := fun w4 =>
  bif decide (w4 < (((a_.getD []).length : Nat) : Int)) then
    kA0 (kC1 (a_.getD []) w4) fun a14 =>
    kA0 (kC1 (b_.getD []) w4) fun a18 =>
    kA0 (t_q34 a14 a18) fun c22 =>
    bif !c22 then
      some (.inr (.inr false))
    else
      some (.inl (wr (w4 + 1)))
  else
    some (.inr (.inl ()))
def t_q35 (a_ : Sl Lattice) (b_ : Sl Lattice) : Option Bool :=
  bif !decide ((((a_.getD []).length : Nat) : Int) = (((b_.getD []).length : Nat) : Int)) then
    some false
  else
    kA0 (kAw (s0_q35 a_ b_) 0) fun qq28 => match qq28 with
    | (.inl _) =>
        some true
    | (.inr q11) =>
        some q11
theorem tl0_q35 (env : Nat → Contract) {B : Base} (he_q34 : env n_q34 = .pure (C2 (fun c : Bool => enc c) t_q34)) (a_ : Sl Lattice) (b_ : Sl Lattice)  {st : Int} {tm : TM} {h : kA7} (R : (fun (st : Int) tm h2 => match st with | w4 => tm = [Sl.enc a_, Sl.enc b_, und, und, .top, iv w4, Sl.enc a_, iv (((a_.getD []).length : Nat) : Int), Sl.enc b_, iv (((b_.getD []).length : Nat) : Int), bv (!decide ((((a_.getD []).length : Nat) : Int) = (((b_.getD []).length : Nat) : Int))), .top, .top, .top, .top, .top, .top, .top, .top, .top, .top, .top, .top, .top, .top, .top, .top] ∧ Hold B h2 []) st tm h) : Sim (kB3 hm0_q35 xm0_q35 (lb0_q35 env) tm h) (kAw (s0_q35 a_ b_) st) (fun (q : Sum Unit Bool) (r : Res) => match q with | .inl _ => ∃ (q8 : Int) (z7 : AV) (h5 : kA7), r = (.exit 0, [Sl.enc a_, Sl.enc b_, und, und, z7, iv q8, Sl.enc a_, iv (((a_.getD []).length : Nat) : Int), Sl.enc b_, iv (((b_.getD []).length : Nat) : Int), bv (!decide ((((a_.getD []).length : Nat) : Int) = (((b_.getD []).length : Nat) : Int))), .top, .top, .top, .top, .top, .top, .top, .top, .top, .top, .top, .top, .top, .top, .top, .top], h5) ∧ Hold B h5 [] | .inr q11 => ∃ (q12 : Int) (h9 : kA7), r = (.ret, [Sl.enc a_, Sl.enc b_, und, und, bv q11, iv q12, Sl.enc a_, iv (((a_.getD []).length : Nat) : Int), Sl.enc b_, iv (((b_.getD []).length : Nat) : Int), bv (!decide ((((a_.getD []).length : Nat) : Int) = (((b_.getD []).length : Nat) : Int))), .top, .top, .top, .top, .top, .top, .top, .top, .top, .top, .top, .top, .top, .top, .top, .top], h9) ∧ Hold B h9 []) := by
  refine kB1 (Rel := fun (st : Int) tm h2 => match st with | w4 => tm = [Sl.enc a_, Sl.enc b_, und, und, .top, iv w4, Sl.enc a_, iv (((a_.getD []).length : Nat) : Int), Sl.enc b_, iv (((b_.getD []).length : Nat) : Int), bv (!decide ((((a_.getD []).length : Nat) : Int) = (((b_.getD []).length : Nat) : Int))), .top, .top, .top, .top, .top, .top, .top, .top, .top, .top, .top, .top, .top, .top, .top, .top] ∧ Hold B h2 []) (fun w4 tm h2 R => ?_) R
  obtain ⟨rfl, O3⟩ := R
  rw [e_lb0_q35]
  unfold s0_q35
  dsimp only
  refine kA1 (v := iv (((a_.getD []).length : Nat) : Int)) (Tab.enc h2 a_).len ?_
  refine kA1 (v := bv (decide (w4 < (((a_.getD []).length : Nat) : Int)))) (kAh _ _) ?_
  refine kAa (fun c13 => ?_) (fun c13 => ?_)
  · refine kAo (Tab.enc h2 a_) (fun m15 a14 hi16 hm17 => ?_)
    refine kA1 (v := AV.agg [iv a14.nodes, Sl.enc a14.edges]) ((Tab.enc h2 a_).ld hm17 true 2 0) ?_
    refine kAo (Tab.enc h2 b_) (fun m19 a18 hi20 hm21 => ?_)
    refine kA1 (v := AV.agg [iv a18.nodes, Sl.enc a18.edges]) ((Tab.enc h2 b_).ld hm21 true 2 0) ?_
    refine kC3 he_q34 (kAu _ a14 rfl) (kAu _ a18 rfl) (fun c22 => ?_)
    refine kAm (kAb (by rfl) _ _) ?_
    refine kA1 (v := bv (!c22)) (kBq _) ?_
    refine kAa (fun c23 => ?_) (fun c23 => ?_)
    · exact kA5 ⟨nofun, _, _, rfl, O3⟩
    · refine kA1 (v := iv (wr (w4 + 1))) (kAk _ _) ?_
      exact kA5 ⟨rfl, rfl, O3⟩
  · exact kA5 ⟨nofun, _, _, _, rfl, O3⟩
theorem ts_q35 (env : Nat → Contract) (he_q34 : env n_q34 = .pure (C2 (fun c : Bool => enc c) t_q34)) (a_ : Sl Lattice) (b_ : Sl Lattice) : Sim (kAl Try.prog env n_q35 [Sl.enc a_, Sl.enc b_] []) (t_q35 a_ b_) fun c p => release p.2 depth p.1 = some ((fun c : Bool => enc c) c) := by
  have O := Hold.nil []
  generalize hB : (⟨[], []⟩ : Base) = B at O
  clear hB
  rw [e_q35]
  unfold t_q35
  refine kA1 (v := iv (((a_.getD []).length : Nat) : Int)) (Tab.enc [] a_).len ?_
  refine kA1 (v := iv (((b_.getD []).length : Nat) : Int)) (Tab.enc [] b_).len ?_
  refine kA1 (v := bv (!decide ((((a_.getD []).length : Nat) : Int) = (((b_.getD []).length : Nat) : Int)))) (kCi _ _) ?_
  refine kAa (fun c1 => ?_) (fun c1 => ?_)
  · exact kA5 (kA3 (by rfl) _)
  · refine kB0 ((tl0_q35 env he_q34 a_ b_) ⟨rfl, O⟩) (fun qq28 r hq => ?_)
    rcases qq28 with _ | q11
    · obtain ⟨q8, z7, h5, rfl, O6⟩ := hq
      rw [e_lk0x0_q35]
      exact kA5 (kA3 (by rfl) _)
    · obtain ⟨q12, h9, rfl, O10⟩ := hq
      rw [e_lk0r_q35]
      exact kA5 (kA3 (by rfl) _)
theorem tt_q35 : kAi Try.prog n_q35 (C2 (fun c : Bool => enc c) t_q35) := kC2 (kB7 tt_q34 E0) kBb hb_q35 fun a_ b_ => ts_q35 _ (by simp [kBw]) a_ b_
def t_q32 (a_ : Entry) (b_ : Entry) : Option Bool :=
  bif !decide (a_.word = b_.word) then
    some false
  else
    bif !decide (a_.cost = b_.cost) then
      some false
    else
      some true
theorem ts_q32 (env : Nat → Contract)  (a_ : Entry) (b_ : Entry) : Sim (kAl Try.prog env n_q32 [AV.agg [sv a_.word, iv a_.cost], AV.agg [sv b_.word, iv b_.cost]] []) (t_q32 a_ b_) fun c p => release p.2 depth p.1 = some ((fun c : Bool => enc c) c) := by
  have O := Hold.nil []
  generalize hB : (⟨[], []⟩ : Base) = B at O
  clear hB
  rw [e_q32]
  unfold t_q32
  refine kAv O (cs := [sv a_.word, iv a_.cost]) (by first | rfl | simp) (fun o1 h2 O3 => ?_)
  replace O3 : Hold B h2 [(AV.ptr o1 1 0 0, .pt 2 [sv a_.word, iv a_.cost])] := O3
  refine kAv O3 (cs := [sv b_.word, iv b_.cost]) (by first | rfl | simp) (fun o5 h6 O7 => ?_)
  replace O7 : Hold B h6 [(AV.ptr o1 1 0 0, .pt 2 [sv a_.word, iv a_.cost]), (AV.ptr o5 1 0 0, .pt 2 [sv b_.word, iv b_.cost])] := O7
  refine kA1 (v := AV.ptr o1 1 0 0) rfl ?_
  refine kA1 (v := sv a_.word) (O7.ld 0 rfl false 1 0) ?_
  refine kA1 (v := AV.ptr o5 1 0 0) rfl ?_
  refine kA1 (v := sv b_.word) (O7.ld 1 rfl false 1 0) ?_
  refine kA1 (v := bv (!decide (a_.word = b_.word))) (aCmp_neS _ _) ?_
  refine kAa (fun c9 => ?_) (fun c9 => ?_)
  · exact kA5 (kA3 (by rfl) _)
  · refine kA1 (v := AV.ptr o1 1 0 1) rfl ?_
    refine kA1 (v := iv a_.cost) (O7.ld 0 rfl false 1 1) ?_
    refine kA1 (v := AV.ptr o5 1 0 1) rfl ?_
    refine kA1 (v := iv b_.cost) (O7.ld 1 rfl false 1 1) ?_
    refine kA1 (v := bv (!decide (a_.cost = b_.cost))) (kCi _ _) ?_
    refine kAa (fun c10 => ?_) (fun c10 => ?_)
    · exact kA5 (kA3 (by rfl) _)
    · exact kA5 (kA3 (by rfl) _)
theorem tt_q32 : kAi Try.prog n_q32 (C2 (fun c : Bool => enc c) t_q32) := kC2 E0 kBb hb_q32 fun a_ b_ => ts_q32 _  a_ b_
def s0_q33 (a_ : Sl Entry) (b_ : Sl Entry) : Int → Option (Sum Int (Sum Unit Bool)) := fun w4 =>
  bif decide (w4 < (((a_.getD []).length : Nat) : Int)) then
    kA0 (kC1 (a_.getD []) w4) fun a14 =>
    kA0 (kC1 (b_.getD []) w4) fun a18 =>
    kA0 (t_q32 a14 a18) fun c22 =>
    bif !c22 then
      some (.inr (.inr false))
    else
      some (.inl (wr (w4 + 1)))
  else
    some (.inr (.inl ()))
def t_q33 (a_ : Sl Entry) (b_ : Sl Entry) : Option Bool :=
  bif !decide ((((a_.getD []).length : Nat) : Int) = (((b_.getD []).length : Nat) : Int)) then
    some false
  else
    kA0 (kAw (s0_q33 a_ b_) 0) fun qq28 => match qq28 with
    | (.inl _) =>
        some true
    | (.inr q11) =>
        some q11
theorem tl0_q33 (env : Nat → Contract) {B : Base} (he_q32 : env n_q32 = .pure (C2 (fun c : Bool => enc c) t_q32)) (a_ : Sl Entry) (b_ : Sl Entry)  {st : Int} {tm : TM} {h : kA7} (R : (fun (st : Int) tm h2 => match st with | w4 => tm = [Sl.enc a_, Sl.enc b_, und, und, .top, iv w4, Sl.enc a_, iv (((a_.getD []).length : Nat) : Int), Sl.enc b_, iv (((b_.getD []).length : Nat) : Int), bv (!decide ((((a_.getD []).length : Nat) : Int) = (((b_.getD []).length : Nat) : Int))), .top, .top, .top, .top, .top, .top, .top, .top, .top, .top, .top, .top, .top, .top, .top, .top] ∧ Hold B h2 []) st tm h) : Sim (kB3 hm0_q33 xm0_q33 (lb0_q33 env) tm h) (kAw (s0_q33 a_ b_) st) (fun (q : Sum Unit Bool) (r : Res) => match q with | .inl _ => ∃ (q8 : Int) (z7 : AV) (h5 : kA7), r = (.exit 0, [Sl.enc a_, Sl.enc b_, und, und, z7, iv q8, Sl.enc a_, iv (((a_.getD []).length : Nat) : Int), Sl.enc b_, iv (((b_.getD []).length : Nat) : Int), bv (!decide ((((a_.getD []).length : Nat) : Int) = (((b_.getD []).length : Nat) : Int))), .top, .top, .top, .top, .top, .top, .top, .top, .top, .top, .top, .top, .top, .top, .top, .top], h5) ∧ Hold B h5 [] | .inr q11 => ∃ (q12 : Int) (h9 : kA7), r = (.ret, [Sl.enc a_, Sl.enc b_, und, und, bv q11, iv q12, Sl.enc a_, iv (((a_.getD []).length : Nat) : Int), Sl.enc b_, iv (((b_.getD []).length : Nat) : Int), bv (!decide ((((a_.getD []).length : Nat) : Int) = (((b_.getD []).length : Nat) : Int))), .top, .top, .top, .top, .top, .top, .top, .top, .top, .top, .top, .top, .top, .top, .top, .top], h9) ∧ Hold B h9 []) := by
  refine kB1 (Rel := fun (st : Int) tm h2 => match st with | w4 => tm = [Sl.enc a_, Sl.enc b_, und, und, .top, iv w4, Sl.enc a_, iv (((a_.getD []).length : Nat) : Int), Sl.enc b_, iv (((b_.getD []).length : Nat) : Int), bv (!decide ((((a_.getD []).length : Nat) : Int) = (((b_.getD []).length : Nat) : Int))), .top, .top, .top, .top, .top, .top, .top, .top, .top, .top, .top, .top, .top, .top, .top, .top] ∧ Hold B h2 []) (fun w4 tm h2 R => ?_) R
  obtain ⟨rfl, O3⟩ := R
  rw [e_lb0_q33]
  unfold s0_q33
  dsimp only
  refine kA1 (v := iv (((a_.getD []).length : Nat) : Int)) (Tab.enc h2 a_).len ?_
  refine kA1 (v := bv (decide (w4 < (((a_.getD []).length : Nat) : Int)))) (kAh _ _) ?_
  refine kAa (fun c13 => ?_) (fun c13 => ?_)
  · refine kAo (Tab.enc h2 a_) (fun m15 a14 hi16 hm17 => ?_)
    refine kA1 (v := AV.agg [sv a14.word, iv a14.cost]) ((Tab.enc h2 a_).ld hm17 true 2 0) ?_
    refine kAo (Tab.enc h2 b_) (fun m19 a18 hi20 hm21 => ?_)
    refine kA1 (v := AV.agg [sv a18.word, iv a18.cost]) ((Tab.enc h2 b_).ld hm21 true 2 0) ?_
    refine kC3 he_q32 (kAu _ a14 rfl) (kAu _ a18 rfl) (fun c22 => ?_)
    refine kAm (kAb (by rfl) _ _) ?_
    refine kA1 (v := bv (!c22)) (kBq _) ?_
    refine kAa (fun c23 => ?_) (fun c23 => ?_)
    · exact kA5 ⟨nofun, _, _, rfl, O3⟩
    · refine kA1 (v := iv (wr (w4 + 1))) (kAk _ _) ?_
      exact kA5 ⟨rfl, rfl, O3⟩
  · exact kA5 ⟨nofun, _, _, _, rfl, O3⟩
theorem ts_q33 (env : Nat → Contract) (he_q32 : env n_q32 = .pure (C2 (fun c : Bool => enc c) t_q32)) (a_ : Sl Entry) (b_ : Sl Entry) : Sim (kAl Try.prog env n_q33 [Sl.enc a_, Sl.enc b_] []) (t_q33 a_ b_) fun c p => release p.2 depth p.1 = some ((fun c : Bool => enc c) c) := by
  have O := Hold.nil []
  generalize hB : (⟨[], []⟩ : Base) = B at O
  clear hB
  rw [e_q33]
  unfold t_q33
  refine kA1 (v := iv (((a_.getD []).length : Nat) : Int)) (Tab.enc [] a_).len ?_
  refine kA1 (v := iv (((b_.getD []).length : Nat) : Int)) (Tab.enc [] b_).len ?_
  refine kA1 (v := bv (!decide ((((a_.getD []).length : Nat) : Int) = (((b_.getD []).length : Nat) : Int)))) (kCi _ _) ?_
  refine kAa (fun c1 => ?_) (fun c1 => ?_)
  · exact kA5 (kA3 (by rfl) _)
  · refine kB0 ((tl0_q33 env he_q32 a_ b_) ⟨rfl, O⟩) (fun qq28 r hq => ?_)
    rcases qq28 with _ | q11
    · obtain ⟨q8, z7, h5, rfl, O6⟩ := hq
      rw [e_lk0x0_q33]
      exact kA5 (kA3 (by rfl) _)
    · obtain ⟨q12, h9, rfl, O10⟩ := hq
      rw [e_lk0r_q33]
      exact kA5 (kA3 (by rfl) _)
theorem tt_q33 : kAi Try.prog n_q33 (C2 (fun c : Bool => enc c) t_q33) := kC2 (kB7 tt_q32 E0) kBb hb_q33 fun a_ b_ => ts_q33 _ (by simp [kBw]) a_ b_
def t_q36 (a_ : Lexicon) (b_ : Lexicon) : Option Bool :=
  kA0 (t_q33 a_.entries b_.entries) fun c9 =>
  bif !c9 then
    some false
  else
    some true
theorem ts_q36 (env : Nat → Contract) (he_q33 : env n_q33 = .pure (C2 (fun c : Bool => enc c) t_q33)) (a_ : Lexicon) (b_ : Lexicon) : Sim (kAl Try.prog env n_q36 [AV.agg [Sl.enc a_.entries], AV.agg [Sl.enc b_.entries]] []) (t_q36 a_ b_) fun c p => release p.2 depth p.1 = some ((fun c : Bool => enc c) c) := by
  have O := Hold.nil []
  generalize hB : (⟨[], []⟩ : Base) = B at O
  clear hB
  rw [e_q36]
  unfold t_q36
  refine kAv O (cs := [Sl.enc a_.entries]) (by first | rfl | simp) (fun o1 h2 O3 => ?_)
  replace O3 : Hold B h2 [(AV.ptr o1 1 0 0, .pt 1 [Sl.enc a_.entries])] := O3
  refine kAv O3 (cs := [Sl.enc b_.entries]) (by first | rfl | simp) (fun o5 h6 O7 => ?_)
  replace O7 : Hold B h6 [(AV.ptr o1 1 0 0, .pt 1 [Sl.enc a_.entries]), (AV.ptr o5 1 0 0, .pt 1 [Sl.enc b_.entries])] := O7
  refine kA1 (v := AV.ptr o1 1 0 0) rfl ?_
  refine kA1 (v := Sl.enc a_.entries) (O7.ld 0 rfl false 1 0) ?_
  refine kA1 (v := AV.ptr o5 1 0 0) rfl ?_
  refine kA1 (v := Sl.enc b_.entries) (O7.ld 1 rfl false 1 0) ?_
  refine kBg he_q33 (kB9 _ _) (kB9 _ _) (fun c9 => ?_)
  refine kAm (kAb (by rfl) _ _) ?_
  refine kA1 (v := bv (!c9)) (kBq _) ?_
  refine kAa (fun c10 => ?_) (fun c10 => ?_)
  · exact kA5 (kA3 (by rfl) _)
  · exact kA5 (kA3 (by rfl) _)
theorem tt_q36 : kAi Try.prog n_q36 (C2 (fun c : Bool => enc c) t_q36) := kC2 (kB7 tt_q33 E0) kBb hb_q36 fun a_ b_ => ts_q36 _ (by simp [kBw]) a_ b_
def s0_q38 (a_ : Sl ByteArray) (b_ : Sl ByteArray) : Int → Option (Sum Int (Sum Unit Bool)) := fun w4 =>
  bif decide (w4 < (((a_.getD []).length : Nat) : Int)) then
    kA0 (kC1 (a_.getD []) w4) fun a14 =>
    kA0 (kC1 (b_.getD []) w4) fun a18 =>
    bif !decide (a14 = a18) then
      some (.inr (.inr false))
    else
      some (.inl (wr (w4 + 1)))
  else
    some (.inr (.inl ()))
def t_q38 (a_ : Sl ByteArray) (b_ : Sl ByteArray) : Option Bool :=
  bif !decide ((((a_.getD []).length : Nat) : Int) = (((b_.getD []).length : Nat) : Int)) then
    some false
  else
    kA0 (kAw (s0_q38 a_ b_) 0) fun qq27 => match qq27 with
    | (.inl _) =>
        some true
    | (.inr q11) =>
        some q11
theorem tl0_q38 (env : Nat → Contract) {B : Base}  (a_ : Sl ByteArray) (b_ : Sl ByteArray)  {st : Int} {tm : TM} {h : kA7} (R : (fun (st : Int) tm h2 => match st with | w4 => tm = [Sl.enc a_, Sl.enc b_, und, und, .top, iv w4, Sl.enc a_, iv (((a_.getD []).length : Nat) : Int), Sl.enc b_, iv (((b_.getD []).length : Nat) : Int), bv (!decide ((((a_.getD []).length : Nat) : Int) = (((b_.getD []).length : Nat) : Int))), .top, .top, .top, .top, .top, .top, .top, .top, .top, .top, .top, .top, .top, .top, .top] ∧ Hold B h2 []) st tm h) : Sim (kB3 hm0_q38 xm0_q38 (lb0_q38 env) tm h) (kAw (s0_q38 a_ b_) st) (fun (q : Sum Unit Bool) (r : Res) => match q with | .inl _ => ∃ (q8 : Int) (z7 : AV) (h5 : kA7), r = (.exit 0, [Sl.enc a_, Sl.enc b_, und, und, z7, iv q8, Sl.enc a_, iv (((a_.getD []).length : Nat) : Int), Sl.enc b_, iv (((b_.getD []).length : Nat) : Int), bv (!decide ((((a_.getD []).length : Nat) : Int) = (((b_.getD []).length : Nat) : Int))), .top, .top, .top, .top, .top, .top, .top, .top, .top, .top, .top, .top, .top, .top, .top], h5) ∧ Hold B h5 [] | .inr q11 => ∃ (q12 : Int) (h9 : kA7), r = (.ret, [Sl.enc a_, Sl.enc b_, und, und, bv q11, iv q12, Sl.enc a_, iv (((a_.getD []).length : Nat) : Int), Sl.enc b_, iv (((b_.getD []).length : Nat) : Int), bv (!decide ((((a_.getD []).length : Nat) : Int) = (((b_.getD []).length : Nat) : Int))), .top, .top, .top, .top, .top, .top, .top, .top, .top, .top, .top, .top, .top, .top, .top], h9) ∧ Hold B h9 []) := by
  refine kB1 (Rel := fun (st : Int) tm h2 => match st with | w4 => tm = [Sl.enc a_, Sl.enc b_, und, und, .top, iv w4, Sl.enc a_, iv (((a_.getD []).length : Nat) : Int), Sl.enc b_, iv (((b_.getD []).length : Nat) : Int), bv (!decide ((((a_.getD []).length : Nat) : Int) = (((b_.getD []).length : Nat) : Int))), .top, .top, .top, .top, .top, .top, .top, .top, .top, .top, .top, .top, .top, .top, .top] ∧ Hold B h2 []) (fun w4 tm h2 R => ?_) R
  obtain ⟨rfl, O3⟩ := R
  rw [e_lb0_q38]
  unfold s0_q38
  dsimp only
  refine kA1 (v := iv (((a_.getD []).length : Nat) : Int)) (Tab.enc h2 a_).len ?_
  refine kA1 (v := bv (decide (w4 < (((a_.getD []).length : Nat) : Int)))) (kAh _ _) ?_
  refine kAa (fun c13 => ?_) (fun c13 => ?_)
  · refine kAo (Tab.enc h2 a_) (fun m15 a14 hi16 hm17 => ?_)
    refine kA1 (v := sv a14) ((Tab.enc h2 a_).ld hm17 false 1 0) ?_
    refine kAo (Tab.enc h2 b_) (fun m19 a18 hi20 hm21 => ?_)
    refine kA1 (v := sv a18) ((Tab.enc h2 b_).ld hm21 false 1 0) ?_
    refine kA1 (v := bv (!decide (a14 = a18))) (aCmp_neS _ _) ?_
    refine kAa (fun c22 => ?_) (fun c22 => ?_)
    · exact kA5 ⟨nofun, _, _, rfl, O3⟩
    · refine kA1 (v := iv (wr (w4 + 1))) (kAk _ _) ?_
      exact kA5 ⟨rfl, rfl, O3⟩
  · exact kA5 ⟨nofun, _, _, _, rfl, O3⟩
theorem ts_q38 (env : Nat → Contract)  (a_ : Sl ByteArray) (b_ : Sl ByteArray) : Sim (kAl Try.prog env n_q38 [Sl.enc a_, Sl.enc b_] []) (t_q38 a_ b_) fun c p => release p.2 depth p.1 = some ((fun c : Bool => enc c) c) := by
  have O := Hold.nil []
  generalize hB : (⟨[], []⟩ : Base) = B at O
  clear hB
  rw [e_q38]
  unfold t_q38
  refine kA1 (v := iv (((a_.getD []).length : Nat) : Int)) (Tab.enc [] a_).len ?_
  refine kA1 (v := iv (((b_.getD []).length : Nat) : Int)) (Tab.enc [] b_).len ?_
  refine kA1 (v := bv (!decide ((((a_.getD []).length : Nat) : Int) = (((b_.getD []).length : Nat) : Int)))) (kCi _ _) ?_
  refine kAa (fun c1 => ?_) (fun c1 => ?_)
  · exact kA5 (kA3 (by rfl) _)
  · refine kB0 ((tl0_q38 env a_ b_) ⟨rfl, O⟩) (fun qq27 r hq => ?_)
    rcases qq27 with _ | q11
    · obtain ⟨q8, z7, h5, rfl, O6⟩ := hq
      rw [e_lk0x0_q38]
      exact kA5 (kA3 (by rfl) _)
    · obtain ⟨q12, h9, rfl, O10⟩ := hq
      rw [e_lk0r_q38]
      exact kA5 (kA3 (by rfl) _)
theorem tt_q38 : kAi Try.prog n_q38 (C2 (fun c : Bool => enc c) t_q38) := kC2 E0 kBb hb_q38 fun a_ b_ => ts_q38 _  a_ b_
def s0_q62 (x_ : Sl Entry) (target_ : ByteArray) : (Int × Int) → Option (Sum (Int × Int) Int) := fun (w3, w4) =>
  bif decide (w3 < w4) then
    kA0 (kC1 (x_.getD []) (wr (Int.fdiv (IntKind.u64.wrap (wr (w3 + w4))) (2 ^ 1)))) fun a18 =>
    kA0 (t_q18 a18 target_) fun c22 =>
    bif decide (c22 < 0) then
      some (.inl (wr ((wr (Int.fdiv (IntKind.u64.wrap (wr (w3 + w4))) (2 ^ 1))) + 1), w4))
    else
      some (.inl (w3, wr (Int.fdiv (IntKind.u64.wrap (wr (w3 + w4))) (2 ^ 1))))
  else
    some (.inr w3)
def t_q62 (x_ : Sl Entry) (target_ : ByteArray) (cmp_ : Clo0 kHq) : Option (Int × Bool) :=
  kA0 (kAw (s0_q62 x_ target_) (0, (((x_.getD []).length : Nat) : Int))) fun q7 =>
  kA0 (bif decide (q7 < (((x_.getD []).length : Nat) : Int)) then (kA0 (kC1 (x_.getD []) q7) fun a11 => kA0 (t_q18 a11 target_) fun c15 => some (decide (c15 = 0))) else some false) fun c16 =>
  some (q7, (bif decide (q7 < (((x_.getD []).length : Nat) : Int)) then c16 else false))
theorem tl0_q62 (env : Nat → Contract) {B : Base} (he_q18 : env kHq = .pure (C2 (fun c : Int => enc c) t_q18)) (x_ : Sl Entry) (target_ : ByteArray)  {st : Int × Int} {tm : TM} {h : kA7} (R : (fun (st : Int × Int) tm h1 => match st with | (w3, w4) => tm = [Sl.enc x_, sv target_, AV.fn kHq [], und, und, und, iv 0, bv false, iv (((x_.getD []).length : Nat) : Int), iv w3, iv w4, .top, Sl.enc x_, iv (((x_.getD []).length : Nat) : Int), iv (((x_.getD []).length : Nat) : Int), .top, .top, .top, .top, .top, .top, .top, .top, .top, .top, .top, .top, .top, .top, .top, .top, .top, .top, .top, .top, und, und, und, und, und, und, und, und, und, und, und, und, und, und] ∧ Hold B h1 []) st tm h) : Sim (kB3 hm0_q62 xm0_q62 (lb0_q62 env) tm h) (kAw (s0_q62 x_ target_) st) (fun (q : Int) (r : Res) => match q with | q7 => ∃ (q8 : Int) (z9 : AV) (h5 : kA7), r = (.exit 0, [Sl.enc x_, sv target_, AV.fn kHq [], und, und, und, iv 0, bv false, iv (((x_.getD []).length : Nat) : Int), iv q7, iv q8, z9, Sl.enc x_, iv (((x_.getD []).length : Nat) : Int), iv (((x_.getD []).length : Nat) : Int), .top, .top, .top, .top, .top, .top, .top, .top, .top, .top, .top, .top, .top, .top, .top, .top, .top, .top, .top, .top, und, und, und, und, und, und, und, und, und, und, und, und, und, und], h5) ∧ Hold B h5 []) := by
  refine kB1 (Rel := fun (st : Int × Int) tm h1 => match st with | (w3, w4) => tm = [Sl.enc x_, sv target_, AV.fn kHq [], und, und, und, iv 0, bv false, iv (((x_.getD []).length : Nat) : Int), iv w3, iv w4, .top, Sl.enc x_, iv (((x_.getD []).length : Nat) : Int), iv (((x_.getD []).length : Nat) : Int), .top, .top, .top, .top, .top, .top, .top, .top, .top, .top, .top, .top, .top, .top, .top, .top, .top, .top, .top, .top, und, und, und, und, und, und, und, und, und, und, und, und, und, und] ∧ Hold B h1 []) (fun st tm h1 R => ?_) R
  obtain ⟨w3, w4⟩ := st
  obtain ⟨rfl, O2⟩ := R
  rw [e_lb0_q62]
  unfold s0_q62
  dsimp only
  refine kA1 (v := bv (decide (w3 < w4))) (kAh _ _) ?_
  refine kAa (fun c17 => ?_) (fun c17 => ?_)
  · refine kA1 (v := iv (wr (w3 + w4))) (kAk _ _) ?_
    refine kA1 (v := AV.sc (.int .u64 (IntKind.u64.wrap (wr (w3 + w4))))) rfl ?_
    refine kA1 (v := AV.sc (.int .u64 (Int.fdiv (IntKind.u64.wrap (wr (w3 + w4))) (2 ^ 1)))) rfl ?_
    refine kA1 (v := iv (wr (Int.fdiv (IntKind.u64.wrap (wr (w3 + w4))) (2 ^ 1)))) rfl ?_
    refine kAo (Tab.enc h1 x_) (fun m19 a18 hi20 hm21 => ?_)
    refine kA1 (v := AV.agg [sv a18.word, iv a18.cost]) ((Tab.enc h1 x_).ld hm21 true 2 0) ?_
    refine kBg he_q18 (kAu _ a18 rfl) (kBi _ _) (fun c22 => ?_)
    refine kAm (kAb (by rfl) _ _) ?_
    refine kA1 (v := bv (decide (c22 < 0))) (kAh _ _) ?_
    refine kAa (fun c23 => ?_) (fun c23 => ?_)
    · refine kA1 (v := iv (wr ((wr (Int.fdiv (IntKind.u64.wrap (wr (w3 + w4))) (2 ^ 1))) + 1))) (kAk _ _) ?_
      exact kA5 ⟨rfl, rfl, O2⟩
    · exact kA5 ⟨rfl, rfl, O2⟩
  · exact kA5 ⟨nofun, _, _, _, rfl, O2⟩
theorem ts_q62 (env : Nat → Contract) (he_q18 : env kHq = .pure (C2 (fun c : Int => enc c) t_q18)) (x_ : Sl Entry) (target_ : ByteArray) (cmp_ : Clo0 kHq) : Sim (kAl Try.prog env n_q62 [Sl.enc x_, sv target_, AV.fn kHq []] []) (t_q62 x_ target_ cmp_) fun c p => release p.2 depth p.1 = some ((fun c : Int × Bool => AV.tup [enc c.1, enc c.2]) c) := by
  have O := Hold.nil []
  generalize hB : (⟨[], []⟩ : Base) = B at O
  clear hB
  rw [e_q62]
  unfold t_q62
  refine kA1 (v := iv (((x_.getD []).length : Nat) : Int)) (Tab.enc [] x_).len ?_
  refine kB0 ((tl0_q62 env he_q18 x_ target_) ⟨rfl, O⟩) (fun qq28 r hq => ?_)
  revert hq
  revert qq28
  intro q7 hq
  obtain ⟨q8, z9, h5, rfl, O6⟩ := hq
  rw [e_lk0x0_q62]
  refine kA1 (v := bv (decide (q7 < (((x_.getD []).length : Nat) : Int)))) (kAh _ _) ?_
  refine kBs (e := bv) (fun hb10 => ?_) (fun c16 => ?_)
  · refine kAo (Tab.enc h5 x_) (fun m12 a11 hi13 hm14 => ?_)
    refine kA1 (v := AV.agg [sv a11.word, iv a11.cost]) ((Tab.enc h5 x_).ld hm14 true 2 0) ?_
    refine kBg he_q18 (kAu _ a11 rfl) (kBi _ _) (fun c15 => ?_)
    refine kAm (kAb (by rfl) _ _) ?_
    refine kA1 (v := bv (decide (c15 = 0))) (aCmp_eq _ _) ?_
    exact kA5 rfl
  · refine kA1 (v := bv (bif decide (q7 < (((x_.getD []).length : Nat) : Int)) then c16 else false)) (kCn _ _ _) ?_
    exact kA5 (kA3 (by rfl) _)
theorem tt_q62 : kAi Try.prog n_q62 (C3 (fun c : Int × Bool => AV.tup [enc c.1, enc c.2]) t_q62) := pureC3 (kB7 tt_q18 E0) kBb hb_q62 fun x_ target_ cmp_ => ts_q62 _ (by simp [kBw]) x_ target_ cmp_
def t_q17 (x_ : Lexicon) (word_ : ByteArray) : Option (Int × Bool) :=
  kA0 (t_q62 x_.entries word_ (⟨⟩ : Clo0 kHq)) fun c5 =>
  some (c5.1, c5.2)
theorem ts_q17 (env : Nat → Contract) (he_q62 : env n_q62 = .pure (C3 (fun c : Int × Bool => AV.tup [enc c.1, enc c.2]) t_q62)) (x_ : Lexicon) (word_ : ByteArray) : Sim (kAl Try.prog env n_q17 [AV.agg [Sl.enc x_.entries], sv word_] []) (t_q17 x_ word_) fun c p => release p.2 depth p.1 = some ((fun c : Int × Bool => AV.tup [enc c.1, enc c.2]) c) := by
  have O := Hold.nil []
  generalize hB : (⟨[], []⟩ : Base) = B at O
  clear hB
  rw [e_q17]
  unfold t_q17
  refine kAv O (cs := [Sl.enc x_.entries]) (by first | rfl | simp) (fun o1 h2 O3 => ?_)
  replace O3 : Hold B h2 [(AV.ptr o1 1 0 0, .pt 1 [Sl.enc x_.entries])] := O3
  refine kA1 (v := AV.ptr o1 1 0 0) rfl ?_
  refine kA1 (v := Sl.enc x_.entries) (O3.ld 0 rfl false 1 0) ?_
  refine kF7 he_q62 (kB9 _ _) (kBi _ _) (kGi _ _) (fun c5 => ?_)
  refine kAm (kAb (by rfl) _ _) ?_
  refine kA1 (v := iv c5.1) rfl ?_
  refine kA1 (v := bv c5.2) rfl ?_
  exact kA5 (kA3 (by rfl) _)
theorem tt_q17 : kAi Try.prog n_q17 (C2 (fun c : Int × Bool => AV.tup [enc c.1, enc c.2]) t_q17) := kC2 (kB7 tt_q62 E0) kBb hb_q17 fun x_ word_ => ts_q17 _ (by simp [kBw]) x_ word_
def s0_q7 (list_ : Sl Lattice) (x_ : Lexicon) (words_ : Sl ByteArray) : (Int × Int) → Option (Sum (Int × Int) (Sum Int (Int × Int))) := fun (w15, w16) =>
  bif decide (w16 < (((words_.getD []).length : Nat) : Int)) then
    kA0 (kC1 (words_.getD []) w16) fun a38 =>
    kA0 (t_q17 x_ a38) fun c42 =>
    kA0 (kC1 (list_.getD []) w16) fun a43 =>
    kA0 (t_q21 a43 a38) fun c47 =>
    kA0 (bif !c42.2 then some false else (some (decide (c47 = 1099511627776)))) fun c49 =>
    bif (bif !c42.2 then true else c49) then
      some (.inr (.inr (0, 3)))
    else
      kA0 (kC1 (x_.entries.getD []) c42.1) fun a52 =>
      some (.inl (wr (w15 + (wr (c47 + a52.cost))), wr (w16 + 1)))
  else
    some (.inr (.inl w15))
def t_q7 (list_ : Sl Lattice) (x_ : Lexicon) (m_ : Model) (words_ : Sl ByteArray) : Option (Int × Int) :=
  kA0 (t_q19 list_ x_ m_) fun c9 =>
  bif !decide (c9 = 0) then
    some (0, c9)
  else
    bif !decide ((((words_.getD []).length : Nat) : Int) = (((list_.getD []).length : Nat) : Int)) then
      some (0, 2)
    else
      kA0 (t_q24 m_ words_) fun c12 =>
      kA0 (kAw (s0_q7 list_ x_ words_) (c12, 0)) fun qq59 => match qq59 with
      | (.inl q21) =>
          some (q21, 0)
      | (.inr (q29, q30)) =>
          some (q29, q30)
theorem tl0_q7 (env : Nat → Contract) {B : Base} (he_q17 : env n_q17 = .pure (C2 (fun c : Int × Bool => AV.tup [enc c.1, enc c.2]) t_q17)) (he_q19 : env n_q19 = .pure (C3 (fun c : Int => enc c) t_q19)) (he_q21 : env n_q21 = .pure (C2 (fun c : Int => enc c) t_q21)) (he_q24 : env n_q24 = .pure (C2 (fun c : Int => enc c) t_q24)) (list_ : Sl Lattice) (x_ : Lexicon) (m_ : Model) (words_ : Sl ByteArray) (o1 : Nat) (o5 : Nat) (c9 : Int) (c12 : Int)  {st : Int × Int} {tm : TM} {h : kA7} (R : (fun (st : Int × Int) tm h13 => match st with | (w15, w16) => tm = ((Sl.enc list_) :: (AV.agg [Sl.enc x_.entries]) :: (AV.agg [iv m_.default, Sl.enc m_.bigrams]) :: (Sl.enc words_) :: und :: (AV.ptr o1 1 0 0) :: (AV.ptr o5 1 0 0) :: und :: .top :: .top :: (iv c9) :: (iv w15) :: .top :: .top :: .top :: .top :: .top :: (Sl.enc list_) :: (AV.agg [Sl.enc x_.entries]) :: (AV.agg [iv m_.default, Sl.enc m_.bigrams]) :: (iv c9) :: (iv c9) :: (bv (!decide (c9 = 0))) :: und :: (Sl.enc words_) :: (iv (((words_.getD []).length : Nat) : Int)) :: (Sl.enc list_) :: (iv (((list_.getD []).length : Nat) : Int)) :: (bv (!decide ((((words_.getD []).length : Nat) : Int) = (((list_.getD []).length : Nat) : Int)))) :: (AV.agg [iv m_.default, Sl.enc m_.bigrams]) :: (Sl.enc words_) :: (iv c12) :: (Sl.enc words_) :: (iv (((words_.getD []).length : Nat) : Int)) :: (iv w16) :: .top :: .top :: .top :: .top :: .top :: .top :: .top :: .top :: .top :: .top :: .top :: .top :: .top :: .top :: .top :: .top :: .top :: .top :: .top :: .top :: .top :: .top :: .top :: .top :: .top :: .top :: .top :: .top :: .top :: .top :: .top :: .top :: .top :: und :: []) ∧ Hold B h13 [(AV.ptr o1 1 0 0, .pt 1 [Sl.enc x_.entries]), (AV.ptr o5 1 0 0, .pt 2 [iv m_.default, Sl.enc m_.bigrams])]) st tm h) : Sim (kB3 hm0_q7 xm0_q7 (lb0_q7 env) tm h) (kAw (s0_q7 list_ x_ words_) st) (fun (q : Sum Int (Int × Int)) (r : Res) => match q with | .inl q21 => ∃ (z19 : AV) (z20 : AV) (z22 : AV) (z23 : AV) (z24 : AV) (z25 : AV) (z26 : AV) (h17 : kA7), r = (.exit 0, ((Sl.enc list_) :: (AV.agg [Sl.enc x_.entries]) :: (AV.agg [iv m_.default, Sl.enc m_.bigrams]) :: (Sl.enc words_) :: und :: (AV.ptr o1 1 0 0) :: (AV.ptr o5 1 0 0) :: und :: z19 :: z20 :: (iv c9) :: (iv q21) :: z22 :: z23 :: z24 :: z25 :: z26 :: (Sl.enc list_) :: (AV.agg [Sl.enc x_.entries]) :: (AV.agg [iv m_.default, Sl.enc m_.bigrams]) :: (iv c9) :: (iv c9) :: (bv (!decide (c9 = 0))) :: und :: (Sl.enc words_) :: (iv (((words_.getD []).length : Nat) : Int)) :: (Sl.enc list_) :: (iv (((list_.getD []).length : Nat) : Int)) :: (bv (!decide ((((words_.getD []).length : Nat) : Int) = (((list_.getD []).length : Nat) : Int)))) :: (AV.agg [iv m_.default, Sl.enc m_.bigrams]) :: (Sl.enc words_) :: (iv c12) :: (Sl.enc words_) :: (iv (((words_.getD []).length : Nat) : Int)) :: .top :: .top :: .top :: .top :: .top :: .top :: .top :: .top :: .top :: .top :: .top :: .top :: .top :: .top :: .top :: .top :: .top :: .top :: .top :: .top :: .top :: .top :: .top :: .top :: .top :: .top :: .top :: .top :: .top :: .top :: .top :: .top :: .top :: .top :: und :: []), h17) ∧ Hold B h17 [(AV.ptr o1 1 0 0, .pt 1 [Sl.enc x_.entries]), (AV.ptr o5 1 0 0, .pt 2 [iv m_.default, Sl.enc m_.bigrams])] | .inr (q29, q30) => ∃ (q31 : Int) (q32 : Int) (q33 : ByteArray) (q34 : Int) (q35 : Bool) (q36 : Int) (h27 : kA7), r = (.ret, ((Sl.enc list_) :: (AV.agg [Sl.enc x_.entries]) :: (AV.agg [iv m_.default, Sl.enc m_.bigrams]) :: (Sl.enc words_) :: und :: (AV.ptr o1 1 0 0) :: (AV.ptr o5 1 0 0) :: und :: (iv q29) :: (iv q30) :: (iv c9) :: (iv q31) :: (iv q32) :: (sv q33) :: (iv q34) :: (bv q35) :: (iv q36) :: (Sl.enc list_) :: (AV.agg [Sl.enc x_.entries]) :: (AV.agg [iv m_.default, Sl.enc m_.bigrams]) :: (iv c9) :: (iv c9) :: (bv (!decide (c9 = 0))) :: und :: (Sl.enc words_) :: (iv (((words_.getD []).length : Nat) : Int)) :: (Sl.enc list_) :: (iv (((list_.getD []).length : Nat) : Int)) :: (bv (!decide ((((words_.getD []).length : Nat) : Int) = (((list_.getD []).length : Nat) : Int)))) :: (AV.agg [iv m_.default, Sl.enc m_.bigrams]) :: (Sl.enc words_) :: (iv c12) :: (Sl.enc words_) :: (iv (((words_.getD []).length : Nat) : Int)) :: .top :: .top :: .top :: .top :: .top :: .top :: .top :: .top :: .top :: .top :: .top :: .top :: .top :: .top :: .top :: .top :: .top :: .top :: .top :: .top :: .top :: .top :: .top :: .top :: .top :: .top :: .top :: .top :: .top :: .top :: .top :: .top :: .top :: .top :: und :: []), h27) ∧ Hold B h27 [(AV.ptr o1 1 0 0, .pt 1 [Sl.enc x_.entries]), (AV.ptr o5 1 0 0, .pt 2 [iv m_.default, Sl.enc m_.bigrams])]) := by
  refine kB1 (Rel := fun (st : Int × Int) tm h13 => match st with | (w15, w16) => tm = ((Sl.enc list_) :: (AV.agg [Sl.enc x_.entries]) :: (AV.agg [iv m_.default, Sl.enc m_.bigrams]) :: (Sl.enc words_) :: und :: (AV.ptr o1 1 0 0) :: (AV.ptr o5 1 0 0) :: und :: .top :: .top :: (iv c9) :: (iv w15) :: .top :: .top :: .top :: .top :: .top :: (Sl.enc list_) :: (AV.agg [Sl.enc x_.entries]) :: (AV.agg [iv m_.default, Sl.enc m_.bigrams]) :: (iv c9) :: (iv c9) :: (bv (!decide (c9 = 0))) :: und :: (Sl.enc words_) :: (iv (((words_.getD []).length : Nat) : Int)) :: (Sl.enc list_) :: (iv (((list_.getD []).length : Nat) : Int)) :: (bv (!decide ((((words_.getD []).length : Nat) : Int) = (((list_.getD []).length : Nat) : Int)))) :: (AV.agg [iv m_.default, Sl.enc m_.bigrams]) :: (Sl.enc words_) :: (iv c12) :: (Sl.enc words_) :: (iv (((words_.getD []).length : Nat) : Int)) :: (iv w16) :: .top :: .top :: .top :: .top :: .top :: .top :: .top :: .top :: .top :: .top :: .top :: .top :: .top :: .top :: .top :: .top :: .top :: .top :: .top :: .top :: .top :: .top :: .top :: .top :: .top :: .top :: .top :: .top :: .top :: .top :: .top :: .top :: .top :: und :: []) ∧ Hold B h13 [(AV.ptr o1 1 0 0, .pt 1 [Sl.enc x_.entries]), (AV.ptr o5 1 0 0, .pt 2 [iv m_.default, Sl.enc m_.bigrams])]) (fun st tm h13 R => ?_) R
  obtain ⟨w15, w16⟩ := st
  obtain ⟨rfl, O14⟩ := R
  rw [e_lb0_q7]
  unfold s0_q7
  dsimp only
  refine kA1 (v := bv (decide (w16 < (((words_.getD []).length : Nat) : Int)))) (kAh _ _) ?_
  refine kAa (fun c37 => ?_) (fun c37 => ?_)
  · refine kAo (Tab.enc h13 words_) (fun m39 a38 hi40 hm41 => ?_)
    refine kA1 (v := sv a38) ((Tab.enc h13 words_).ld hm41 false 1 0) ?_
    refine kA1 (v := AV.agg [Sl.enc x_.entries]) (O14.ld 0 rfl true 1 0) ?_
    refine kBg he_q17 (kAu _ x_ rfl) (kBi _ _) (fun c42 => ?_)
    refine kAm (kAb (by rfl) _ _) ?_
    refine kA1 (v := iv c42.1) rfl ?_
    refine kA1 (v := bv c42.2) rfl ?_
    refine kAo (Tab.enc h13 list_) (fun m44 a43 hi45 hm46 => ?_)
    refine kA1 (v := AV.agg [iv a43.nodes, Sl.enc a43.edges]) ((Tab.enc h13 list_).ld hm46 true 2 0) ?_
    refine kBg he_q21 (kAu _ a43 rfl) (kBi _ _) (fun c47 => ?_)
    refine kAm (kAb (by rfl) _ _) ?_
    refine kA1 (v := bv (!c42.2)) (kBq _) ?_
    refine kBt (e := bv) (fun hb48 => ?_) (fun c49 => ?_)
    · refine kA1 (v := bv (decide (c47 = 1099511627776))) (aCmp_eq _ _) ?_
      exact kA5 rfl
    · refine kA1 (v := bv (bif !c42.2 then true else c49)) (kCh _ _ _) ?_
      refine kAa (fun c50 => ?_) (fun c50 => ?_)
      · exact kA5 ⟨nofun, _, _, _, _, _, _, _, rfl, O14⟩
      · refine kA1 (v := AV.ptr o1 1 0 0) rfl ?_
        refine kA1 (v := Sl.enc x_.entries) (O14.ld 0 rfl false 1 0) ?_
        refine kAo (Tab.enc h13 x_.entries) (fun m53 a52 hi54 hm55 => ?_)
        refine kA1 (v := elp (Sl.enc x_.entries) m53 1) ((Tab.enc h13 x_.entries).fld _ _ _) ?_
        refine kA1 (v := iv a52.cost) ((Tab.enc h13 x_.entries).ld hm55 false 1 1) ?_
        refine kA1 (v := iv (wr (c47 + a52.cost))) (kAk _ _) ?_
        refine kA1 (v := iv (wr (w15 + (wr (c47 + a52.cost))))) (kAk _ _) ?_
        refine kA1 (v := iv (wr (w16 + 1))) (kAk _ _) ?_
        exact kA5 ⟨rfl, rfl, O14⟩
  · exact kA5 ⟨nofun, _, _, _, _, _, _, _, _, rfl, O14⟩
theorem ts_q7 (env : Nat → Contract) (he_q17 : env n_q17 = .pure (C2 (fun c : Int × Bool => AV.tup [enc c.1, enc c.2]) t_q17)) (he_q19 : env n_q19 = .pure (C3 (fun c : Int => enc c) t_q19)) (he_q21 : env n_q21 = .pure (C2 (fun c : Int => enc c) t_q21)) (he_q24 : env n_q24 = .pure (C2 (fun c : Int => enc c) t_q24)) (list_ : Sl Lattice) (x_ : Lexicon) (m_ : Model) (words_ : Sl ByteArray) : Sim (kAl Try.prog env n_q7 [Sl.enc list_, AV.agg [Sl.enc x_.entries], AV.agg [iv m_.default, Sl.enc m_.bigrams], Sl.enc words_] []) (t_q7 list_ x_ m_ words_) fun c p => release p.2 depth p.1 = some ((fun c : Int × Int => AV.tup [enc c.1, enc c.2]) c) := by
  have O := Hold.nil []
  generalize hB : (⟨[], []⟩ : Base) = B at O
  clear hB
  rw [e_q7]
  unfold t_q7
  refine kAv O (cs := [Sl.enc x_.entries]) (by first | rfl | simp) (fun o1 h2 O3 => ?_)
  replace O3 : Hold B h2 [(AV.ptr o1 1 0 0, .pt 1 [Sl.enc x_.entries])] := O3
  refine kAv O3 (cs := [iv m_.default, Sl.enc m_.bigrams]) (by first | rfl | simp) (fun o5 h6 O7 => ?_)
  replace O7 : Hold B h6 [(AV.ptr o1 1 0 0, .pt 1 [Sl.enc x_.entries]), (AV.ptr o5 1 0 0, .pt 2 [iv m_.default, Sl.enc m_.bigrams])] := O7
  refine kA1 (v := AV.agg [Sl.enc x_.entries]) (O7.ld 0 rfl true 1 0) ?_
  refine kA1 (v := AV.agg [iv m_.default, Sl.enc m_.bigrams]) (O7.ld 1 rfl true 2 0) ?_
  refine kF7 he_q19 (kB9 _ _) (kAu _ x_ rfl) (kAu _ m_ rfl) (fun c9 => ?_)
  refine kAm (kAb (by rfl) _ _) ?_
  refine kA1 (v := bv (!decide (c9 = 0))) (kCi _ _) ?_
  refine kAa (fun c10 => ?_) (fun c10 => ?_)
  · exact kA5 (kA3 (by rfl) _)
  · refine kA1 (v := iv (((words_.getD []).length : Nat) : Int)) (Tab.enc h6 words_).len ?_
    refine kA1 (v := iv (((list_.getD []).length : Nat) : Int)) (Tab.enc h6 list_).len ?_
    refine kA1 (v := bv (!decide ((((words_.getD []).length : Nat) : Int) = (((list_.getD []).length : Nat) : Int)))) (kCi _ _) ?_
    refine kAa (fun c11 => ?_) (fun c11 => ?_)
    · exact kA5 (kA3 (by rfl) _)
    · refine kA1 (v := AV.agg [iv m_.default, Sl.enc m_.bigrams]) (O7.ld 1 rfl true 2 0) ?_
      refine kBg he_q24 (kAu _ m_ rfl) (kB9 _ _) (fun c12 => ?_)
      refine kAm (kAb (by rfl) _ _) ?_
      refine kA1 (v := iv (((words_.getD []).length : Nat) : Int)) (Tab.enc h6 words_).len ?_
      refine kB0 ((tl0_q7 env he_q17 he_q19 he_q21 he_q24 list_ x_ m_ words_ o1 o5 c9 c12) ⟨rfl, O7⟩) (fun qq59 r hq => ?_)
      rcases qq59 with q21 | ⟨q29, q30⟩
      · obtain ⟨z19, z20, z22, z23, z24, z25, z26, h17, rfl, O18⟩ := hq
        rw [e_lk0x0_q7]
        exact kA5 (kA3 (by rfl) _)
      · obtain ⟨q31, q32, q33, q34, q35, q36, h27, rfl, O28⟩ := hq
        rw [e_lk0r_q7]
        exact kA5 (kA3 (by rfl) _)
theorem tt_q7 : kAi Try.prog n_q7 (C4 (fun c : Int × Int => AV.tup [enc c.1, enc c.2]) t_q7) := pureC4 (kB7 tt_q17 (kB7 tt_q19 (kB7 tt_q21 (kB7 tt_q24 E0)))) kBb hb_q7 fun list_ x_ m_ words_ => ts_q7 _ (by simp [kBw]) (by simp [kBw]) (by simp [kBw]) (by simp [kBw]) list_ x_ m_ words_
def t_q27 (aList_ : Sl Lattice) (aX_ : Lexicon) (aM_ : Model) (aWords_ : Sl ByteArray) : Option Bool :=
  kA0 (t_q46 aList_ 1048576) fun c9 =>
  bif decide (c9 < 0) then
    some true
  else
    kA0 (t_q47 aX_ c9) fun c11 =>
    bif decide (c11 < 0) then
      some true
    else
      kA0 (t_q48 aM_ c11) fun c13 =>
      bif decide (c13 < 0) then
        some true
      else
        kA0 (t_q49 aWords_ c13) fun c15 =>
        bif decide (c15 < 0) then
          some true
        else
          kA0 (t_q57 aList_) fun c17 =>
          kA0 (t_q58 aX_) fun c24 =>
          kA0 (t_q59 aM_) fun c29 =>
          kA0 (t_q60 aWords_) fun c34 =>
          kA0 (t_q67 c17 c24 c29 c34) fun c39 =>
          kA0 (t_q57 aList_) fun c40 =>
          kA0 (t_q58 aX_) fun c47 =>
          kA0 (t_q59 aM_) fun c58 =>
          kA0 (t_q60 aWords_) fun c69 =>
          kA0 (t_q7 c40 c47 c58 c69) fun c74 =>
          kA0 (bif !decide (c74.1 = c39.1) then some false else (some (!decide (c74.2 = c39.2)))) fun c76 =>
          bif (bif !decide (c74.1 = c39.1) then true else c76) then
            some false
          else
            kA0 (t_q57 aList_) fun c78 =>
            kA0 (t_q35 c40 c78) fun c85 =>
            bif !c85 then
              some false
            else
              kA0 (t_q58 aX_) fun c87 =>
              kA0 (t_q36 c47 c87) fun c92 =>
              bif !c92 then
                some false
              else
                kA0 (t_q59 aM_) fun c94 =>
                kA0 (t_q37 c58 c94) fun c99 =>
                bif !c99 then
                  some false
                else
                  kA0 (t_q60 aWords_) fun c101 =>
                  kA0 (t_q38 c69 c101) fun c106 =>
                  bif !c106 then
                    some false
                  else
                    some true
theorem ts_q27 (env : Nat → Contract) (he_q7 : env n_q7 = .pure (C4 (fun c : Int × Int => AV.tup [enc c.1, enc c.2]) t_q7)) (he_q35 : env n_q35 = .pure (C2 (fun c : Bool => enc c) t_q35)) (he_q36 : env n_q36 = .pure (C2 (fun c : Bool => enc c) t_q36)) (he_q37 : env n_q37 = .pure (C2 (fun c : Bool => enc c) t_q37)) (he_q38 : env n_q38 = .pure (C2 (fun c : Bool => enc c) t_q38)) (he_q46 : env n_q46 = .pure (C2 (fun c : Int => enc c) t_q46)) (he_q47 : env n_q47 = .pure (C2 (fun c : Int => enc c) t_q47)) (he_q48 : env n_q48 = .pure (C2 (fun c : Int => enc c) t_q48)) (he_q49 : env n_q49 = .pure (C2 (fun c : Int => enc c) t_q49)) (he_q57 : env n_q57 = .pure (C1 (fun c : (Sl Lattice) => rD c) t_q57)) (he_q58 : env n_q58 = .pure (C1 (fun c : Lexicon => AV.agg [rS c.entries]) t_q58)) (he_q59 : env n_q59 = .pure (C1 (fun c : Model => AV.agg [iv c.default, rS c.bigrams]) t_q59)) (he_q60 : env n_q60 = .pure (C1 (fun c : (Sl ByteArray) => rS c) t_q60)) (he_q67 : env n_q67 = .pure (C4 (fun c : Int × Int => AV.tup [enc c.1, enc c.2]) t_q67)) (aList_ : Sl Lattice) (aX_ : Lexicon) (aM_ : Model) (aWords_ : Sl ByteArray) : Sim (kAl Try.prog env n_q27 [Sl.enc aList_, AV.agg [Sl.enc aX_.entries], AV.agg [iv aM_.default, Sl.enc aM_.bigrams], Sl.enc aWords_] []) (t_q27 aList_ aX_ aM_ aWords_) fun c p => release p.2 depth p.1 = some ((fun c : Bool => enc c) c) := by
  have O := Hold.nil []
  generalize hB : (⟨[], []⟩ : Base) = B at O
  clear hB
  rw [e_q27]
  unfold t_q27
  refine kAv O (cs := [Sl.enc aX_.entries]) (by first | rfl | simp) (fun o1 h2 O3 => ?_)
  replace O3 : Hold B h2 [(AV.ptr o1 1 0 0, .pt 1 [Sl.enc aX_.entries])] := O3
  refine kAv O3 (cs := [iv aM_.default, Sl.enc aM_.bigrams]) (by first | rfl | simp) (fun o5 h6 O7 => ?_)
  replace O7 : Hold B h6 [(AV.ptr o1 1 0 0, .pt 1 [Sl.enc aX_.entries]), (AV.ptr o5 1 0 0, .pt 2 [iv aM_.default, Sl.enc aM_.bigrams])] := O7
  refine kBg he_q46 (kB9 _ _) (kAr _ _) (fun c9 => ?_)
  refine kAm (kAb (by rfl) _ _) ?_
  refine kA1 (v := bv (decide (c9 < 0))) (kAh _ _) ?_
  refine kAa (fun c10 => ?_) (fun c10 => ?_)
  · exact kA5 (kA3 (by rfl) _)
  · refine kA1 (v := AV.agg [Sl.enc aX_.entries]) (O7.ld 0 rfl true 1 0) ?_
    refine kBg he_q47 (kAu _ aX_ rfl) (kAr _ _) (fun c11 => ?_)
    refine kAm (kAb (by rfl) _ _) ?_
    refine kA1 (v := bv (decide (c11 < 0))) (kAh _ _) ?_
    refine kAa (fun c12 => ?_) (fun c12 => ?_)
    · exact kA5 (kA3 (by rfl) _)
    · refine kA1 (v := AV.agg [iv aM_.default, Sl.enc aM_.bigrams]) (O7.ld 1 rfl true 2 0) ?_
      refine kBg he_q48 (kAu _ aM_ rfl) (kAr _ _) (fun c13 => ?_)
      refine kAm (kAb (by rfl) _ _) ?_
      refine kA1 (v := bv (decide (c13 < 0))) (kAh _ _) ?_
      refine kAa (fun c14 => ?_) (fun c14 => ?_)
      · exact kA5 (kA3 (by rfl) _)
      · refine kBg he_q49 (kB9 _ _) (kAr _ _) (fun c15 => ?_)
        refine kAm (kAb (by rfl) _ _) ?_
        refine kA1 (v := bv (decide (c15 < 0))) (kAh _ _) ?_
        refine kAa (fun c16 => ?_) (fun c16 => ?_)
        · exact kA5 (kA3 (by rfl) _)
        · refine kCo he_q57 (kB9 _ _) (fun c17 => ?_)
          refine sim_handN (l := [(AV.ptr o1 1 0 0, .pt 1 [Sl.enc aX_.entries]), (AV.ptr o5 1 0 0, .pt 2 [iv aM_.default, Sl.enc aM_.bigrams])]) (A := Lattice) O7 (fun x19 ps22 h20 hp23 O21 => ?_)
          refine kA1 (v := AV.agg [Sl.enc aX_.entries]) (O21.ld 0 rfl true 1 0) ?_
          refine kCo he_q58 (kAu _ aX_ rfl) (fun c24 => ?_)
          refine kEj O21 (c24.entries : Sl Entry) (fun z1 => AV.agg [z1]) (by intro b; simp only [kH2, kFi, kHh, matLc, matLn, mat_iv, mat_bv, mat_sv, mat_bt, kFj, mat_rS, List.append_nil, List.nil_append, List.length_nil, Nat.add_zero]) (by simp only [kGy, kFp, kHj, noF_iv, noF_bv, noF_sv, noF_bt, kFo, noF_rS, List.all_cons, List.all_nil, Bool.and_self]) (fun x26 h27 O28 => ?_)
          replace O28 : Hold B h27 ([(AV.ptr o1 1 0 0, .pt 1 [Sl.enc aX_.entries]), (AV.ptr o5 1 0 0, .pt 2 [iv aM_.default, Sl.enc aM_.bigrams]), (x26, obS (c24.entries : Sl Entry))] ++ D2 (A := Lattice) x19 ps22) := Hold.rot O28
          refine kA1 (v := AV.agg [iv aM_.default, Sl.enc aM_.bigrams]) (O28.ld 1 rfl true 2 0) ?_
          refine kCo he_q59 (kAu _ aM_ rfl) (fun c29 => ?_)
          refine kEj O28 (c29.bigrams : Sl Bigram) (fun z1 => AV.agg [iv c29.default, z1]) (by intro b; simp only [kH2, kFi, kHh, matLc, matLn, mat_iv, mat_bv, mat_sv, mat_bt, kFj, mat_rS, List.append_nil, List.nil_append, List.length_nil, Nat.add_zero]) (by simp only [kGy, kFp, kHj, noF_iv, noF_bv, noF_sv, noF_bt, kFo, noF_rS, List.all_cons, List.all_nil, Bool.and_self]) (fun x31 h32 O33 => ?_)
          replace O33 : Hold B h32 ([(AV.ptr o1 1 0 0, .pt 1 [Sl.enc aX_.entries]), (AV.ptr o5 1 0 0, .pt 2 [iv aM_.default, Sl.enc aM_.bigrams]), (x26, obS (c24.entries : Sl Entry)), (x31, obS (c29.bigrams : Sl Bigram))] ++ D2 (A := Lattice) x19 ps22) := Hold.rot O33
          refine kCo he_q60 (kB9 _ _) (fun c34 => ?_)
          refine kGj (A := ByteArray) O33 (fun x36 h37 O38 => ?_)
          replace O38 : Hold B h37 ([(AV.ptr o1 1 0 0, .pt 1 [Sl.enc aX_.entries]), (AV.ptr o5 1 0 0, .pt 2 [iv aM_.default, Sl.enc aM_.bigrams]), (x26, obS (c24.entries : Sl Entry)), (x31, obS (c29.bigrams : Sl Bigram)), (x36, obS (c34 : Sl ByteArray))] ++ D2 (A := Lattice) x19 ps22) := Hold.rot O38
          refine sim_callQ4 he_q67 ((D2.snapD (l := [(AV.ptr o1 1 0 0, .pt 1 [Sl.enc aX_.entries]), (AV.ptr o5 1 0 0, .pt 2 [iv aM_.default, Sl.enc aM_.bigrams]), (x26, obS (c24.entries : Sl Entry)), (x31, obS (c29.bigrams : Sl Bigram)), (x36, obS (c34 : Sl ByteArray))]) (x := x19) (ps := ps22) (A := Lattice) O38 hp23).2) (kE2 h37 c24 rfl (by simp [kBm, O38.snap7 (A := Entry) (s := c24.entries) 2 rfl])) (kE2 h37 c29 rfl (by simp [kBm, O38.snap7 (A := Bigram) (s := c29.bigrams) 3 rfl])) ((O38.tab (A := ByteArray) (s := c34) 4 rfl).snap) (fun c39 => ?_)
          refine kAm (kAb (by rfl) _ _) ?_
          refine kA1 (v := iv c39.1) rfl ?_
          refine kA1 (v := iv c39.2) rfl ?_
          refine kBp he_q57 (kB9 _ _) (fun c40 => ?_)
          refine sim_handN (l := ([(AV.ptr o1 1 0 0, .pt 1 [Sl.enc aX_.entries]), (AV.ptr o5 1 0 0, .pt 2 [iv aM_.default, Sl.enc aM_.bigrams]), (x26, obS (c24.entries : Sl Entry)), (x31, obS (c29.bigrams : Sl Bigram)), (x36, obS (c34 : Sl ByteArray))] ++ D2 (A := Lattice) x19 ps22)) (A := Lattice) O38 (fun x42 ps45 h43 hp46 O44 => ?_)
          refine kA1 (v := AV.agg [Sl.enc aX_.entries]) (O44.ld 0 rfl true 1 0) ?_
          refine kBp he_q58 (kAu _ aX_ rfl) (fun c47 => ?_)
          refine kEj O44 (c47.entries : Sl Entry) (fun z1 => AV.agg [z1]) (by intro b; simp only [kH2, kFi, kHh, matLc, matLn, mat_iv, mat_bv, mat_sv, mat_bt, kFj, mat_rS, List.append_nil, List.nil_append, List.length_nil, Nat.add_zero]) (by simp only [kGy, kFp, kHj, noF_iv, noF_bv, noF_sv, noF_bt, kFo, noF_rS, List.all_cons, List.all_nil, Bool.and_self]) (fun x49 h50 O51 => ?_)
          replace O51 : Hold B h50 ([(AV.ptr o1 1 0 0, .pt 1 [Sl.enc aX_.entries]), (AV.ptr o5 1 0 0, .pt 2 [iv aM_.default, Sl.enc aM_.bigrams]), (x26, obS (c24.entries : Sl Entry)), (x31, obS (c29.bigrams : Sl Bigram)), (x36, obS (c34 : Sl ByteArray)), (x49, obS (c47.entries : Sl Entry))] ++ D2 (A := Lattice) x19 ps22 ++ D2 (A := Lattice) x42 ps45) := Hold.rot2 O51
          refine kAv O51 (cs := [kBv]) (by first | rfl | simp) (fun o52 h53 O54 => ?_)
          replace O54 : Hold B h53 ([(AV.ptr o1 1 0 0, .pt 1 [Sl.enc aX_.entries]), (AV.ptr o5 1 0 0, .pt 2 [iv aM_.default, Sl.enc aM_.bigrams]), (x26, obS (c24.entries : Sl Entry)), (x31, obS (c29.bigrams : Sl Bigram)), (x36, obS (c34 : Sl ByteArray)), (x49, obS (c47.entries : Sl Entry)), (AV.ptr o52 1 0 0, .pt 1 [kBv])] ++ D2 (A := Lattice) x19 ps22 ++ D2 (A := Lattice) x42 ps45) := Hold.rot2 O54
          refine kBr O54 6 (cs' := [x49]) rfl (by first | rfl | simp [(O54.one (A := Entry) (s := c47.entries) 5 rfl).1, (O54.one (A := Entry) (s := c47.entries) 5 rfl).2]) (by simp) (by first | rfl | simp [(O54.one (A := Entry) (s := c47.entries) 5 rfl).1, (O54.one (A := Entry) (s := c47.entries) 5 rfl).2]) (by first | rfl | simp [kBk, (O54.one (A := Entry) (s := c47.entries) 5 rfl).1, (O54.one (A := Entry) (s := c47.entries) 5 rfl).2]) (fun h56 O57 => ?_)
          replace O57 : Hold B h56 ([(AV.ptr o1 1 0 0, .pt 1 [Sl.enc aX_.entries]), (AV.ptr o5 1 0 0, .pt 2 [iv aM_.default, Sl.enc aM_.bigrams]), (x26, obS (c24.entries : Sl Entry)), (x31, obS (c29.bigrams : Sl Bigram)), (x36, obS (c34 : Sl ByteArray)), (x49, obS (c47.entries : Sl Entry)), (AV.ptr o52 1 0 0, .pt 1 [x49])] ++ D2 (A := Lattice) x19 ps22 ++ D2 (A := Lattice) x42 ps45) := O57
          refine kA1 (v := AV.agg [iv aM_.default, Sl.enc aM_.bigrams]) (O57.ld 1 rfl true 2 0) ?_
          refine kBp he_q59 (kAu _ aM_ rfl) (fun c58 => ?_)
          refine kEj O57 (c58.bigrams : Sl Bigram) (fun z1 => AV.agg [iv c58.default, z1]) (by intro b; simp only [kH2, kFi, kHh, matLc, matLn, mat_iv, mat_bv, mat_sv, mat_bt, kFj, mat_rS, List.append_nil, List.nil_append, List.length_nil, Nat.add_zero]) (by simp only [kGy, kFp, kHj, noF_iv, noF_bv, noF_sv, noF_bt, kFo, noF_rS, List.all_cons, List.all_nil, Bool.and_self]) (fun x60 h61 O62 => ?_)
          replace O62 : Hold B h61 ([(AV.ptr o1 1 0 0, .pt 1 [Sl.enc aX_.entries]), (AV.ptr o5 1 0 0, .pt 2 [iv aM_.default, Sl.enc aM_.bigrams]), (x26, obS (c24.entries : Sl Entry)), (x31, obS (c29.bigrams : Sl Bigram)), (x36, obS (c34 : Sl ByteArray)), (x49, obS (c47.entries : Sl Entry)), (AV.ptr o52 1 0 0, .pt 1 [x49]), (x60, obS (c58.bigrams : Sl Bigram))] ++ D2 (A := Lattice) x19 ps22 ++ D2 (A := Lattice) x42 ps45) := Hold.rot2 O62
          refine kAv O62 (cs := [iv 0, kBv]) (by first | rfl | simp) (fun o63 h64 O65 => ?_)
          replace O65 : Hold B h64 ([(AV.ptr o1 1 0 0, .pt 1 [Sl.enc aX_.entries]), (AV.ptr o5 1 0 0, .pt 2 [iv aM_.default, Sl.enc aM_.bigrams]), (x26, obS (c24.entries : Sl Entry)), (x31, obS (c29.bigrams : Sl Bigram)), (x36, obS (c34 : Sl ByteArray)), (x49, obS (c47.entries : Sl Entry)), (AV.ptr o52 1 0 0, .pt 1 [x49]), (x60, obS (c58.bigrams : Sl Bigram)), (AV.ptr o63 1 0 0, .pt 2 [iv 0, kBv])] ++ D2 (A := Lattice) x19 ps22 ++ D2 (A := Lattice) x42 ps45) := Hold.rot2 O65
          refine kBr O65 8 (cs' := [iv c58.default, x60]) rfl (by first | rfl | simp [(O65.one (A := Bigram) (s := c58.bigrams) 7 rfl).1, (O65.one (A := Bigram) (s := c58.bigrams) 7 rfl).2]) (by simp) (by first | rfl | simp [(O65.one (A := Bigram) (s := c58.bigrams) 7 rfl).1, (O65.one (A := Bigram) (s := c58.bigrams) 7 rfl).2]) (by first | rfl | simp [kBk, (O65.one (A := Bigram) (s := c58.bigrams) 7 rfl).1, (O65.one (A := Bigram) (s := c58.bigrams) 7 rfl).2]) (fun h67 O68 => ?_)
          replace O68 : Hold B h67 ([(AV.ptr o1 1 0 0, .pt 1 [Sl.enc aX_.entries]), (AV.ptr o5 1 0 0, .pt 2 [iv aM_.default, Sl.enc aM_.bigrams]), (x26, obS (c24.entries : Sl Entry)), (x31, obS (c29.bigrams : Sl Bigram)), (x36, obS (c34 : Sl ByteArray)), (x49, obS (c47.entries : Sl Entry)), (AV.ptr o52 1 0 0, .pt 1 [x49]), (x60, obS (c58.bigrams : Sl Bigram)), (AV.ptr o63 1 0 0, .pt 2 [iv c58.default, x60])] ++ D2 (A := Lattice) x19 ps22 ++ D2 (A := Lattice) x42 ps45) := O68
          refine kBp he_q60 (kB9 _ _) (fun c69 => ?_)
          refine kGj (A := ByteArray) O68 (fun x71 h72 O73 => ?_)
          replace O73 : Hold B h72 ([(AV.ptr o1 1 0 0, .pt 1 [Sl.enc aX_.entries]), (AV.ptr o5 1 0 0, .pt 2 [iv aM_.default, Sl.enc aM_.bigrams]), (x26, obS (c24.entries : Sl Entry)), (x31, obS (c29.bigrams : Sl Bigram)), (x36, obS (c34 : Sl ByteArray)), (x49, obS (c47.entries : Sl Entry)), (AV.ptr o52 1 0 0, .pt 1 [x49]), (x60, obS (c58.bigrams : Sl Bigram)), (AV.ptr o63 1 0 0, .pt 2 [iv c58.default, x60]), (x71, obS (c69 : Sl ByteArray))] ++ D2 (A := Lattice) x19 ps22 ++ D2 (A := Lattice) x42 ps45) := Hold.rot2 O73
          refine kA1 (v := AV.agg [x49]) (O73.ld 6 rfl true 1 0) ?_
          refine kA1 (v := AV.agg [iv c58.default, x60]) (O73.ld 8 rfl true 2 0) ?_
          refine sim_call4 he_q7 ((D2.snapD (l := ([(AV.ptr o1 1 0 0, .pt 1 [Sl.enc aX_.entries]), (AV.ptr o5 1 0 0, .pt 2 [iv aM_.default, Sl.enc aM_.bigrams]), (x26, obS (c24.entries : Sl Entry)), (x31, obS (c29.bigrams : Sl Bigram)), (x36, obS (c34 : Sl ByteArray)), (x49, obS (c47.entries : Sl Entry)), (AV.ptr o52 1 0 0, .pt 1 [x49]), (x60, obS (c58.bigrams : Sl Bigram)), (AV.ptr o63 1 0 0, .pt 2 [iv c58.default, x60]), (x71, obS (c69 : Sl ByteArray))] ++ D2 (A := Lattice) x19 ps22)) (x := x42) (ps := ps45) (A := Lattice) O73 hp46).2) (kE2 h72 c47 rfl (by simp [kBm, O73.snap7 (A := Entry) (s := c47.entries) 5 rfl])) (kE2 h72 c58 rfl (by simp [kBm, O73.snap7 (A := Bigram) (s := c58.bigrams) 7 rfl])) ((O73.tab (A := ByteArray) (s := c69) 9 rfl).snap) (fun c74 => ?_)
          refine kAm (kAb (by rfl) _ _) ?_
          refine kA1 (v := iv c74.1) rfl ?_
          refine kA1 (v := iv c74.2) rfl ?_
          refine kA1 (v := bv (!decide (c74.1 = c39.1))) (kCi _ _) ?_
          refine kBt (e := bv) (fun hb75 => ?_) (fun c76 => ?_)
          · refine kA1 (v := bv (!decide (c74.2 = c39.2))) (kCi _ _) ?_
            exact kA5 rfl
          · refine kA1 (v := bv (bif !decide (c74.1 = c39.1) then true else c76)) (kCh _ _ _) ?_
            refine kAa (fun c77 => ?_) (fun c77 => ?_)
            · exact kA5 (kA3 (by rfl) _)
            · refine kBp he_q57 (kB9 _ _) (fun c78 => ?_)
              refine sim_handN (l := ([(AV.ptr o1 1 0 0, .pt 1 [Sl.enc aX_.entries]), (AV.ptr o5 1 0 0, .pt 2 [iv aM_.default, Sl.enc aM_.bigrams]), (x26, obS (c24.entries : Sl Entry)), (x31, obS (c29.bigrams : Sl Bigram)), (x36, obS (c34 : Sl ByteArray)), (x49, obS (c47.entries : Sl Entry)), (AV.ptr o52 1 0 0, .pt 1 [x49]), (x60, obS (c58.bigrams : Sl Bigram)), (AV.ptr o63 1 0 0, .pt 2 [iv c58.default, x60]), (x71, obS (c69 : Sl ByteArray))] ++ D2 (A := Lattice) x19 ps22 ++ D2 (A := Lattice) x42 ps45)) (A := Lattice) O73 (fun x80 ps83 h81 hp84 O82 => ?_)
              refine kBg he_q35 ((D2.snapD (l := ([(AV.ptr o1 1 0 0, .pt 1 [Sl.enc aX_.entries]), (AV.ptr o5 1 0 0, .pt 2 [iv aM_.default, Sl.enc aM_.bigrams]), (x26, obS (c24.entries : Sl Entry)), (x31, obS (c29.bigrams : Sl Bigram)), (x36, obS (c34 : Sl ByteArray)), (x49, obS (c47.entries : Sl Entry)), (AV.ptr o52 1 0 0, .pt 1 [x49]), (x60, obS (c58.bigrams : Sl Bigram)), (AV.ptr o63 1 0 0, .pt 2 [iv c58.default, x60]), (x71, obS (c69 : Sl ByteArray))] ++ D2 (A := Lattice) x19 ps22 ++ D2 (A := Lattice) x80 ps83)) (x := x42) (ps := ps45) (A := Lattice) (Hold.sw31 O82) hp46).2) ((D2.snapD (l := ([(AV.ptr o1 1 0 0, .pt 1 [Sl.enc aX_.entries]), (AV.ptr o5 1 0 0, .pt 2 [iv aM_.default, Sl.enc aM_.bigrams]), (x26, obS (c24.entries : Sl Entry)), (x31, obS (c29.bigrams : Sl Bigram)), (x36, obS (c34 : Sl ByteArray)), (x49, obS (c47.entries : Sl Entry)), (AV.ptr o52 1 0 0, .pt 1 [x49]), (x60, obS (c58.bigrams : Sl Bigram)), (AV.ptr o63 1 0 0, .pt 2 [iv c58.default, x60]), (x71, obS (c69 : Sl ByteArray))] ++ D2 (A := Lattice) x19 ps22 ++ D2 (A := Lattice) x42 ps45)) (x := x80) (ps := ps83) (A := Lattice) O82 hp84).2) (fun c85 => ?_)
              refine kAm (kAb (by rfl) _ _) ?_
              refine kA1 (v := bv (!c85)) (kBq _) ?_
              refine kAa (fun c86 => ?_) (fun c86 => ?_)
              · exact kA5 (kA3 (by rfl) _)
              · refine kA1 (v := AV.agg [x49]) (O82.ld 6 rfl true 1 0) ?_
                refine kA1 (v := AV.agg [Sl.enc aX_.entries]) (O82.ld 0 rfl true 1 0) ?_
                refine kCo he_q58 (kAu _ aX_ rfl) (fun c87 => ?_)
                refine kEj O82 (c87.entries : Sl Entry) (fun z1 => AV.agg [z1]) (by intro b; simp only [kH2, kFi, kHh, matLc, matLn, mat_iv, mat_bv, mat_sv, mat_bt, kFj, mat_rS, List.append_nil, List.nil_append, List.length_nil, Nat.add_zero]) (by simp only [kGy, kFp, kHj, noF_iv, noF_bv, noF_sv, noF_bt, kFo, noF_rS, List.all_cons, List.all_nil, Bool.and_self]) (fun x89 h90 O91 => ?_)
                replace O91 : Hold B h90 ([(AV.ptr o1 1 0 0, .pt 1 [Sl.enc aX_.entries]), (AV.ptr o5 1 0 0, .pt 2 [iv aM_.default, Sl.enc aM_.bigrams]), (x26, obS (c24.entries : Sl Entry)), (x31, obS (c29.bigrams : Sl Bigram)), (x36, obS (c34 : Sl ByteArray)), (x49, obS (c47.entries : Sl Entry)), (AV.ptr o52 1 0 0, .pt 1 [x49]), (x60, obS (c58.bigrams : Sl Bigram)), (AV.ptr o63 1 0 0, .pt 2 [iv c58.default, x60]), (x71, obS (c69 : Sl ByteArray)), (x89, obS (c87.entries : Sl Entry))] ++ D2 (A := Lattice) x19 ps22 ++ D2 (A := Lattice) x42 ps45 ++ D2 (A := Lattice) x80 ps83) := Hold.rot3 O91
                refine kC3 he_q36 (kE2 h90 c47 rfl (by simp [kBm, O91.snap7 (A := Entry) (s := c47.entries) 5 rfl])) (kE2 h90 c87 rfl (by simp [kBm, O91.snap7 (A := Entry) (s := c87.entries) 10 rfl])) (fun c92 => ?_)
                refine kAm (kAb (by rfl) _ _) ?_
                refine kA1 (v := bv (!c92)) (kBq _) ?_
                refine kAa (fun c93 => ?_) (fun c93 => ?_)
                · exact kA5 (kA3 (by rfl) _)
                · refine kA1 (v := AV.agg [iv c58.default, x60]) (O91.ld 8 rfl true 2 0) ?_
                  refine kA1 (v := AV.agg [iv aM_.default, Sl.enc aM_.bigrams]) (O91.ld 1 rfl true 2 0) ?_
                  refine kCo he_q59 (kAu _ aM_ rfl) (fun c94 => ?_)
                  refine kEj O91 (c94.bigrams : Sl Bigram) (fun z1 => AV.agg [iv c94.default, z1]) (by intro b; simp only [kH2, kFi, kHh, matLc, matLn, mat_iv, mat_bv, mat_sv, mat_bt, kFj, mat_rS, List.append_nil, List.nil_append, List.length_nil, Nat.add_zero]) (by simp only [kGy, kFp, kHj, noF_iv, noF_bv, noF_sv, noF_bt, kFo, noF_rS, List.all_cons, List.all_nil, Bool.and_self]) (fun x96 h97 O98 => ?_)
                  replace O98 : Hold B h97 ([(AV.ptr o1 1 0 0, .pt 1 [Sl.enc aX_.entries]), (AV.ptr o5 1 0 0, .pt 2 [iv aM_.default, Sl.enc aM_.bigrams]), (x26, obS (c24.entries : Sl Entry)), (x31, obS (c29.bigrams : Sl Bigram)), (x36, obS (c34 : Sl ByteArray)), (x49, obS (c47.entries : Sl Entry)), (AV.ptr o52 1 0 0, .pt 1 [x49]), (x60, obS (c58.bigrams : Sl Bigram)), (AV.ptr o63 1 0 0, .pt 2 [iv c58.default, x60]), (x71, obS (c69 : Sl ByteArray)), (x89, obS (c87.entries : Sl Entry)), (x96, obS (c94.bigrams : Sl Bigram))] ++ D2 (A := Lattice) x19 ps22 ++ D2 (A := Lattice) x42 ps45 ++ D2 (A := Lattice) x80 ps83) := Hold.rot3 O98
                  refine kC3 he_q37 (kE2 h97 c58 rfl (by simp [kBm, O98.snap7 (A := Bigram) (s := c58.bigrams) 7 rfl])) (kE2 h97 c94 rfl (by simp [kBm, O98.snap7 (A := Bigram) (s := c94.bigrams) 11 rfl])) (fun c99 => ?_)
                  refine kAm (kAb (by rfl) _ _) ?_
                  refine kA1 (v := bv (!c99)) (kBq _) ?_
                  refine kAa (fun c100 => ?_) (fun c100 => ?_)
                  · exact kA5 (kA3 (by rfl) _)
                  · refine kBp he_q60 (kB9 _ _) (fun c101 => ?_)
                    refine kGj (A := ByteArray) O98 (fun x103 h104 O105 => ?_)
                    replace O105 : Hold B h104 ([(AV.ptr o1 1 0 0, .pt 1 [Sl.enc aX_.entries]), (AV.ptr o5 1 0 0, .pt 2 [iv aM_.default, Sl.enc aM_.bigrams]), (x26, obS (c24.entries : Sl Entry)), (x31, obS (c29.bigrams : Sl Bigram)), (x36, obS (c34 : Sl ByteArray)), (x49, obS (c47.entries : Sl Entry)), (AV.ptr o52 1 0 0, .pt 1 [x49]), (x60, obS (c58.bigrams : Sl Bigram)), (AV.ptr o63 1 0 0, .pt 2 [iv c58.default, x60]), (x71, obS (c69 : Sl ByteArray)), (x89, obS (c87.entries : Sl Entry)), (x96, obS (c94.bigrams : Sl Bigram)), (x103, obS (c101 : Sl ByteArray))] ++ D2 (A := Lattice) x19 ps22 ++ D2 (A := Lattice) x42 ps45 ++ D2 (A := Lattice) x80 ps83) := Hold.rot3 O105
                    refine kBg he_q38 ((O105.tab (A := ByteArray) (s := c69) 9 rfl).snap) ((O105.tab (A := ByteArray) (s := c101) 12 rfl).snap) (fun c106 => ?_)
                    refine kAm (kAb (by rfl) _ _) ?_
                    refine kA1 (v := bv (!c106)) (kBq _) ?_
                    refine kAa (fun c107 => ?_) (fun c107 => ?_)
                    · exact kA5 (kA3 (by rfl) _)
                    · exact kA5 (kA3 (by rfl) _)
theorem tt_q27 : kAi Try.prog n_q27 (C4 (fun c : Bool => enc c) t_q27) := pureC4 (kB7 tt_q7 (kB7 tt_q35 (kB7 tt_q36 (kB7 tt_q37 (kB7 tt_q38 (kB7 tt_q46 (kB7 tt_q47 (kB7 tt_q48 (kB7 tt_q49 (kB7 tt_q57 (kB7 tt_q58 (kB7 tt_q59 (kB7 tt_q60 (kB7 tt_q67 E0)))))))))))))) kBb hb_q27 fun aList_ aX_ aM_ aWords_ => ts_q27 _ (by simp [kBw]) (by simp [kBw]) (by simp [kBw]) (by simp [kBw]) (by simp [kBw]) (by simp [kBw]) (by simp [kBw]) (by simp [kBw]) (by simp [kBw]) (by simp [kBw]) (by simp [kBw]) (by simp [kBw]) (by simp [kBw]) (by simp [kBw]) aList_ aX_ aM_ aWords_
structure SK (s : l00Src) (k : Int) : Prop where
  lo : 0 ≤ s.pos
  hi : s.pos ≤ k
theorem SK.mono {s : l00Src} {k k' : Int} (h : SK s k) (hk : k ≤ k') : SK s k' := ⟨h.lo, by have := h.hi; omega⟩
theorem kCf {k n : Nat} (h : k < n) (hn : n ≤ 4294967296) : wr ((k : Int) + 1) = ((k + 1 : Nat) : Int) := by
  rw [kDt (by omega) (by omega)]
  omega
theorem kCj {A : Type} {l : List A} {k : Nat} {a : A} (h : l[k]? = some a) : k < l.length := (List.getElem?_eq_some_iff.1 h).1
theorem firstL_no {A R : Type} {f : Nat → A → Option R} : ∀ {l : List A} {k : Nat}, kCw f l k = none → ∀ i a, l[i]? = some a → f (k + i) a = none
  | [], _, _, i, a, ha => by simp at ha
  | b :: l, k, h, i, a, ha => by
    unfold kCw at h
    cases e : f k b with
    | some r => rw [e] at h; cases h
    | none =>
      rw [e] at h
      cases i with
      | zero =>
        simp only [List.getElem?_cons_zero, Option.some.injEq] at ha
        subst ha
        exact e
      | succ i =>
        have := firstL_no h i a (by simpa using ha)
        rw [← this]
        congr 1
        omega
theorem firstL_so {A R : Type} {f : Nat → A → Option R} : ∀ {l : List A} {k : Nat} {r : R}, kCw f l k = some r → ∃ i a, f i a = some r
  | [], _, _, h => by cases h
  | b :: l, k, r, h => by
    unfold kCw at h
    cases e : f k b with
    | some r' => rw [e] at h; cases h; exact ⟨k, b, e⟩
    | none => rw [e] at h; exact firstL_so h
def pt (l : List Point) (i : Nat) : Point := l.getD i ⟨0, 0, 0⟩
def Pre (p q i j : Nat) : Prop := (i = p + 1 ∧ j = q + 1) ∨ (i = p + 1 ∧ j = q) ∨ (i = p ∧ j = q + 1)
inductive Pth (C : Nat → Nat → Int) (R : Nat → Nat → Prop) : Nat → Nat → Int → Prop
  | start : R 0 0 → Pth C R 0 0 (C 0 0)
  | step {p q i j : Nat} {c : Int} : Pth C R p q c → Pre p q i j → R i j → Pth C R i j (c + C i j)
theorem Pth.bound {C : Nat → Nat → Int} {R : Nat → Nat → Prop} {K : Int} (hC : ∀ i j, 0 ≤ C i j ∧ C i j ≤ K) {i j : Nat} {c : Int} (h : Pth C R i j c) : 0 ≤ c ∧ c ≤ K * ((i + j + 1 : Nat) : Int) := by
  have hK : 0 ≤ K := Int.le_trans (hC 0 0).1 (hC 0 0).2
  induction h with
  | start h => have := hC 0 0; simp; omega
  | @step p q i j c h1 h2 h3 ih =>
    have := hC i j
    have e : K * ((p + q + 1 : Nat) : Int) + K ≤ K * ((i + j + 1 : Nat) : Int) := by
      have e1 : K * ((p + q + 1 : Nat) : Int) + K = K * ((p + q + 2 : Nat) : Int) := by
        have e2 : ((p + q + 2 : Nat) : Int) = ((p + q + 1 : Nat) : Int) + 1 := by omega
        rw [e2, Int.mul_add, Int.mul_one]
      rw [e1]
      apply Int.mul_le_mul_of_nonneg_left _ hK
      rcases h2 with h2 | h2 | h2 <;> omega
    omega
theorem Pth.mono {C D : Nat → Nat → Int} {R S : Nat → Nat → Prop} {i j : Nat} {c : Int} (h : Pth C R i j c) (hR : ∀ p q, p ≤ i → q ≤ j → R p q → S p q) (hC : ∀ p q, p ≤ i → q ≤ j → C p q = D p q) : Pth D S i j c := by
  induction h with
  | start h =>
    rw [hC 0 0 (Nat.le_refl _) (Nat.le_refl _)]
    exact .start (hR 0 0 (Nat.le_refl _) (Nat.le_refl _) h)
  | @step p q i j c h1 h2 h3 ih =>
    have hle : p ≤ i ∧ q ≤ j := by rcases h2 with h | h | h <;> omega
    rw [hC i j (Nat.le_refl _) (Nat.le_refl _)]
    exact .step (ih (fun a b h4 h5 => hR a b (by omega) (by omega)) (fun a b h4 h5 => hC a b (by omega) (by omega))) h2 (hR i j (Nat.le_refl _) (Nat.le_refl _) h3)
def Val (T : List (Sl Int)) (p q : Nat) (v : Int) : Prop := ∃ row, T[p]? = some (some row) ∧ row[q]? = some v
theorem Val.set {T : List (Sl Int)} {i j p q : Nat} {row : List Int} {v w : Int} (hr : T[i]? = some (some row)) (hj : j < row.length) :
    Val (T.set i (some (row.set j w))) p q v ↔ (p = i ∧ q = j ∧ v = w) ∨ (¬ (p = i ∧ q = j) ∧ Val T p q v) := by
  have hi := kCj hr
  unfold Val
  constructor
  · rintro ⟨r, h1, h2⟩
    by_cases c : i = p
    · subst c
      rw [List.getElem?_set_self hi] at h1
      cases h1
      by_cases d : j = q
      · subst d
        rw [List.getElem?_set_self hj] at h2
        cases h2
        exact .inl ⟨rfl, rfl, rfl⟩
      · rw [List.getElem?_set_ne d] at h2
        exact .inr ⟨fun h => d h.2.symm, row, hr, h2⟩
    · rw [List.getElem?_set_ne c] at h1
      exact .inr ⟨fun h => c h.1.symm, r, h1, h2⟩
  · rintro (⟨rfl, rfl, rfl⟩ | ⟨hne, r, h1, h2⟩)
    · exact ⟨_, List.getElem?_set_self hi, List.getElem?_set_self hj⟩
    · by_cases c : i = p
      · subst c
        rw [hr] at h1
        cases h1
        have d : j ≠ q := fun h => hne ⟨rfl, h.symm⟩
        exact ⟨_, List.getElem?_set_self hi, by rw [List.getElem?_set_ne d]; exact h2⟩
      · exact ⟨r, by rw [List.getElem?_set_ne c]; exact h1, h2⟩
def PF (C : Nat → Nat → Int) (f i j : Nat) (c : Int) : Prop := f ≤ j ∧ Pth (fun p q => C p (q + f)) (fun _ _ => True) i (j - f) c
theorem PF.start {C : Nat → Nat → Int} (j : Nat) : PF C j 0 j (C 0 j) := by
  refine ⟨Nat.le_refl _, ?_⟩
  have h := Pth.start (C := fun p q => C p (q + j)) (R := fun _ _ => True) trivial
  simp only [Nat.zero_add] at h
  rw [Nat.sub_self]
  exact h
theorem PF.bound {C : Nat → Nat → Int} {K : Int} (hC : ∀ i j, 0 ≤ C i j ∧ C i j ≤ K) {f i j : Nat} {c : Int} (h : PF C f i j c) (hi : i ≤ 72) (hj : j ≤ 72) : 0 ≤ c ∧ c ≤ K * 145 := by
  obtain ⟨h1, h2⟩ := h
  have b := h2.bound (K := K) (fun p q => hC p (q + f))
  have hK : 0 ≤ K := Int.le_trans (hC 0 0).1 (hC 0 0).2
  have m : K * ((i + (j - f) + 1 : Nat) : Int) ≤ K * 145 := Int.mul_le_mul_of_nonneg_left (by omega) hK
  omega
def PVal (T : List (Sl Part)) (p q : Nat) (v : Part) : Prop := ∃ row, T[p]? = some (some row) ∧ row[q]? = some v
theorem PVal.set {T : List (Sl Part)} {i j p q : Nat} {row : List Part} {v w : Part} (hr : T[i]? = some (some row)) (hj : j < row.length) :
    PVal (T.set i (some (row.set j w))) p q v ↔ (p = i ∧ q = j ∧ v = w) ∨ (¬ (p = i ∧ q = j) ∧ PVal T p q v) := by
  have hi := kCj hr
  unfold PVal
  constructor
  · rintro ⟨r, h1, h2⟩
    by_cases c : i = p
    · subst c
      rw [List.getElem?_set_self hi] at h1
      cases h1
      by_cases d : j = q
      · subst d
        rw [List.getElem?_set_self hj] at h2
        cases h2
        exact .inl ⟨rfl, rfl, rfl⟩
      · rw [List.getElem?_set_ne d] at h2
        exact .inr ⟨fun h => d h.2.symm, row, hr, h2⟩
    · rw [List.getElem?_set_ne c] at h1
      exact .inr ⟨fun h => c h.1.symm, r, h1, h2⟩
  · rintro (⟨rfl, rfl, rfl⟩ | ⟨hne, r, h1, h2⟩)
    · exact ⟨_, List.getElem?_set_self hi, List.getElem?_set_self hj⟩
    · by_cases c : i = p
      · subst c
        rw [hr] at h1
        cases h1
        have d : j ≠ q := fun h => hne ⟨rfl, h.symm⟩
        exact ⟨_, List.getElem?_set_self hi, by rw [List.getElem?_set_ne d]; exact h2⟩
      · exact ⟨r, by rw [List.getElem?_set_ne c]; exact h1, h2⟩
def bnd (p c : Int) : Int := Int.tmod (c - p + 8 + 3) 8 - 3
def d2 (a b : Point) : Int := (a.x - b.x) * (a.x - b.x) + (a.y - b.y) * (a.y - b.y)
structure InB (a b : Box) : Prop where
  x1 : b.x1 ≤ a.x1
  y1 : b.y1 ≤ a.y1
  x2 : a.x2 ≤ b.x2
  y2 : a.y2 ≤ b.y2
theorem InB.trans {a b c : Box} (h : InB a b) (g : InB b c) : InB a c := ⟨Int.le_trans g.x1 h.x1, Int.le_trans g.y1 h.y1, Int.le_trans h.x2 g.x2, Int.le_trans h.y2 g.y2⟩
def nearQ (n d : Int) : Int := (2 * n + d) / (2 * d)
def nrm1 (w S u : Int) : Int := (255 - w * 255 / S) / 2 + nearQ (u * 255) S
def side (b : Box) : Int := max (max (b.x2 - b.x1) (b.y2 - b.y1)) 1
def nrm (b : Box) (p : Spot) : Spot := ⟨nrm1 (b.x2 - b.x1) (side b) (p.x - b.x1), nrm1 (b.y2 - b.y1) (side b) (p.y - b.y1)⟩
def inQ (b : Box) (p : Spot) : Bool := kB5 p.x b.x1 b.x2 && kB5 p.y b.y1 b.y2
def NR (L : List Spot) (b : Box) (q : Sl Spot) (n : Int) : Prop := (n = 0 ∧ validBox b = true ∧ (∀ p ∈ L, inQ b p = true) ∧ q.getD [] = L.map (nrm b)) ∨ (q = none ∧ ((n = 1 ∧ validBox b = false) ∨ (n = 2 ∧ validBox b = true ∧ ∃ p ∈ L, inQ b p = false)))
theorem NR.same {L : List Spot} {b : Box} {q q' : Sl Spot} {n n' : Int} (h : NR L b q n) (h' : NR L b q' n') : n = n' ∧ q.getD [] = q'.getD [] := by
  rcases h with ⟨rfl, h1, h2, h3⟩ | ⟨rfl, ⟨rfl, h1⟩ | ⟨rfl, h1, p, h2, h3⟩⟩ <;> rcases h' with ⟨rfl, g1, g2, g3⟩ | ⟨rfl, ⟨rfl, g1⟩ | ⟨rfl, g1, p', g2, g3⟩⟩
  · exact ⟨rfl, by rw [h3, g3]⟩
  · rw [h1] at g1; cases g1
  · rw [h2 _ g2] at g3; cases g3
  · rw [h1] at g1; cases g1
  · exact ⟨rfl, rfl⟩
  · rw [h1] at g1; cases g1
  · rw [g2 _ h2] at h3; cases h3
  · rw [h1] at g1; cases g1
  · exact ⟨rfl, rfl⟩
theorem mapLoop {A B : Type} (d : B) (f : A → B) (l : List A) (hl : l.length ≤ 4294967296) (step : ((Sl B) × Int) → Option (Sum ((Sl B) × Int) (Sl B)))
    (next : ∀ (M : List B) (k : Nat) (a : A), M.length = l.length → l[k]? = some a → step (some M, (k : Int)) = some (.inl (some (M.set k (f a)), wr ((k : Int) + 1))))
    (fin : ∀ w : Sl B, step (w, ((l.length : Nat) : Int)) = some (.inr w)) : kAw step (some (List.replicate l.length d), 0) = some (some (l.map f)) := by
  obtain ⟨r, h1, h2⟩ := kDo (step := step) (fun k t => ∃ M, t = (some M, (k : Int)) ∧ M.length = l.length ∧ ∀ j, j < k → M[j]? = (l.map f)[j]?) l.length (fun r => r = some (l.map f))
    (fun k t hk ht => by
      obtain ⟨M, rfl, m1, m2⟩ := ht
      obtain ⟨a, ha⟩ : ∃ a, l[k]? = some a := ⟨l[k], List.getElem?_eq_getElem hk⟩
      have e := next M k a m1 ha
      rw [kCf hk hl] at e
      refine .inl ⟨_, e, _, rfl, by rw [List.length_set, m1], fun j hj => ?_⟩
      by_cases c : j = k
      · subst c
        rw [List.getElem?_set_self (by omega), List.getElem?_map, ha]
        rfl
      · rw [List.getElem?_set_ne (fun h => c h.symm)]
        exact m2 j (by omega))
    (fun t ht => by
      obtain ⟨M, rfl, m1, m2⟩ := ht
      refine ⟨_, fin _, ?_⟩
      congr 1
      apply List.ext_getElem?
      intro j
      by_cases c : j < l.length
      · exact m2 j c
      · rw [List.getElem?_eq_none (by omega), List.getElem?_eq_none (by simp; omega)])
    (s := (some (List.replicate l.length d), 0)) ⟨_, rfl, by simp, fun j hj => by omega⟩
  rw [h1, h2]
theorem kFg {A : Type} (d : A) {n : Nat} (h : n ≤ 4294967296) : kH8 d ((n : Nat) : Int) = some (List.replicate n d) := by
  unfold kH8
  rw [if_pos ⟨by omega, by omega⟩, Int.toNat_natCast]
theorem eqLoop {step : Int → Option (Sum Int (Sum Unit Bool))} (n : Nat) (hn : n ≤ 4294967296) (next : ∀ k : Nat, k < n → step (k : Int) = some (.inl (wr ((k : Int) + 1)))) (fin : step ((n : Nat) : Int) = some (.inr (.inl ()))) : kAw step 0 = some (.inl ()) := by
  obtain ⟨r, h1, h2⟩ := kDo (step := step) (fun k t => t = (k : Int)) n (fun r => r = .inl ())
    (fun k t hk ht => by
      subst ht
      have e := next k hk
      rw [kCf hk hn] at e
      exact .inl ⟨_, e, rfl⟩)
    (fun t ht => by
      subst ht
      exact ⟨_, fin, rfl⟩) (s := 0) rfl
  rw [h1, h2]
theorem szLoop {A : Type} (wt : A → Nat) (l : List A) (hl : l.length ≤ 1048576) (step : (Int × Int) → Option (Sum (Int × Int) (Sum Int Int)))
    (next : ∀ (w : Int) (k : Nat) (a : A), 0 ≤ w → w ≤ 1048576 → l[k]? = some a → step (w, (k : Int)) = some (.inr (.inr (-1))) ∨ ((wt a : Nat) : Int) ≤ w ∧ step (w, (k : Int)) = some (.inl (w - ((wt a : Nat) : Int), wr ((k : Int) + 1))))
    (fin : ∀ w, step (w, ((l.length : Nat) : Int)) = some (.inr (.inl w))) {w0 : Int} (h0 : 0 ≤ w0) (h1 : w0 ≤ 1048576) :
    kAw step (w0, 0) = some (.inr (-1)) ∨ ∃ r, kAw step (w0, 0) = some (.inl r) ∧ 0 ≤ r ∧ r = w0 - (((l.map wt).sum : Nat) : Int) := by
  obtain ⟨r, e, h⟩ := kDo (step := step) (fun k t => ∃ w, t = (w, (k : Int)) ∧ 0 ≤ w ∧ w = w0 - ((((l.take k).map wt).sum : Nat) : Int)) l.length (fun r => r = .inr (-1) ∨ ∃ w, r = .inl w ∧ 0 ≤ w ∧ w = w0 - (((l.map wt).sum : Nat) : Int))
    (fun k t hk ⟨w, ht, w1, w2⟩ => by
      subst ht
      obtain ⟨a, ha⟩ : ∃ a, l[k]? = some a := ⟨l[k], List.getElem?_eq_getElem hk⟩
      rcases next w k a w1 (by omega) ha with h | ⟨h2, h⟩
      · exact .inr ⟨_, h, .inl rfl⟩
      · rw [kCf hk (show l.length ≤ 4294967296 by omega)] at h
        refine .inl ⟨_, h, _, rfl, by omega, ?_⟩
        have e1 : l.take (k + 1) = l.take k ++ [a] := by
          rw [List.take_succ_eq_append_getElem hk]
          rw [List.getElem?_eq_getElem hk] at ha
          rw [Option.some.inj ha]
        rw [e1, List.map_append, List.sum_append, List.map_cons, List.map_nil, List.sum_cons, List.sum_nil]
        omega)
    (fun t ⟨w, ht, w1, w2⟩ => by
      subst ht
      rw [List.take_length] at w2
      exact ⟨_, fin w, .inr ⟨w, rfl, w1, w2⟩⟩)
    (s := (w0, 0)) ⟨w0, rfl, h0, by simp⟩
  rcases h with rfl | ⟨w, rfl, w1, w2⟩
  · exact .inl e
  · exact .inr ⟨w, e, w1, w2⟩
def SzOK {A : Type} (t : A → Int → Option Int) (wt : A → Nat) (a : A) : Prop := ∀ k : Int, 0 ≤ k → k ≤ 1048576 → t a k = some (-1) ∨ ((wt a : Nat) : Int) ≤ k ∧ t a k = some (k - ((wt a : Nat) : Int))
def wtS {A : Type} (wt : A → Nat) (s : Sl A) : Nat := (s.getD []).length + ((s.getD []).map wt).sum
theorem wt_mem {A : Type} {wt : A → Nat} {s : Sl A} {a : A} (h : a ∈ s.getD []) : wt a ≤ wtS wt s := by
  have : ∀ l : List A, a ∈ l → wt a ≤ (l.map wt).sum := by
    intro l
    induction l with
    | nil => intro h; cases h
    | cons b l ih =>
      intro h
      rw [List.map_cons, List.sum_cons]
      rcases List.mem_cons.1 h with rfl | h
      · omega
      · have := ih h
        omega
  have := this _ h
  unfold wtS
  omega
theorem szS_ok {A : Type} {wt : A → Nat} {te : A → Int → Option Int} {s : Sl A} (hb : (s.getD []).length ≤ maxLen) (he : ∀ a ∈ s.getD [], SzOK te wt a) {t : Sl A → Int → Option Int} {step : (Int × Int) → Option (Sum (Int × Int) (Sum Int Int))}
    (ht : ∀ k, t s k = bif decide ((wr (k - (((s.getD []).length : Nat) : Int))) < 0) then some (-1) else kA0 (kAw step (wr (k - (((s.getD []).length : Nat) : Int)), 0)) fun q => match q with | .inl q => some q | .inr q => some q)
    (hs : ∀ (w : Int) (i : Nat) (a : A), (s.getD [])[i]? = some a → step (w, (i : Int)) = kA0 (te a w) fun c => bif decide (c < 0) then some (.inr (.inr (-1))) else some (.inl (c, wr ((i : Int) + 1))))
    (hf : ∀ w, step (w, (((s.getD []).length : Nat) : Int)) = some (.inr (.inl w))) : SzOK t (wtS wt) s := by
  intro k h0 h1
  rw [kHu] at hb
  have ws : wr (k - (((s.getD []).length : Nat) : Int)) = k - (((s.getD []).length : Nat) : Int) := kDt (by omega) (by omega)
  rw [ht, ws]
  by_cases c : k - (((s.getD []).length : Nat) : Int) < 0
  · left
    rw [decide_eq_true c, cond_true]
  · rw [decide_eq_false c, cond_false]
    rcases szLoop wt (s.getD []) (by omega) step (fun w i a w0 w1 ha => by
      rw [hs w i a ha]
      rcases he a (List.mem_of_getElem? ha) w w0 w1 with h | ⟨h2, h⟩
      · left
        rw [h]
        rfl
      · right
        refine ⟨h2, ?_⟩
        rw [h, kA6, decide_eq_false (show ¬ w - ((wt a : Nat) : Int) < 0 by omega), cond_false]) hf (w0 := k - (((s.getD []).length : Nat) : Int)) (by omega) (by omega) with h | ⟨r, h, h2, h3⟩
    · left
      rw [h]
      rfl
    · right
      rw [h]
      have hw : ((wtS wt s : Nat) : Int) = (((s.getD []).length : Nat) : Int) + ((((s.getD []).map wt).sum : Nat) : Int) := by unfold wtS; omega
      refine ⟨by omega, ?_⟩
      rw [kA6]
      refine congrArg some ?_
      omega
end Go.Proofs.Ytcdahloanikigaa
