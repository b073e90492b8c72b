import Derived.Test.YtccoloclaocinaaGreatFnExactFindSentencePartA
namespace Go.Proofs.YtccoloclaocinaaGreat
open Go Go.Eng Go.Eng.Cod
set_option maxRecDepth 100000
set_option linter.unusedVariables false
set_option linter.unusedSimpArgs false
theorem tl1_q84 (env:Nat→Contract) {B:Base} (he_q83:env n_q83=.pure (C2 (fun c:Int=>enc c) tp_q83)) (he_q85:env n_q85=.pure (C2 (fun c:Bool=>enc c) t_q85)) (l_p:Pt Lattice) (x_:Lexicon) (x_p:Pt Lexicon) (x1:AV) (z5:AV) (w6:Sl Fnd) (w9:Int) (a20:Entry) (m21:Nat) (c24:Int) (a27:Entry) (m28:Nat) (a31:Entry) (m32:Nat) (o35:Nat) :kFq (fun (st:Int) tm h41=>match st with | w43=>tm=((AV.fptr (Row.w Lattice) (l_p.tab.map Row.cells) l_p.i 0)::(AV.fptr (Row.w Lexicon) (x_p.tab.map Row.cells) x_p.i 0)::und::und::kB3::z5::(iv w9)::(iv c24)::(AV.ptr o35 1 0 0)::(iv w43)::.top::x1::(iv w9)::(AV.fptr (Row.w Lexicon) (x_p.tab.map Row.cells) x_p.i 0)::(AV.fptr (Row.w Lexicon) (x_p.tab.map Row.cells) x_p.i 0)::(AV.fptr (Row.w Lexicon) (x_p.tab.map Row.cells) x_p.i 0)::(Sl.enc x_.entries)::(iv (((x_.entries.getD []).length:Nat):Int))::(bv (decide (w9<(((x_.entries.getD []).length:Nat):Int))))::.top::.top::(AV.fptr (Row.w Lattice) (l_p.tab.map Row.cells) l_p.i 0)::(AV.fptr (Row.w Lexicon) (x_p.tab.map Row.cells) x_p.i 0)::(AV.fptr (Row.w Lexicon) (x_p.tab.map Row.cells) x_p.i 0)::(AV.fptr (Row.w Lexicon) (x_p.tab.map Row.cells) x_p.i 0)::(Sl.enc x_.entries)::(iv w9)::(elp (Sl.enc x_.entries) m21 0)::(elp (Sl.enc x_.entries) m21 0)::(sv a20.word)::(iv c24)::(iv c24)::(bv (decide (c24<0)))::(AV.fptr (Row.w Lexicon) (x_p.tab.map Row.cells) x_p.i 0)::(AV.fptr (Row.w Lexicon) (x_p.tab.map Row.cells) x_p.i 0)::(AV.fptr (Row.w Lexicon) (x_p.tab.map Row.cells) x_p.i 0)::(Sl.enc x_.entries)::(iv w9)::(elp (Sl.enc x_.entries) m28 0)::(elp (Sl.enc x_.entries) m28 0)::(sv a27.word)::(iv c24)::(AV.fptr (Row.w Lexicon) (x_p.tab.map Row.cells) x_p.i 0)::(AV.fptr (Row.w Lexicon) (x_p.tab.map Row.cells) x_p.i 0)::(AV.fptr (Row.w Lexicon) (x_p.tab.map Row.cells) x_p.i 0)::(Sl.enc x_.entries)::(iv w9)::(elp (Sl.enc x_.entries) m32 0)::(elp (Sl.enc x_.entries) m32 1)::(iv a31.cost)::(AV.agg [sv a27.word,iv c24,iv a31.cost])::z5::(iv (((w6.getD []).length:Nat):Int))::tZ9 13 [.top,.top,.top,.top,.top,.top,.top,.top,.top,.top,.top,.top,.top,.top,und])∧Hold B h41 [(z5,obS (w6:Sl Fnd)),pZ9 o35 3 [sv a27.word,iv c24,iv a31.cost]]) hm1_q84 xm1_q84 (lb1_q84 env) (s1_q84 w6 c24 a27 a31) (fun (q:Int) (r:Res)=>match q with | q46=>∃ (h44:kA9),r=(.exit 2,((AV.fptr (Row.w Lattice) (l_p.tab.map Row.cells) l_p.i 0)::(AV.fptr (Row.w Lexicon) (x_p.tab.map Row.cells) x_p.i 0)::und::und::kB3::z5::(iv w9)::(iv c24)::(AV.ptr o35 1 0 0)::(iv q46)::.top::x1::(iv w9)::(AV.fptr (Row.w Lexicon) (x_p.tab.map Row.cells) x_p.i 0)::(AV.fptr (Row.w Lexicon) (x_p.tab.map Row.cells) x_p.i 0)::(AV.fptr (Row.w Lexicon) (x_p.tab.map Row.cells) x_p.i 0)::(Sl.enc x_.entries)::(iv (((x_.entries.getD []).length:Nat):Int))::(bv (decide (w9<(((x_.entries.getD []).length:Nat):Int))))::.top::.top::(AV.fptr (Row.w Lattice) (l_p.tab.map Row.cells) l_p.i 0)::(AV.fptr (Row.w Lexicon) (x_p.tab.map Row.cells) x_p.i 0)::(AV.fptr (Row.w Lexicon) (x_p.tab.map Row.cells) x_p.i 0)::(AV.fptr (Row.w Lexicon) (x_p.tab.map Row.cells) x_p.i 0)::(Sl.enc x_.entries)::(iv w9)::(elp (Sl.enc x_.entries) m21 0)::(elp (Sl.enc x_.entries) m21 0)::(sv a20.word)::(iv c24)::(iv c24)::(bv (decide (c24<0)))::(AV.fptr (Row.w Lexicon) (x_p.tab.map Row.cells) x_p.i 0)::(AV.fptr (Row.w Lexicon) (x_p.tab.map Row.cells) x_p.i 0)::(AV.fptr (Row.w Lexicon) (x_p.tab.map Row.cells) x_p.i 0)::(Sl.enc x_.entries)::(iv w9)::(elp (Sl.enc x_.entries) m28 0)::(elp (Sl.enc x_.entries) m28 0)::(sv a27.word)::(iv c24)::(AV.fptr (Row.w Lexicon) (x_p.tab.map Row.cells) x_p.i 0)::(AV.fptr (Row.w Lexicon) (x_p.tab.map Row.cells) x_p.i 0)::(AV.fptr (Row.w Lexicon) (x_p.tab.map Row.cells) x_p.i 0)::(Sl.enc x_.entries)::(iv w9)::(elp (Sl.enc x_.entries) m32 0)::(elp (Sl.enc x_.entries) m32 1)::(iv a31.cost)::(AV.agg [sv a27.word,iv c24,iv a31.cost])::z5::(iv (((w6.getD []).length:Nat):Int))::tZ9 13 [.top,.top,.top,.top,.top,.top,.top,.top,.top,.top,.top,.top,.top,.top,und]),h44)∧Hold B h44 [(z5,obS (w6:Sl Fnd)),pZ9 o35 3 [sv a27.word,iv c24,iv a31.cost]]):=by
 refine @kG0 _ _ _ _ _ _ _ _ (fun w43 tm h41 R => ?_)
 obtain ⟨rfl,O42⟩:=R
 rw [e_lb1_q84]
 unfold s1_q84
 dsimp only
 refine kA1 (kDa _ _) ?_
 refine sim_g7T (e:=bv) (fun hb78 => ?_) (fun y85 y86 y87 y88 y89 y90 c84 => ?_)
 ·refine kAp ?_
  refine kA1 (v:=AV.agg [sv a27.word,iv c24,iv a31.cost]) (O42.ld 1 rfl true 3 0) ?_
  refine kAd ?_
  refine kAd ?_
  refine kAd ?_
  refine kAp ?_
  refine kA1 (kCa _ _) ?_
  refine kAd ?_
  refine kAp ?_
  refine kAr (O42.tab (A:=Fnd) (s:=w6) 0 rfl) (fun m80 a79 hi81 hm82 => ?_)
  refine kAd ?_
  refine kAp ?_
  refine kA1 (v:=AV.agg [sv a79.word,iv a79.path,iv a79.own]) ((O42.tab (A:=Fnd) (s:=w6) 0 rfl).ld hm82 true 3 0) ?_
  refine kAd ?_
  refine kCb he_q85 (kAz _ (⟨a27.word,c24,a31.cost⟩:Fnd) rfl) (kAz _ a79 rfl) (fun c83 => ?_)
  refine kAq (kAc (by rfl) _ _) ?_
  exact kA6 rfl
 ·refine kA1 (v:=bv (bif decide (0<w43) then c84 else false)) (kD3 _ _ _) ?_
  refine kAb (fun c91 => ?_) (fun c91 => ?_)
  ·refine kA1 (kCa _ _) ?_
   exact kA6 ⟨rfl,rfl,O42⟩
  ·exact kA6 ⟨nofun,_,rfl,O42⟩
theorem tl0_q84 (env:Nat→Contract) {B:Base} (he_q83:env n_q83=.pure (C2 (fun c:Int=>enc c) tp_q83)) (he_q85:env n_q85=.pure (C2 (fun c:Bool=>enc c) t_q85)) (l_:Lattice) (l_p:Pt Lattice) (hp_l_:l_p.get=some l_) (x_:Lexicon) (x_p:Pt Lexicon) (hp_x_:x_p.get=some x_) (x1:AV) :kFq (fun (st:(Sl Fnd)×Int) tm h7=>match st with | (w6,w9)=>∃ z5,tm=((AV.fptr (Row.w Lattice) (l_p.tab.map Row.cells) l_p.i 0)::(AV.fptr (Row.w Lexicon) (x_p.tab.map Row.cells) x_p.i 0)::und::und::kB3::z5::(iv w9)::tZ9 4 (x1::tZ9 68 [und]))∧Hold B h7 [(z5,obS (w6:Sl Fnd))]) hm0_q84 xm0_q84 (lb0_q84 env) (s0_q84 l_ x_) (fun (q:Sl Fnd) (r:Res)=>match q with | q13=>∃ (q14:Int) (z12:AV) (z15:AV) (z16:AV) (z17:AV) (z18:AV) (h10:kA9),r=(.exit 0,((AV.fptr (Row.w Lattice) (l_p.tab.map Row.cells) l_p.i 0)::(AV.fptr (Row.w Lexicon) (x_p.tab.map Row.cells) x_p.i 0)::und::und::kB3::z12::(iv q14)::z15::z16::z17::z18::x1::tZ9 68 [und]),h10)∧Hold B h10 [(z12,obS (q13:Sl Fnd))]):=by
 refine @kG0 _ _ _ _ _ _ _ _ (fun st tm h7 R => ?_)
 obtain ⟨w6,w9⟩:=st
 obtain ⟨z5,rfl,O8⟩:=R
 rw [e_lb0_q84]
 unfold s0_q84
 dsimp only
 refine kA1 (v:=AV.fptr (Row.w Lexicon) (x_p.tab.map Row.cells) x_p.i 0) rfl ?_
 refine kA1 (v:=AV.fptr (Row.w Lexicon) (x_p.tab.map Row.cells) x_p.i 0) rfl ?_
 refine kA1 (v:=Sl.enc x_.entries) (kC5 hp_x_ false 1 0) ?_
 refine kA1 (Tab.enc h7 x_.entries).len ?_
 refine kA1 (kAl _ _) ?_
 refine kAb (fun c19 => ?_) (fun c19 => ?_)
 ·refine kA1 (v:=AV.fptr (Row.w Lexicon) (x_p.tab.map Row.cells) x_p.i 0) rfl ?_
  refine kA1 (v:=AV.fptr (Row.w Lexicon) (x_p.tab.map Row.cells) x_p.i 0) rfl ?_
  refine kA1 (v:=Sl.enc x_.entries) (kC5 hp_x_ false 1 0) ?_
  refine kAr (Tab.enc h7 x_.entries) (fun m21 a20 hi22 hm23 => ?_)
  refine kA1 (v:=elp (Sl.enc x_.entries) m21 0) ((Tab.enc h7 x_.entries).fld _ _ _) ?_
  refine kA1 (v:=sv a20.word) ((Tab.enc h7 x_.entries).ld hm23 false 1 0) ?_
  refine kE3 (y':=tp_q83 l_p a20.word) (by simp only [tp_q83,hp_l_,kA4]) ?_
  refine kBo he_q83 (kDz _ _ _ _ rfl) (kC4 _ _) (fun c24 => ?_)
  refine kAq (kAc (by rfl) _ _) ?_
  refine kA1 (kAl _ _) ?_
  refine kAb (fun c25 => ?_) (fun c25 => ?_)
  ·refine kA1 (kAj _ _) ?_
   exact kA6 ⟨rfl,_,rfl,O8⟩
  ·refine kA1 (v:=AV.fptr (Row.w Lexicon) (x_p.tab.map Row.cells) x_p.i 0) rfl ?_
   refine kA1 (v:=AV.fptr (Row.w Lexicon) (x_p.tab.map Row.cells) x_p.i 0) rfl ?_
   refine kA1 (v:=Sl.enc x_.entries) (kC5 hp_x_ false 1 0) ?_
   refine kAr (Tab.enc h7 x_.entries) (fun m28 a27 hi29 hm30 => ?_)
   refine kA1 (v:=elp (Sl.enc x_.entries) m28 0) ((Tab.enc h7 x_.entries).fld _ _ _) ?_
   refine kA1 (v:=sv a27.word) ((Tab.enc h7 x_.entries).ld hm30 false 1 0) ?_
   refine kA1 (v:=AV.fptr (Row.w Lexicon) (x_p.tab.map Row.cells) x_p.i 0) rfl ?_
   refine kA1 (v:=AV.fptr (Row.w Lexicon) (x_p.tab.map Row.cells) x_p.i 0) rfl ?_
   refine kA1 (v:=Sl.enc x_.entries) (kC5 hp_x_ false 1 0) ?_
   refine kAr (Tab.enc h7 x_.entries) (fun m32 a31 hi33 hm34 => ?_)
   refine kA1 (v:=elp (Sl.enc x_.entries) m32 1) ((Tab.enc h7 x_.entries).fld _ _ _) ?_
   refine kA1 (v:=iv a31.cost) ((Tab.enc h7 x_.entries).ld hm34 false 1 1) ?_
   refine kA1 (v:=AV.agg [sv a27.word,iv c24,iv a31.cost]) (by first | rfl | simp [kCm,kGf,kAx]) ?_
   refine kAs O8 (cs:=[sv (⟨#[]⟩:ByteArray),iv 0,iv 0]) (by first | rfl | simp) (fun o35 h36 O37 => ?_)
   replace O37:Hold B h36 [(z5,obS (w6:Sl Fnd)),pZ9 o35 3 [sv (⟨#[]⟩:ByteArray),iv 0,iv 0]]:=O37
   refine kAw O37 1 (cs':=[sv a27.word,iv c24,iv a31.cost]) rfl (by first | rfl | simp) (by simp) (by first | rfl | simp) (by first | rfl | simp [kAx]) (fun h39 O40 => ?_)
   replace O40:Hold B h39 [(z5,obS (w6:Sl Fnd)),pZ9 o35 3 [sv a27.word,iv c24,iv a31.cost]]:=O40
   refine kA1 (v:=iv (((w6.getD []).length:Nat):Int)) (O40.tab (A:=Fnd) (s:=w6) 0 rfl).len ?_
   refine kB6 ((tl1_q84 env he_q83 he_q85 l_p x_ x_p x1 z5 w6 w9 a20 m21 c24 a27 m28 a31 m32 o35) ⟨rfl,O40⟩) (fun qq95 r hq => ?_)
   revert hq
   revert qq95
   intro q46 hq
   obtain ⟨h44,rfl,O45⟩:=hq
   rw [e_lk1x2_q84]
   refine kD7 (A:=Fnd) O45 ([]:List Fnd) rfl (by first | rfl | simp [kBy,kEp]) rfl (fun x47 h48 O49 => ?_)
   replace O49:Hold B h48 [(z5,obS (w6:Sl Fnd)),pZ9 o35 3 [sv a27.word,iv c24,iv a31.cost],(x47,obS ((some ([]:List Fnd)):Sl Fnd))]:=O49
   refine sim_subO01 (A:=Fnd) (s:=w6) O49 0 rfl (fun x51 s52 hq53 => ?_)
   refine kDx (A:=Fnd) (s:=(some ([]:List Fnd))) O49 2 (s52.getD []) rfl (src_snap hq53) (by decide) (fun x55 h56 O57 => ?_)
   replace O57:Hold B h56 [(z5,obS (w6:Sl Fnd)),pZ9 o35 3 [sv a27.word,iv c24,iv a31.cost],(x55,obS ((kBv (some ([]:List Fnd)) (s52.getD [])):Sl Fnd))]:=O57
   refine kA1 (v:=AV.agg [sv a27.word,iv c24,iv a31.cost]) (O57.ld 1 rfl true 3 0) ?_
   refine kD7 (A:=Fnd) O57 ([(⟨a27.word,c24,a31.cost⟩:Fnd)]:List Fnd) rfl (by first | rfl | simp [kBy,kEp]) rfl (fun x59 h60 O61 => ?_)
   replace O61:Hold B h60 [(z5,obS (w6:Sl Fnd)),pZ9 o35 3 [sv a27.word,iv c24,iv a31.cost],(x55,obS ((kBv (some ([]:List Fnd)) (s52.getD [])):Sl Fnd)),(x59,obS ((some ([(⟨a27.word,c24,a31.cost⟩:Fnd)]:List Fnd)):Sl Fnd))]:=O61
   refine kDx (A:=Fnd) (s:=(kBv (some ([]:List Fnd)) (s52.getD []))) O61 2 ([(⟨a27.word,c24,a31.cost⟩:Fnd)]:List Fnd) rfl (O61.src (A:=Fnd) (s:=(some ([(⟨a27.word,c24,a31.cost⟩:Fnd)]:List Fnd))) 3 rfl) (by decide) (fun x64 h65 O66 => ?_)
   replace O66:Hold B h65 [(z5,obS (w6:Sl Fnd)),pZ9 o35 3 [sv a27.word,iv c24,iv a31.cost],(x64,obS ((kBv (kBv (some ([]:List Fnd)) (s52.getD [])) ([(⟨a27.word,c24,a31.cost⟩:Fnd)]:List Fnd)):Sl Fnd)),(x59,obS ((some ([(⟨a27.word,c24,a31.cost⟩:Fnd)]:List Fnd)):Sl Fnd))]:=O66
   have O68:Hold B h65 [(z5,obS (w6:Sl Fnd)),pZ9 o35 3 [sv a27.word,iv c24,iv a31.cost],(x64,obS ((kBv (kBv (some ([]:List Fnd)) (s52.getD [])) ([(⟨a27.word,c24,a31.cost⟩:Fnd)]:List Fnd)):Sl Fnd))]:=O66.sel [0,1,2] (by decide) rfl
   refine sim_subO10 (A:=Fnd) (s:=w6) O68 0 rfl (fun x69 s70 hq71 => ?_)
   refine kDx (A:=Fnd) (s:=(kBv (kBv (some ([]:List Fnd)) (s52.getD [])) ([(⟨a27.word,c24,a31.cost⟩:Fnd)]:List Fnd))) O68 2 (s70.getD []) rfl (src_snap hq71) (by decide) (fun x73 h74 O75 => ?_)
   replace O75:Hold B h74 [(z5,obS (w6:Sl Fnd)),pZ9 o35 3 [sv a27.word,iv c24,iv a31.cost],(x73,obS ((kBv (kBv (kBv (some ([]:List Fnd)) (s52.getD [])) ([(⟨a27.word,c24,a31.cost⟩:Fnd)]:List Fnd)) (s70.getD [])):Sl Fnd))]:=O75
   refine kA1 (kAj _ _) ?_
   have O77:Hold B h74 [(x73,obS ((kBv (kBv (kBv (some ([]:List Fnd)) (s52.getD [])) ([(⟨a27.word,c24,a31.cost⟩:Fnd)]:List Fnd)) (s70.getD [])):Sl Fnd))]:=O75.sel [2] (by decide) rfl
   exact kA6 ⟨rfl,_,rfl,O77⟩
 ·exact kA6 ⟨nofun,_,_,_,_,_,_,_,rfl,O8⟩
theorem ts_q84 (env:Nat→Contract) (he_q83:env n_q83=.pure (C2 (fun c:Int=>enc c) tp_q83)) (he_q85:env n_q85=.pure (C2 (fun c:Bool=>enc c) t_q85)) (l_:Lattice) (x_:Lexicon) {l_p:Pt Lattice} (hp_l_:l_p.get=some l_) {x_p:Pt Lexicon} (hp_x_:x_p.get=some x_):Sim (kAm Tryz.prog env n_q84 [AV.fptr (Row.w Lattice) (l_p.tab.map Row.cells) l_p.i 0,AV.fptr (Row.w Lexicon) (x_p.tab.map Row.cells) x_p.i 0] []) (t_q84 l_ x_) fun c p=>release p.2 depth p.1=some ((fun c:(Sl Fnd)=>rS c) c):=by
 have O:=Hold.nil []
 generalize hB:(⟨[],[]⟩:Base)=B at O
 clear hB
 rw [e_q84]
 unfold t_q84
 refine kD7 (A:=Fnd) O ([]:List Fnd) rfl (by first | rfl | simp [kBy,kEp]) rfl (fun x1 h2 O3 => ?_)
 replace O3:Hold B h2 [(x1,obS ((some ([]:List Fnd)):Sl Fnd))]:=O3
 refine kB6 ((tl0_q84 env he_q83 he_q85 l_ l_p hp_l_ x_ x_p hp_x_ x1) ⟨_,rfl,O3⟩) (fun qq98 r hq => ?_)
 revert hq
 revert qq98
 intro q13 hq
 obtain ⟨q14,z12,z15,z16,z17,z18,h10,rfl,O11⟩:=hq
 rw [e_lk0x0_q84]
 exact kA6 (O11.rel (A:=Fnd) (s:=q13) 0 rfl)
theorem tt_q84:kAn Tryz.prog n_q84 (C2 (fun c:(Sl Fnd)=>rS c) tp_q84):=kCe (kBc tt_q83 (kBc tt_q85 E0)) kBd hb_q84 fun l_p x_p=>kCj fun l_ hp_l_=>kCj fun x_ hp_x_=>ts_q84 _ (by simp [kBx]) (by simp [kBx]) l_ x_ hp_l_ hp_x_
def s0_q96 (m_:Model) (first_:ByteArray) (second_:ByteArray):Int→Option (Sum Int (Sum Unit Int)):=fun w3 =>
 bif decide (w3<(((m_.bigrams.getD []).length:Nat):Int)) then
  kA0 (kC7 (m_.bigrams.getD []) w3) fun a13 =>
  kA0 (bif decide (a13.first=first_) then (kA0 (kC7 (m_.bigrams.getD []) w3) fun a18=>some (decide (a18.second=second_))) else some false) fun c22 =>
  bif (bif decide (a13.first=first_) then c22 else false) then
   kA0 (kC7 (m_.bigrams.getD []) w3) fun a24 =>
   some (.inr (.inr a24.cost))
  else
   some (.inl (wr (w3+1)))
 else
  some (.inr (.inl ()))
def t_q96 (m_:Model) (first_:ByteArray) (second_:ByteArray):Option Int :=
 kA0 (kBg (s0_q96 m_ first_ second_) 0) fun qq32=>match qq32 with
 | (.inl _) =>
   some m_.default
 | (.inr q10) =>
   some q10
def tp_q96 (m_p:Pt Model) (first_:ByteArray) (second_:ByteArray):Option Int:=kA0 m_p.get fun m_=>t_q96 m_ first_ second_
theorem tl0_q96 (env:Nat→Contract) {B:Base}  (m_:Model) (m_p:Pt Model) (hp_m_:m_p.get=some m_) (first_:ByteArray) (second_:ByteArray) :kFq (fun (st:Int) tm h1=>match st with | w3=>tm=((AV.fptr (Row.w Model) (m_p.tab.map Row.cells) m_p.i 0)::(sv first_)::(sv second_)::und::und::und::.top::(iv w3)::tZ9 39 [und,und,und,und])∧Hold B h1 []) hm0_q96 xm0_q96 (lb0_q96 env) (s0_q96 m_ first_ second_) (fun (q:Sum Unit Int) (r:Res)=>match q with | .inl _=>∃ (q7:Int) (z6:AV) (h4:kA9),r=(.exit 0,((AV.fptr (Row.w Model) (m_p.tab.map Row.cells) m_p.i 0)::(sv first_)::(sv second_)::und::und::und::z6::(iv q7)::tZ9 39 [und,und,und,und]),h4)∧Hold B h4 [] | .inr q10=>∃ (q11:Int) (h8:kA9),r=(.ret,((AV.fptr (Row.w Model) (m_p.tab.map Row.cells) m_p.i 0)::(sv first_)::(sv second_)::und::und::und::(iv q10)::(iv q11)::tZ9 39 [und,und,und,und]),h8)∧Hold B h8 []):=by
 refine @kG0 _ _ _ _ _ _ _ _ (fun w3 tm h1 R => ?_)
 obtain ⟨rfl,O2⟩:=R
 rw [e_lb0_q96]
 unfold s0_q96
 dsimp only
 refine kA1 (v:=AV.fptr (Row.w Model) (m_p.tab.map Row.cells) m_p.i 0) rfl ?_
 refine kA1 (v:=AV.fptr (Row.w Model) (m_p.tab.map Row.cells) m_p.i 1) rfl ?_
 refine kA1 (v:=Sl.enc m_.bigrams) (kC5 hp_m_ false 1 1) ?_
 refine kA1 (Tab.enc h1 m_.bigrams).len ?_
 refine kA1 (kAl _ _) ?_
 refine kAb (fun c12 => ?_) (fun c12 => ?_)
 ·refine kA1 (v:=AV.fptr (Row.w Model) (m_p.tab.map Row.cells) m_p.i 0) rfl ?_
  refine kA1 (v:=AV.fptr (Row.w Model) (m_p.tab.map Row.cells) m_p.i 1) rfl ?_
  refine kA1 (v:=Sl.enc m_.bigrams) (kC5 hp_m_ false 1 1) ?_
  refine kAr (Tab.enc h1 m_.bigrams) (fun m14 a13 hi15 hm16 => ?_)
  refine kA1 (v:=elp (Sl.enc m_.bigrams) m14 0) ((Tab.enc h1 m_.bigrams).fld _ _ _) ?_
  refine kA1 (v:=sv a13.first) ((Tab.enc h1 m_.bigrams).ld hm16 false 1 0) ?_
  refine kA1 (kH6 _ _) ?_
  refine kC3 (e:=bv) (fun hb17 => ?_) (fun c22 => ?_)
  ·refine kA1 (v:=AV.fptr (Row.w Model) (m_p.tab.map Row.cells) m_p.i 0) rfl ?_
   refine kA1 (v:=AV.fptr (Row.w Model) (m_p.tab.map Row.cells) m_p.i 1) rfl ?_
   refine kA1 (v:=Sl.enc m_.bigrams) (kC5 hp_m_ false 1 1) ?_
   refine kAr (Tab.enc h1 m_.bigrams) (fun m19 a18 hi20 hm21 => ?_)
   refine kA1 (v:=elp (Sl.enc m_.bigrams) m19 1) ((Tab.enc h1 m_.bigrams).fld _ _ _) ?_
   refine kA1 (v:=sv a18.second) ((Tab.enc h1 m_.bigrams).ld hm21 false 1 1) ?_
   refine kA1 (kH6 _ _) ?_
   exact kA6 rfl
  ·refine kA1 (v:=bv (bif decide (a13.first=first_) then c22 else false)) (kD3 _ _ _) ?_
   refine kAb (fun c23 => ?_) (fun c23 => ?_)
   ·refine kA1 (v:=AV.fptr (Row.w Model) (m_p.tab.map Row.cells) m_p.i 0) rfl ?_
    refine kA1 (v:=AV.fptr (Row.w Model) (m_p.tab.map Row.cells) m_p.i 1) rfl ?_
    refine kA1 (v:=Sl.enc m_.bigrams) (kC5 hp_m_ false 1 1) ?_
    refine kAr (Tab.enc h1 m_.bigrams) (fun m25 a24 hi26 hm27 => ?_)
    refine kA1 (v:=elp (Sl.enc m_.bigrams) m25 2) ((Tab.enc h1 m_.bigrams).fld _ _ _) ?_
    refine kA1 (v:=iv a24.cost) ((Tab.enc h1 m_.bigrams).ld hm27 false 1 2) ?_
    exact kA6 ⟨nofun,_,_,rfl,O2⟩
   ·refine kA1 (kAj _ _) ?_
    exact kA6 ⟨rfl,rfl,O2⟩
 ·exact kA6 ⟨nofun,_,_,_,rfl,O2⟩
theorem ts_q96 (env:Nat→Contract)  (m_:Model) (first_:ByteArray) (second_:ByteArray) {m_p:Pt Model} (hp_m_:m_p.get=some m_):Sim (kAm Tryz.prog env n_q96 [AV.fptr (Row.w Model) (m_p.tab.map Row.cells) m_p.i 0,sv first_,sv second_] []) (t_q96 m_ first_ second_) fun c p=>release p.2 depth p.1=some ((fun c:Int=>enc c) c):=by
 have O:=Hold.nil []
 generalize hB:(⟨[],[]⟩:Base)=B at O
 clear hB
 rw [e_q96]
 unfold t_q96
 refine kB6 ((tl0_q96 env m_ m_p hp_m_ first_ second_) ⟨rfl,O⟩) (fun qq32 r hq => ?_)
 rcases qq32 with _ | q10
 ·obtain ⟨q7,z6,h4,rfl,O5⟩:=hq
  rw [e_lk0x0_q96]
  refine kA1 (v:=AV.fptr (Row.w Model) (m_p.tab.map Row.cells) m_p.i 0) rfl ?_
  refine kA1 (v:=AV.fptr (Row.w Model) (m_p.tab.map Row.cells) m_p.i 0) rfl ?_
  refine kA1 (v:=iv m_.default) (kC5 hp_m_ false 1 0) ?_
  exact kA6 (kA5 (by rfl) _)
 ·obtain ⟨q11,h8,rfl,O9⟩:=hq
  rw [e_lk0r_q96]
  exact kA6 (kA5 (by rfl) _)
theorem tt_q96:kAn Tryz.prog n_q96 (C3 (fun c:Int=>enc c) tp_q96):=kKa E0 kBd hb_q96 fun m_p first_ second_=>kCj fun m_ hp_m_=>ts_q96 _  m_ first_ second_ hp_m_
def s0_q93 (a_:Sl ByteArray) (b_:Sl ByteArray):Int→Option (Sum Int (Sum Unit Bool)):=fun w3 =>
 bif decide (w3<(((a_.getD []).length:Nat):Int)) then
  kA0 (kC7 (a_.getD []) w3) fun a13 =>
  kA0 (kC7 (b_.getD []) w3) fun a17 =>
  bif !decide (a13=a17) then
   kA0 (kC7 (a_.getD []) w3) fun a22 =>
   kA0 (kC7 (b_.getD []) w3) fun a26 =>
   some (.inr (.inr (ltS a22 a26)))
  else
   some (.inl (wr (w3+1)))
 else
  some (.inr (.inl ()))
def t_q93 (a_:Sl ByteArray) (b_:Sl ByteArray):Option Bool :=
 kA0 (kBg (s0_q93 a_ b_) 0) fun qq34=>match qq34 with
 | (.inl _) =>
   some false
 | (.inr q10) =>
   some q10
theorem tl0_q93 (env:Nat→Contract) {B:Base}  (a_:Sl ByteArray) (b_:Sl ByteArray) :kFq (fun (st:Int) tm h1=>match st with | w3=>tm=((Sl.enc a_)::(Sl.enc b_)::und::und::.top::(iv w3)::tZ9 24 [])∧Hold B h1 []) hm0_q93 xm0_q93 (lb0_q93 env) (s0_q93 a_ b_) (fun (q:Sum Unit Bool) (r:Res)=>match q with | .inl _=>∃ (q7:Int) (z6:AV) (h4:kA9),r=(.exit 0,((Sl.enc a_)::(Sl.enc b_)::und::und::z6::(iv q7)::tZ9 24 []),h4)∧Hold B h4 [] | .inr q10=>∃ (q11:Int) (h8:kA9),r=(.ret,((Sl.enc a_)::(Sl.enc b_)::und::und::(bv q10)::(iv q11)::tZ9 24 []),h8)∧Hold B h8 []):=by
 refine @kG0 _ _ _ _ _ _ _ _ (fun w3 tm h1 R => ?_)
 obtain ⟨rfl,O2⟩:=R
 rw [e_lb0_q93]
 unfold s0_q93
 dsimp only
 refine kA1 (Tab.enc h1 a_).len ?_
 refine kA1 (kAl _ _) ?_
 refine kAb (fun c12 => ?_) (fun c12 => ?_)
 ·refine kAr (Tab.enc h1 a_) (fun m14 a13 hi15 hm16 => ?_)
  refine kA1 (v:=sv a13) ((Tab.enc h1 a_).ld hm16 false 1 0) ?_
  refine kAr (Tab.enc h1 b_) (fun m18 a17 hi19 hm20 => ?_)
  refine kA1 (v:=sv a17) ((Tab.enc h1 b_).ld hm20 false 1 0) ?_
  refine kA1 (kI7 _ _) ?_
  refine kAb (fun c21 => ?_) (fun c21 => ?_)
  ·refine kAr (Tab.enc h1 a_) (fun m23 a22 hi24 hm25 => ?_)
   refine kA1 (v:=sv a22) ((Tab.enc h1 a_).ld hm25 false 1 0) ?_
   refine kAr (Tab.enc h1 b_) (fun m27 a26 hi28 hm29 => ?_)
   refine kA1 (v:=sv a26) ((Tab.enc h1 b_).ld hm29 false 1 0) ?_
   refine kA1 (v:=bv (ltS a22 a26)) (str_lss _ _) ?_
   exact kA6 ⟨nofun,_,_,rfl,O2⟩
  ·refine kA1 (kAj _ _) ?_
   exact kA6 ⟨rfl,rfl,O2⟩
 ·exact kA6 ⟨nofun,_,_,_,rfl,O2⟩
theorem ts_q93 (env:Nat→Contract)  (a_:Sl ByteArray) (b_:Sl ByteArray):Sim (kAm Tryz.prog env n_q93 [Sl.enc a_,Sl.enc b_] []) (t_q93 a_ b_) fun c p=>release p.2 depth p.1=some ((fun c:Bool=>enc c) c):=by
 have O:=Hold.nil []
 generalize hB:(⟨[],[]⟩:Base)=B at O
 clear hB
 rw [e_q93]
 unfold t_q93
 refine kB6 ((tl0_q93 env a_ b_) ⟨rfl,O⟩) (fun qq34 r hq => ?_)
 rcases qq34 with _ | q10
 ·obtain ⟨q7,z6,h4,rfl,O5⟩:=hq
  rw [e_lk0x0_q93]
  exact kA6 (kA5 (by rfl) _)
 ·obtain ⟨q11,h8,rfl,O9⟩:=hq
  rw [e_lk0r_q93]
  exact kA6 (kA5 (by rfl) _)
theorem tt_q93:kAn Tryz.prog n_q93 (C2 (fun c:Bool=>enc c) t_q93):=kCe E0 kBd hb_q93 fun a_ b_=>ts_q93 _  a_ b_
def t_q89 (a_:Sentence) (b_:Sentence):Option Bool :=
 kA0 (bif decide (a_.cost<b_.cost) then some false else (some (decide (a_.cost=b_.cost)))) fun c2 =>
 kA0 (bif (!(decide (a_.cost<b_.cost)) && c2) then (kA0 (t_q93 a_.words b_.words) fun c13=>some c13) else some false) fun c14 =>
 kA0 (bif decide (a_.cost<b_.cost) then some false else (some (bif c2 then c14 else false))) fun c24 =>
 some (bif decide (a_.cost<b_.cost) then true else c24)
def kGc (a_p:Pt Sentence) (b_p:Pt Sentence):Option Bool:=kA0 a_p.get fun a_=>kA0 b_p.get fun b_=>t_q89 a_ b_
theorem ts_q89 (env:Nat→Contract) (he_q93:env n_q93=.pure (C2 (fun c:Bool=>enc c) t_q93)) (a_:Sentence) (b_:Sentence) {a_p:Pt Sentence} (hp_a_:a_p.get=some a_) {b_p:Pt Sentence} (hp_b_:b_p.get=some b_):Sim (kAm Tryz.prog env n_q89 [AV.fptr (Row.w Sentence) (a_p.tab.map Row.cells) a_p.i 0,AV.fptr (Row.w Sentence) (b_p.tab.map Row.cells) b_p.i 0] []) (t_q89 a_ b_) fun c p=>release p.2 depth p.1=some ((fun c:Bool=>enc c) c):=by
 have O:=Hold.nil []
 generalize hB:(⟨[],[]⟩:Base)=B at O
 clear hB
 rw [e_q89]
 unfold t_q89
 refine kA1 (v:=AV.fptr (Row.w Sentence) (a_p.tab.map Row.cells) a_p.i 0) rfl ?_
 refine kA1 (v:=AV.fptr (Row.w Sentence) (a_p.tab.map Row.cells) a_p.i 1) rfl ?_
 refine kA1 (v:=iv a_.cost) (kC5 hp_a_ false 1 1) ?_
 refine kA1 (v:=AV.fptr (Row.w Sentence) (b_p.tab.map Row.cells) b_p.i 0) rfl ?_
 refine kA1 (v:=AV.fptr (Row.w Sentence) (b_p.tab.map Row.cells) b_p.i 1) rfl ?_
 refine kA1 (v:=iv b_.cost) (kC5 hp_b_ false 1 1) ?_
 refine kA1 (kAl _ _) ?_
 refine sim_g10F (e:=bv) (fun hb1 => ?_) (fun y3 y4 y5 y6 y7 y8 y9 y10 y11 c2 => ?_)
 ·refine kAd ?_
  refine kAp ?_
  refine kA1 (v:=AV.fptr (Row.w Sentence) (a_p.tab.map Row.cells) a_p.i 0) rfl ?_
  refine kAd ?_
  refine kAp ?_
  refine kA1 (v:=AV.fptr (Row.w Sentence) (a_p.tab.map Row.cells) a_p.i 1) rfl ?_
  refine kAd ?_
  refine kAp ?_
  refine kA1 (v:=iv a_.cost) (kC5 hp_a_ false 1 1) ?_
  refine kAd ?_
  refine kAd ?_
  refine kAp ?_
  refine kA1 (v:=AV.fptr (Row.w Sentence) (b_p.tab.map Row.cells) b_p.i 0) rfl ?_
  refine kAd ?_
  refine kAp ?_
  refine kA1 (v:=AV.fptr (Row.w Sentence) (b_p.tab.map Row.cells) b_p.i 1) rfl ?_
  refine kAd ?_
  refine kAp ?_
  refine kA1 (v:=iv b_.cost) (kC5 hp_b_ false 1 1) ?_
  refine kAd ?_
  refine kAp ?_
  refine kA1 (kHu _ _) ?_
  refine kAd ?_
  exact kA6 rfl
 ·simp only [gv_FT]
  refine sim_g9T (e:=bv) (fun hb12 => ?_) (fun y15 y16 y17 y18 y19 y20 y21 y22 c14 => ?_)
  ·refine kAd ?_
   refine kAp ?_
   refine kA1 (v:=AV.fptr (Row.w Sentence) (a_p.tab.map Row.cells) a_p.i 0) rfl ?_
   refine kAd ?_
   refine kAp ?_
   refine kA1 (v:=AV.fptr (Row.w Sentence) (a_p.tab.map Row.cells) a_p.i 0) rfl ?_
   refine kAd ?_
   refine kAp ?_
   refine kA1 (v:=Sl.enc a_.words) (kC5 hp_a_ false 1 0) ?_
   refine kAd ?_
   refine kAd ?_
   refine kAp ?_
   refine kA1 (v:=AV.fptr (Row.w Sentence) (b_p.tab.map Row.cells) b_p.i 0) rfl ?_
   refine kAd ?_
   refine kAp ?_
   refine kA1 (v:=AV.fptr (Row.w Sentence) (b_p.tab.map Row.cells) b_p.i 0) rfl ?_
   refine kAd ?_
   refine kAp ?_
   refine kA1 (v:=Sl.enc b_.words) (kC5 hp_b_ false 1 0) ?_
   refine kAd ?_
   refine kCb he_q93 (kBp _ _) (kBp _ _) (fun c13 => ?_)
   refine kAq (kAc (by rfl) _ _) ?_
   exact kA6 rfl
  ·refine kBt (e:=bv) (fun hb23 => ?_) (fun c24 => ?_)
   ·simp only [hb23,cond_true,cond_false,Bool.not_true,Bool.not_false,Bool.true_and,Bool.and_true,Bool.false_and,Bool.not_not]
    refine kA1 (v:=bv (bif c2 then c14 else false)) (kD3 _ _ _) ?_
    exact kA6 rfl
   ·refine kA1 (v:=bv (bif decide (a_.cost<b_.cost) then true else c24)) (kCh _ _ _) ?_
    exact kA6 (kA5 (by rfl) _)
theorem tt_q89:kAn Tryz.prog n_q89 (C2 (fun c:Bool=>enc c) kGc):=kCe (kBc tt_q93 E0) kBd hb_q89 fun a_p b_p=>kCj fun a_ hp_a_=>kCj fun b_ hp_b_=>ts_q89 _ (by simp [kBx]) a_ b_ hp_a_ hp_b_
def kHx (before_:Sl Sentence) (m_:Model) (c1:(Sl Fnd)) (w16:Int):(Int×(Sl ByteArray)×Int)→Option (Sum (Int×(Sl ByteArray)×Int) (Int×(Sl ByteArray))):=fun (w40,w42,w45) =>
 bif decide (w45<(((before_.getD []).length:Nat):Int)) then
  kA0 (kC7 (before_.getD []) w45) fun a70 =>
  bif decide (0<(((a70.words.getD []).length:Nat):Int)) then
   kA0 (kC7 (before_.getD []) w45) fun a75 =>
   kA0 (kC7 (before_.getD []) w45) fun a79 =>
   kA0 (kC7 (a75.words.getD []) (wr ((((a79.words.getD []).length:Nat):Int) - 1))) fun a83 =>
   kA0 (kC7 (before_.getD []) w45) fun a91 =>
   kA0 (appO (some ([]:List ByteArray)) (a91.words.getD [])) fun _ =>
   kA0 (kC7 (c1.getD []) w16) fun a100 =>
   kA0 (appO (kBv (some ([]:List ByteArray)) (a91.words.getD [])) ([a100.word]:List ByteArray)) fun _ =>
   kA0 (kC7 (before_.getD []) w45) fun a120 =>
   kA0 (kC7 (c1.getD []) w16) fun a124 =>
   kA0 (kJq a124) fun c128 =>
   kA0 (kC7 (c1.getD []) w16) fun a129 =>
   kA0 (t_q96 m_ a83 a129.word) fun c133 =>
   kA0 (bif decide (w45=0) then some false else (kA0 (t_q89 (⟨(kBv (kBv (some ([]:List ByteArray)) (a91.words.getD [])) ([a100.word]:List ByteArray)),wr ((wr (a120.cost+c128))+c133)⟩:Sentence) (⟨w42,w40⟩:Sentence)) fun c137=>some c137)) fun c138 =>
   bif (bif decide (w45=0) then true else c138) then
    some (.inl (wr ((wr (a120.cost+c128))+c133),(kBv (kBv (some ([]:List ByteArray)) (a91.words.getD [])) ([a100.word]:List ByteArray)),wr (w45+1)))
   else
    some (.inl (w40,w42,wr (w45+1)))
  else
   kA0 (kC7 (before_.getD []) w45) fun a148 =>
   kA0 (appO (some ([]:List ByteArray)) (a148.words.getD [])) fun _ =>
   kA0 (kC7 (c1.getD []) w16) fun a157 =>
   kA0 (appO (kBv (some ([]:List ByteArray)) (a148.words.getD [])) ([a157.word]:List ByteArray)) fun _ =>
   kA0 (kC7 (before_.getD []) w45) fun a177 =>
   kA0 (kC7 (c1.getD []) w16) fun a181 =>
   kA0 (kJq a181) fun c185 =>
   kA0 (kC7 (c1.getD []) w16) fun a186 =>
   kA0 (t_q96 m_ (⟨#[]⟩:ByteArray) a186.word) fun c190 =>
   kA0 (bif decide (w45=0) then some false else (kA0 (t_q89 (⟨(kBv (kBv (some ([]:List ByteArray)) (a148.words.getD [])) ([a157.word]:List ByteArray)),wr ((wr (a177.cost+c185))+c190)⟩:Sentence) (⟨w42,w40⟩:Sentence)) fun c194=>some c194)) fun c195 =>
   bif (bif decide (w45=0) then true else c195) then
    some (.inl (wr ((wr (a177.cost+c185))+c190),(kBv (kBv (some ([]:List ByteArray)) (a148.words.getD [])) ([a157.word]:List ByteArray)),wr (w45+1)))
   else
    some (.inl (w40,w42,wr (w45+1)))
 else
  some (.inr (w40,w42))
def s0_q94 (before_:Sl Sentence) (m_:Model) (c1:(Sl Fnd)):((Sl Sentence)×Int)→Option (Sum ((Sl Sentence)×Int) (Sl Sentence)):=fun (w11,w16) =>
 bif decide (w16<(((c1.getD []).length:Nat):Int)) then
  kA0 (kBg (kHx before_ m_ c1 w16) (0,(none:Sl ByteArray),0)) fun (q48,q50) =>
  bif decide (0<(((before_.getD []).length:Nat):Int)) then
   kA0 (appO w11 ([(⟨q50,q48⟩:Sentence)]:List Sentence)) fun _ =>
   some (.inl ((kBv w11 ([(⟨q50,q48⟩:Sentence)]:List Sentence)),wr (w16+1)))
  else
   some (.inl (w11,wr (w16+1)))
 else
  some (.inr w11)
def t_q94 (before_:Sl Sentence) (l_:Lattice) (x_:Lexicon) (m_:Model):Option (Sl Sentence) :=
 kA0 (t_q84 l_ x_) fun c1 =>
 kA0 (kBg (s0_q94 before_ m_ c1) ((some ([]:List Sentence)),0)) fun q22 =>
 some q22
def tp_q94 (before_:Sl Sentence) (l_p:Pt Lattice) (x_p:Pt Lexicon) (m_p:Pt Model):Option (Sl Sentence):=kA0 l_p.get fun l_=>kA0 x_p.get fun x_=>kA0 m_p.get fun m_=>t_q94 before_ l_ x_ m_
theorem tl1_q94 (env:Nat→Contract) {B:Base} (he_q84:env n_q84=.pure (C2 (fun c:(Sl Fnd)=>rS c) tp_q84)) (he_q87:env n_q87=.pure (C1 (fun c:Int=>enc c) kJq)) (he_q89:env n_q89=.pure (C2 (fun c:Bool=>enc c) kGc)) (he_q96:env n_q96=.pure (C3 (fun c:Int=>enc c) tp_q96)) (before_:Sl Sentence) (l_p:Pt Lattice) (x_p:Pt Lexicon) (m_:Model) (m_p:Pt Model) (hp_m_:m_p.get=some m_) (c1:(Sl Fnd)) (x3:AV) (x6:AV) (z10:AV) (ps12:PS Sentence) (w16:Int) (o32:Nat) :kFq (fun (st:Int×(Sl ByteArray)×Int) tm h43=>match st with | (w40,w42,w45)=>∃ z41,tm=((Sl.enc before_)::(AV.fptr (Row.w Lattice) (l_p.tab.map Row.cells) l_p.i 0)::(AV.fptr (Row.w Lexicon) (x_p.tab.map Row.cells) x_p.i 0)::(AV.fptr (Row.w Model) (m_p.tab.map Row.cells) m_p.i 0)::und::und::und::und::kB3::x3::z10::(iv w16)::(AV.ptr o32 1 0 0)::(iv w45)::.top::.top::(AV.fptr (Row.w Lattice) (l_p.tab.map Row.cells) l_p.i 0)::(AV.fptr (Row.w Lexicon) (x_p.tab.map Row.cells) x_p.i 0)::x3::x6::(iv w16)::x3::(iv (((c1.getD []).length:Nat):Int))::(bv (decide (w16<(((c1.getD []).length:Nat):Int))))::.top::.top::(AV.agg [kB3,iv 0])::tZ9 69 [.top,.top,.top,.top,.top,.top,.top,und])∧Hold B h43 ([(x3,obS (c1:Sl Fnd)),pZ9 o32 2 [z41,iv w40],(z41,obS (w42:Sl ByteArray))]++D2 (A:=Sentence) z10 ps12)) hm1_q94 xm1_q94 (lb1_q94 env) (kHx before_ m_ c1 w16) (fun (q:Int×(Sl ByteArray)) (r:Res)=>match q with | (q48,q50)=>∃ (q51:Int) (z49:AV) (z52:AV) (z53:AV) (h46:kA9),r=(.exit 2,((Sl.enc before_)::(AV.fptr (Row.w Lattice) (l_p.tab.map Row.cells) l_p.i 0)::(AV.fptr (Row.w Lexicon) (x_p.tab.map Row.cells) x_p.i 0)::(AV.fptr (Row.w Model) (m_p.tab.map Row.cells) m_p.i 0)::und::und::und::und::kB3::x3::z10::(iv w16)::(AV.ptr o32 1 0 0)::(iv q51)::z52::z53::(AV.fptr (Row.w Lattice) (l_p.tab.map Row.cells) l_p.i 0)::(AV.fptr (Row.w Lexicon) (x_p.tab.map Row.cells) x_p.i 0)::x3::x6::(iv w16)::x3::(iv (((c1.getD []).length:Nat):Int))::(bv (decide (w16<(((c1.getD []).length:Nat):Int))))::.top::.top::(AV.agg [kB3,iv 0])::tZ9 69 [.top,.top,.top,.top,.top,.top,.top,und]),h46)∧Hold B h46 ([(x3,obS (c1:Sl Fnd)),pZ9 o32 2 [z49,iv q48],(z49,obS (q50:Sl ByteArray))]++D2 (A:=Sentence) z10 ps12)):=by
 refine @kG0 _ _ _ _ _ _ _ _ (fun st tm h43 R => ?_)
 obtain ⟨w40,w42,w45⟩:=st
 obtain ⟨z41,rfl,O44⟩:=R
 rw [e_lb1_q94]
 unfold kHx
 dsimp only
 refine kA1 (Tab.enc h43 before_).len ?_
 refine kA1 (kAl _ _) ?_
 refine kAb (fun c69 => ?_) (fun c69 => ?_)
 ·refine kAr (Tab.enc h43 before_) (fun m71 a70 hi72 hm73 => ?_)
  refine kA1 (v:=elp (Sl.enc before_) m71 0) ((Tab.enc h43 before_).fld _ _ _) ?_
  refine kA1 (v:=Sl.enc a70.words) ((Tab.enc h43 before_).ld hm73 false 1 0) ?_
  refine kA1 (Tab.enc h43 a70.words).len ?_
  refine kA1 (kDa _ _) ?_
  refine kAb (fun c74 => ?_) (fun c74 => ?_)
  ·refine kAr (Tab.enc h43 before_) (fun m76 a75 hi77 hm78 => ?_)
   refine kA1 (v:=elp (Sl.enc before_) m76 0) ((Tab.enc h43 before_).fld _ _ _) ?_
   refine kA1 (v:=Sl.enc a75.words) ((Tab.enc h43 before_).ld hm78 false 1 0) ?_
   refine kAr (Tab.enc h43 before_) (fun m80 a79 hi81 hm82 => ?_)
   refine kA1 (v:=elp (Sl.enc before_) m80 0) ((Tab.enc h43 before_).fld _ _ _) ?_
   refine kA1 (v:=Sl.enc a79.words) ((Tab.enc h43 before_).ld hm82 false 1 0) ?_
   refine kA1 (Tab.enc h43 a79.words).len ?_
   refine kA1 (kCa _ _) ?_
   refine kAr (Tab.enc h43 a75.words) (fun m84 a83 hi85 hm86 => ?_)
   refine kA1 (v:=sv a83) ((Tab.enc h43 a75.words).ld hm86 false 1 0) ?_
   refine kD7 (A:=ByteArray) O44 ([]:List ByteArray) rfl (by first | rfl | simp [kBy,kEp]) rfl (fun x87 h88 O89 => ?_)
   replace O89:Hold B h88 ([(x3,obS (c1:Sl Fnd)),pZ9 o32 2 [z41,iv w40],(z41,obS (w42:Sl ByteArray)),(x87,obS ((some ([]:List ByteArray)):Sl ByteArray))]++D2 (A:=Sentence) z10 ps12):=Hold.rot O89
   refine kAr (Tab.enc h88 before_) (fun m92 a91 hi93 hm94 => ?_)
   refine kA1 (v:=elp (Sl.enc before_) m92 0) ((Tab.enc h88 before_).fld _ _ _) ?_
   refine kA1 (v:=Sl.enc a91.words) ((Tab.enc h88 before_).ld hm94 false 1 0) ?_
   refine kC2 ⟨⟨(kCq (((Tab.enc h43 before_)).ixm hi93 hm94)),⟨(kCq (((Tab.enc h88 before_)).ixm hi93 hm94)),trivial⟩⟩,⟨⟨(kCq (v:=Sl.enc a91.words) ((Tab.enc h43 before_).ld hm94 false 1 0)),⟨(kCq (v:=Sl.enc a91.words) ((Tab.enc h88 before_).ld hm94 false 1 0)),trivial⟩⟩,trivial⟩⟩ ?_
   refine kDx (A:=ByteArray) (s:=(some ([]:List ByteArray))) O89 3 (a91.words.getD []) rfl (src_enc _ _) (by decide) (fun x96 h97 O98 => ?_)
   replace O98:Hold B h97 ([(x3,obS (c1:Sl Fnd)),pZ9 o32 2 [z41,iv w40],(z41,obS (w42:Sl ByteArray)),(x96,obS ((kBv (some ([]:List ByteArray)) (a91.words.getD [])):Sl ByteArray))]++D2 (A:=Sentence) z10 ps12):=O98
   refine kAr (O98.tab (A:=Fnd) (s:=c1) 0 rfl) (fun m101 a100 hi102 hm103 => ?_)
   refine kA1 (v:=elp x3 m101 0) ((O98.tab (A:=Fnd) (s:=c1) 0 rfl).fld _ _ _) ?_
   refine kA1 (v:=sv a100.word) ((O98.tab (A:=Fnd) (s:=c1) 0 rfl).ld hm103 false 1 0) ?_
   refine kD7 (A:=ByteArray) O98 ([a100.word]:List ByteArray) rfl (by first | rfl | simp [kBy,kEp]) rfl (fun x104 h105 O106 => ?_)
   replace O106:Hold B h105 ([(x3,obS (c1:Sl Fnd)),pZ9 o32 2 [z41,iv w40],(z41,obS (w42:Sl ByteArray)),(x96,obS ((kBv (some ([]:List ByteArray)) (a91.words.getD [])):Sl ByteArray)),(x104,obS ((some ([a100.word]:List ByteArray)):Sl ByteArray))]++D2 (A:=Sentence) z10 ps12):=Hold.rot O106
   refine kC2 ⟨⟨(kCq (((O44.tab (A:=Fnd) (s:=c1) 0 rfl)).ixm hi102 hm103)),⟨(kCq (((O89.tab (A:=Fnd) (s:=c1) 0 rfl)).ixm hi102 hm103)),⟨(kCq (((O98.tab (A:=Fnd) (s:=c1) 0 rfl)).ixm hi102 hm103)),⟨(kCq (((O106.tab (A:=Fnd) (s:=c1) 0 rfl)).ixm hi102 hm103)),trivial⟩⟩⟩⟩,⟨⟨(kCq (v:=sv a100.word) ((O44.tab (A:=Fnd) (s:=c1) 0 rfl).ld hm103 false 1 0)),⟨(kCq (v:=sv a100.word) ((O89.tab (A:=Fnd) (s:=c1) 0 rfl).ld hm103 false 1 0)),⟨(kCq (v:=sv a100.word) ((O98.tab (A:=Fnd) (s:=c1) 0 rfl).ld hm103 false 1 0)),⟨(kCq (v:=sv a100.word) ((O106.tab (A:=Fnd) (s:=c1) 0 rfl).ld hm103 false 1 0)),trivial⟩⟩⟩⟩,trivial⟩⟩ ?_
   refine kDx (A:=ByteArray) (s:=(kBv (some ([]:List ByteArray)) (a91.words.getD []))) O106 3 ([a100.word]:List ByteArray) rfl (O106.src (A:=ByteArray) (s:=(some ([a100.word]:List ByteArray))) 4 rfl) (by decide) (fun x109 h110 O111 => ?_)
   replace O111:Hold B h110 ([(x3,obS (c1:Sl Fnd)),pZ9 o32 2 [z41,iv w40],(z41,obS (w42:Sl ByteArray)),(x109,obS ((kBv (kBv (some ([]:List ByteArray)) (a91.words.getD [])) ([a100.word]:List ByteArray)):Sl ByteArray)),(x104,obS ((some ([a100.word]:List ByteArray)):Sl ByteArray))]++D2 (A:=Sentence) z10 ps12):=O111
   have O113:Hold B h110 ([(x3,obS (c1:Sl Fnd)),pZ9 o32 2 [z41,iv w40],(z41,obS (w42:Sl ByteArray)),(x109,obS ((kBv (kBv (some ([]:List ByteArray)) (a91.words.getD [])) ([a100.word]:List ByteArray)):Sl ByteArray))]++D2 (A:=Sentence) z10 ps12):=O111.selD [0,1,2,3] (by decide) rfl
   have jZ0:=O113.one (A:=ByteArray) (s:=(kBv (kBv (some ([]:List ByteArray)) (a91.words.getD [])) ([a100.word]:List ByteArray))) 3 rfl
   refine kA1 (v:=AV.agg [x109,iv 0]) (by first | rfl | simp [kCm,kGf,kAx,jZ0.1,jZ0.2]) ?_
   refine kAs O113 (cs:=[kB3,iv 0]) (by first | rfl | simp) (fun o114 h115 O116 => ?_)
   replace O116:Hold B h115 ([(x3,obS (c1:Sl Fnd)),pZ9 o32 2 [z41,iv w40],(z41,obS (w42:Sl ByteArray)),(x109,obS ((kBv (kBv (some ([]:List ByteArray)) (a91.words.getD [])) ([a100.word]:List ByteArray)):Sl ByteArray)),pZ9 o114 2 [kB3,iv 0]]++D2 (A:=Sentence) z10 ps12):=Hold.rot O116
   have jZ0:=O116.one (A:=ByteArray) (s:=(kBv (kBv (some ([]:List ByteArray)) (a91.words.getD [])) ([a100.word]:List ByteArray))) 3 rfl
   refine kAw O116 4 (cs':=[x109,iv 0]) rfl (by first | rfl | simp [jZ0.1,jZ0.2]) (by simp) (by first | rfl | simp [jZ0.1,jZ0.2]) (by first | rfl | simp [kAx,jZ0.1,jZ0.2]) (fun h118 O119 => ?_)
   replace O119:Hold B h118 ([(x3,obS (c1:Sl Fnd)),pZ9 o32 2 [z41,iv w40],(z41,obS (w42:Sl ByteArray)),(x109,obS ((kBv (kBv (some ([]:List ByteArray)) (a91.words.getD [])) ([a100.word]:List ByteArray)):Sl ByteArray)),pZ9 o114 2 [x109,iv 0]]++D2 (A:=Sentence) z10 ps12):=O119
   refine kC2 trivial ?_
   refine kAr (Tab.enc h118 before_) (fun m121 a120 hi122 hm123 => ?_)
   refine kA1 (v:=elp (Sl.enc before_) m121 1) ((Tab.enc h118 before_).fld _ _ _) ?_
   refine kA1 (v:=iv a120.cost) ((Tab.enc h118 before_).ld hm123 false 1 1) ?_
   refine kAr (O119.tab (A:=Fnd) (s:=c1) 0 rfl) (fun m125 a124 hi126 hm127 => ?_)
   refine kA1 (v:=AV.agg [sv a124.word,iv a124.path,iv a124.own]) ((O119.tab (A:=Fnd) (s:=c1) 0 rfl).ld hm127 true 3 0) ?_
   refine kC2 ⟨⟨(kCq (((O119.tab (A:=Fnd) (s:=c1) 0 rfl)).ixm hi126 hm127)),trivial⟩,⟨⟨(kCq (v:=AV.agg [sv a124.word,iv a124.path,iv a124.own]) ((O119.tab (A:=Fnd) (s:=c1) 0 rfl).ld hm127 true 3 0)),trivial⟩,trivial⟩⟩ ?_
   refine kBz he_q87 (kAz _ a124 rfl) (fun c128 => ?_)
   refine kAq (kAc (by rfl) _ _) ?_
   refine kC2 (Nat.le_refl _) ?_
   refine kA1 (kAj _ _) ?_
   refine kAr (O119.tab (A:=Fnd) (s:=c1) 0 rfl) (fun m130 a129 hi131 hm132 => ?_)
   refine kA1 (v:=elp x3 m130 0) ((O119.tab (A:=Fnd) (s:=c1) 0 rfl).fld _ _ _) ?_
   refine kA1 (v:=sv a129.word) ((O119.tab (A:=Fnd) (s:=c1) 0 rfl).ld hm132 false 1 0) ?_
   refine kC2 ⟨⟨(kCq (((O119.tab (A:=Fnd) (s:=c1) 0 rfl)).ixm hi131 hm132)),⟨(kCq (((O119.tab (A:=Fnd) (s:=c1) 0 rfl)).ixm hi131 hm132)),trivial⟩⟩,⟨⟨(kCq (v:=sv a129.word) ((O119.tab (A:=Fnd) (s:=c1) 0 rfl).ld hm132 false 1 0)),⟨(kCq (v:=sv a129.word) ((O119.tab (A:=Fnd) (s:=c1) 0 rfl).ld hm132 false 1 0)),trivial⟩⟩,trivial⟩⟩ ?_
   refine kE3 (y':=tp_q96 m_p a83 a129.word) (by simp only [tp_q96,hp_m_,kA4]) ?_
   refine kGl he_q96 (kDz _ _ _ _ rfl) (kC4 _ _) (kC4 _ _) (fun c133 => ?_)
   refine kAq (kAc (by rfl) _ _) ?_
   refine kC2 (Nat.le_refl _) ?_
   refine kA1 (kAj _ _) ?_
   refine kA1 (v:=AV.ptr o114 1 0 1) rfl ?_
   refine kC2 ⟨⟨(kCq (((Tab.enc h118 before_)).ixm hi122 hm123)),⟨(kCq (((Tab.enc h118 before_)).ixm hi122 hm123)),⟨(kCq (((Tab.enc h118 before_)).ixm hi122 hm123)),trivial⟩⟩⟩,⟨⟨(kCq (v:=iv a120.cost) ((Tab.enc h118 before_).ld hm123 false 1 1)),⟨(kCq (v:=iv a120.cost) ((Tab.enc h118 before_).ld hm123 false 1 1)),⟨(kCq (v:=iv a120.cost) ((Tab.enc h118 before_).ld hm123 false 1 1)),trivial⟩⟩⟩,trivial⟩⟩ ?_
   refine kAw O119 4 (cs':=[x109,iv (wr ((wr (a120.cost+c128))+c133))]) rfl (by first | rfl | simp) (by simp) (by first | rfl | simp) (by first | rfl | simp [kAx]) (fun h134 O135 => ?_)
   replace O135:Hold B h134 ([(x3,obS (c1:Sl Fnd)),pZ9 o32 2 [z41,iv w40],(z41,obS (w42:Sl ByteArray)),(x109,obS ((kBv (kBv (some ([]:List ByteArray)) (a91.words.getD [])) ([a100.word]:List ByteArray)):Sl ByteArray)),pZ9 o114 2 [x109,iv (wr ((wr (a120.cost+c128))+c133))]]++D2 (A:=Sentence) z10 ps12):=O135
   refine kC2 trivial ?_
   refine kA1 (kHu _ _) ?_
   refine kBt (e:=bv) (fun hb136 => ?_) (fun c138 => ?_)
   ·refine kE3 (y':=kGc ⟨[(⟨(kBv (kBv (some ([]:List ByteArray)) (a91.words.getD [])) ([a100.word]:List ByteArray)),wr ((wr (a120.cost+c128))+c133)⟩:Sentence)],0⟩ ⟨[(⟨w42,w40⟩:Sentence)],0⟩) (by simp only [kGc,get_pt1,kA4]) ?_
    refine kBo he_q89 (O135.snapR 4 rfl (⟨(kBv (kBv (some ([]:List ByteArray)) (a91.words.getD [])) ([a100.word]:List ByteArray)),wr ((wr (a120.cost+c128))+c133)⟩:Sentence) rfl (by simp [kBe,O135.snap7 (A:=ByteArray) (s:=(kBv (kBv (some ([]:List ByteArray)) (a91.words.getD [])) ([a100.word]:List ByteArray))) 3 rfl])) (O135.snapR 1 rfl (⟨w42,w40⟩:Sentence) rfl (by simp [kBe,O135.snap7 (A:=ByteArray) (s:=w42) 2 rfl])) (fun c137 => ?_)
    refine kAq (kAc (by rfl) _ _) ?_
    exact kA6 rfl
   ·refine kA1 (v:=bv (bif decide (w45=0) then true else c138)) (kCh _ _ _) ?_
    refine kAb (fun c139 => ?_) (fun c139 => ?_)
    ·refine kA1 (v:=AV.agg [x109,iv (wr ((wr (a120.cost+c128))+c133))]) (O135.ld 4 rfl true 2 0) ?_
     have jZ0:=O135.one (A:=ByteArray) (s:=(kBv (kBv (some ([]:List ByteArray)) (a91.words.getD [])) ([a100.word]:List ByteArray))) 3 rfl
     refine kAw O135 1 (cs':=[x109,iv (wr ((wr (a120.cost+c128))+c133))]) rfl (by first | rfl | simp [jZ0.1,jZ0.2]) (by simp) (by first | rfl | simp [jZ0.1,jZ0.2]) (by first | rfl | simp [kAx,jZ0.1,jZ0.2]) (fun h140 O141 => ?_)
     replace O141:Hold B h140 ([(x3,obS (c1:Sl Fnd)),pZ9 o32 2 [x109,iv (wr ((wr (a120.cost+c128))+c133))],(z41,obS (w42:Sl ByteArray)),(x109,obS ((kBv (kBv (some ([]:List ByteArray)) (a91.words.getD [])) ([a100.word]:List ByteArray)):Sl ByteArray)),pZ9 o114 2 [x109,iv (wr ((wr (a120.cost+c128))+c133))]]++D2 (A:=Sentence) z10 ps12):=O141
     refine kA1 (kAj _ _) ?_
     have O142:Hold B h140 ([(x3,obS (c1:Sl Fnd)),pZ9 o32 2 [x109,iv (wr ((wr (a120.cost+c128))+c133))],(x109,obS ((kBv (kBv (some ([]:List ByteArray)) (a91.words.getD [])) ([a100.word]:List ByteArray)):Sl ByteArray))]++D2 (A:=Sentence) z10 ps12):=O141.selD [0,1,3] (by decide) rfl
     exact kA6 ⟨rfl,_,rfl,O142⟩
    ·refine kA1 (kAj _ _) ?_
     have O143:Hold B h134 ([(x3,obS (c1:Sl Fnd)),pZ9 o32 2 [z41,iv w40],(z41,obS (w42:Sl ByteArray))]++D2 (A:=Sentence) z10 ps12):=O135.selD [0,1,2] (by decide) rfl
     exact kA6 ⟨rfl,_,rfl,O143⟩
  ·refine kD7 (A:=ByteArray) O44 ([]:List ByteArray) rfl (by first | rfl | simp [kBy,kEp]) rfl (fun x144 h145 O146 => ?_)
   replace O146:Hold B h145 ([(x3,obS (c1:Sl Fnd)),pZ9 o32 2 [z41,iv w40],(z41,obS (w42:Sl ByteArray)),(x144,obS ((some ([]:List ByteArray)):Sl ByteArray))]++D2 (A:=Sentence) z10 ps12):=Hold.rot O146
   refine kAr (Tab.enc h145 before_) (fun m149 a148 hi150 hm151 => ?_)
   refine kA1 (v:=elp (Sl.enc before_) m149 0) ((Tab.enc h145 before_).fld _ _ _) ?_
   refine kA1 (v:=Sl.enc a148.words) ((Tab.enc h145 before_).ld hm151 false 1 0) ?_
   refine kC2 ⟨⟨(kCq (((Tab.enc h43 before_)).ixm hi150 hm151)),⟨(kCq (((Tab.enc h145 before_)).ixm hi150 hm151)),trivial⟩⟩,⟨⟨(kCq (v:=Sl.enc a148.words) ((Tab.enc h43 before_).ld hm151 false 1 0)),⟨(kCq (v:=Sl.enc a148.words) ((Tab.enc h145 before_).ld hm151 false 1 0)),trivial⟩⟩,trivial⟩⟩ ?_
   refine kDx (A:=ByteArray) (s:=(some ([]:List ByteArray))) O146 3 (a148.words.getD []) rfl (src_enc _ _) (by decide) (fun x153 h154 O155 => ?_)
   replace O155:Hold B h154 ([(x3,obS (c1:Sl Fnd)),pZ9 o32 2 [z41,iv w40],(z41,obS (w42:Sl ByteArray)),(x153,obS ((kBv (some ([]:List ByteArray)) (a148.words.getD [])):Sl ByteArray))]++D2 (A:=Sentence) z10 ps12):=O155
   refine kAr (O155.tab (A:=Fnd) (s:=c1) 0 rfl) (fun m158 a157 hi159 hm160 => ?_)
   refine kA1 (v:=elp x3 m158 0) ((O155.tab (A:=Fnd) (s:=c1) 0 rfl).fld _ _ _) ?_
   refine kA1 (v:=sv a157.word) ((O155.tab (A:=Fnd) (s:=c1) 0 rfl).ld hm160 false 1 0) ?_
   refine kD7 (A:=ByteArray) O155 ([a157.word]:List ByteArray) rfl (by first | rfl | simp [kBy,kEp]) rfl (fun x161 h162 O163 => ?_)
   replace O163:Hold B h162 ([(x3,obS (c1:Sl Fnd)),pZ9 o32 2 [z41,iv w40],(z41,obS (w42:Sl ByteArray)),(x153,obS ((kBv (some ([]:List ByteArray)) (a148.words.getD [])):Sl ByteArray)),(x161,obS ((some ([a157.word]:List ByteArray)):Sl ByteArray))]++D2 (A:=Sentence) z10 ps12):=Hold.rot O163
   refine kC2 ⟨⟨(kCq (((O44.tab (A:=Fnd) (s:=c1) 0 rfl)).ixm hi159 hm160)),⟨(kCq (((O146.tab (A:=Fnd) (s:=c1) 0 rfl)).ixm hi159 hm160)),⟨(kCq (((O155.tab (A:=Fnd) (s:=c1) 0 rfl)).ixm hi159 hm160)),⟨(kCq (((O163.tab (A:=Fnd) (s:=c1) 0 rfl)).ixm hi159 hm160)),trivial⟩⟩⟩⟩,⟨⟨(kCq (v:=sv a157.word) ((O44.tab (A:=Fnd) (s:=c1) 0 rfl).ld hm160 false 1 0)),⟨(kCq (v:=sv a157.word) ((O146.tab (A:=Fnd) (s:=c1) 0 rfl).ld hm160 false 1 0)),⟨(kCq (v:=sv a157.word) ((O155.tab (A:=Fnd) (s:=c1) 0 rfl).ld hm160 false 1 0)),⟨(kCq (v:=sv a157.word) ((O163.tab (A:=Fnd) (s:=c1) 0 rfl).ld hm160 false 1 0)),trivial⟩⟩⟩⟩,trivial⟩⟩ ?_
   refine kDx (A:=ByteArray) (s:=(kBv (some ([]:List ByteArray)) (a148.words.getD []))) O163 3 ([a157.word]:List ByteArray) rfl (O163.src (A:=ByteArray) (s:=(some ([a157.word]:List ByteArray))) 4 rfl) (by decide) (fun x166 h167 O168 => ?_)
   replace O168:Hold B h167 ([(x3,obS (c1:Sl Fnd)),pZ9 o32 2 [z41,iv w40],(z41,obS (w42:Sl ByteArray)),(x166,obS ((kBv (kBv (some ([]:List ByteArray)) (a148.words.getD [])) ([a157.word]:List ByteArray)):Sl ByteArray)),(x161,obS ((some ([a157.word]:List ByteArray)):Sl ByteArray))]++D2 (A:=Sentence) z10 ps12):=O168
   have O170:Hold B h167 ([(x3,obS (c1:Sl Fnd)),pZ9 o32 2 [z41,iv w40],(z41,obS (w42:Sl ByteArray)),(x166,obS ((kBv (kBv (some ([]:List ByteArray)) (a148.words.getD [])) ([a157.word]:List ByteArray)):Sl ByteArray))]++D2 (A:=Sentence) z10 ps12):=O168.selD [0,1,2,3] (by decide) rfl
   have jZ0:=O170.one (A:=ByteArray) (s:=(kBv (kBv (some ([]:List ByteArray)) (a148.words.getD [])) ([a157.word]:List ByteArray))) 3 rfl
   refine kA1 (v:=AV.agg [x166,iv 0]) (by first | rfl | simp [kCm,kGf,kAx,jZ0.1,jZ0.2]) ?_
   refine kAs O170 (cs:=[kB3,iv 0]) (by first | rfl | simp) (fun o171 h172 O173 => ?_)
   replace O173:Hold B h172 ([(x3,obS (c1:Sl Fnd)),pZ9 o32 2 [z41,iv w40],(z41,obS (w42:Sl ByteArray)),(x166,obS ((kBv (kBv (some ([]:List ByteArray)) (a148.words.getD [])) ([a157.word]:List ByteArray)):Sl ByteArray)),pZ9 o171 2 [kB3,iv 0]]++D2 (A:=Sentence) z10 ps12):=Hold.rot O173
   have jZ0:=O173.one (A:=ByteArray) (s:=(kBv (kBv (some ([]:List ByteArray)) (a148.words.getD [])) ([a157.word]:List ByteArray))) 3 rfl
   refine kAw O173 4 (cs':=[x166,iv 0]) rfl (by first | rfl | simp [jZ0.1,jZ0.2]) (by simp) (by first | rfl | simp [jZ0.1,jZ0.2]) (by first | rfl | simp [kAx,jZ0.1,jZ0.2]) (fun h175 O176 => ?_)
   replace O176:Hold B h175 ([(x3,obS (c1:Sl Fnd)),pZ9 o32 2 [z41,iv w40],(z41,obS (w42:Sl ByteArray)),(x166,obS ((kBv (kBv (some ([]:List ByteArray)) (a148.words.getD [])) ([a157.word]:List ByteArray)):Sl ByteArray)),pZ9 o171 2 [x166,iv 0]]++D2 (A:=Sentence) z10 ps12):=O176
   refine kC2 trivial ?_
   refine kAr (Tab.enc h175 before_) (fun m178 a177 hi179 hm180 => ?_)
   refine kA1 (v:=elp (Sl.enc before_) m178 1) ((Tab.enc h175 before_).fld _ _ _) ?_
   refine kA1 (v:=iv a177.cost) ((Tab.enc h175 before_).ld hm180 false 1 1) ?_
   refine kAr (O176.tab (A:=Fnd) (s:=c1) 0 rfl) (fun m182 a181 hi183 hm184 => ?_)
   refine kA1 (v:=AV.agg [sv a181.word,iv a181.path,iv a181.own]) ((O176.tab (A:=Fnd) (s:=c1) 0 rfl).ld hm184 true 3 0) ?_
   refine kC2 ⟨⟨(kCq (((O176.tab (A:=Fnd) (s:=c1) 0 rfl)).ixm hi183 hm184)),trivial⟩,⟨⟨(kCq (v:=AV.agg [sv a181.word,iv a181.path,iv a181.own]) ((O176.tab (A:=Fnd) (s:=c1) 0 rfl).ld hm184 true 3 0)),trivial⟩,trivial⟩⟩ ?_
   refine kBz he_q87 (kAz _ a181 rfl) (fun c185 => ?_)
   refine kAq (kAc (by rfl) _ _) ?_
   refine kC2 (Nat.le_refl _) ?_
   refine kA1 (kAj _ _) ?_
   refine kAr (O176.tab (A:=Fnd) (s:=c1) 0 rfl) (fun m187 a186 hi188 hm189 => ?_)
   refine kA1 (v:=elp x3 m187 0) ((O176.tab (A:=Fnd) (s:=c1) 0 rfl).fld _ _ _) ?_
   refine kA1 (v:=sv a186.word) ((O176.tab (A:=Fnd) (s:=c1) 0 rfl).ld hm189 false 1 0) ?_
   refine kC2 ⟨⟨(kCq (((O176.tab (A:=Fnd) (s:=c1) 0 rfl)).ixm hi188 hm189)),⟨(kCq (((O176.tab (A:=Fnd) (s:=c1) 0 rfl)).ixm hi188 hm189)),trivial⟩⟩,⟨⟨(kCq (v:=sv a186.word) ((O176.tab (A:=Fnd) (s:=c1) 0 rfl).ld hm189 false 1 0)),⟨(kCq (v:=sv a186.word) ((O176.tab (A:=Fnd) (s:=c1) 0 rfl).ld hm189 false 1 0)),trivial⟩⟩,trivial⟩⟩ ?_
   refine kE3 (y':=tp_q96 m_p (⟨#[]⟩:ByteArray) a186.word) (by simp only [tp_q96,hp_m_,kA4]) ?_
   refine kGl he_q96 (kDz _ _ _ _ rfl) (kC4 _ _) (kC4 _ _) (fun c190 => ?_)
   refine kAq (kAc (by rfl) _ _) ?_
   refine kC2 (Nat.le_refl _) ?_
   refine kA1 (kAj _ _) ?_
   refine kA1 (v:=AV.ptr o171 1 0 1) rfl ?_
   refine kC2 ⟨⟨(kCq (((Tab.enc h175 before_)).ixm hi179 hm180)),⟨(kCq (((Tab.enc h175 before_)).ixm hi179 hm180)),⟨(kCq (((Tab.enc h175 before_)).ixm hi179 hm180)),trivial⟩⟩⟩,⟨⟨(kCq (v:=iv a177.cost) ((Tab.enc h175 before_).ld hm180 false 1 1)),⟨(kCq (v:=iv a177.cost) ((Tab.enc h175 before_).ld hm180 false 1 1)),⟨(kCq (v:=iv a177.cost) ((Tab.enc h175 before_).ld hm180 false 1 1)),trivial⟩⟩⟩,trivial⟩⟩ ?_
   refine kAw O176 4 (cs':=[x166,iv (wr ((wr (a177.cost+c185))+c190))]) rfl (by first | rfl | simp) (by simp) (by first | rfl | simp) (by first | rfl | simp [kAx]) (fun h191 O192 => ?_)
   replace O192:Hold B h191 ([(x3,obS (c1:Sl Fnd)),pZ9 o32 2 [z41,iv w40],(z41,obS (w42:Sl ByteArray)),(x166,obS ((kBv (kBv (some ([]:List ByteArray)) (a148.words.getD [])) ([a157.word]:List ByteArray)):Sl ByteArray)),pZ9 o171 2 [x166,iv (wr ((wr (a177.cost+c185))+c190))]]++D2 (A:=Sentence) z10 ps12):=O192
   refine kC2 trivial ?_
   refine kA1 (kHu _ _) ?_
   refine kBt (e:=bv) (fun hb193 => ?_) (fun c195 => ?_)
   ·refine kE3 (y':=kGc ⟨[(⟨(kBv (kBv (some ([]:List ByteArray)) (a148.words.getD [])) ([a157.word]:List ByteArray)),wr ((wr (a177.cost+c185))+c190)⟩:Sentence)],0⟩ ⟨[(⟨w42,w40⟩:Sentence)],0⟩) (by simp only [kGc,get_pt1,kA4]) ?_
    refine kBo he_q89 (O192.snapR 4 rfl (⟨(kBv (kBv (some ([]:List ByteArray)) (a148.words.getD [])) ([a157.word]:List ByteArray)),wr ((wr (a177.cost+c185))+c190)⟩:Sentence) rfl (by simp [kBe,O192.snap7 (A:=ByteArray) (s:=(kBv (kBv (some ([]:List ByteArray)) (a148.words.getD [])) ([a157.word]:List ByteArray))) 3 rfl])) (O192.snapR 1 rfl (⟨w42,w40⟩:Sentence) rfl (by simp [kBe,O192.snap7 (A:=ByteArray) (s:=w42) 2 rfl])) (fun c194 => ?_)
    refine kAq (kAc (by rfl) _ _) ?_
    exact kA6 rfl
   ·refine kA1 (v:=bv (bif decide (w45=0) then true else c195)) (kCh _ _ _) ?_
    refine kAb (fun c196 => ?_) (fun c196 => ?_)
    ·refine kA1 (v:=AV.agg [x166,iv (wr ((wr (a177.cost+c185))+c190))]) (O192.ld 4 rfl true 2 0) ?_
     have jZ0:=O192.one (A:=ByteArray) (s:=(kBv (kBv (some ([]:List ByteArray)) (a148.words.getD [])) ([a157.word]:List ByteArray))) 3 rfl
     refine kAw O192 1 (cs':=[x166,iv (wr ((wr (a177.cost+c185))+c190))]) rfl (by first | rfl | simp [jZ0.1,jZ0.2]) (by simp) (by first | rfl | simp [jZ0.1,jZ0.2]) (by first | rfl | simp [kAx,jZ0.1,jZ0.2]) (fun h197 O198 => ?_)
     replace O198:Hold B h197 ([(x3,obS (c1:Sl Fnd)),pZ9 o32 2 [x166,iv (wr ((wr (a177.cost+c185))+c190))],(z41,obS (w42:Sl ByteArray)),(x166,obS ((kBv (kBv (some ([]:List ByteArray)) (a148.words.getD [])) ([a157.word]:List ByteArray)):Sl ByteArray)),pZ9 o171 2 [x166,iv (wr ((wr (a177.cost+c185))+c190))]]++D2 (A:=Sentence) z10 ps12):=O198
     refine kA1 (kAj _ _) ?_
     have O199:Hold B h197 ([(x3,obS (c1:Sl Fnd)),pZ9 o32 2 [x166,iv (wr ((wr (a177.cost+c185))+c190))],(x166,obS ((kBv (kBv (some ([]:List ByteArray)) (a148.words.getD [])) ([a157.word]:List ByteArray)):Sl ByteArray))]++D2 (A:=Sentence) z10 ps12):=O198.selD [0,1,3] (by decide) rfl
     exact kA6 ⟨rfl,_,rfl,O199⟩
    ·refine kA1 (kAj _ _) ?_
     have O200:Hold B h191 ([(x3,obS (c1:Sl Fnd)),pZ9 o32 2 [z41,iv w40],(z41,obS (w42:Sl ByteArray))]++D2 (A:=Sentence) z10 ps12):=O192.selD [0,1,2] (by decide) rfl
     exact kA6 ⟨rfl,_,rfl,O200⟩
 ·exact kA6 ⟨nofun,_,_,_,_,_,rfl,O44⟩
theorem tl0_q94 (env:Nat→Contract) {B:Base} (he_q84:env n_q84=.pure (C2 (fun c:(Sl Fnd)=>rS c) tp_q84)) (he_q87:env n_q87=.pure (C1 (fun c:Int=>enc c) kJq)) (he_q89:env n_q89=.pure (C2 (fun c:Bool=>enc c) kGc)) (he_q96:env n_q96=.pure (C3 (fun c:Int=>enc c) tp_q96)) (before_:Sl Sentence) (l_p:Pt Lattice) (x_p:Pt Lexicon) (m_:Model) (m_p:Pt Model) (hp_m_:m_p.get=some m_) (c1:(Sl Fnd)) (x3:AV) (x6:AV) :kFq (fun (st:(Sl Sentence)×Int) tm h14=>match st with | (w11,w16)=>∃ y17 y18 z10,∃ ps12:PS Sentence,tm=((Sl.enc before_)::(AV.fptr (Row.w Lattice) (l_p.tab.map Row.cells) l_p.i 0)::(AV.fptr (Row.w Lexicon) (x_p.tab.map Row.cells) x_p.i 0)::(AV.fptr (Row.w Model) (m_p.tab.map Row.cells) m_p.i 0)::und::und::und::und::kB3::x3::z10::(iv w16)::.top::.top::y17::y18::(AV.fptr (Row.w Lattice) (l_p.tab.map Row.cells) l_p.i 0)::(AV.fptr (Row.w Lexicon) (x_p.tab.map Row.cells) x_p.i 0)::x3::x6::tZ9 83 [und])∧pj ps12=w11∧Hold B h14 ([(x3,obS (c1:Sl Fnd))]++D2 (A:=Sentence) z10 ps12)) hm0_q94 xm0_q94 (lb0_q94 env) (s0_q94 before_ m_ c1) (fun (q:Sl Sentence) (r:Res)=>match q with | q22=>∃ (q25:Int) (z21:AV) (z26:AV) (z27:AV) (z28:AV) (z29:AV) (ps23:PS Sentence) (h19:kA9),r=(.exit 0,((Sl.enc before_)::(AV.fptr (Row.w Lattice) (l_p.tab.map Row.cells) l_p.i 0)::(AV.fptr (Row.w Lexicon) (x_p.tab.map Row.cells) x_p.i 0)::(AV.fptr (Row.w Model) (m_p.tab.map Row.cells) m_p.i 0)::und::und::und::und::kB3::x3::z21::(iv q25)::z26::z27::z28::z29::(AV.fptr (Row.w Lattice) (l_p.tab.map Row.cells) l_p.i 0)::(AV.fptr (Row.w Lexicon) (x_p.tab.map Row.cells) x_p.i 0)::x3::x6::tZ9 83 [und]),h19)∧pj ps23=q22∧Hold B h19 ([(x3,obS (c1:Sl Fnd))]++D2 (A:=Sentence) z21 ps23)):=by
 refine @kG0 _ _ _ _ _ _ _ _ (fun st tm h14 R => ?_)
 obtain ⟨w11,w16⟩:=st
 obtain ⟨y17,y18,z10,ps12,rfl,hp13,O15⟩:=R
 rw [e_lb0_q94]
 unfold s0_q94
 dsimp only
 refine kA1 (v:=iv (((c1.getD []).length:Nat):Int)) (O15.tab (A:=Fnd) (s:=c1) 0 rfl).len ?_
 refine kA1 (kAl _ _) ?_
 refine kAb (fun c31 => ?_) (fun c31 => ?_)
 ·refine kA1 (v:=AV.agg [kB3,iv 0]) (by first | rfl | simp [kCm,kGf,kAx]) ?_
  refine kAs O15 (cs:=[kB3,iv 0]) (by first | rfl | simp) (fun o32 h33 O34 => ?_)
  replace O34:Hold B h33 ([(x3,obS (c1:Sl Fnd)),pZ9 o32 2 [kB3,iv 0]]++D2 (A:=Sentence) z10 ps12):=Hold.rot O34
  refine kAw O34 1 (cs':=[kB3,iv 0]) rfl (by first | rfl | simp) (by simp) (by first | rfl | simp) (by first | rfl | simp [kAx]) (fun h36 O37 => ?_)
  replace O37:Hold B h36 ([(x3,obS (c1:Sl Fnd)),pZ9 o32 2 [kB3,iv 0]]++D2 (A:=Sentence) z10 ps12):=O37
  have O38:Hold B h36 ([(x3,obS (c1:Sl Fnd)),pZ9 o32 2 [kB3,iv 0],(kB3,obS ((none:Sl ByteArray):Sl ByteArray))]++D2 (A:=Sentence) z10 ps12):=Hold.rot O37.addnil
  refine kB6 ((tl1_q94 env he_q84 he_q87 he_q89 he_q96 before_ l_p x_p m_ m_p hp_m_ c1 x3 x6 z10 ps12 w16 o32) ⟨_,rfl,O38⟩) (fun qq203 r hq => ?_)
  obtain ⟨q48,q50⟩:=qq203
  obtain ⟨q51,z49,z52,z53,h46,rfl,O47⟩:=hq
  rw [e_lk1x2_q94]
  refine kA1 (Tab.enc h46 before_).len ?_
  refine kA1 (kDa _ _) ?_
  refine kAb (fun c54 => ?_) (fun c54 => ?_)
  ·refine kA1 (v:=AV.agg [z49,iv q48]) (O47.ld 1 rfl true 2 0) ?_
   have jZ0:=O47.one (A:=ByteArray) (s:=q50) 2 rfl
   refine kHp O47 [[z49,iv q48]] 2 rfl (by first | rfl | simp [kBy,kEp,jZ0.1,jZ0.2]) rfl (fun x55 h56 O57 => ?_)
   replace O57:Hold B h56 ([(x3,obS (c1:Sl Fnd)),pZ9 o32 2 [z49,iv q48],(z49,obS (q50:Sl ByteArray)),(x55,.sl 2 [[z49,iv q48]])]++D2 (A:=Sentence) z10 ps12):=Hold.rot O57
   have O59:Hold B h56 ([(x3,obS (c1:Sl Fnd)),pZ9 o32 2 [z49,iv q48],(z49,obS (q50:Sl ByteArray)),(x55,.sl 2 [[z49,iv q48]])]++D2 (A:=Sentence) z10 ps12):=O57.selD [0,1,2,3] (by decide) rfl
   refine sim_push (l:=[(x3,obS (c1:Sl Fnd)),pZ9 o32 2 [z49,iv q48]]) (a:=(⟨q50,q48⟩:Sentence)) (y:=z49) (x:=z10) (ps:=ps12) O59 hp13 (by decide) (fun x60 ps63 h61 hp64 hm65 O62 => ?_)
   refine kA1 (kAj _ _) ?_
   have O67:Hold B h61 ([(x3,obS (c1:Sl Fnd))]++D2 (A:=Sentence) x60 ps63):=O62.selD [0] (by decide) rfl
   exact kA6 ⟨rfl,_,_,_,_,rfl,hp64,O67⟩
  ·refine kA1 (kAj _ _) ?_
   have O68:Hold B h46 ([(x3,obS (c1:Sl Fnd))]++D2 (A:=Sentence) z10 ps12):=O47.selD [0] (by decide) rfl
   exact kA6 ⟨rfl,_,_,_,_,rfl,hp13,O68⟩
 ·exact kA6 ⟨nofun,_,_,_,_,_,_,_,_,rfl,hp13,O15⟩
theorem ts_q94 (env:Nat→Contract) (he_q84:env n_q84=.pure (C2 (fun c:(Sl Fnd)=>rS c) tp_q84)) (he_q87:env n_q87=.pure (C1 (fun c:Int=>enc c) kJq)) (he_q89:env n_q89=.pure (C2 (fun c:Bool=>enc c) kGc)) (he_q96:env n_q96=.pure (C3 (fun c:Int=>enc c) tp_q96)) (before_:Sl Sentence) (l_:Lattice) (x_:Lexicon) (m_:Model) {l_p:Pt Lattice} (hp_l_:l_p.get=some l_) {x_p:Pt Lexicon} (hp_x_:x_p.get=some x_) {m_p:Pt Model} (hp_m_:m_p.get=some m_):Sim (kIr true Tryz.prog env n_q94 [Sl.enc before_,AV.fptr (Row.w Lattice) (l_p.tab.map Row.cells) l_p.i 0,AV.fptr (Row.w Lexicon) (x_p.tab.map Row.cells) x_p.i 0,AV.fptr (Row.w Model) (m_p.tab.map Row.cells) m_p.i 0] []) (t_q94 before_ l_ x_ m_) fun c p=>release p.2 depth p.1=some ((fun c:(Sl Sentence)=>rD c) c):=by
 have O:=Hold.nil []
 generalize hB:(⟨[],[]⟩:Base)=B at O
 clear hB
 rw [e_q94]
 unfold t_q94
 refine kE3 (y':=tp_q84 l_p x_p) (by simp only [tp_q84,hp_l_,hp_x_,kA4]) ?_
 refine kBo he_q84 (kDz _ _ _ _ rfl) (kDz _ _ _ _ rfl) (fun c1 => ?_)
 refine sim_hand (A:=Fnd) O (fun x3 h4 O5 => ?_)
 replace O5:Hold B h4 [(x3,obS (c1:Sl Fnd))]:=O5
 refine kHp O5 [] 2 rfl rfl rfl (fun x6 h7 O8 => ?_)
 replace O8:Hold B h7 ([(x3,obS (c1:Sl Fnd))]++D2 (A:=Sentence) x6 (some []:PS Sentence)):=O8
 refine kB6 ((tl0_q94 env he_q84 he_q87 he_q89 he_q96 before_ l_p x_p m_ m_p hp_m_ c1 x3 x6) ⟨_,_,_,_,rfl,(rfl:pj (some []:PS Sentence)=(some ([]:List Sentence))),O8⟩) (fun qq206 r hq => ?_)
 revert hq
 revert qq206
 intro q22 hq
 obtain ⟨q25,z21,z26,z27,z28,z29,ps23,h19,rfl,hp24,O20⟩:=hq
 rw [e_lk0x0_q94]
 have O30:Hold B h19 ([]++D2 (A:=Sentence) z21 ps23):=O20.selD [] (by decide) rfl
 exact kA6 (kF1 (by simp only [kJ0,kGv,kJo,kJu,ids_bv,ids_sv,ids_bt,kGt,kJe,D2.ids8 (l:=[]) (x:=z21) (ps:=ps23) (A:=Sentence) O30,List.map_append,List.map_nil,List.flatMap_cons,List.flatMap_nil,List.append_nil,List.nil_append];simpa only [List.flatMap_cons,List.flatMap_nil,List.append_nil,List.nil_append] using O30.nd2) (by simp only [kJ4,kH3,kHt,kJz,rel_bv,rel_sv,rel_bt,kH1,kJn,D2.rel8 (l:=[]) (x:=z21) (ps:=ps23) (A:=Sentence) O30 hp24,omapc,omapn,kA4] <;> rfl))
theorem tt_q94:kAn Tryz.prog n_q94 (C4 (fun c:(Sl Sentence)=>rD c) tp_q94):=pureCW4 (kBc tt_q84 (kBc tt_q87 (kBc tt_q89 (kBc tt_q96 E0)))) kBd hb_q94 fun before_ l_p x_p m_p=>kCj fun l_ hp_l_=>kCj fun x_ hp_x_=>kCj fun m_ hp_m_=>ts_q94 _ (by simp [kBx]) (by simp [kBx]) (by simp [kBx]) (by simp [kBx]) before_ l_ x_ m_ hp_l_ hp_x_ hp_m_
def s1_q72 (q36:Sl Sentence):(Sentence×Int×Int)→Option (Sum (Sentence×Int×Int) (Sentence×Int)):=fun (w56,w59,w62) =>
 bif decide (w62<(((q36.getD []).length:Nat):Int)) then
  kA0 (kC7 (q36.getD []) w62) fun a77 =>
  kA0 (t_q89 a77 (⟨w56.words,w59⟩:Sentence)) fun c83 =>
  bif c83 then
   kA0 (kC7 (q36.getD []) w62) fun a85 =>
   some (.inl (a85,a85.cost,wr (w62+1)))
  else
   some (.inl (w56,w59,wr (w62+1)))
 else
  some (.inr (w56,w59))
def s0_q72 (list_:Sl Lattice) (x_:Lexicon) (m_:Model):((Sl Sentence)×Int)→Option (Sum ((Sl Sentence)×Int) (Sl Sentence)):=fun (w27,w32) =>
 bif decide (w32<(((list_.getD []).length:Nat):Int)) then
  kA0 (kC7 (list_.getD []) w32) fun a99 =>
  kA0 (t_q94 w27 a99 x_ m_) fun c103 =>
  some (.inl (c103,wr (w32+1)))
 else
  some (.inr w27)
def t_q72 (list_:Sl Lattice) (x_:Lexicon) (m_:Model):Option (Sentence×Int) :=
 kA0 (t_q91 list_ x_ m_) fun c13 =>
 bif !decide (c13=0) then
  some ((⟨(none:Sl ByteArray),0⟩:Sentence),c13)
 else
  kA0 (kBg (s0_q72 list_ x_ m_) ((some ([(⟨(some ([]:List ByteArray)),0⟩:Sentence)]:List Sentence)),0)) fun q36 =>
  bif decide ((((q36.getD []).length:Nat):Int)=0) then
   some ((⟨(none:Sl ByteArray),0⟩:Sentence),3)
  else
   kA0 (kC7 (q36.getD []) 0) fun a43 =>
   kA0 (kBg (s1_q72 q36) (a43,a43.cost,1)) fun (q66,q69) =>
   some ((⟨q66.words,q69⟩:Sentence),0)
theorem tl1_q72 (env:Nat→Contract) {B:Base} (he_q89:env n_q89=.pure (C2 (fun c:Bool=>enc c) kGc)) (he_q91:env n_q91=.pure (C3 (fun c:Int=>enc c) tp_q91)) (he_q94:env n_q94=.pure (C4 (fun c:(Sl Sentence)=>rD c) tp_q94)) (list_:Sl Lattice) (x_:Lexicon) (m_:Model) (o1:Nat) (o5:Nat) (o9:Nat) (c13:Int) (x17:AV) (x21:AV) (z35:AV) (q36:Sl Sentence) (ps37:PS Sentence) (hp38:pj ps37=q36) (q39:Int) (a43:Sentence) (m44:Nat) (x47:AV) (o49:Nat) :kFq (fun (st:Sentence×Int×Int) tm h60=>match st with | (w56,w59,w62)=>∃ z55,∃ m57:Nat,tm=((Sl.enc list_)::(AV.agg [Sl.enc x_.entries])::(AV.agg [iv m_.default,Sl.enc m_.bigrams])::und::(AV.ptr o1 1 0 0)::(AV.ptr o5 1 0 0)::(AV.ptr o9 1 0 0)::(iv 0)::(iv c13)::z35::(iv q39)::(AV.ptr o49 1 0 0)::(iv w62)::(Sl.enc list_)::(iv c13)::(iv c13)::(bv (!decide (c13=0)))::und::und::x17::(AV.agg [x17,iv 0])::x21::.top::.top::.top::.top::.top::.top::.top::.top::.top::.top::.top::z35::(iv (((q36.getD []).length:Nat):Int))::(bv (decide ((((q36.getD []).length:Nat):Int)=0)))::und::z35::(elp z35 m44 0)::(AV.agg [x47,iv a43.cost])::tZ9 14 [und])∧(ps37.getD [])[m57]?=some (w56,z55)∧Hold B h60 ([pZ9 o1 1 [Sl.enc x_.entries],pZ9 o5 2 [iv m_.default,Sl.enc m_.bigrams],pZ9 o9 2 [kB3,iv 0],pZ9 o49 2 [z55,iv w59]]++D2 (A:=Sentence) z35 ps37)) hm1_q72 xm1_q72 (lb1_q72 env) (s1_q72 q36) (fun (q:Sentence×Int) (r:Res)=>match q with | (q66,q69)=>∃ (q70:Int) (z65:AV) (m67:Nat) (h63:kA9),r=(.exit 2,((Sl.enc list_)::(AV.agg [Sl.enc x_.entries])::(AV.agg [iv m_.default,Sl.enc m_.bigrams])::und::(AV.ptr o1 1 0 0)::(AV.ptr o5 1 0 0)::(AV.ptr o9 1 0 0)::(iv 0)::(iv c13)::z35::(iv q39)::(AV.ptr o49 1 0 0)::(iv q70)::(Sl.enc list_)::(iv c13)::(iv c13)::(bv (!decide (c13=0)))::und::und::x17::(AV.agg [x17,iv 0])::x21::.top::.top::.top::.top::.top::.top::.top::.top::.top::.top::.top::z35::(iv (((q36.getD []).length:Nat):Int))::(bv (decide ((((q36.getD []).length:Nat):Int)=0)))::und::z35::(elp z35 m44 0)::(AV.agg [x47,iv a43.cost])::tZ9 14 [und]),h63)∧(ps37.getD [])[m67]?=some (q66,z65)∧Hold B h63 ([pZ9 o1 1 [Sl.enc x_.entries],pZ9 o5 2 [iv m_.default,Sl.enc m_.bigrams],pZ9 o9 2 [kB3,iv 0],pZ9 o49 2 [z65,iv q69]]++D2 (A:=Sentence) z35 ps37)):=by
 refine @kG0 _ _ _ _ _ _ _ _ (fun st tm h60 R => ?_)
 obtain ⟨w56,w59,w62⟩:=st
 obtain ⟨z55,m57,rfl,hm58,O61⟩:=R
 rw [e_lb1_q72]
 unfold s1_q72
 dsimp only
 refine kA1 (D2.lenS (l:=[pZ9 o1 1 [Sl.enc x_.entries],pZ9 o5 2 [iv m_.default,Sl.enc m_.bigrams],pZ9 o9 2 [kB3,iv 0],pZ9 o49 2 [z55,iv w59]]) (x:=z35) (ps:=ps37) (A:=Sentence) O61 hp38) ?_
 refine kA1 (kAl _ _) ?_
 refine kAb (fun c76 => ?_) (fun c76 => ?_)
 ·refine kGx (l:=[pZ9 o1 1 [Sl.enc x_.entries],pZ9 o5 2 [iv m_.default,Sl.enc m_.bigrams],pZ9 o9 2 [kB3,iv 0],pZ9 o49 2 [z55,iv w59]]) (x:=z35) (ps:=ps37) (A:=Sentence) O61 hp38 (fun m78 a77 x81 hi79 hm80 hg82 => ?_)
  refine kE3 (y':=kGc ⟨q36.getD [],m78⟩ ⟨[(⟨w56.words,w59⟩:Sentence)],0⟩) (by simp only [kGc,get_pt1,kFm (D2.getE hp38 hm80),kA4]) ?_
  refine kBo he_q89 (D2.snapE (l:=[pZ9 o1 1 [Sl.enc x_.entries],pZ9 o5 2 [iv m_.default,Sl.enc m_.bigrams],pZ9 o9 2 [kB3,iv 0],pZ9 o49 2 [z55,iv w59]]) (x:=z35) (ps:=ps37) (A:=Sentence) O61 hp38 hm80) (O61.snapR 3 rfl (⟨w56.words,w59⟩:Sentence) rfl (by simp [kBe,O61.snap7 (A:=ByteArray) (s:=w56.words) _ (D2.at hm58)])) (fun c83 => ?_)
  refine kAq (kAc (by rfl) _ _) ?_
  refine kAb (fun c84 => ?_) (fun c84 => ?_)
  ·refine kGx (l:=[pZ9 o1 1 [Sl.enc x_.entries],pZ9 o5 2 [iv m_.default,Sl.enc m_.bigrams],pZ9 o9 2 [kB3,iv 0],pZ9 o49 2 [z55,iv w59]]) (x:=z35) (ps:=ps37) (A:=Sentence) O61 hp38 (fun m86 a85 x89 hi87 hm88 hg90 => ?_)
   refine kA1 (v:=AV.agg [x89,iv a85.cost]) (D2.ld (l:=[pZ9 o1 1 [Sl.enc x_.entries],pZ9 o5 2 [iv m_.default,Sl.enc m_.bigrams],pZ9 o9 2 [kB3,iv 0],pZ9 o49 2 [z55,iv w59]]) (x:=z35) (ps:=ps37) (A:=Sentence) O61 hm88 true 2 0) ?_
   have jZ0:=D2.one (l:=[pZ9 o1 1 [Sl.enc x_.entries],pZ9 o5 2 [iv m_.default,Sl.enc m_.bigrams],pZ9 o9 2 [kB3,iv 0],pZ9 o49 2 [z55,iv w59]]) (x:=z35) (ps:=ps37) (A:=Sentence) O61 hm88
   refine kAw O61 3 (cs':=[x89,iv a85.cost]) rfl (by first | rfl | simp [jZ0.1,jZ0.2]) (by simp) (by first | rfl | simp [jZ0.1,jZ0.2]) (by first | rfl | simp [kAx,jZ0.1,jZ0.2]) (fun h91 O92 => ?_)
   replace O92:Hold B h91 ([pZ9 o1 1 [Sl.enc x_.entries],pZ9 o5 2 [iv m_.default,Sl.enc m_.bigrams],pZ9 o9 2 [kB3,iv 0],pZ9 o49 2 [x89,iv a85.cost]]++D2 (A:=Sentence) z35 ps37):=O92
   refine kA1 (kAj _ _) ?_
   exact kA6 ⟨rfl,_,_,rfl,hm88,O92⟩
  ·refine kA1 (kAj _ _) ?_
   exact kA6 ⟨rfl,_,_,rfl,hm58,O61⟩
 ·exact kA6 ⟨nofun,_,_,_,_,rfl,hm58,O61⟩
theorem tl0_q72 (env:Nat→Contract) {B:Base} (he_q89:env n_q89=.pure (C2 (fun c:Bool=>enc c) kGc)) (he_q91:env n_q91=.pure (C3 (fun c:Int=>enc c) tp_q91)) (he_q94:env n_q94=.pure (C4 (fun c:(Sl Sentence)=>rD c) tp_q94)) (list_:Sl Lattice) (x_:Lexicon) (m_:Model) (o1:Nat) (o5:Nat) (o9:Nat) (c13:Int) (x17:AV) (x21:AV) :kFq (fun (st:(Sl Sentence)×Int) tm h30=>match st with | (w27,w32)=>∃ z26,∃ ps28:PS Sentence,tm=((Sl.enc list_)::(AV.agg [Sl.enc x_.entries])::(AV.agg [iv m_.default,Sl.enc m_.bigrams])::und::(AV.ptr o1 1 0 0)::(AV.ptr o5 1 0 0)::(AV.ptr o9 1 0 0)::(iv 0)::(iv c13)::z26::(iv w32)::und::und::(Sl.enc list_)::(iv c13)::(iv c13)::(bv (!decide (c13=0)))::und::und::x17::(AV.agg [x17,iv 0])::x21::tZ9 11 [und,und,und,und,und,und,und,und,und,und,und,und,und,und,und,und,und,und,und,und,und,und])∧pj ps28=w27∧Hold B h30 ([pZ9 o1 1 [Sl.enc x_.entries],pZ9 o5 2 [iv m_.default,Sl.enc m_.bigrams],pZ9 o9 2 [kB3,iv 0]]++D2 (A:=Sentence) z26 ps28)) hm0_q72 xm0_q72 (lb0_q72 env) (s0_q72 list_ x_ m_) (fun (q:Sl Sentence) (r:Res)=>match q with | q36=>∃ (q39:Int) (z35:AV) (ps37:PS Sentence) (h33:kA9),r=(.exit 0,((Sl.enc list_)::(AV.agg [Sl.enc x_.entries])::(AV.agg [iv m_.default,Sl.enc m_.bigrams])::und::(AV.ptr o1 1 0 0)::(AV.ptr o5 1 0 0)::(AV.ptr o9 1 0 0)::(iv 0)::(iv c13)::z35::(iv q39)::und::und::(Sl.enc list_)::(iv c13)::(iv c13)::(bv (!decide (c13=0)))::und::und::x17::(AV.agg [x17,iv 0])::x21::tZ9 11 [und,und,und,und,und,und,und,und,und,und,und,und,und,und,und,und,und,und,und,und,und,und]),h33)∧pj ps37=q36∧Hold B h33 ([pZ9 o1 1 [Sl.enc x_.entries],pZ9 o5 2 [iv m_.default,Sl.enc m_.bigrams],pZ9 o9 2 [kB3,iv 0]]++D2 (A:=Sentence) z35 ps37)):=by
 refine @kG0 _ _ _ _ _ _ _ _ (fun st tm h30 R => ?_)
 obtain ⟨w27,w32⟩:=st
 obtain ⟨z26,ps28,rfl,hp29,O31⟩:=R
 rw [e_lb0_q72]
 unfold s0_q72
 dsimp only
 refine kA1 (Tab.enc h30 list_).len ?_
 refine kA1 (kAl _ _) ?_
 refine kAb (fun c98 => ?_) (fun c98 => ?_)
 ·refine kAr (Tab.enc h30 list_) (fun m100 a99 hi101 hm102 => ?_)
  refine kE3 (y':=tp_q94 w27 ⟨list_.getD [],m100⟩ ⟨[x_],0⟩ ⟨[m_],0⟩) (by simp only [tp_q94,get_pt1,kFm hm102,kA4]) ?_
  refine sim_call4 he_q94 ((D2.snapD (l:=[pZ9 o1 1 [Sl.enc x_.entries],pZ9 o5 2 [iv m_.default,Sl.enc m_.bigrams],pZ9 o9 2 [kB3,iv 0]]) (x:=z26) (ps:=ps28) (A:=Sentence) O31 hp29).2) (kEm _ list_ hm102) (O31.snapRn 0 rfl x_ rfl rfl) (O31.snapRn 1 rfl m_ rfl rfl) (fun c103 => ?_)
  have O110:Hold B h30 [pZ9 o1 1 [Sl.enc x_.entries],pZ9 o5 2 [iv m_.default,Sl.enc m_.bigrams],pZ9 o9 2 [kB3,iv 0]]:=O31.left
  refine kHy (l:=[pZ9 o1 1 [Sl.enc x_.entries],pZ9 o5 2 [iv m_.default,Sl.enc m_.bigrams],pZ9 o9 2 [kB3,iv 0]]) (A:=Sentence) O110 (fun x105 ps108 h106 hp109 O107 => ?_)
  refine kA1 (kAj _ _) ?_
  exact kA6 ⟨rfl,_,_,rfl,hp109,O107⟩
 ·exact kA6 ⟨nofun,_,_,_,_,rfl,hp29,O31⟩
theorem ts_q72 (env:Nat→Contract) (he_q89:env n_q89=.pure (C2 (fun c:Bool=>enc c) kGc)) (he_q91:env n_q91=.pure (C3 (fun c:Int=>enc c) tp_q91)) (he_q94:env n_q94=.pure (C4 (fun c:(Sl Sentence)=>rD c) tp_q94)) (list_:Sl Lattice) (x_:Lexicon) (m_:Model):Sim (kAm Tryz.prog env n_q72 [Sl.enc list_,AV.agg [Sl.enc x_.entries],AV.agg [iv m_.default,Sl.enc m_.bigrams]] []) (t_q72 list_ x_ m_) fun c p=>release p.2 depth p.1=some ((fun c:Sentence×Int=>AV.tup [AV.agg [rS c.1.words,iv c.1.cost],enc c.2]) c):=by
 have O:=Hold.nil []
 generalize hB:(⟨[],[]⟩:Base)=B at O
 clear hB
 rw [e_q72]
 unfold t_q72
 refine kAs O (cs:=[Sl.enc x_.entries]) (by first | rfl | simp) (fun o1 h2 O3 => ?_)
 replace O3:Hold B h2 [pZ9 o1 1 [Sl.enc x_.entries]]:=O3
 refine kAs O3 (cs:=[iv m_.default,Sl.enc m_.bigrams]) (by first | rfl | simp) (fun o5 h6 O7 => ?_)
 replace O7:Hold B h6 [pZ9 o1 1 [Sl.enc x_.entries],pZ9 o5 2 [iv m_.default,Sl.enc m_.bigrams]]:=O7
 refine kAs O7 (cs:=[kB3,iv 0]) (by first | rfl | simp) (fun o9 h10 O11 => ?_)
 replace O11:Hold B h10 [pZ9 o1 1 [Sl.enc x_.entries],pZ9 o5 2 [iv m_.default,Sl.enc m_.bigrams],pZ9 o9 2 [kB3,iv 0]]:=O11
 refine kE3 (y':=tp_q91 list_ ⟨[x_],0⟩ ⟨[m_],0⟩) (by simp only [tp_q91,get_pt1,kA4]) ?_
 refine kGl he_q91 (kBp _ _) (O11.snapRn 0 rfl x_ rfl rfl) (O11.snapRn 1 rfl m_ rfl rfl) (fun c13 => ?_)
 refine kAq (kAc (by rfl) _ _) ?_
 refine kA1 (kCo _ _) ?_
 refine kAb (fun c14 => ?_) (fun c14 => ?_)
 ·refine kA1 (v:=AV.agg [kB3,iv 0]) (by first | rfl | simp [kCm,kGf,kAx]) ?_
  refine kAw O11 2 (cs':=[kB3,iv 0]) rfl (by first | rfl | simp) (by simp) (by first | rfl | simp) (by first | rfl | simp [kAx]) (fun h15 O16 => ?_)
  replace O16:Hold B h15 [pZ9 o1 1 [Sl.enc x_.entries],pZ9 o5 2 [iv m_.default,Sl.enc m_.bigrams],pZ9 o9 2 [kB3,iv 0]]:=O16
  refine kEc (kHh (v:=AV.agg [kB3,iv 0]) (O16.ld 2 rfl true 2 0) (resL_v (v:=iv c13) (kEe _))) ?_
  dsimp only [pack]
  exact kA6 (kA5 (by rfl) _)
 ·refine kD7 (A:=ByteArray) O11 ([]:List ByteArray) rfl (by first | rfl | simp [kBy,kEp]) rfl (fun x17 h18 O19 => ?_)
  replace O19:Hold B h18 [pZ9 o1 1 [Sl.enc x_.entries],pZ9 o5 2 [iv m_.default,Sl.enc m_.bigrams],pZ9 o9 2 [kB3,iv 0],(x17,obS ((some ([]:List ByteArray)):Sl ByteArray))]:=O19
  have jZ0:=O19.one (A:=ByteArray) (s:=(some ([]:List ByteArray))) 3 rfl
  refine kA1 (v:=AV.agg [x17,iv 0]) (by first | rfl | simp [kCm,kGf,kAx,jZ0.1,jZ0.2]) ?_
  have jZ0:=O19.one (A:=ByteArray) (s:=(some ([]:List ByteArray))) 3 rfl
  refine kHp O19 [[x17,iv 0]] 2 rfl (by first | rfl | simp [kBy,kEp,jZ0.1,jZ0.2]) rfl (fun x21 h22 O23 => ?_)
  replace O23:Hold B h22 [pZ9 o1 1 [Sl.enc x_.entries],pZ9 o5 2 [iv m_.default,Sl.enc m_.bigrams],pZ9 o9 2 [kB3,iv 0],(x17,obS ((some ([]:List ByteArray)):Sl ByteArray)),(x21,.sl 2 [[x17,iv 0]])]:=O23
  have O25:Hold B h22 ([pZ9 o1 1 [Sl.enc x_.entries],pZ9 o5 2 [iv m_.default,Sl.enc m_.bigrams],pZ9 o9 2 [kB3,iv 0]]++D2 (A:=Sentence) x21 (some [((⟨(some ([]:List ByteArray)),0⟩:Sentence),x17)])):=O23.sel [0,1,2,4,3] (by decide) rfl
  refine kB6 ((tl0_q72 env he_q89 he_q91 he_q94 list_ x_ m_ o1 o5 o9 c13 x17 x21) ⟨_,_,rfl,(rfl:pj ((some [((⟨(some ([]:List ByteArray)),0⟩:Sentence),x17)]):PS Sentence)=(some ([(⟨(some ([]:List ByteArray)),0⟩:Sentence)]:List Sentence))),O25⟩) (fun qq114 r hq => ?_)
  revert hq
  revert qq114
  intro q36 hq
  obtain ⟨q39,z35,ps37,h33,rfl,hp38,O34⟩:=hq
  rw [e_lk0x0_q72]
  refine kA1 (D2.lenS (l:=[pZ9 o1 1 [Sl.enc x_.entries],pZ9 o5 2 [iv m_.default,Sl.enc m_.bigrams],pZ9 o9 2 [kB3,iv 0]]) (x:=z35) (ps:=ps37) (A:=Sentence) O34 hp38) ?_
  refine kA1 (kHu _ _) ?_
  refine kAb (fun c40 => ?_) (fun c40 => ?_)
  ·refine kA1 (v:=AV.agg [kB3,iv 0]) (by first | rfl | simp [kCm,kGf,kAx]) ?_
   refine kAw O34 2 (cs':=[kB3,iv 0]) rfl (by first | rfl | simp) (by simp) (by first | rfl | simp) (by first | rfl | simp [kAx]) (fun h41 O42 => ?_)
   replace O42:Hold B h41 ([pZ9 o1 1 [Sl.enc x_.entries],pZ9 o5 2 [iv m_.default,Sl.enc m_.bigrams],pZ9 o9 2 [kB3,iv 0]]++D2 (A:=Sentence) z35 ps37):=O42
   refine kEc (kHh (v:=AV.agg [kB3,iv 0]) (O42.ld 2 rfl true 2 0) (resL_v (v:=iv 3) (kEe _))) ?_
   dsimp only [pack]
   exact kA6 (kA5 (by rfl) _)
  ·refine kGx (l:=[pZ9 o1 1 [Sl.enc x_.entries],pZ9 o5 2 [iv m_.default,Sl.enc m_.bigrams],pZ9 o9 2 [kB3,iv 0]]) (x:=z35) (ps:=ps37) (A:=Sentence) O34 hp38 (fun m44 a43 x47 hi45 hm46 hg48 => ?_)
   refine kA1 (v:=AV.agg [x47,iv a43.cost]) (D2.ld (l:=[pZ9 o1 1 [Sl.enc x_.entries],pZ9 o5 2 [iv m_.default,Sl.enc m_.bigrams],pZ9 o9 2 [kB3,iv 0]]) (x:=z35) (ps:=ps37) (A:=Sentence) O34 hm46 true 2 0) ?_
   refine kAs O34 (cs:=[kB3,iv 0]) (by first | rfl | simp) (fun o49 h50 O51 => ?_)
   replace O51:Hold B h50 ([pZ9 o1 1 [Sl.enc x_.entries],pZ9 o5 2 [iv m_.default,Sl.enc m_.bigrams],pZ9 o9 2 [kB3,iv 0],pZ9 o49 2 [kB3,iv 0]]++D2 (A:=Sentence) z35 ps37):=Hold.rot O51
   have jZ0:=D2.one (l:=[pZ9 o1 1 [Sl.enc x_.entries],pZ9 o5 2 [iv m_.default,Sl.enc m_.bigrams],pZ9 o9 2 [kB3,iv 0],pZ9 o49 2 [kB3,iv 0]]) (x:=z35) (ps:=ps37) (A:=Sentence) O51 hm46
   refine kAw O51 3 (cs':=[x47,iv a43.cost]) rfl (by first | rfl | simp [jZ0.1,jZ0.2]) (by simp) (by first | rfl | simp [jZ0.1,jZ0.2]) (by first | rfl | simp [kAx,jZ0.1,jZ0.2]) (fun h53 O54 => ?_)
   replace O54:Hold B h53 ([pZ9 o1 1 [Sl.enc x_.entries],pZ9 o5 2 [iv m_.default,Sl.enc m_.bigrams],pZ9 o9 2 [kB3,iv 0],pZ9 o49 2 [x47,iv a43.cost]]++D2 (A:=Sentence) z35 ps37):=O54
   refine kB6 ((tl1_q72 env he_q89 he_q91 he_q94 list_ x_ m_ o1 o5 o9 c13 x17 x21 z35 q36 ps37 hp38 q39 a43 m44 x47 o49) ⟨_,_,rfl,hm46,O54⟩) (fun qq97 r hq => ?_)
   obtain ⟨q66,q69⟩:=qq97
   obtain ⟨q70,z65,m67,h63,rfl,hm68,O64⟩:=hq
   rw [e_lk1x2_q72]
   refine kA1 (v:=AV.agg [z65,iv q69]) (O64.ld 3 rfl true 2 0) ?_
   have jZ0:=D2.one (l:=[pZ9 o1 1 [Sl.enc x_.entries],pZ9 o5 2 [iv m_.default,Sl.enc m_.bigrams],pZ9 o9 2 [kB3,iv 0],pZ9 o49 2 [z65,iv q69]]) (x:=z35) (ps:=ps37) (A:=Sentence) O64 hm68
   refine kAw O64 2 (cs':=[z65,iv q69]) rfl (by first | rfl | simp [jZ0.1,jZ0.2]) (by simp) (by first | rfl | simp [jZ0.1,jZ0.2]) (by first | rfl | simp [kAx,jZ0.1,jZ0.2]) (fun h71 O72 => ?_)
   replace O72:Hold B h71 ([pZ9 o1 1 [Sl.enc x_.entries],pZ9 o5 2 [iv m_.default,Sl.enc m_.bigrams],pZ9 o9 2 [z65,iv q69],pZ9 o49 2 [z65,iv q69]]++D2 (A:=Sentence) z35 ps37):=O72
   refine kEc (kHh (v:=AV.agg [z65,iv q69]) (O72.ld 2 rfl true 2 0) (resL_v (v:=iv 0) (kEe _))) ?_
   dsimp only [pack]
   have O73:Hold B h71 [pZ9 o1 1 [Sl.enc x_.entries],pZ9 o5 2 [iv m_.default,Sl.enc m_.bigrams],pZ9 o9 2 [z65,iv q69],pZ9 o49 2 [z65,iv q69],(z65,obS (q66.words:Sl ByteArray))]:=D2.pick (l:=[pZ9 o1 1 [Sl.enc x_.entries],pZ9 o5 2 [iv m_.default,Sl.enc m_.bigrams],pZ9 o9 2 [z65,iv q69],pZ9 o49 2 [z65,iv q69]]) (x:=z35) (ps:=ps37) (A:=Sentence) O72 hm68
   have O75:Hold B h71 [(z65,obS (q66.words:Sl ByteArray))]:=O73.sel [4] (by decide) rfl
   exact kA6 (kF1 (by simp only [kJ0,kGv,kJo,kJu,ids_bv,ids_sv,ids_bt,kGt,kJe,O75.idsD (A:=ByteArray) (s:=q66.words) 0 rfl,List.map_append,List.map_nil,List.flatMap_cons,List.flatMap_nil,List.append_nil,List.nil_append];simpa only [List.flatMap_cons,List.flatMap_nil,List.append_nil,List.nil_append] using O75.nd2) (by simp only [kJ4,kH3,kHt,kJz,rel_bv,rel_sv,rel_bt,kH1,kJn,O75.relD (A:=ByteArray) (s:=q66.words) 0 rfl,omapc,omapn,kA4] <;> rfl))
theorem tt_q72:kAn Tryz.prog n_q72 (C3 (fun c:Sentence×Int=>AV.tup [AV.agg [rS c.1.words,iv c.1.cost],enc c.2]) t_q72):=kKa (kBc tt_q89 (kBc tt_q91 (kBc tt_q94 E0))) kBd hb_q72 fun list_ x_ m_=>ts_q72 _ (by simp [kBx]) (by simp [kBx]) (by simp [kBx]) list_ x_ m_
def s0_q7 (l5:List UInt8):Int→Option (Sum Int (Sum Unit Bool)):=fun w8 =>
 bif decide (w8<((((some l5).getD []).length:Nat):Int)) then
  kA0 (kC7 ((some l5).getD []) w8) fun a20 =>
  kA0 (some (kFh a20)) fun c24 =>
  bif !c24 then
   some (.inr (.inr false))
  else
   some (.inl (wr (w8+1)))
 else
  some (.inr (.inl ()))
def t_q7 (s_:ByteArray):Option Bool :=
 kA0 (bytesO s_) fun l5 =>
 kA0 (kBg (s0_q7 l5) 0) fun qq30=>match qq30 with
 | (.inl _) =>
   kA0 (bif decide (1≤(s_.size:Int)) then (some (decide ((s_.size:Int)≤10))) else some false) fun c14 =>
   some (bif decide (1≤(s_.size:Int)) then c14 else false)
 | (.inr q17) =>
   some q17
theorem tl0_q7 (env:Nat→Contract) {B:Base} (he_q16:env n_q16=.pure (T1 kFh)) (s_:ByteArray) (x1:AV) (l5:List UInt8) :kFq (fun (st:Int) tm h6=>match st with | w8=>tm=((sv s_)::und::.top::und::.top::(sv s_)::x1::(iv ((((some l5).getD []).length:Nat):Int))::(iv w8)::tZ9 7 [und,und,und,und,und,und,und,und])∧Hold B h6 [(x1,obS ((some l5):Sl UInt8))]) hm0_q7 xm0_q7 (lb0_q7 env) (s0_q7 l5) (fun (q:Sum Unit Bool) (r:Res)=>match q with | .inl _=>∃ (z11:AV) (z12:AV) (h9:kA9),r=(.exit 0,((sv s_)::und::z11::und::z12::(sv s_)::x1::(iv ((((some l5).getD []).length:Nat):Int))::tZ9 8 [und,und,und,und,und,und,und,und]),h9)∧Hold B h9 [(x1,obS ((some l5):Sl UInt8))] | .inr q17=>∃ (q18:UInt8) (h15:kA9),r=(.ret,((sv s_)::und::(bv q17)::und::(bt q18)::(sv s_)::x1::(iv ((((some l5).getD []).length:Nat):Int))::tZ9 8 [und,und,und,und,und,und,und,und]),h15)∧Hold B h15 [(x1,obS ((some l5):Sl UInt8))]):=by
 refine @kG0 _ _ _ _ _ _ _ _ (fun w8 tm h6 R => ?_)
 obtain ⟨rfl,O7⟩:=R
 rw [e_lb0_q7]
 unfold s0_q7
 dsimp only
 refine kA1 (kAl _ _) ?_
 refine kAb (fun c19 => ?_) (fun c19 => ?_)
 ·refine kAr (O7.tab (A:=UInt8) (s:=(some l5)) 0 rfl) (fun m21 a20 hi22 hm23 => ?_)
  refine kA1 (v:=bt a20) ((O7.tab (A:=UInt8) (s:=(some l5)) 0 rfl).ld hm23 false 1 0) ?_
  refine kFo (t:=kFh) he_q16 (snapD_byte _ _) (fun c24 => ?_)
  refine kA1 (v:=bv (!c24)) (kBu _) ?_
  refine kAb (fun c25 => ?_) (fun c25 => ?_)
  ·exact kA6 ⟨nofun,_,_,rfl,O7⟩
  ·refine kA1 (kAj _ _) ?_
   exact kA6 ⟨rfl,rfl,O7⟩
 ·exact kA6 ⟨nofun,_,_,_,rfl,O7⟩
theorem ts_q7 (env:Nat→Contract) (he_q16:env n_q16=.pure (T1 kFh)) (s_:ByteArray):Sim (kAm Tryz.prog env n_q7 [sv s_] []) (t_q7 s_) fun c p=>release p.2 depth p.1=some ((fun c:Bool=>enc c) c):=by
 have O:=Hold.nil []
 generalize hB:(⟨[],[]⟩:Base)=B at O
 clear hB
 rw [e_q7]
 unfold t_q7
 refine sim_bytes O (fun l5 x1 h2 O3 => ?_)
 replace O3:Hold B h2 [(x1,obS ((some l5):Sl UInt8))]:=O3
 refine kA1 (v:=iv ((((some l5).getD []).length:Nat):Int)) (O3.tab (A:=UInt8) (s:=(some l5)) 0 rfl).len ?_
 refine kB6 ((tl0_q7 env he_q16 s_ x1 l5) ⟨rfl,O3⟩) (fun qq30 r hq => ?_)
 rcases qq30 with _ | q17
 ·obtain ⟨z11,z12,h9,rfl,O10⟩:=hq
  rw [e_lk0x0_q7]
  refine kA1 (v:=iv (s_.size:Int)) rfl ?_
  refine kA1 (kG8 _ _) ?_
  refine kC3 (e:=bv) (fun hb13 => ?_) (fun c14 => ?_)
  ·refine kA1 (v:=iv (s_.size:Int)) rfl ?_
   refine kA1 (kFn _ _) ?_
   exact kA6 rfl
  ·refine kA1 (v:=bv (bif decide (1≤(s_.size:Int)) then c14 else false)) (kD3 _ _ _) ?_
   exact kA6 (kA5 (by rfl) _)
 ·obtain ⟨q18,h15,rfl,O16⟩:=hq
  rw [e_lk0r_q7]
  exact kA6 (kA5 (by rfl) _)
theorem tt_q7:kAn Tryz.prog n_q7 (C1 (fun c:Bool=>enc c) t_q7):=kDl (kBc ok_q16 E0) kBd hb_q7 fun s_=>ts_q7 _ (by simp [kBx]) s_
def s0_q9 (x_:Lexicon):Int→Option (Sum Int (Sum Unit Bool)):=fun w7 =>
 bif decide (w7<(((x_.entries.getD []).length:Nat):Int)) then
  kA0 (kC7 (x_.entries.getD []) w7) fun a19 =>
  kA0 (t_q7 a19.word) fun c29 =>
  kA0 (bif !c29 then some false else (kA0 (some ((fun y=>kBb y 0 1000000) a19.cost)) fun c31=>some (!c31))) fun c32 =>
  kA0 (bif (bif !c29 then true else c32) then some false else (some (decide (0<w7)))) fun c37 =>
  kA0 (bif (!(bif !c29 then true else c32) && c37) then (kA0 (kC7 (x_.entries.getD []) (wr (w7 - 1))) fun a41=>some (ltS a19.word a41.word || decide (a19.word=a41.word))) else some false) fun c45 =>
  kA0 (bif (bif !c29 then true else c32) then some false else (some (bif c37 then c45 else false))) fun c56 =>
  bif (bif (bif !c29 then true else c32) then true else c56) then
   some (.inr (.inr false))
  else
   some (.inl (wr (w7+1)))
 else
  some (.inr (.inl ()))
def t_q9 (x_:Lexicon):Option Bool :=
 kA0 (kBg (s0_q9 x_) 0) fun qq62=>match qq62 with
 | (.inl _) =>
   some (decide ((((x_.entries.getD []).length:Nat):Int)≤60))
 | (.inr q15) =>
   some q15
theorem tl0_q9 (env:Nat→Contract) {B:Base} (he_q7:env n_q7=.pure (C1 (fun c:Bool=>enc c) t_q7)) (he_q15:env n_q15=.pure (T1 (fun y=>kBb y 0 1000000))) (x_:Lexicon) (o1:Nat) :kFq (fun (st:Int) tm h5=>match st with | w7=>tm=((AV.agg [Sl.enc x_.entries])::(AV.ptr o1 1 0 0)::.top::.top::.top::(AV.ptr o1 1 0 0)::(Sl.enc x_.entries)::(iv (((x_.entries.getD []).length:Nat):Int))::(iv w7)::tZ9 31 [und,und,und,und])∧Hold B h5 [pZ9 o1 1 [Sl.enc x_.entries]]) hm0_q9 xm0_q9 (lb0_q9 env) (s0_q9 x_) (fun (q:Sum Unit Bool) (r:Res)=>match q with | .inl _=>∃ (z10:AV) (z11:AV) (z12:AV) (h8:kA9),r=(.exit 0,((AV.agg [Sl.enc x_.entries])::(AV.ptr o1 1 0 0)::z10::z11::z12::(AV.ptr o1 1 0 0)::(Sl.enc x_.entries)::(iv (((x_.entries.getD []).length:Nat):Int))::tZ9 32 [und,und,und,und]),h8)∧Hold B h8 [pZ9 o1 1 [Sl.enc x_.entries]] | .inr q15=>∃ (q16:Int) (z17:AV) (h13:kA9),r=(.ret,((AV.agg [Sl.enc x_.entries])::(AV.ptr o1 1 0 0)::(bv q15)::(iv q16)::z17::(AV.ptr o1 1 0 0)::(Sl.enc x_.entries)::(iv (((x_.entries.getD []).length:Nat):Int))::tZ9 32 [und,und,und,und]),h13)∧Hold B h13 [pZ9 o1 1 [Sl.enc x_.entries]]):=by
 refine @kG0 _ _ _ _ _ _ _ _ (fun w7 tm h5 R => ?_)
 obtain ⟨rfl,O6⟩:=R
 rw [e_lb0_q9]
 unfold s0_q9
 dsimp only
 refine kA1 (kAl _ _) ?_
 refine kAb (fun c18 => ?_) (fun c18 => ?_)
 ·refine kAr (Tab.enc h5 x_.entries) (fun m20 a19 hi21 hm22 => ?_)
  refine kA1 (v:=AV.agg [sv a19.word,iv a19.cost]) ((Tab.enc h5 x_.entries).ld hm22 true 2 0) ?_
  refine kAs O6 (cs:=[sv (⟨#[]⟩:ByteArray),iv 0]) (by first | rfl | simp) (fun o23 h24 O25 => ?_)
  replace O25:Hold B h24 [pZ9 o1 1 [Sl.enc x_.entries],pZ9 o23 2 [sv (⟨#[]⟩:ByteArray),iv 0]]:=O25
  refine kAw O25 1 (cs':=[sv a19.word,iv a19.cost]) rfl (by first | rfl | simp) (by simp) (by first | rfl | simp) (by first | rfl | simp [kAx]) (fun h27 O28 => ?_)
  replace O28:Hold B h27 [pZ9 o1 1 [Sl.enc x_.entries],pZ9 o23 2 [sv a19.word,iv a19.cost]]:=O28
  refine kA1 (v:=AV.ptr o23 1 0 0) rfl ?_
  refine kA1 (v:=sv a19.word) (O28.ld 1 rfl false 1 0) ?_
  refine kCc he_q7 (kC4 _ _) (fun c29 => ?_)
  refine kAq (kAc (by rfl) _ _) ?_
  refine kA1 (v:=bv (!c29)) (kBu _) ?_
  refine sim_g4F (e:=bv) (fun hb30 => ?_) (fun y33 y34 y35 c32 => ?_)
  ·refine kAp ?_
   refine kA1 (v:=AV.ptr o23 1 0 1) rfl ?_
   refine kAd ?_
   refine kAp ?_
   refine kA1 (v:=iv a19.cost) (O28.ld 1 rfl false 1 1) ?_
   refine kAd ?_
   refine kKh ?_
   refine kJ6 (t:=(fun y=>kBb y 0 1000000)) he_q15 (kAy _ _) (fun c31 => ?_)
   refine kAd ?_
   refine kA1 (v:=bv (!c31)) (kBu _) ?_
   exact kA6 rfl
  ·refine kA1 (v:=bv (bif !c29 then true else c32)) (kCh _ _ _) ?_
   refine sim_g3F (e:=bv) (fun hb36 => ?_) (fun y38 y39 c37 => ?_)
   ·refine kAd ?_
    refine kAp ?_
    refine kA1 (kDa _ _) ?_
    refine kAd ?_
    exact kA6 rfl
   ·simp only [gv_FT]
    refine sim_g10T (e:=bv) (fun hb40 => ?_) (fun y46 y47 y48 y49 y50 y51 y52 y53 y54 c45 => ?_)
    ·refine kAp ?_
     refine kA1 (v:=AV.ptr o23 1 0 0) rfl ?_
     refine kAd ?_
     refine kAp ?_
     refine kA1 (v:=sv a19.word) (O28.ld 1 rfl false 1 0) ?_
     refine kAd ?_
     refine kAp ?_
     refine kA1 (v:=AV.ptr o1 1 0 0) rfl ?_
     refine kAd ?_
     refine kAp ?_
     refine kA1 (v:=Sl.enc x_.entries) (O28.ld 0 rfl false 1 0) ?_
     refine kAd ?_
     refine kAd ?_
     refine kAp ?_
     refine kA1 (kCa _ _) ?_
     refine kAd ?_
     refine kAp ?_
     refine kAr (Tab.enc h27 x_.entries) (fun m42 a41 hi43 hm44 => ?_)
     refine kAd ?_
     refine kAp ?_
     refine kA1 (v:=elp (Sl.enc x_.entries) m42 0) ((Tab.enc h27 x_.entries).fld _ _ _) ?_
     refine kAd ?_
     refine kAp ?_
     refine kA1 (v:=sv a41.word) ((Tab.enc h27 x_.entries).ld hm44 false 1 0) ?_
     refine kAd ?_
     refine kA1 (v:=bv (ltS a19.word a41.word || decide (a19.word=a41.word))) (str_leq _ _) ?_
     exact kA6 rfl
    ·refine kBt (e:=bv) (fun hb55 => ?_) (fun c56 => ?_)
     ·simp only [hb55,cond_true,cond_false,Bool.not_true,Bool.not_false,Bool.true_and,Bool.and_true,Bool.false_and,Bool.not_not]
      refine kA1 (v:=bv (bif c37 then c45 else false)) (kD3 _ _ _) ?_
      exact kA6 rfl
     ·refine kA1 (v:=bv (bif (bif !c29 then true else c32) then true else c56)) (kCh _ _ _) ?_
      refine kAb (fun c57 => ?_) (fun c57 => ?_)
      ·have O58:Hold B h27 [pZ9 o1 1 [Sl.enc x_.entries]]:=O28.sel [0] (by decide) rfl
       exact kA6 ⟨nofun,_,_,_,rfl,O58⟩
      ·refine kA1 (kAj _ _) ?_
       have O59:Hold B h27 [pZ9 o1 1 [Sl.enc x_.entries]]:=O28.sel [0] (by decide) rfl
       exact kA6 ⟨rfl,rfl,O59⟩
 ·exact kA6 ⟨nofun,_,_,_,_,rfl,O6⟩
theorem ts_q9 (env:Nat→Contract) (he_q7:env n_q7=.pure (C1 (fun c:Bool=>enc c) t_q7)) (he_q15:env n_q15=.pure (T1 (fun y=>kBb y 0 1000000))) (x_:Lexicon):Sim (kAm Tryz.prog env n_q9 [AV.agg [Sl.enc x_.entries]] []) (t_q9 x_) fun c p=>release p.2 depth p.1=some ((fun c:Bool=>enc c) c):=by
 have O:=Hold.nil []
 generalize hB:(⟨[],[]⟩:Base)=B at O
 clear hB
 rw [e_q9]
 unfold t_q9
 refine kAs O (cs:=[Sl.enc x_.entries]) (by first | rfl | simp) (fun o1 h2 O3 => ?_)
 replace O3:Hold B h2 [pZ9 o1 1 [Sl.enc x_.entries]]:=O3
 refine kA1 (v:=AV.ptr o1 1 0 0) rfl ?_
 refine kA1 (v:=Sl.enc x_.entries) (O3.ld 0 rfl false 1 0) ?_
 refine kA1 (Tab.enc h2 x_.entries).len ?_
 refine kB6 ((tl0_q9 env he_q7 he_q15 x_ o1) ⟨rfl,O3⟩) (fun qq62 r hq => ?_)
 rcases qq62 with _ | q15
 ·obtain ⟨z10,z11,z12,h8,rfl,O9⟩:=hq
  rw [e_lk0x0_q9]
  refine kA1 (v:=AV.ptr o1 1 0 0) rfl ?_
  refine kA1 (v:=Sl.enc x_.entries) (O9.ld 0 rfl false 1 0) ?_
  refine kA1 (Tab.enc h8 x_.entries).len ?_
  refine kA1 (kFn _ _) ?_
  exact kA6 (kA5 (by rfl) _)
 ·obtain ⟨q16,z17,h13,rfl,O14⟩:=hq
  rw [e_lk0r_q9]
  exact kA6 (kA5 (by rfl) _)
theorem tt_q9:kAn Tryz.prog n_q9 (C1 (fun c:Bool=>enc c) t_q9):=kDl (kBc tt_q7 (kBc ok_q15 E0)) kBd hb_q9 fun x_=>ts_q9 _ (by simp [kBx]) (by simp [kBx]) x_
def t_q21 (b_:Bigram):Option Bool :=
 kA0 (t_q7 b_.second) fun c5 =>
 kA0 (bif c5 then (some (decide (b_.first=(⟨#[]⟩:ByteArray)))) else some false) fun c7 =>
 kA0 (bif (c5 && !c7) then (kA0 (t_q7 b_.first) fun c9=>some c9) else some false) fun c10 =>
 kA0 (bif c5 then (some (bif c7 then true else c10)) else some false) fun c12 =>
 kA0 (bif (bif c5 then c12 else false) then (kA0 (some ((fun y=>kBb y 0 1000000) b_.cost)) fun c14=>some c14) else some false) fun c15 =>
 some (bif (bif c5 then c12 else false) then c15 else false)
theorem ts_q21 (env:Nat→Contract) (he_q7:env n_q7=.pure (C1 (fun c:Bool=>enc c) t_q7)) (he_q15:env n_q15=.pure (T1 (fun y=>kBb y 0 1000000))) (b_:Bigram):Sim (kAm Tryz.prog env n_q21 [AV.agg [sv b_.first,sv b_.second,iv b_.cost]] []) (t_q21 b_) fun c p=>release p.2 depth p.1=some ((fun c:Bool=>enc c) c):=by
 have O:=Hold.nil []
 generalize hB:(⟨[],[]⟩:Base)=B at O
 clear hB
 rw [e_q21]
 unfold t_q21
 refine kAs O (cs:=[sv b_.first,sv b_.second,iv b_.cost]) (by first | rfl | simp) (fun o1 h2 O3 => ?_)
 replace O3:Hold B h2 [pZ9 o1 3 [sv b_.first,sv b_.second,iv b_.cost]]:=O3
 refine kA1 (v:=AV.ptr o1 1 0 1) rfl ?_
 refine kA1 (v:=sv b_.second) (O3.ld 0 rfl false 1 1) ?_
 refine kBz he_q7 (kC4 _ _) (fun c5 => ?_)
 refine kAq (kAc (by rfl) _ _) ?_
 refine kC3 (e:=bv) (fun hb6 => ?_) (fun c7 => ?_)
 ·refine kA1 (v:=AV.ptr o1 1 0 0) rfl ?_
  refine kA1 (v:=sv b_.first) (O3.ld 0 rfl false 1 0) ?_
  refine kA1 (kH6 _ _) ?_
  exact kA6 rfl
 ·simp only [gv_TF]
  refine kC3 (e:=bv) (fun hb8 => ?_) (fun c10 => ?_)
  ·refine kA1 (v:=AV.ptr o1 1 0 0) rfl ?_
   refine kA1 (v:=sv b_.first) (O3.ld 0 rfl false 1 0) ?_
   refine kBz he_q7 (kC4 _ _) (fun c9 => ?_)
   refine kAq (kAc (by rfl) _ _) ?_
   exact kA6 rfl
  ·refine kC3 (e:=bv) (fun hb11 => ?_) (fun c12 => ?_)
   ·simp only [hb11,cond_true,cond_false,Bool.not_true,Bool.not_false,Bool.true_and,Bool.and_true,Bool.false_and,Bool.not_not]
    refine kA1 (v:=bv (bif c7 then true else c10)) (pick_nb _ _ _) ?_
    exact kA6 rfl
   ·refine kA1 (v:=bv (bif c5 then c12 else false)) (kD3 _ _ _) ?_
    refine kC3 (e:=bv) (fun hb13 => ?_) (fun c15 => ?_)
    ·refine kA1 (v:=AV.ptr o1 1 0 2) rfl ?_
     refine kA1 (v:=iv b_.cost) (O3.ld 0 rfl false 1 2) ?_
     refine kFo (t:=(fun y=>kBb y 0 1000000)) he_q15 (kAy _ _) (fun c14 => ?_)
     exact kA6 rfl
    ·refine kA1 (v:=bv (bif (bif c5 then c12 else false) then c15 else false)) (kD3 _ _ _) ?_
     exact kA6 (kA5 (by rfl) _)
theorem tt_q21:kAn Tryz.prog n_q21 (C1 (fun c:Bool=>enc c) t_q21):=kDl (kBc tt_q7 (kBc ok_q15 E0)) kBd hb_q21 fun b_=>ts_q21 _ (by simp [kBx]) (by simp [kBx]) b_
def s0_q2 (vals_:Sl Int):Int→Option (Sum Int (Sum Unit Int)):=fun w3 =>
 bif decide (w3<(((vals_.getD []).length:Nat):Int)) then
  kA0 (kC7 (vals_.getD []) w3) fun a13 =>
  bif !decide (a13=0) then
   some (.inr (.inr a13))
  else
   some (.inl (wr (w3+1)))
 else
  some (.inr (.inl ()))
def t_q2 (vals_:Sl Int):Option Int :=
 kA0 (kBg (s0_q2 vals_) 0) fun qq22=>match qq22 with
 | (.inl _) =>
   some 0
 | (.inr q10) =>
   some q10
theorem tl0_q2 (env:Nat→Contract) {B:Base}  (vals_:Sl Int) :kFq (fun (st:Int) tm h1=>match st with | w3=>tm=[Sl.enc vals_,und,.top,iv 0,und,.top,Sl.enc vals_,iv (((vals_.getD []).length:Nat):Int),iv w3,.top,.top,.top,.top,.top,.top,.top,.top,und]∧Hold B h1 []) hm0_q2 xm0_q2 (lb0_q2 env) (s0_q2 vals_) (fun (q:Sum Unit Int) (r:Res)=>match q with | .inl _=>∃ (z6:AV) (z7:AV) (h4:kA9),r=(.exit 0,[Sl.enc vals_,und,z6,iv 0,und,z7,Sl.enc vals_,iv (((vals_.getD []).length:Nat):Int),.top,.top,.top,.top,.top,.top,.top,.top,.top,und],h4)∧Hold B h4 [] | .inr q10=>∃ (q11:Int) (h8:kA9),r=(.ret,[Sl.enc vals_,und,iv q10,iv 0,und,iv q11,Sl.enc vals_,iv (((vals_.getD []).length:Nat):Int),.top,.top,.top,.top,.top,.top,.top,.top,.top,und],h8)∧Hold B h8 []):=by
 refine @kG0 _ _ _ _ _ _ _ _ (fun w3 tm h1 R => ?_)
 obtain ⟨rfl,O2⟩:=R
 rw [e_lb0_q2]
 unfold s0_q2
 dsimp only
 refine kA1 (kAl _ _) ?_
 refine kAb (fun c12 => ?_) (fun c12 => ?_)
 ·refine kAr (Tab.enc h1 vals_) (fun m14 a13 hi15 hm16 => ?_)
  refine kA1 (v:=iv a13) ((Tab.enc h1 vals_).ld hm16 false 1 0) ?_
  refine kA1 (kCo _ _) ?_
  refine kAb (fun c17 => ?_) (fun c17 => ?_)
  ·exact kA6 ⟨nofun,_,_,rfl,O2⟩
  ·refine kA1 (kAj _ _) ?_
   exact kA6 ⟨rfl,rfl,O2⟩
 ·exact kA6 ⟨nofun,_,_,_,rfl,O2⟩
theorem ts_q2 (env:Nat→Contract)  (vals_:Sl Int):Sim (kAm Tryz.prog env n_q2 [Sl.enc vals_] []) (t_q2 vals_) fun c p=>release p.2 depth p.1=some ((fun c:Int=>enc c) c):=by
 have O:=Hold.nil []
 generalize hB:(⟨[],[]⟩:Base)=B at O
 clear hB
 rw [e_q2]
 unfold t_q2
 refine kA1 (v:=iv (((vals_.getD []).length:Nat):Int)) (Tab.enc [] vals_).len ?_
 refine kB6 ((tl0_q2 env vals_) ⟨rfl,O⟩) (fun qq22 r hq => ?_)
 rcases qq22 with _ | q10
 ·obtain ⟨z6,z7,h4,rfl,O5⟩:=hq
  rw [e_lk0x0_q2]
  exact kA6 (kA5 (by rfl) _)
 ·obtain ⟨q11,h8,rfl,O9⟩:=hq
  rw [e_lk0r_q2]
  exact kA6 (kA5 (by rfl) _)
theorem tt_q2:kAn Tryz.prog n_q2 (C1 (fun c:Int=>enc c) t_q2):=kDl E0 kBd hb_q2 fun vals_=>ts_q2 _  vals_
def s0_q10 (m_:Model):Int→Option (Sum Int (Sum Unit Bool)):=fun w7 =>
 bif decide (w7<(((m_.bigrams.getD []).length:Nat):Int)) then
  kA0 (kC7 (m_.bigrams.getD []) w7) fun a22 =>
  kA0 (t_q21 a22) fun c32 =>
  kA0 (bif !c32 then some false else (some (decide (0<w7)))) fun c34 =>
  kA0 (bif (!(!c32) && c34) then (kA0 (kC7 (m_.bigrams.getD []) (wr (w7 - 1))) fun a38=>kA0 (some (cmpB a38 a22)) fun c42=>some (decide (0≤c42))) else some false) fun c43 =>
  kA0 (bif !c32 then some false else (some (bif c34 then c43 else false))) fun c53 =>
  bif (bif !c32 then true else c53) then
   some (.inr (.inr false))
  else
   some (.inl (wr (w7+1)))
 else
  some (.inr (.inl ()))
def t_q10 (m_:Model):Option Bool :=
 kA0 (kBg (s0_q10 m_) 0) fun qq59=>match qq59 with
 | (.inl _) =>
   kA0 (some ((fun y=>kBb y 0 1000000) m_.default)) fun c13 =>
   kA0 (bif c13 then (some (decide ((((m_.bigrams.getD []).length:Nat):Int)≤60))) else some false) fun c15 =>
   some (bif c13 then c15 else false)
 | (.inr q18) =>
   some q18
theorem tl0_q10 (env:Nat→Contract) {B:Base} (he_q12:env kJk=.pure (T2 cmpB)) (he_q15:env n_q15=.pure (T1 (fun y=>kBb y 0 1000000))) (he_q21:env n_q21=.pure (C1 (fun c:Bool=>enc c) t_q21)) (m_:Model) (o1:Nat) :kFq (fun (st:Int) tm h5=>match st with | w7=>tm=((AV.agg [iv m_.default,Sl.enc m_.bigrams])::(AV.ptr o1 1 0 0)::.top::.top::.top::(AV.ptr o1 1 0 1)::(Sl.enc m_.bigrams)::(iv (((m_.bigrams.getD []).length:Nat):Int))::(iv w7)::tZ9 23 [und,und,und,und,und,und,und,und,und])∧Hold B h5 [pZ9 o1 2 [iv m_.default,Sl.enc m_.bigrams]]) hm0_q10 xm0_q10 (lb0_q10 env) (s0_q10 m_) (fun (q:Sum Unit Bool) (r:Res)=>match q with | .inl _=>∃ (z10:AV) (z11:AV) (z12:AV) (h8:kA9),r=(.exit 0,((AV.agg [iv m_.default,Sl.enc m_.bigrams])::(AV.ptr o1 1 0 0)::z10::z11::z12::(AV.ptr o1 1 0 1)::(Sl.enc m_.bigrams)::(iv (((m_.bigrams.getD []).length:Nat):Int))::tZ9 24 [und,und,und,und,und,und,und,und,und]),h8)∧Hold B h8 [pZ9 o1 2 [iv m_.default,Sl.enc m_.bigrams]] | .inr q18=>∃ (q19:Int) (z20:AV) (h16:kA9),r=(.ret,((AV.agg [iv m_.default,Sl.enc m_.bigrams])::(AV.ptr o1 1 0 0)::(bv q18)::(iv q19)::z20::(AV.ptr o1 1 0 1)::(Sl.enc m_.bigrams)::(iv (((m_.bigrams.getD []).length:Nat):Int))::tZ9 24 [und,und,und,und,und,und,und,und,und]),h16)∧Hold B h16 [pZ9 o1 2 [iv m_.default,Sl.enc m_.bigrams]]):=by
 refine @kG0 _ _ _ _ _ _ _ _ (fun w7 tm h5 R => ?_)
 obtain ⟨rfl,O6⟩:=R
 rw [e_lb0_q10]
 unfold s0_q10
 dsimp only
 refine kA1 (kAl _ _) ?_
 refine kAb (fun c21 => ?_) (fun c21 => ?_)
 ·refine kAr (Tab.enc h5 m_.bigrams) (fun m23 a22 hi24 hm25 => ?_)
  refine kA1 (v:=AV.agg [sv a22.first,sv a22.second,iv a22.cost]) ((Tab.enc h5 m_.bigrams).ld hm25 true 3 0) ?_
  refine kAs O6 (cs:=[sv (⟨#[]⟩:ByteArray),sv (⟨#[]⟩:ByteArray),iv 0]) (by first | rfl | simp) (fun o26 h27 O28 => ?_)
  replace O28:Hold B h27 [pZ9 o1 2 [iv m_.default,Sl.enc m_.bigrams],pZ9 o26 3 [sv (⟨#[]⟩:ByteArray),sv (⟨#[]⟩:ByteArray),iv 0]]:=O28
  refine kAw O28 1 (cs':=[sv a22.first,sv a22.second,iv a22.cost]) rfl (by first | rfl | simp) (by simp) (by first | rfl | simp) (by first | rfl | simp [kAx]) (fun h30 O31 => ?_)
  replace O31:Hold B h30 [pZ9 o1 2 [iv m_.default,Sl.enc m_.bigrams],pZ9 o26 3 [sv a22.first,sv a22.second,iv a22.cost]]:=O31
  refine kA1 (v:=AV.agg [sv a22.first,sv a22.second,iv a22.cost]) (O31.ld 1 rfl true 3 0) ?_
  refine kCc he_q21 (kAz _ a22 rfl) (fun c32 => ?_)
  refine kAq (kAc (by rfl) _ _) ?_
  refine kA1 (v:=bv (!c32)) (kBu _) ?_
  refine sim_g3F (e:=bv) (fun hb33 => ?_) (fun y35 y36 c34 => ?_)
  ·refine kAd ?_
   refine kAp ?_
   refine kA1 (kDa _ _) ?_
   refine kAd ?_
   exact kA6 rfl
  ·simp only [gv_FT]
   refine sim_g9T (e:=bv) (fun hb37 => ?_) (fun y44 y45 y46 y47 y48 y49 y50 y51 c43 => ?_)
   ·refine kAp ?_
    refine kA1 (v:=AV.ptr o1 1 0 1) rfl ?_
    refine kAd ?_
    refine kAp ?_
    refine kA1 (v:=Sl.enc m_.bigrams) (O31.ld 0 rfl false 1 1) ?_
    refine kAd ?_
    refine kAd ?_
    refine kAp ?_
    refine kA1 (kCa _ _) ?_
    refine kAd ?_
    refine kAp ?_
    refine kAr (Tab.enc h30 m_.bigrams) (fun m39 a38 hi40 hm41 => ?_)
    refine kAd ?_
    refine kAp ?_
    refine kA1 (v:=AV.agg [sv a38.first,sv a38.second,iv a38.cost]) ((Tab.enc h30 m_.bigrams).ld hm41 true 3 0) ?_
    refine kAd ?_
    refine kAp ?_
    refine kA1 (v:=AV.agg [sv a22.first,sv a22.second,iv a22.cost]) (O31.ld 1 rfl true 3 0) ?_
    refine kAd ?_
    refine kKh ?_
    refine kEk (t:=cmpB) he_q12 (kAz _ a38 rfl) (kAz _ a22 rfl) (fun c42 => ?_)
    refine kAd ?_
    refine kA1 (kG8 _ _) ?_
    exact kA6 rfl
   ·refine kBt (e:=bv) (fun hb52 => ?_) (fun c53 => ?_)
    ·simp only [hb52,cond_true,cond_false,Bool.not_true,Bool.not_false,Bool.true_and,Bool.and_true,Bool.false_and,Bool.not_not]
     refine kA1 (v:=bv (bif c34 then c43 else false)) (kD3 _ _ _) ?_
     exact kA6 rfl
    ·refine kA1 (v:=bv (bif !c32 then true else c53)) (kCh _ _ _) ?_
     refine kAb (fun c54 => ?_) (fun c54 => ?_)
     ·have O55:Hold B h30 [pZ9 o1 2 [iv m_.default,Sl.enc m_.bigrams]]:=O31.sel [0] (by decide) rfl
      exact kA6 ⟨nofun,_,_,_,rfl,O55⟩
     ·refine kA1 (kAj _ _) ?_
      have O56:Hold B h30 [pZ9 o1 2 [iv m_.default,Sl.enc m_.bigrams]]:=O31.sel [0] (by decide) rfl
      exact kA6 ⟨rfl,rfl,O56⟩
 ·exact kA6 ⟨nofun,_,_,_,_,rfl,O6⟩
theorem ts_q10 (env:Nat→Contract) (he_q12:env kJk=.pure (T2 cmpB)) (he_q15:env n_q15=.pure (T1 (fun y=>kBb y 0 1000000))) (he_q21:env n_q21=.pure (C1 (fun c:Bool=>enc c) t_q21)) (m_:Model):Sim (kAm Tryz.prog env n_q10 [AV.agg [iv m_.default,Sl.enc m_.bigrams]] []) (t_q10 m_) fun c p=>release p.2 depth p.1=some ((fun c:Bool=>enc c) c):=by
 have O:=Hold.nil []
 generalize hB:(⟨[],[]⟩:Base)=B at O
 clear hB
 rw [e_q10]
 unfold t_q10
 refine kAs O (cs:=[iv m_.default,Sl.enc m_.bigrams]) (by first | rfl | simp) (fun o1 h2 O3 => ?_)
 replace O3:Hold B h2 [pZ9 o1 2 [iv m_.default,Sl.enc m_.bigrams]]:=O3
 refine kA1 (v:=AV.ptr o1 1 0 1) rfl ?_
 refine kA1 (v:=Sl.enc m_.bigrams) (O3.ld 0 rfl false 1 1) ?_
 refine kA1 (Tab.enc h2 m_.bigrams).len ?_
 refine kB6 ((tl0_q10 env he_q12 he_q15 he_q21 m_ o1) ⟨rfl,O3⟩) (fun qq59 r hq => ?_)
 rcases qq59 with _ | q18
 ·obtain ⟨z10,z11,z12,h8,rfl,O9⟩:=hq
  rw [e_lk0x0_q10]
  refine kA1 (v:=AV.ptr o1 1 0 0) rfl ?_
  refine kA1 (v:=iv m_.default) (O9.ld 0 rfl false 1 0) ?_
  refine kFo (t:=(fun y=>kBb y 0 1000000)) he_q15 (kAy _ _) (fun c13 => ?_)
  refine kC3 (e:=bv) (fun hb14 => ?_) (fun c15 => ?_)
  ·refine kA1 (v:=AV.ptr o1 1 0 1) rfl ?_
   refine kA1 (v:=Sl.enc m_.bigrams) (O9.ld 0 rfl false 1 1) ?_
   refine kA1 (Tab.enc h8 m_.bigrams).len ?_
   refine kA1 (kFn _ _) ?_
   exact kA6 rfl
  ·refine kA1 (v:=bv (bif c13 then c15 else false)) (kD3 _ _ _) ?_
   exact kA6 (kA5 (by rfl) _)
 ·obtain ⟨q19,z20,h16,rfl,O17⟩:=hq
  rw [e_lk0r_q10]
  exact kA6 (kA5 (by rfl) _)
theorem tt_q10:kAn Tryz.prog n_q10 (C1 (fun c:Bool=>enc c) t_q10):=kDl (kBc ok_q12 (kBc ok_q15 (kBc tt_q21 E0))) kBd hb_q10 fun m_=>ts_q10 _ (by simp [kBx]) (by simp [kBx]) (by simp [kBx]) m_
def s0_q71 (p_:Lattice→Option Bool) (s_:Sl Lattice):Int→Option (Sum Int (Sum Unit Int)):=fun w3 =>
 bif decide (w3<(((s_.getD []).length:Nat):Int)) then
  kA0 (kC7 (s_.getD []) w3) fun a13 =>
  kA0 (p_ a13) fun c17 =>
  bif c17 then
   some (.inr (.inr w3))
  else
   some (.inl (wr (w3+1)))
 else
  some (.inr (.inl ()))
def t_q71 (p_:Lattice→Option Bool) (s_:Sl Lattice):Option Int :=
 kA0 (kBg (s0_q71 p_ s_) 0) fun qq26=>match qq26 with
 | (.inl _) =>
   some (-1)
 | (.inr q10) =>
   some q10
theorem tl0_q71 (env:Nat→Contract) {B:Base} {K:Type} [Cod K] {g:Nat} {caps:K→List AV} {P:K→Lattice→Option Bool} (hp:∀ k (a:Lattice) h,Sim (kB5 (env g) (AV.agg (Row.cells a)::caps k) h) (P k a) fun b r=>r=(bv b,h))  (s_:Sl Lattice) (f_:K) :kFq (fun (st:Int) tm h1=>match st with | w3=>tm=((Sl.enc s_)::(AV.fn g (caps f_))::und::und::.top::.top::(Sl.enc s_)::(iv (((s_.getD []).length:Nat):Int))::(iv w3)::tZ9 10 [])∧Hold B h1 []) hm0_q71 xm0_q71 (lb0_q71 env) (s0_q71 (P f_) s_) (fun (q:Sum Unit Int) (r:Res)=>match q with | .inl _=>∃ (z6:AV) (z7:AV) (h4:kA9),r=(.exit 0,((Sl.enc s_)::(AV.fn g (caps f_))::und::und::z6::z7::(Sl.enc s_)::(iv (((s_.getD []).length:Nat):Int))::tZ9 11 []),h4)∧Hold B h4 [] | .inr q10=>∃ (q11:Int) (h8:kA9),r=(.ret,((Sl.enc s_)::(AV.fn g (caps f_))::und::und::(iv q10)::(iv q11)::(Sl.enc s_)::(iv (((s_.getD []).length:Nat):Int))::tZ9 11 []),h8)∧Hold B h8 []):=by
 refine @kG0 _ _ _ _ _ _ _ _ (fun w3 tm h1 R => ?_)
 obtain ⟨rfl,O2⟩:=R
 rw [e_lb0_q71]
 unfold s0_q71
 dsimp only
 refine kA1 (kAl _ _) ?_
 refine kAb (fun c12 => ?_) (fun c12 => ?_)
 ·refine kAr (Tab.enc h1 s_) (fun m14 a13 hi15 hm16 => ?_)
  refine kA1 (v:=AV.agg [iv a13.nodes,Sl.enc a13.edges]) ((Tab.enc h1 s_).ld hm16 true 2 0) ?_
  refine sim_bind2 (hp f_ a13 _) (fun c17 v18 hh19 hq20 => ?_)
  cases hq20
  refine kAb (fun c21 => ?_) (fun c21 => ?_)
  ·exact kA6 ⟨nofun,_,_,rfl,O2⟩
  ·refine kA1 (kAj _ _) ?_
   exact kA6 ⟨rfl,rfl,O2⟩
 ·exact kA6 ⟨nofun,_,_,_,rfl,O2⟩
theorem ts_q71 (env:Nat→Contract) {K:Type} [Cod K] {g:Nat} {caps:K→List AV} {P:K→Lattice→Option Bool} (hp:∀ k (a:Lattice) h,Sim (kB5 (env g) (AV.agg (Row.cells a)::caps k) h) (P k a) fun b r=>r=(bv b,h))  (s_:Sl Lattice) (f_:K):Sim (kAm Tryz.prog env n_q71 [Sl.enc s_,AV.fn g (caps f_)] []) (t_q71 (P f_) s_) fun c p=>release p.2 depth p.1=some ((fun c:Int=>enc c) c):=by
 have O:=Hold.nil []
 generalize hB:(⟨[],[]⟩:Base)=B at O
 clear hB
 rw [e_q71]
 unfold t_q71
 refine kA1 (v:=iv (((s_.getD []).length:Nat):Int)) (Tab.enc [] s_).len ?_
 refine kB6 ((tl0_q71 env hp s_ f_) ⟨rfl,O⟩) (fun qq26 r hq => ?_)
 rcases qq26 with _ | q10
 ·obtain ⟨z6,z7,h4,rfl,O5⟩:=hq
  rw [e_lk0x0_q71]
  exact kA6 (kA5 (by rfl) _)
 ·obtain ⟨q11,h8,rfl,O9⟩:=hq
  rw [e_lk0r_q71]
  exact kA6 (kA5 (by rfl) _)
theorem kD5 {g:Nat} {t:Lattice→Option Bool} (hg:kAn Tryz.prog g (C1 (fun c:Bool=>enc c) t)):kAn Tryz.prog n_q71 (C2 (fun c:Int=>enc c) (fun (q:Sl Lattice) (k:Clo0 g)=>t_q71 ((fun _:Clo0 g=>t) k) q)):=kCe (kBc hg E0) kBd hb_q71 fun q k=>ts_q71 _ (caps:=fun _=>[]) (P:=(fun _:Clo0 g=>t)) (fun k a h=>callP0 (by simp [kBx]) (kAz _ a rfl)) q k
def t_q70 (p_:Lattice→Option Bool) (s_:Sl Lattice):Option Bool :=
 kA0 (t_q71 p_ s_) fun c1 =>
 some (decide (0≤c1))
theorem ts_q70 (env:Nat→Contract) {K:Type} [Cod K] {g:Nat} {caps:K→List AV} {P:K→Lattice→Option Bool} (hs:∀ k h,snapD h (AV.fn g (caps k))=some k) (he_q71:env n_q71=.pure (C2 (fun c:Int=>enc c) (fun (q:Sl Lattice) (k:K)=>t_q71 (P k) q))) (s_:Sl Lattice) (f_:K):Sim (kAm Tryz.prog env n_q70 [Sl.enc s_,AV.fn g (caps f_)] []) (t_q70 (P f_) s_) fun c p=>release p.2 depth p.1=some ((fun c:Bool=>enc c) c):=by
 have O:=Hold.nil []
 generalize hB:(⟨[],[]⟩:Base)=B at O
 clear hB
 rw [e_q70]
 unfold t_q70
 refine kBo (t:=fun (q:Sl Lattice) (k:K)=>t_q71 (P k) q) he_q71 (kBp _ _) (hs f_ _) (fun c1 => ?_)
 refine kAq (kAc (by rfl) _ _) ?_
 refine kA1 (kG8 _ _) ?_
 exact kA6 (kA5 (by rfl) _)
theorem kCw {g:Nat} {t:Lattice→Option Bool} (hg:kAn Tryz.prog g (C1 (fun c:Bool=>enc c) t)):kAn Tryz.prog n_q70 (C2 (fun c:Bool=>enc c) (fun (q:Sl Lattice) (k:Clo0 g)=>t_q70 ((fun _:Clo0 g=>t) k) q)):=kCe (kBc (kD5 hg) E0) kBd hb_q70 fun q k=>ts_q70 _ (caps:=fun _=>[]) (P:=(fun _:Clo0 g=>t)) (fun k h=>snapD_clo0 h g) (by simp [kBx]) q k
def t_q14 (l_:Lattice) (e_:Edg):Option Bool :=
 kA0 (bif decide (0≤e_.frm) then (some (decide (e_.frm<e_.upto))) else some false) fun c10 =>
 kA0 (bif (bif decide (0≤e_.frm) then c10 else false) then (some (decide (e_.upto<l_.nodes))) else some false) fun c12 =>
 kA0 (bif (bif (bif decide (0≤e_.frm) then c10 else false) then c12 else false) then (kA0 (some ((fun y=>kBb y 0 1000000) e_.cost)) fun c14=>some c14) else some false) fun c15 =>
 some (bif (bif (bif decide (0≤e_.frm) then c10 else false) then c12 else false) then c15 else false)
theorem ts_q14 (env:Nat→Contract) (he_q15:env n_q15=.pure (T1 (fun y=>kBb y 0 1000000))) (l_:Lattice) (e_:Edg):Sim (kAm Tryz.prog env n_q14 [AV.agg [iv l_.nodes,Sl.enc l_.edges],AV.agg [iv e_.frm,iv e_.upto,sv e_.label,iv e_.cost]] []) (t_q14 l_ e_) fun c p=>release p.2 depth p.1=some ((fun c:Bool=>enc c) c):=by
 have O:=Hold.nil []
 generalize hB:(⟨[],[]⟩:Base)=B at O
 clear hB
 rw [e_q14]
 unfold t_q14
 refine kAs O (cs:=[iv l_.nodes,Sl.enc l_.edges]) (by first | rfl | simp) (fun o1 h2 O3 => ?_)
 replace O3:Hold B h2 [pZ9 o1 2 [iv l_.nodes,Sl.enc l_.edges]]:=O3
 refine kAs O3 (cs:=[iv e_.frm,iv e_.upto,sv e_.label,iv e_.cost]) (by first | rfl | simp) (fun o5 h6 O7 => ?_)
 replace O7:Hold B h6 [pZ9 o1 2 [iv l_.nodes,Sl.enc l_.edges],pZ9 o5 4 [iv e_.frm,iv e_.upto,sv e_.label,iv e_.cost]]:=O7
 refine kA1 (v:=AV.ptr o5 1 0 0) rfl ?_
 refine kA1 (v:=iv e_.frm) (O7.ld 1 rfl false 1 0) ?_
 refine kA1 (kG8 _ _) ?_
 refine kC3 (e:=bv) (fun hb9 => ?_) (fun c10 => ?_)
 ·refine kA1 (v:=AV.ptr o5 1 0 0) rfl ?_
  refine kA1 (v:=iv e_.frm) (O7.ld 1 rfl false 1 0) ?_
  refine kA1 (v:=AV.ptr o5 1 0 1) rfl ?_
  refine kA1 (v:=iv e_.upto) (O7.ld 1 rfl false 1 1) ?_
  refine kA1 (kAl _ _) ?_
  exact kA6 rfl
 ·refine kA1 (v:=bv (bif decide (0≤e_.frm) then c10 else false)) (kD3 _ _ _) ?_
  refine kC3 (e:=bv) (fun hb11 => ?_) (fun c12 => ?_)
  ·refine kA1 (v:=AV.ptr o5 1 0 1) rfl ?_
   refine kA1 (v:=iv e_.upto) (O7.ld 1 rfl false 1 1) ?_
   refine kA1 (v:=AV.ptr o1 1 0 0) rfl ?_
   refine kA1 (v:=iv l_.nodes) (O7.ld 0 rfl false 1 0) ?_
   refine kA1 (kAl _ _) ?_
   exact kA6 rfl
  ·refine kA1 (v:=bv (bif (bif decide (0≤e_.frm) then c10 else false) then c12 else false)) (kD3 _ _ _) ?_
   refine kC3 (e:=bv) (fun hb13 => ?_) (fun c15 => ?_)
   ·refine kA1 (v:=AV.ptr o5 1 0 3) rfl ?_
    refine kA1 (v:=iv e_.cost) (O7.ld 1 rfl false 1 3) ?_
    refine kFo (t:=(fun y=>kBb y 0 1000000)) he_q15 (kAy _ _) (fun c14 => ?_)
    exact kA6 rfl
   ·refine kA1 (v:=bv (bif (bif (bif decide (0≤e_.frm) then c10 else false) then c12 else false) then c15 else false)) (kD3 _ _ _) ?_
    exact kA6 (kA5 (by rfl) _)
theorem tt_q14:kAn Tryz.prog n_q14 (C2 (fun c:Bool=>enc c) t_q14):=kCe (kBc ok_q15 E0) kBd hb_q14 fun l_ e_=>ts_q14 _ (by simp [kBx]) l_ e_
def t_q13 (a_:Edg) (b_:Edg):Option Int :=
 kA0 (some (cmpI a_.frm b_.frm)) fun c9 =>
 kA0 (some (cmpI a_.upto b_.upto)) fun c10 =>
 kA0 (some (cmpS a_.label b_.label)) fun c11 =>
 kA0 (t_q2 (some ([c9,c10,c11]:List Int))) fun c16 =>
 some c16
theorem ts_q13 (env:Nat→Contract) (he_q0:env n_q0=.pure (T2 cmpI)) (he_q1:env n_q1=.pure (T2 cmpS)) (he_q2:env n_q2=.pure (C1 (fun c:Int=>enc c) t_q2)) (a_:Edg) (b_:Edg):Sim (kAm Tryz.prog env n_q13 [AV.agg [iv a_.frm,iv a_.upto,sv a_.label,iv a_.cost],AV.agg [iv b_.frm,iv b_.upto,sv b_.label,iv b_.cost]] []) (t_q13 a_ b_) fun c p=>release p.2 depth p.1=some ((fun c:Int=>enc c) c):=by
 have O:=Hold.nil []
 generalize hB:(⟨[],[]⟩:Base)=B at O
 clear hB
 rw [e_q13]
 unfold t_q13
 refine kAs O (cs:=[iv a_.frm,iv a_.upto,sv a_.label,iv a_.cost]) (by first | rfl | simp) (fun o1 h2 O3 => ?_)
 replace O3:Hold B h2 [pZ9 o1 4 [iv a_.frm,iv a_.upto,sv a_.label,iv a_.cost]]:=O3
 refine kAs O3 (cs:=[iv b_.frm,iv b_.upto,sv b_.label,iv b_.cost]) (by first | rfl | simp) (fun o5 h6 O7 => ?_)
 replace O7:Hold B h6 [pZ9 o1 4 [iv a_.frm,iv a_.upto,sv a_.label,iv a_.cost],pZ9 o5 4 [iv b_.frm,iv b_.upto,sv b_.label,iv b_.cost]]:=O7
 refine kA1 (v:=AV.ptr o1 1 0 0) rfl ?_
 refine kA1 (v:=iv a_.frm) (O7.ld 0 rfl false 1 0) ?_
 refine kA1 (v:=AV.ptr o5 1 0 0) rfl ?_
 refine kA1 (v:=iv b_.frm) (O7.ld 1 rfl false 1 0) ?_
 refine kEk (t:=cmpI) he_q0 (kAy _ _) (kAy _ _) (fun c9 => ?_)
 refine kA1 (v:=AV.ptr o1 1 0 1) rfl ?_
 refine kA1 (v:=iv a_.upto) (O7.ld 0 rfl false 1 1) ?_
 refine kA1 (v:=AV.ptr o5 1 0 1) rfl ?_
 refine kA1 (v:=iv b_.upto) (O7.ld 1 rfl false 1 1) ?_
 refine kEk (t:=cmpI) he_q0 (kAy _ _) (kAy _ _) (fun c10 => ?_)
 refine kA1 (v:=AV.ptr o1 1 0 2) rfl ?_
 refine kA1 (v:=sv a_.label) (O7.ld 0 rfl false 1 2) ?_
 refine kA1 (v:=AV.ptr o5 1 0 2) rfl ?_
 refine kA1 (v:=sv b_.label) (O7.ld 1 rfl false 1 2) ?_
 refine kEk (t:=cmpS) he_q1 (kC4 _ _) (kC4 _ _) (fun c11 => ?_)
 refine kD7 (A:=Int) O7 ([c9,c10,c11]:List Int) rfl (by first | rfl | simp [kBy,kEp]) rfl (fun x12 h13 O14 => ?_)
 replace O14:Hold B h13 [pZ9 o1 4 [iv a_.frm,iv a_.upto,sv a_.label,iv a_.cost],pZ9 o5 4 [iv b_.frm,iv b_.upto,sv b_.label,iv b_.cost],(x12,obS ((some ([c9,c10,c11]:List Int)):Sl Int))]:=O14
 refine kCc he_q2 ((O14.tab (A:=Int) (s:=(some ([c9,c10,c11]:List Int))) 2 rfl).snap) (fun c16 => ?_)
 refine kAq (kAc (by rfl) _ _) ?_
 exact kA6 (kA5 (by rfl) _)
theorem tt_q13:kAn Tryz.prog n_q13 (C2 (fun c:Int=>enc c) t_q13):=kCe (kBc ok_q0 (kBc ok_q1 (kBc tt_q2 E0))) kBd hb_q13 fun a_ b_=>ts_q13 _ (by simp [kBx]) (by simp [kBx]) (by simp [kBx]) a_ b_
def s0_q8 (l_:Lattice):Int→Option (Sum Int (Sum Unit Bool)):=fun w7 =>
 bif decide (w7<(((l_.edges.getD []).length:Nat):Int)) then
  kA0 (kC7 (l_.edges.getD []) w7) fun a22 =>
  kA0 (t_q14 l_ a22) fun c32 =>
  kA0 (bif !c32 then some false else (kA0 (some (kDk a22.label)) fun c34=>some (!c34))) fun c35 =>
  kA0 (bif (bif !c32 then true else c35) then some false else (some (decide (0<w7)))) fun c40 =>
  kA0 (bif (!(bif !c32 then true else c35) && c40) then (kA0 (kC7 (l_.edges.getD []) (wr (w7 - 1))) fun a44=>kA0 (t_q13 a44 a22) fun c48=>some (decide (0≤c48))) else some false) fun c49 =>
  kA0 (bif (bif !c32 then true else c35) then some false else (some (bif c40 then c49 else false))) fun c59 =>
  bif (bif (bif !c32 then true else c35) then true else c59) then
   some (.inr (.inr false))
  else
   some (.inl (wr (w7+1)))
 else
  some (.inr (.inl ()))
def t_q8 (l_:Lattice):Option Bool :=
 kA0 (kBg (s0_q8 l_) 0) fun qq65=>match qq65 with
 | (.inl _) =>
   kA0 (some (kBb l_.nodes 1 20)) fun c13 =>
   kA0 (bif c13 then (some (decide ((((l_.edges.getD []).length:Nat):Int)≤200))) else some false) fun c15 =>
   some (bif c13 then c15 else false)
 | (.inr q18) =>
   some q18
theorem tl0_q8 (env:Nat→Contract) {B:Base} (he_q6:env n_q6=.pure (T1 kDk)) (he_q13:env n_q13=.pure (C2 (fun c:Int=>enc c) t_q13)) (he_q14:env n_q14=.pure (C2 (fun c:Bool=>enc c) t_q14)) (he_q22:env n_q22=.pure (T3 kBb)) (l_:Lattice) (o1:Nat) :kFq (fun (st:Int) tm h5=>match st with | w7=>tm=((AV.agg [iv l_.nodes,Sl.enc l_.edges])::(AV.ptr o1 1 0 0)::.top::.top::.top::(AV.ptr o1 1 0 1)::(Sl.enc l_.edges)::(iv (((l_.edges.getD []).length:Nat):Int))::(iv w7)::tZ9 30 [und,und,und,und,und,und,und,und,und])∧Hold B h5 [pZ9 o1 2 [iv l_.nodes,Sl.enc l_.edges]]) hm0_q8 xm0_q8 (lb0_q8 env) (s0_q8 l_) (fun (q:Sum Unit Bool) (r:Res)=>match q with | .inl _=>∃ (z10:AV) (z11:AV) (z12:AV) (h8:kA9),r=(.exit 0,((AV.agg [iv l_.nodes,Sl.enc l_.edges])::(AV.ptr o1 1 0 0)::z10::z11::z12::(AV.ptr o1 1 0 1)::(Sl.enc l_.edges)::(iv (((l_.edges.getD []).length:Nat):Int))::tZ9 31 [und,und,und,und,und,und,und,und,und]),h8)∧Hold B h8 [pZ9 o1 2 [iv l_.nodes,Sl.enc l_.edges]] | .inr q18=>∃ (q19:Int) (z20:AV) (h16:kA9),r=(.ret,((AV.agg [iv l_.nodes,Sl.enc l_.edges])::(AV.ptr o1 1 0 0)::(bv q18)::(iv q19)::z20::(AV.ptr o1 1 0 1)::(Sl.enc l_.edges)::(iv (((l_.edges.getD []).length:Nat):Int))::tZ9 31 [und,und,und,und,und,und,und,und,und]),h16)∧Hold B h16 [pZ9 o1 2 [iv l_.nodes,Sl.enc l_.edges]]):=by
 refine @kG0 _ _ _ _ _ _ _ _ (fun w7 tm h5 R => ?_)
 obtain ⟨rfl,O6⟩:=R
 rw [e_lb0_q8]
 unfold s0_q8
 dsimp only
 refine kA1 (kAl _ _) ?_
 refine kAb (fun c21 => ?_) (fun c21 => ?_)
 ·refine kAr (Tab.enc h5 l_.edges) (fun m23 a22 hi24 hm25 => ?_)
  refine kA1 (v:=AV.agg [iv a22.frm,iv a22.upto,sv a22.label,iv a22.cost]) ((Tab.enc h5 l_.edges).ld hm25 true 4 0) ?_
  refine kAs O6 (cs:=[iv 0,iv 0,sv (⟨#[]⟩:ByteArray),iv 0]) (by first | rfl | simp) (fun o26 h27 O28 => ?_)
  replace O28:Hold B h27 [pZ9 o1 2 [iv l_.nodes,Sl.enc l_.edges],pZ9 o26 4 [iv 0,iv 0,sv (⟨#[]⟩:ByteArray),iv 0]]:=O28
  refine kAw O28 1 (cs':=[iv a22.frm,iv a22.upto,sv a22.label,iv a22.cost]) rfl (by first | rfl | simp) (by simp) (by first | rfl | simp) (by first | rfl | simp [kAx]) (fun h30 O31 => ?_)
  replace O31:Hold B h30 [pZ9 o1 2 [iv l_.nodes,Sl.enc l_.edges],pZ9 o26 4 [iv a22.frm,iv a22.upto,sv a22.label,iv a22.cost]]:=O31
  refine kA1 (v:=AV.agg [iv l_.nodes,Sl.enc l_.edges]) (O31.ld 0 rfl true 2 0) ?_
  refine kA1 (v:=AV.agg [iv a22.frm,iv a22.upto,sv a22.label,iv a22.cost]) (O31.ld 1 rfl true 4 0) ?_
  refine kCb he_q14 (kAz _ l_ rfl) (kAz _ a22 rfl) (fun c32 => ?_)
  refine kAq (kAc (by rfl) _ _) ?_
  refine kA1 (v:=bv (!c32)) (kBu _) ?_
  refine sim_g4F (e:=bv) (fun hb33 => ?_) (fun y36 y37 y38 c35 => ?_)
  ·refine kAp ?_
   refine kA1 (v:=AV.ptr o26 1 0 2) rfl ?_
   refine kAd ?_
   refine kAp ?_
   refine kA1 (v:=sv a22.label) (O31.ld 1 rfl false 1 2) ?_
   refine kAd ?_
   refine kKh ?_
   refine kJ6 (t:=kDk) he_q6 (kC4 _ _) (fun c34 => ?_)
   refine kAd ?_
   refine kA1 (v:=bv (!c34)) (kBu _) ?_
   exact kA6 rfl
  ·refine kA1 (v:=bv (bif !c32 then true else c35)) (kCh _ _ _) ?_
   refine sim_g3F (e:=bv) (fun hb39 => ?_) (fun y41 y42 c40 => ?_)
   ·refine kAd ?_
    refine kAp ?_
    refine kA1 (kDa _ _) ?_
    refine kAd ?_
    exact kA6 rfl
   ·simp only [gv_FT]
    refine sim_g9T (e:=bv) (fun hb43 => ?_) (fun y50 y51 y52 y53 y54 y55 y56 y57 c49 => ?_)
    ·refine kAp ?_
     refine kA1 (v:=AV.ptr o1 1 0 1) rfl ?_
     refine kAd ?_
     refine kAp ?_
     refine kA1 (v:=Sl.enc l_.edges) (O31.ld 0 rfl false 1 1) ?_
     refine kAd ?_
     refine kAd ?_
     refine kAp ?_
     refine kA1 (kCa _ _) ?_
     refine kAd ?_
     refine kAp ?_
     refine kAr (Tab.enc h30 l_.edges) (fun m45 a44 hi46 hm47 => ?_)
     refine kAd ?_
     refine kAp ?_
     refine kA1 (v:=AV.agg [iv a44.frm,iv a44.upto,sv a44.label,iv a44.cost]) ((Tab.enc h30 l_.edges).ld hm47 true 4 0) ?_
     refine kAd ?_
     refine kAp ?_
     refine kA1 (v:=AV.agg [iv a22.frm,iv a22.upto,sv a22.label,iv a22.cost]) (O31.ld 1 rfl true 4 0) ?_
     refine kAd ?_
     refine kKh ?_
     refine kCb he_q13 (kAz _ a44 rfl) (kAz _ a22 rfl) (fun c48 => ?_)
     refine kAq (kAc (by rfl) _ _) ?_
     refine kAd ?_
     refine kA1 (kG8 _ _) ?_
     exact kA6 rfl
    ·refine kBt (e:=bv) (fun hb58 => ?_) (fun c59 => ?_)
     ·simp only [hb58,cond_true,cond_false,Bool.not_true,Bool.not_false,Bool.true_and,Bool.and_true,Bool.false_and,Bool.not_not]
      refine kA1 (v:=bv (bif c40 then c49 else false)) (kD3 _ _ _) ?_
      exact kA6 rfl
     ·refine kA1 (v:=bv (bif (bif !c32 then true else c35) then true else c59)) (kCh _ _ _) ?_
      refine kAb (fun c60 => ?_) (fun c60 => ?_)
      ·have O61:Hold B h30 [pZ9 o1 2 [iv l_.nodes,Sl.enc l_.edges]]:=O31.sel [0] (by decide) rfl
       exact kA6 ⟨nofun,_,_,_,rfl,O61⟩
      ·refine kA1 (kAj _ _) ?_
       have O62:Hold B h30 [pZ9 o1 2 [iv l_.nodes,Sl.enc l_.edges]]:=O31.sel [0] (by decide) rfl
       exact kA6 ⟨rfl,rfl,O62⟩
 ·exact kA6 ⟨nofun,_,_,_,_,rfl,O6⟩
theorem ts_q8 (env:Nat→Contract) (he_q6:env n_q6=.pure (T1 kDk)) (he_q13:env n_q13=.pure (C2 (fun c:Int=>enc c) t_q13)) (he_q14:env n_q14=.pure (C2 (fun c:Bool=>enc c) t_q14)) (he_q22:env n_q22=.pure (T3 kBb)) (l_:Lattice):Sim (kAm Tryz.prog env n_q8 [AV.agg [iv l_.nodes,Sl.enc l_.edges]] []) (t_q8 l_) fun c p=>release p.2 depth p.1=some ((fun c:Bool=>enc c) c):=by
 have O:=Hold.nil []
 generalize hB:(⟨[],[]⟩:Base)=B at O
 clear hB
 rw [e_q8]
 unfold t_q8
 refine kAs O (cs:=[iv l_.nodes,Sl.enc l_.edges]) (by first | rfl | simp) (fun o1 h2 O3 => ?_)
 replace O3:Hold B h2 [pZ9 o1 2 [iv l_.nodes,Sl.enc l_.edges]]:=O3
 refine kA1 (v:=AV.ptr o1 1 0 1) rfl ?_
 refine kA1 (v:=Sl.enc l_.edges) (O3.ld 0 rfl false 1 1) ?_
 refine kA1 (Tab.enc h2 l_.edges).len ?_
 refine kB6 ((tl0_q8 env he_q6 he_q13 he_q14 he_q22 l_ o1) ⟨rfl,O3⟩) (fun qq65 r hq => ?_)
 rcases qq65 with _ | q18
 ·obtain ⟨z10,z11,z12,h8,rfl,O9⟩:=hq
  rw [e_lk0x0_q8]
  refine kA1 (v:=AV.ptr o1 1 0 0) rfl ?_
  refine kA1 (v:=iv l_.nodes) (O9.ld 0 rfl false 1 0) ?_
  refine kGg (t:=kBb) he_q22 (kAy _ _) (kAy _ _) (kAy _ _) (fun c13 => ?_)
  refine kC3 (e:=bv) (fun hb14 => ?_) (fun c15 => ?_)
  ·refine kA1 (v:=AV.ptr o1 1 0 1) rfl ?_
   refine kA1 (v:=Sl.enc l_.edges) (O9.ld 0 rfl false 1 1) ?_
   refine kA1 (Tab.enc h8 l_.edges).len ?_
   refine kA1 (kFn _ _) ?_
   exact kA6 rfl
  ·refine kA1 (v:=bv (bif c13 then c15 else false)) (kD3 _ _ _) ?_
   exact kA6 (kA5 (by rfl) _)
 ·obtain ⟨q19,z20,h16,rfl,O17⟩:=hq
  rw [e_lk0r_q8]
  exact kA6 (kA5 (by rfl) _)
theorem tt_q8:kAn Tryz.prog n_q8 (C1 (fun c:Bool=>enc c) t_q8):=kDl (kBc ok_q6 (kBc tt_q13 (kBc tt_q14 (kBc ok_q22 E0)))) kBd hb_q8 fun l_=>ts_q8 _ (by simp [kBx]) (by simp [kBx]) (by simp [kBx]) (by simp [kBx]) l_
def t_q19 (l_:Lattice):Option Bool :=
 kA0 (t_q8 l_) fun c5 =>
 some (!c5)
theorem ts_q19 (env:Nat→Contract) (he_q8:env n_q8=.pure (C1 (fun c:Bool=>enc c) t_q8)) (l_:Lattice):Sim (kAm Tryz.prog env n_q19 [AV.agg [iv l_.nodes,Sl.enc l_.edges]] []) (t_q19 l_) fun c p=>release p.2 depth p.1=some ((fun c:Bool=>enc c) c):=by
 have O:=Hold.nil []
 generalize hB:(⟨[],[]⟩:Base)=B at O
 clear hB
 rw [e_q19]
 unfold t_q19
 refine kAs O (cs:=[iv l_.nodes,Sl.enc l_.edges]) (by first | rfl | simp) (fun o1 h2 O3 => ?_)
 replace O3:Hold B h2 [pZ9 o1 2 [iv l_.nodes,Sl.enc l_.edges]]:=O3
 refine kA1 (v:=AV.agg [iv l_.nodes,Sl.enc l_.edges]) (O3.ld 0 rfl true 2 0) ?_
 refine kBz he_q8 (kAz _ l_ rfl) (fun c5 => ?_)
 refine kAq (kAc (by rfl) _ _) ?_
 refine kA1 (v:=bv (!c5)) (kBu _) ?_
 exact kA6 (kA5 (by rfl) _)
theorem tt_q19:kAn Tryz.prog n_q19 (C1 (fun c:Bool=>enc c) t_q19):=kDl (kBc tt_q8 E0) kBd hb_q19 fun l_=>ts_q19 _ (by simp [kBx]) l_
def t_q18 (list_:Sl Lattice) (x_:Lexicon) (m_:Model):Option Int :=
 kA0 (t_q9 x_) fun c9 =>
 kA0 (bif !c9 then some false else (kA0 (t_q10 m_) fun c11=>some (!c11))) fun c12 =>
 kA0 (bif (bif !c9 then true else c12) then some false else (kA0 (t_q70 t_q19 list_) fun c14=>some c14)) fun c15 =>
 bif (bif (bif !c9 then true else c12) then true else c15) then
  some 1
 else
  bif decide (8<(((list_.getD []).length:Nat):Int)) then
   some 2
  else
   some 0
theorem ts_q18 (env:Nat→Contract) (he_q9:env n_q9=.pure (C1 (fun c:Bool=>enc c) t_q9)) (he_q10:env n_q10=.pure (C1 (fun c:Bool=>enc c) t_q10)) (he_q70:env n_q70=.pure (C2 (fun c:Bool=>enc c) (fun (q:Sl Lattice) (k:Clo0 n_q19)=>t_q70 ((fun _:Clo0 n_q19=>t_q19) k) q))) (list_:Sl Lattice) (x_:Lexicon) (m_:Model):Sim (kAm Tryz.prog env n_q18 [Sl.enc list_,AV.agg [Sl.enc x_.entries],AV.agg [iv m_.default,Sl.enc m_.bigrams]] []) (t_q18 list_ x_ m_) fun c p=>release p.2 depth p.1=some ((fun c:Int=>enc c) c):=by
 have O:=Hold.nil []
 generalize hB:(⟨[],[]⟩:Base)=B at O
 clear hB
 rw [e_q18]
 unfold t_q18
 refine kAs O (cs:=[Sl.enc x_.entries]) (by first | rfl | simp) (fun o1 h2 O3 => ?_)
 replace O3:Hold B h2 [pZ9 o1 1 [Sl.enc x_.entries]]:=O3
 refine kAs O3 (cs:=[iv m_.default,Sl.enc m_.bigrams]) (by first | rfl | simp) (fun o5 h6 O7 => ?_)
 replace O7:Hold B h6 [pZ9 o1 1 [Sl.enc x_.entries],pZ9 o5 2 [iv m_.default,Sl.enc m_.bigrams]]:=O7
 refine kA1 (v:=AV.agg [Sl.enc x_.entries]) (O7.ld 0 rfl true 1 0) ?_
 refine kBz he_q9 (kAz _ x_ rfl) (fun c9 => ?_)
 refine kAq (kAc (by rfl) _ _) ?_
 refine kA1 (v:=bv (!c9)) (kBu _) ?_
 refine kBt (e:=bv) (fun hb10 => ?_) (fun c12 => ?_)
 ·refine kA1 (v:=AV.agg [iv m_.default,Sl.enc m_.bigrams]) (O7.ld 1 rfl true 2 0) ?_
  refine kBz he_q10 (kAz _ m_ rfl) (fun c11 => ?_)
  refine kAq (kAc (by rfl) _ _) ?_
  refine kA1 (v:=bv (!c11)) (kBu _) ?_
  exact kA6 rfl
 ·refine kA1 (v:=bv (bif !c9 then true else c12)) (kCh _ _ _) ?_
  refine kBt (e:=bv) (fun hb13 => ?_) (fun c15 => ?_)
  ·refine kBo (t:=fun (q:Sl Lattice) (k:Clo0 n_q19)=>t_q70 ((fun _:Clo0 n_q19=>t_q19) k) q) he_q70 (kBp _ _) (snapD_clo0 _ _) (fun c14 => ?_)
   refine kAq (kAc (by rfl) _ _) ?_
   exact kA6 rfl
  ·refine kA1 (v:=bv (bif (bif !c9 then true else c12) then true else c15)) (kCh _ _ _) ?_
   refine kAb (fun c16 => ?_) (fun c16 => ?_)
   ·exact kA6 (kA5 (by rfl) _)
   ·refine kA1 (Tab.enc h6 list_).len ?_
    refine kA1 (kDa _ _) ?_
    refine kAb (fun c17 => ?_) (fun c17 => ?_)
    ·exact kA6 (kA5 (by rfl) _)
    ·exact kA6 (kA5 (by rfl) _)
theorem tt_q18:kAn Tryz.prog n_q18 (C3 (fun c:Int=>enc c) t_q18):=kKa (kBc tt_q9 (kBc tt_q10 (kBc (kCw tt_q19) E0))) kBd hb_q18 fun list_ x_ m_=>ts_q18 _ (by simp [kBx]) (by simp [kBx]) (by simp [kBx]) list_ x_ m_
def s3_q20 (l_:Lattice) (text_:ByteArray) (w25:Sl Int) (w31:Int):((Sl Int)×Bool×Int)→Option (Sum ((Sl Int)×Bool×Int) ((Sl Int)×Bool)):=fun (w70,w73,w74) =>
 bif decide (w74<(((l_.edges.getD []).length:Nat):Int)) then
  kA0 (kC7 (l_.edges.getD []) w74) fun a84 =>
  kA0 (subB text_ (some w31) (some (wr (w31+1)))) fun s94 =>
  kA0 (bif decide (a84.label=s94) then (kA0 (kC7 (w25.getD []) a84.frm) fun a96=>some (decide (a96<1099511627776))) else some false) fun c100 =>
  bif (bif decide (a84.label=s94) then c100 else false) then
   kA0 (kC7 (w70.getD []) a84.upto) fun a107 =>
   kA0 (kC7 (w25.getD []) a84.frm) fun a111 =>
   kA0 (kC7 (w70.getD []) a84.upto) fun a115 =>
   some (.inl ((kFe w70 a84.upto (min a107 (wr (a111+a84.cost)))),true,wr (w74+1)))
  else
   some (.inl (w70,w73,wr (w74+1)))
 else
  some (.inr (w70,w73))
def s2_q20 (l61:List Int):((Sl Int)×Int)→Option (Sum ((Sl Int)×Int) (Sl Int)):=fun (w62,w65) =>
 bif decide (w65<((((some l61).getD []).length:Nat):Int)) then
  kA0 (kC7 (w62.getD []) w65) fun a127 =>
  some (.inl ((kFe w62 w65 1099511627776),wr (w65+1)))
 else
  some (.inr w62)
def s1_q20 (l_:Lattice) (text_:ByteArray):((Sl Int)×Int×Int)→Option (Sum ((Sl Int)×Int×Int) (Sum (Sl Int) Int)):=fun (w25,w28,w31) =>
 bif decide (w31<(text_.size:Int)) then
  kA0 (kJb 0 l_.nodes) fun l61 =>
  kA0 (kBg (s2_q20 l61) ((some l61),0)) fun q68 =>
  kA0 (kBg (s3_q20 l_ text_ w25 w31) (q68,false,0)) fun (q77,q78) =>
  bif !q78 then
   some (.inr (.inr 1099511627776))
  else
   some (.inl (q77,w28,wr (w31+1)))
 else
  some (.inr (.inl w25))
def s0_q20 (l9:List Int):((Sl Int)×Int)→Option (Sum ((Sl Int)×Int) (Sl Int)):=fun (w10,w13) =>
 bif decide (w13<((((some l9).getD []).length:Nat):Int)) then
  kA0 (kC7 (w10.getD []) w13) fun a141 =>
  some (.inl ((kFe w10 w13 1099511627776),wr (w13+1)))
 else
  some (.inr w10)
def kJp (l_:Lattice) (text_:ByteArray):Option Int :=
 kA0 (kJb 0 l_.nodes) fun l9 =>
 kA0 (kBg (s0_q20 l9) ((some l9),0)) fun q16 =>
 kA0 (kC7 (q16.getD []) 0) fun a18 =>
 kA0 (kBg (s1_q20 l_ text_) ((kFe q16 0 0),0,0)) fun qq139=>match qq139 with
 | (.inl q35) =>
   kA0 (kC7 (q35.getD []) (wr (l_.nodes - 1))) fun a42 =>
   some a42
 | (.inr q50) =>
   some q50
theorem tl3_q20 (env:Nat→Contract) {B:Base}  (l_:Lattice) (text_:ByteArray) (o1:Nat) (x5:AV) (l9:List Int) (z17:AV) (m19:Nat) (z24:AV) (w25:Sl Int) (w28:Int) (w31:Int) (x57:AV) (l61:List Int) (z69:AV) :kFq (fun (st:(Sl Int)×Bool×Int) tm h71=>match st with | (w70,w73,w74)=>tm=((AV.agg [iv l_.nodes,Sl.enc l_.edges])::(sv text_)::(AV.ptr o1 1 0 0)::und::(iv w28)::z24::z17::(iv w31)::x57::z69::(bv w73)::und::.top::(AV.ptr o1 1 0 0)::(iv l_.nodes)::x5::x5::(iv ((((some l9).getD []).length:Nat):Int))::.top::.top::.top::.top::.top::.top::.top::x5::(elp x5 m19 0)::(sv text_)::(iv (text_.size:Int))::(iv w31)::(bv (decide (w31<(text_.size:Int))))::(iv w31)::(AV.ptr o1 1 0 0)::(iv l_.nodes)::x57::x57::(iv ((((some l61).getD []).length:Nat):Int))::.top::.top::.top::.top::.top::.top::.top::(AV.ptr o1 1 0 1)::(Sl.enc l_.edges)::(iv (((l_.edges.getD []).length:Nat):Int))::(iv w74)::tZ9 38 [.top,.top,.top,.top,und,und,und,und,und,und])∧Hold B h71 [pZ9 o1 2 [iv l_.nodes,Sl.enc l_.edges],(z24,obS (w25:Sl Int)),(x57,obS (w70:Sl Int))]) hm3_q20 xm3_q20 (lb3_q20 env) (s3_q20 l_ text_ w25 w31) (fun (q:(Sl Int)×Bool) (r:Res)=>match q with | (q77,q78)=>∃ (z79:AV) (h75:kA9),r=(.exit 6,((AV.agg [iv l_.nodes,Sl.enc l_.edges])::(sv text_)::(AV.ptr o1 1 0 0)::und::(iv w28)::z24::z17::(iv w31)::x57::z69::(bv q78)::und::z79::(AV.ptr o1 1 0 0)::(iv l_.nodes)::x5::x5::(iv ((((some l9).getD []).length:Nat):Int))::.top::.top::.top::.top::.top::.top::.top::x5::(elp x5 m19 0)::(sv text_)::(iv (text_.size:Int))::(iv w31)::(bv (decide (w31<(text_.size:Int))))::(iv w31)::(AV.ptr o1 1 0 0)::(iv l_.nodes)::x57::x57::(iv ((((some l61).getD []).length:Nat):Int))::.top::.top::.top::.top::.top::.top::.top::(AV.ptr o1 1 0 1)::(Sl.enc l_.edges)::(iv (((l_.edges.getD []).length:Nat):Int))::tZ9 39 [.top,.top,.top,.top,und,und,und,und,und,und]),h75)∧Hold B h75 [pZ9 o1 2 [iv l_.nodes,Sl.enc l_.edges],(z24,obS (w25:Sl Int)),(x57,obS (q77:Sl Int))]):=by
 refine @kG0 _ _ _ _ _ _ _ _ (fun st tm h71 R => ?_)
 obtain ⟨w70,w73,w74⟩:=st
 obtain ⟨rfl,O72⟩:=R
 rw [e_lb3_q20]
 unfold s3_q20
 dsimp only
 refine kA1 (kAl _ _) ?_
 refine kAb (fun c83 => ?_) (fun c83 => ?_)
 ·refine kAr (Tab.enc h71 l_.edges) (fun m85 a84 hi86 hm87 => ?_)
  refine kA1 (v:=AV.agg [iv a84.frm,iv a84.upto,sv a84.label,iv a84.cost]) ((Tab.enc h71 l_.edges).ld hm87 true 4 0) ?_
  refine kAs O72 (cs:=[iv 0,iv 0,sv (⟨#[]⟩:ByteArray),iv 0]) (by first | rfl | simp) (fun o88 h89 O90 => ?_)
  replace O90:Hold B h89 [pZ9 o1 2 [iv l_.nodes,Sl.enc l_.edges],(z24,obS (w25:Sl Int)),(x57,obS (w70:Sl Int)),pZ9 o88 4 [iv 0,iv 0,sv (⟨#[]⟩:ByteArray),iv 0]]:=O90
  refine kAw O90 3 (cs':=[iv a84.frm,iv a84.upto,sv a84.label,iv a84.cost]) rfl (by first | rfl | simp) (by simp) (by first | rfl | simp) (by first | rfl | simp [kAx]) (fun h92 O93 => ?_)
  replace O93:Hold B h92 [pZ9 o1 2 [iv l_.nodes,Sl.enc l_.edges],(z24,obS (w25:Sl Int)),(x57,obS (w70:Sl Int)),pZ9 o88 4 [iv a84.frm,iv a84.upto,sv a84.label,iv a84.cost]]:=O93
  refine kA1 (v:=AV.ptr o88 1 0 2) rfl ?_
  refine kA1 (v:=sv a84.label) (O93.ld 3 rfl false 1 2) ?_
  refine kA1 (kAj _ _) ?_
  refine sim_subB11 (fun s94 => ?_)
  refine kA1 (kH6 _ _) ?_
  refine sim_g6T (e:=bv) (fun hb95 => ?_) (fun y101 y102 y103 y104 y105 c100 => ?_)
  ·refine kAd ?_
   refine kAp ?_
   refine kA1 (v:=AV.ptr o88 1 0 0) rfl ?_
   refine kAd ?_
   refine kAp ?_
   refine kA1 (v:=iv a84.frm) (O93.ld 3 rfl false 1 0) ?_
   refine kAd ?_
   refine kAp ?_
   refine kAr (O93.tab (A:=Int) (s:=w25) 1 rfl) (fun m97 a96 hi98 hm99 => ?_)
   refine kAd ?_
   refine kAp ?_
   refine kA1 (v:=iv a96) ((O93.tab (A:=Int) (s:=w25) 1 rfl).ld hm99 false 1 0) ?_
   refine kAd ?_
   refine kA1 (kAl _ _) ?_
   exact kA6 rfl
  ·refine kA1 (v:=bv (bif decide (a84.label=s94) then c100 else false)) (kD3 _ _ _) ?_
   refine kAb (fun c106 => ?_) (fun c106 => ?_)
   ·refine kA1 (v:=AV.ptr o88 1 0 1) rfl ?_
    refine kA1 (v:=iv a84.upto) (O93.ld 3 rfl false 1 1) ?_
    refine kA1 (v:=AV.ptr o88 1 0 1) rfl ?_
    refine kA1 (v:=iv a84.upto) (O93.ld 3 rfl false 1 1) ?_
    refine kAr (O93.tab (A:=Int) (s:=w70) 2 rfl) (fun m108 a107 hi109 hm110 => ?_)
    refine kA1 (v:=iv a107) ((O93.tab (A:=Int) (s:=w70) 2 rfl).ld hm110 false 1 0) ?_
    refine kA1 (v:=AV.ptr o88 1 0 0) rfl ?_
    refine kA1 (v:=iv a84.frm) (O93.ld 3 rfl false 1 0) ?_
    refine kAr (O93.tab (A:=Int) (s:=w25) 1 rfl) (fun m112 a111 hi113 hm114 => ?_)
    refine kA1 (v:=iv a111) ((O93.tab (A:=Int) (s:=w25) 1 rfl).ld hm114 false 1 0) ?_
    refine kA1 (v:=AV.ptr o88 1 0 3) rfl ?_
    refine kA1 (v:=iv a84.cost) (O93.ld 3 rfl false 1 3) ?_
    refine kA1 (kAj _ _) ?_
    refine kA1 (v:=iv (min a107 (wr (a111+a84.cost)))) (aFold_min _ _) ?_
    refine kAr (O93.tab (A:=Int) (s:=w70) 2 rfl) (fun m116 a115 hi117 hm118 => ?_)
    refine kG9 (A:=Int) O93 2 (min a107 (wr (a111+a84.cost))) rfl hi117 hm118 rfl (by simp) (by first | rfl | simp) (by first | rfl | simp [kAx]) (fun h119 O120 => ?_)
    replace O120:Hold B h119 [pZ9 o1 2 [iv l_.nodes,Sl.enc l_.edges],(z24,obS (w25:Sl Int)),(x57,obS ((kFe w70 a84.upto (min a107 (wr (a111+a84.cost)))):Sl Int)),pZ9 o88 4 [iv a84.frm,iv a84.upto,sv a84.label,iv a84.cost]]:=O120
    refine kA1 (kAj _ _) ?_
    have O121:Hold B h119 [pZ9 o1 2 [iv l_.nodes,Sl.enc l_.edges],(z24,obS (w25:Sl Int)),(x57,obS ((kFe w70 a84.upto (min a107 (wr (a111+a84.cost)))):Sl Int))]:=O120.sel [0,1,2] (by decide) rfl
    exact kA6 ⟨rfl,rfl,O121⟩
   ·refine kA1 (kAj _ _) ?_
    have O122:Hold B h92 [pZ9 o1 2 [iv l_.nodes,Sl.enc l_.edges],(z24,obS (w25:Sl Int)),(x57,obS (w70:Sl Int))]:=O93.sel [0,1,2] (by decide) rfl
    exact kA6 ⟨rfl,rfl,O122⟩
 ·exact kA6 ⟨nofun,_,_,rfl,O72⟩
theorem tl2_q20 (env:Nat→Contract) {B:Base}  (l_:Lattice) (text_:ByteArray) (o1:Nat) (x5:AV) (l9:List Int) (z17:AV) (m19:Nat) (z24:AV) (w25:Sl Int) (w28:Int) (y30:AV) (w31:Int) (x57:AV) (l61:List Int) :kFq (fun (st:(Sl Int)×Int) tm h63=>match st with | (w62,w65)=>tm=((AV.agg [iv l_.nodes,Sl.enc l_.edges])::(sv text_)::(AV.ptr o1 1 0 0)::und::(iv w28)::z24::z17::(iv w31)::x57::.top::.top::und::y30::(AV.ptr o1 1 0 0)::(iv l_.nodes)::x5::x5::(iv ((((some l9).getD []).length:Nat):Int))::.top::.top::.top::.top::.top::.top::.top::x5::(elp x5 m19 0)::(sv text_)::(iv (text_.size:Int))::(iv w31)::(bv (decide (w31<(text_.size:Int))))::(iv w31)::(AV.ptr o1 1 0 0)::(iv l_.nodes)::x57::x57::(iv ((((some l61).getD []).length:Nat):Int))::(iv w65)::tZ9 6 [.top,.top,.top,.top,.top,.top,.top,.top,.top,.top,.top,.top,.top,.top,.top,.top,.top,.top,.top,.top,.top,.top,.top,.top,.top,.top,.top,.top,.top,.top,.top,.top,.top,.top,.top,.top,.top,.top,.top,.top,.top,.top,.top,.top,.top,.top,und,und,und,und,und,und])∧Hold B h63 [pZ9 o1 2 [iv l_.nodes,Sl.enc l_.edges],(z24,obS (w25:Sl Int)),(x57,obS (w62:Sl Int))]) hm2_q20 xm2_q20 (lb2_q20 env) (s2_q20 l61) (fun (q:Sl Int) (r:Res)=>match q with | q68=>∃ (z69:AV) (h66:kA9),r=(.exit 4,((AV.agg [iv l_.nodes,Sl.enc l_.edges])::(sv text_)::(AV.ptr o1 1 0 0)::und::(iv w28)::z24::z17::(iv w31)::x57::z69::.top::und::y30::(AV.ptr o1 1 0 0)::(iv l_.nodes)::x5::x5::(iv ((((some l9).getD []).length:Nat):Int))::.top::.top::.top::.top::.top::.top::.top::x5::(elp x5 m19 0)::(sv text_)::(iv (text_.size:Int))::(iv w31)::(bv (decide (w31<(text_.size:Int))))::(iv w31)::(AV.ptr o1 1 0 0)::(iv l_.nodes)::x57::x57::(iv ((((some l61).getD []).length:Nat):Int))::tZ9 7 [.top,.top,.top,.top,.top,.top,.top,.top,.top,.top,.top,.top,.top,.top,.top,.top,.top,.top,.top,.top,.top,.top,.top,.top,.top,.top,.top,.top,.top,.top,.top,.top,.top,.top,.top,.top,.top,.top,.top,.top,.top,.top,.top,.top,.top,.top,und,und,und,und,und,und]),h66)∧Hold B h66 [pZ9 o1 2 [iv l_.nodes,Sl.enc l_.edges],(z24,obS (w25:Sl Int)),(x57,obS (q68:Sl Int))]):=by
 refine @kG0 _ _ _ _ _ _ _ _ (fun st tm h63 R => ?_)
 obtain ⟨w62,w65⟩:=st
 obtain ⟨rfl,O64⟩:=R
 rw [e_lb2_q20]
 unfold s2_q20
 dsimp only
 refine kA1 (kAl _ _) ?_
 refine kAb (fun c126 => ?_) (fun c126 => ?_)
 ·refine kAr (O64.tab (A:=Int) (s:=w62) 2 rfl) (fun m128 a127 hi129 hm130 => ?_)
  refine kG9 (A:=Int) O64 2 1099511627776 rfl hi129 hm130 rfl (by simp) (by first | rfl | simp) (by first | rfl | simp [kAx]) (fun h131 O132 => ?_)
  replace O132:Hold B h131 [pZ9 o1 2 [iv l_.nodes,Sl.enc l_.edges],(z24,obS (w25:Sl Int)),(x57,obS ((kFe w62 w65 1099511627776):Sl Int))]:=O132
  refine kA1 (kAj _ _) ?_
  exact kA6 ⟨rfl,rfl,O132⟩
 ·exact kA6 ⟨nofun,_,_,rfl,O64⟩
theorem tl1_q20 (env:Nat→Contract) {B:Base}  (l_:Lattice) (text_:ByteArray) (o1:Nat) (x5:AV) (l9:List Int) (z17:AV) (m19:Nat) :kFq (fun (st:(Sl Int)×Int×Int) tm h26=>match st with | (w25,w28,w31)=>∃ y29 y30 z24,tm=((AV.agg [iv l_.nodes,Sl.enc l_.edges])::(sv text_)::(AV.ptr o1 1 0 0)::und::(iv w28)::z24::z17::.top::.top::y29::.top::und::y30::(AV.ptr o1 1 0 0)::(iv l_.nodes)::x5::x5::(iv ((((some l9).getD []).length:Nat):Int))::.top::.top::.top::.top::.top::.top::.top::x5::(elp x5 m19 0)::(sv text_)::(iv (text_.size:Int))::(iv w31)::tZ9 60 [und,und,und,und,und,und])∧Hold B h26 [pZ9 o1 2 [iv l_.nodes,Sl.enc l_.edges],(z24,obS (w25:Sl Int))]) hm1_q20 xm1_q20 (lb1_q20 env) (s1_q20 l_ text_) (fun (q:Sum (Sl Int) Int) (r:Res)=>match q with | .inl q35=>∃ (q36:Int) (z34:AV) (z37:AV) (z38:AV) (z39:AV) (z40:AV) (z41:AV) (h32:kA9),r=(.exit 2,((AV.agg [iv l_.nodes,Sl.enc l_.edges])::(sv text_)::(AV.ptr o1 1 0 0)::und::(iv q36)::z34::z17::z37::z38::z39::z40::und::z41::(AV.ptr o1 1 0 0)::(iv l_.nodes)::x5::x5::(iv ((((some l9).getD []).length:Nat):Int))::.top::.top::.top::.top::.top::.top::.top::x5::(elp x5 m19 0)::(sv text_)::(iv (text_.size:Int))::tZ9 61 [und,und,und,und,und,und]),h32)∧Hold B h32 [pZ9 o1 2 [iv l_.nodes,Sl.enc l_.edges],(z34,obS (q35:Sl Int))] | .inr q50=>∃ (q49:Sl Int) (q51:Int) (q54:Bool) (z48:AV) (z52:AV) (z53:AV) (z55:AV) (h46:kA9),r=(.ret,((AV.agg [iv l_.nodes,Sl.enc l_.edges])::(sv text_)::(AV.ptr o1 1 0 0)::und::(iv q50)::z48::z17::(iv q51)::z52::z53::(bv q54)::und::z55::(AV.ptr o1 1 0 0)::(iv l_.nodes)::x5::x5::(iv ((((some l9).getD []).length:Nat):Int))::.top::.top::.top::.top::.top::.top::.top::x5::(elp x5 m19 0)::(sv text_)::(iv (text_.size:Int))::tZ9 61 [und,und,und,und,und,und]),h46)∧Hold B h46 [pZ9 o1 2 [iv l_.nodes,Sl.enc l_.edges],(z48,obS (q49:Sl Int))]):=by
 refine @kG0 _ _ _ _ _ _ _ _ (fun st tm h26 R => ?_)
 obtain ⟨w25,w28,w31⟩:=st
 obtain ⟨y29,y30,z24,rfl,O27⟩:=R
 rw [e_lb1_q20]
 unfold s1_q20
 dsimp only
 refine kA1 (kAl _ _) ?_
 refine kAb (fun c56 => ?_) (fun c56 => ?_)
 ·refine kA1 (v:=AV.ptr o1 1 0 0) rfl ?_
  refine kA1 (v:=iv l_.nodes) (O27.ld 0 rfl false 1 0) ?_
  refine kIc (A:=Int) O27 0 rfl (by decide) (fun l61 x57 h58 O59 => ?_)
  replace O59:Hold B h58 [pZ9 o1 2 [iv l_.nodes,Sl.enc l_.edges],(z24,obS (w25:Sl Int)),(x57,obS ((some l61):Sl Int))]:=O59
  refine kA1 (v:=iv ((((some l61).getD []).length:Nat):Int)) (O59.tab (A:=Int) (s:=(some l61)) 2 rfl).len ?_
  refine kB6 ((tl2_q20 env l_ text_ o1 x5 l9 z17 m19 z24 w25 w28 y30 w31 x57 l61) ⟨rfl,O59⟩) (fun qq136 r hq => ?_)
  revert hq
  revert qq136
  intro q68 hq
  obtain ⟨z69,h66,rfl,O67⟩:=hq
  rw [e_lk2x4_q20]
  refine kA1 (v:=AV.ptr o1 1 0 1) rfl ?_
  refine kA1 (v:=Sl.enc l_.edges) (O67.ld 0 rfl false 1 1) ?_
  refine kA1 (Tab.enc h66 l_.edges).len ?_
  refine kB6 ((tl3_q20 env l_ text_ o1 x5 l9 z17 m19 z24 w25 w28 w31 x57 l61 z69) ⟨rfl,O67⟩) (fun qq125 r hq => ?_)
  obtain ⟨q77,q78⟩:=qq125
  obtain ⟨z79,h75,rfl,O76⟩:=hq
  rw [e_lk3x6_q20]
  refine kA1 (v:=bv (!q78)) (kBu _) ?_
  refine kAb (fun c80 => ?_) (fun c80 => ?_)
  ·have O81:Hold B h75 [pZ9 o1 2 [iv l_.nodes,Sl.enc l_.edges],(z24,obS (w25:Sl Int))]:=O76.sel [0,1] (by decide) rfl
   exact kA6 ⟨nofun,_,_,_,_,_,_,_,_,rfl,O81⟩
  ·refine kA1 (kAj _ _) ?_
   have O82:Hold B h75 [pZ9 o1 2 [iv l_.nodes,Sl.enc l_.edges],(x57,obS (q77:Sl Int))]:=O76.sel [0,2] (by decide) rfl
   exact kA6 ⟨rfl,_,_,_,rfl,O82⟩
 ·exact kA6 ⟨nofun,_,_,_,_,_,_,_,_,rfl,O27⟩
theorem tl0_q20 (env:Nat→Contract) {B:Base}  (l_:Lattice) (text_:ByteArray) (o1:Nat) (x5:AV) (l9:List Int) :kFq (fun (st:(Sl Int)×Int) tm h11=>match st with | (w10,w13)=>tm=((AV.agg [iv l_.nodes,Sl.enc l_.edges])::(sv text_)::(AV.ptr o1 1 0 0)::und::(iv 0)::x5::.top::und::und::und::und::und::und::(AV.ptr o1 1 0 0)::(iv l_.nodes)::x5::x5::(iv ((((some l9).getD []).length:Nat):Int))::(iv w13)::tZ9 6 [und,und,und,und,und,und,und,und,und,und,und,und,und,und,und,und,und,und,und,und,und,und,und,und,und,und,und,und,und,und,und,und,und,und,und,und,und,und,und,und,und,und,und,und,und,und,und,und,und,und,und,und,und,und,und,und,und,und,und,und,und,und,und,und,und,und,und,und,und,und,und])∧Hold B h11 [pZ9 o1 2 [iv l_.nodes,Sl.enc l_.edges],(x5,obS (w10:Sl Int))]) hm0_q20 xm0_q20 (lb0_q20 env) (s0_q20 l9) (fun (q:Sl Int) (r:Res)=>match q with | q16=>∃ (z17:AV) (h14:kA9),r=(.exit 0,((AV.agg [iv l_.nodes,Sl.enc l_.edges])::(sv text_)::(AV.ptr o1 1 0 0)::und::(iv 0)::x5::z17::und::und::und::und::und::und::(AV.ptr o1 1 0 0)::(iv l_.nodes)::x5::x5::(iv ((((some l9).getD []).length:Nat):Int))::tZ9 7 [und,und,und,und,und,und,und,und,und,und,und,und,und,und,und,und,und,und,und,und,und,und,und,und,und,und,und,und,und,und,und,und,und,und,und,und,und,und,und,und,und,und,und,und,und,und,und,und,und,und,und,und,und,und,und,und,und,und,und,und,und,und,und,und,und,und,und,und,und,und,und]),h14)∧Hold B h14 [pZ9 o1 2 [iv l_.nodes,Sl.enc l_.edges],(x5,obS (q16:Sl Int))]):=by
 refine @kG0 _ _ _ _ _ _ _ _ (fun st tm h11 R => ?_)
 obtain ⟨w10,w13⟩:=st
 obtain ⟨rfl,O12⟩:=R
 rw [e_lb0_q20]
 unfold s0_q20
 dsimp only
 refine kA1 (kAl _ _) ?_
 refine kAb (fun c140 => ?_) (fun c140 => ?_)
 ·refine kAr (O12.tab (A:=Int) (s:=w10) 1 rfl) (fun m142 a141 hi143 hm144 => ?_)
  refine kG9 (A:=Int) O12 1 1099511627776 rfl hi143 hm144 rfl (by simp) (by first | rfl | simp) (by first | rfl | simp [kAx]) (fun h145 O146 => ?_)
  replace O146:Hold B h145 [pZ9 o1 2 [iv l_.nodes,Sl.enc l_.edges],(x5,obS ((kFe w10 w13 1099511627776):Sl Int))]:=O146
  refine kA1 (kAj _ _) ?_
  exact kA6 ⟨rfl,rfl,O146⟩
 ·exact kA6 ⟨nofun,_,_,rfl,O12⟩
theorem ts_q20 (env:Nat→Contract)  (l_:Lattice) (text_:ByteArray):Sim (kIr true Tryz.prog env n_q20 [AV.agg [iv l_.nodes,Sl.enc l_.edges],sv text_] []) (kJp l_ text_) fun c p=>release p.2 depth p.1=some ((fun c:Int=>enc c) c):=by
 have O:=Hold.nil []
 generalize hB:(⟨[],[]⟩:Base)=B at O
 clear hB
 rw [e_q20]
 unfold kJp
 refine kAs O (cs:=[iv l_.nodes,Sl.enc l_.edges]) (by first | rfl | simp) (fun o1 h2 O3 => ?_)
 replace O3:Hold B h2 [pZ9 o1 2 [iv l_.nodes,Sl.enc l_.edges]]:=O3
 refine kA1 (v:=AV.ptr o1 1 0 0) rfl ?_
 refine kA1 (v:=iv l_.nodes) (O3.ld 0 rfl false 1 0) ?_
 refine kIc (A:=Int) O3 0 rfl (by decide) (fun l9 x5 h6 O7 => ?_)
 replace O7:Hold B h6 [pZ9 o1 2 [iv l_.nodes,Sl.enc l_.edges],(x5,obS ((some l9):Sl Int))]:=O7
 refine kA1 (v:=iv ((((some l9).getD []).length:Nat):Int)) (O7.tab (A:=Int) (s:=(some l9)) 1 rfl).len ?_
 refine kB6 ((tl0_q20 env l_ text_ o1 x5 l9) ⟨rfl,O7⟩) (fun qq150 r hq => ?_)
 revert hq
 revert qq150
 intro q16 hq
 obtain ⟨z17,h14,rfl,O15⟩:=hq
 rw [e_lk0x0_q20]
 refine kAr (O15.tab (A:=Int) (s:=q16) 1 rfl) (fun m19 a18 hi20 hm21 => ?_)
 refine kG9 (A:=Int) O15 1 0 rfl hi20 hm21 rfl (by simp) (by first | rfl | simp) (by first | rfl | simp [kAx]) (fun h22 O23 => ?_)
 replace O23:Hold B h22 [pZ9 o1 2 [iv l_.nodes,Sl.enc l_.edges],(x5,obS ((kFe q16 0 0):Sl Int))]:=O23
 refine kA1 (v:=iv (text_.size:Int)) rfl ?_
 refine kB6 ((tl1_q20 env l_ text_ o1 x5 l9 z17 m19) ⟨_,_,_,rfl,O23⟩) (fun qq139 r hq => ?_)
 rcases qq139 with q35 | q50
 ·obtain ⟨q36,z34,z37,z38,z39,z40,z41,h32,rfl,O33⟩:=hq
  rw [e_lk1x2_q20]
  refine kA1 (v:=AV.ptr o1 1 0 0) rfl ?_
  refine kA1 (v:=iv l_.nodes) (O33.ld 0 rfl false 1 0) ?_
  refine kA1 (kCa _ _) ?_
  refine kAr (O33.tab (A:=Int) (s:=q35) 1 rfl) (fun m43 a42 hi44 hm45 => ?_)
  refine kA1 (v:=iv a42) ((O33.tab (A:=Int) (s:=q35) 1 rfl).ld hm45 false 1 0) ?_
  exact kA6 (kA5 (by rfl) _)
 ·obtain ⟨q49,q51,q54,z48,z52,z53,z55,h46,rfl,O47⟩:=hq
  rw [e_lk1r_q20]
  exact kA6 (kA5 (by rfl) _)
theorem tt_q20:kAn Tryz.prog n_q20 (C2 (fun c:Int=>enc c) kJp):=pureCW2 E0 kBd hb_q20 fun l_ text_=>ts_q20 _  l_ text_
def s0_q69 (x_:Sl Bigram) (target_:Bigram):(Int×Int)→Option (Sum (Int×Int) Int):=fun (w7,w8) =>
 bif decide (w7<w8) then
  kA0 (kC7 (x_.getD []) (wr (Int.fdiv (IntKind.u64.wrap (wr (w7+w8))) (2 ^ 1)))) fun a29 =>
  kA0 (some (cmpB a29 target_)) fun c33 =>
  bif decide (c33<0) then
   some (.inl (wr ((wr (Int.fdiv (IntKind.u64.wrap (wr (w7+w8))) (2 ^ 1)))+1),w8))
  else
   some (.inl (w7,wr (Int.fdiv (IntKind.u64.wrap (wr (w7+w8))) (2 ^ 1))))
 else
  some (.inr w7)
def t_q69 (x_:Sl Bigram) (target_:Bigram) (cmp_:Clo0 kJk):Option (Int×Bool) :=
 kA0 (kBg (s0_q69 x_ target_) (0,(((x_.getD []).length:Nat):Int))) fun q11 =>
 kA0 (bif decide (q11<(((x_.getD []).length:Nat):Int)) then (kA0 (kC7 (x_.getD []) q11) fun a15=>kA0 (some (cmpB a15 target_)) fun c19=>some (decide (c19=0))) else some false) fun c20 =>
 some (q11,(bif decide (q11<(((x_.getD []).length:Nat):Int)) then c20 else false))
theorem tl0_q69 (env:Nat→Contract) {B:Base} (he_q12:env kJk=.pure (T2 cmpB)) (x_:Sl Bigram) (target_:Bigram) (o1:Nat) :kFq (fun (st:Int×Int) tm h5=>match st with | (w7,w8)=>tm=((Sl.enc x_)::(AV.agg [sv target_.first,sv target_.second,iv target_.cost])::(AV.fn kJk [])::und::(AV.ptr o1 1 0 0)::und::(iv 0)::(bv false)::(iv (((x_.getD []).length:Nat):Int))::(iv w7)::(iv w8)::.top::(Sl.enc x_)::(iv (((x_.getD []).length:Nat):Int))::(iv (((x_.getD []).length:Nat):Int))::tZ9 20 [und,und,und,und,und,und,und,und,und,und,und,und,und,und])∧Hold B h5 [pZ9 o1 3 [sv target_.first,sv target_.second,iv target_.cost]]) hm0_q69 xm0_q69 (lb0_q69 env) (s0_q69 x_ target_) (fun (q:Int) (r:Res)=>match q with | q11=>∃ (q12:Int) (z13:AV) (h9:kA9),r=(.exit 0,((Sl.enc x_)::(AV.agg [sv target_.first,sv target_.second,iv target_.cost])::(AV.fn kJk [])::und::(AV.ptr o1 1 0 0)::und::(iv 0)::(bv false)::(iv (((x_.getD []).length:Nat):Int))::(iv q11)::(iv q12)::z13::(Sl.enc x_)::(iv (((x_.getD []).length:Nat):Int))::(iv (((x_.getD []).length:Nat):Int))::tZ9 20 [und,und,und,und,und,und,und,und,und,und,und,und,und,und]),h9)∧Hold B h9 [pZ9 o1 3 [sv target_.first,sv target_.second,iv target_.cost]]):=by
 refine @kG0 _ _ _ _ _ _ _ _ (fun st tm h5 R => ?_)
 obtain ⟨w7,w8⟩:=st
 obtain ⟨rfl,O6⟩:=R
 rw [e_lb0_q69]
 unfold s0_q69
 dsimp only
 refine kA1 (kAl _ _) ?_
 refine kAb (fun c28 => ?_) (fun c28 => ?_)
 ·refine kA1 (kAj _ _) ?_
  refine kA1 (v:=AV.sc (.int .u64 (IntKind.u64.wrap (wr (w7+w8))))) rfl ?_
  refine kA1 (v:=AV.sc (.int .u64 (Int.fdiv (IntKind.u64.wrap (wr (w7+w8))) (2 ^ 1)))) rfl ?_
  refine kA1 (v:=iv (wr (Int.fdiv (IntKind.u64.wrap (wr (w7+w8))) (2 ^ 1)))) rfl ?_
  refine kAr (Tab.enc h5 x_) (fun m30 a29 hi31 hm32 => ?_)
  refine kA1 (v:=AV.agg [sv a29.first,sv a29.second,iv a29.cost]) ((Tab.enc h5 x_).ld hm32 true 3 0) ?_
  refine kA1 (v:=AV.agg [sv target_.first,sv target_.second,iv target_.cost]) (O6.ld 0 rfl true 3 0) ?_
  refine kEk (t:=cmpB) he_q12 (kAz _ a29 rfl) (kAz _ target_ rfl) (fun c33 => ?_)
  refine kA1 (kAl _ _) ?_
  refine kAb (fun c34 => ?_) (fun c34 => ?_)
  ·refine kA1 (kAj _ _) ?_
   exact kA6 ⟨rfl,rfl,O6⟩
  ·exact kA6 ⟨rfl,rfl,O6⟩
 ·exact kA6 ⟨nofun,_,_,_,rfl,O6⟩
theorem ts_q69 (env:Nat→Contract) (he_q12:env kJk=.pure (T2 cmpB)) (x_:Sl Bigram) (target_:Bigram) (cmp_:Clo0 kJk):Sim (kAm Tryz.prog env n_q69 [Sl.enc x_,AV.agg [sv target_.first,sv target_.second,iv target_.cost],AV.fn kJk []] []) (t_q69 x_ target_ cmp_) fun c p=>release p.2 depth p.1=some ((fun c:Int×Bool=>AV.tup [enc c.1,enc c.2]) c):=by
 have O:=Hold.nil []
 generalize hB:(⟨[],[]⟩:Base)=B at O
 clear hB
 rw [e_q69]
 unfold t_q69
 refine kAs O (cs:=[sv target_.first,sv target_.second,iv target_.cost]) (by first | rfl | simp) (fun o1 h2 O3 => ?_)
 replace O3:Hold B h2 [pZ9 o1 3 [sv target_.first,sv target_.second,iv target_.cost]]:=O3
 refine kA1 (Tab.enc h2 x_).len ?_
 refine kB6 ((tl0_q69 env he_q12 x_ target_ o1) ⟨rfl,O3⟩) (fun qq39 r hq => ?_)
 revert hq
 revert qq39
 intro q11 hq
 obtain ⟨q12,z13,h9,rfl,O10⟩:=hq
 rw [e_lk0x0_q69]
 refine kA1 (kAl _ _) ?_
 refine sim_g8T (e:=bv) (fun hb14 => ?_) (fun y21 y22 y23 y24 y25 y26 y27 c20 => ?_)
 ·refine kAd ?_
  refine kAd ?_
  refine kAd ?_
  refine kAp ?_
  refine kAr (Tab.enc h9 x_) (fun m16 a15 hi17 hm18 => ?_)
  refine kAd ?_
  refine kAp ?_
  refine kA1 (v:=AV.agg [sv a15.first,sv a15.second,iv a15.cost]) ((Tab.enc h9 x_).ld hm18 true 3 0) ?_
  refine kAd ?_
  refine kAp ?_
  refine kA1 (v:=AV.agg [sv target_.first,sv target_.second,iv target_.cost]) (O10.ld 0 rfl true 3 0) ?_
  refine kAd ?_
  refine kKh ?_
  refine kEk (t:=cmpB) he_q12 (kAz _ a15 rfl) (kAz _ target_ rfl) (fun c19 => ?_)
  refine kAd ?_
  refine kA1 (kHu _ _) ?_
  exact kA6 rfl
 ·refine kA1 (v:=bv (bif decide (q11<(((x_.getD []).length:Nat):Int)) then c20 else false)) (kD3 _ _ _) ?_
  exact kA6 (kA5 (by rfl) _)
theorem tt_q69:kAn Tryz.prog n_q69 (C3 (fun c:Int×Bool=>AV.tup [enc c.1,enc c.2]) t_q69):=kKa (kBc ok_q12 E0) kBd hb_q69 fun x_ target_ cmp_=>ts_q69 _ (by simp [kBx]) x_ target_ cmp_
def t_q17 (m_:Model) (first_:ByteArray) (second_:ByteArray):Option Int :=
 kA0 (t_q69 m_.bigrams (⟨first_,second_,0⟩:Bigram) (⟨⟩:Clo0 kJk)) fun c5 =>
 bif !c5.2 then
  some m_.default
 else
  kA0 (kC7 (m_.bigrams.getD []) c5.1) fun a7 =>
  some a7.cost
theorem ts_q17 (env:Nat→Contract) (he_q69:env n_q69=.pure (C3 (fun c:Int×Bool=>AV.tup [enc c.1,enc c.2]) t_q69)) (m_:Model) (first_:ByteArray) (second_:ByteArray):Sim (kAm Tryz.prog env n_q17 [AV.agg [iv m_.default,Sl.enc m_.bigrams],sv first_,sv second_] []) (t_q17 m_ first_ second_) fun c p=>release p.2 depth p.1=some ((fun c:Int=>enc c) c):=by
 have O:=Hold.nil []
 generalize hB:(⟨[],[]⟩:Base)=B at O
 clear hB
 rw [e_q17]
 unfold t_q17
 refine kAs O (cs:=[iv m_.default,Sl.enc m_.bigrams]) (by first | rfl | simp) (fun o1 h2 O3 => ?_)
 replace O3:Hold B h2 [pZ9 o1 2 [iv m_.default,Sl.enc m_.bigrams]]:=O3
 refine kA1 (v:=AV.ptr o1 1 0 1) rfl ?_
 refine kA1 (v:=Sl.enc m_.bigrams) (O3.ld 0 rfl false 1 1) ?_
 refine kA1 (v:=AV.agg [sv first_,sv second_,iv 0]) (by first | rfl | simp [kCm,kGf,kAx]) ?_
 refine kGl he_q69 (kBp _ _) (kAz _ (⟨first_,second_,0⟩:Bigram) rfl) (snapD_clo0 _ _) (fun c5 => ?_)
 refine kAq (kAc (by rfl) _ _) ?_
 refine kA1 (v:=iv c5.1) rfl ?_
 refine kA1 (v:=bv c5.2) rfl ?_
 refine kA1 (v:=bv (!c5.2)) (kBu _) ?_
 refine kAb (fun c6 => ?_) (fun c6 => ?_)
 ·refine kA1 (v:=AV.ptr o1 1 0 0) rfl ?_
  refine kA1 (v:=iv m_.default) (O3.ld 0 rfl false 1 0) ?_
  exact kA6 (kA5 (by rfl) _)
 ·refine kA1 (v:=AV.ptr o1 1 0 1) rfl ?_
  refine kA1 (v:=Sl.enc m_.bigrams) (O3.ld 0 rfl false 1 1) ?_
  refine kAr (Tab.enc h2 m_.bigrams) (fun m8 a7 hi9 hm10 => ?_)
  refine kA1 (v:=elp (Sl.enc m_.bigrams) m8 2) ((Tab.enc h2 m_.bigrams).fld _ _ _) ?_
  refine kA1 (v:=iv a7.cost) ((Tab.enc h2 m_.bigrams).ld hm10 false 1 2) ?_
  exact kA6 (kA5 (by rfl) _)
theorem tt_q17:kAn Tryz.prog n_q17 (C3 (fun c:Int=>enc c) t_q17):=kKa (kBc tt_q69 E0) kBd hb_q17 fun m_ first_ second_=>ts_q17 _ (by simp [kBx]) m_ first_ second_
def s0_q11 (m_:Model) (last_:ByteArray) (words_:Sl WordAt):(ByteArray×Int×Bool×Int)→Option (Sum (ByteArray×Int×Bool×Int) (ByteArray×Int×Bool)):=fun (w15,w16,w19,w20) =>
 bif decide (w20<(((words_.getD []).length:Nat):Int)) then
  kA0 (kC7 (words_.getD []) w20) fun a31 =>
  kA0 (t_q17 m_ last_ a31.word) fun c41 =>
  kA0 (bif !w19 then some false else (some (decide ((wr (c41+a31.cost))<w16)))) fun c43 =>
  bif (bif !w19 then true else c43) then
   some (.inl (a31.word,wr (c41+a31.cost),true,wr (w20+1)))
  else
   some (.inl (w15,w16,w19,wr (w20+1)))
 else
  some (.inr (w15,w16,w19))
def t_q11 (m_:Model) (last_:ByteArray) (words_:Sl WordAt):Option (WordAt×Bool) :=
 kA0 (kBg (s0_q11 m_ last_ words_) ((⟨#[]⟩:ByteArray),0,false,0)) fun (q23,q24,q25) =>
 some ((⟨q23,q24⟩:WordAt),q25)
theorem tl0_q11 (env:Nat→Contract) {B:Base} (he_q17:env n_q17=.pure (C3 (fun c:Int=>enc c) t_q17)) (m_:Model) (last_:ByteArray) (words_:Sl WordAt) (o1:Nat) (o5:Nat) (o9:Nat) :kFq (fun (st:ByteArray×Int×Bool×Int) tm h17=>match st with | (w15,w16,w19,w20)=>tm=((AV.agg [iv m_.default,Sl.enc m_.bigrams])::(sv last_)::(Sl.enc words_)::(AV.ptr o1 1 0 0)::und::und::(AV.ptr o5 1 0 0)::(bv false)::(AV.ptr o9 1 0 0)::(bv w19)::und::.top::.top::(AV.agg [sv (⟨#[]⟩:ByteArray),iv 0])::(Sl.enc words_)::(iv (((words_.getD []).length:Nat):Int))::(iv w20)::tZ9 24 [und,und])∧Hold B h17 [pZ9 o1 2 [iv m_.default,Sl.enc m_.bigrams],pZ9 o5 2 [sv (⟨#[]⟩:ByteArray),iv 0],pZ9 o9 2 [sv w15,iv w16]]) hm0_q11 xm0_q11 (lb0_q11 env) (s0_q11 m_ last_ words_) (fun (q:ByteArray×Int×Bool) (r:Res)=>match q with | (q23,q24,q25)=>∃ (z26:AV) (z27:AV) (h21:kA9),r=(.exit 0,((AV.agg [iv m_.default,Sl.enc m_.bigrams])::(sv last_)::(Sl.enc words_)::(AV.ptr o1 1 0 0)::und::und::(AV.ptr o5 1 0 0)::(bv false)::(AV.ptr o9 1 0 0)::(bv q25)::und::z26::z27::(AV.agg [sv (⟨#[]⟩:ByteArray),iv 0])::(Sl.enc words_)::(iv (((words_.getD []).length:Nat):Int))::tZ9 25 [und,und]),h21)∧Hold B h21 [pZ9 o1 2 [iv m_.default,Sl.enc m_.bigrams],pZ9 o5 2 [sv (⟨#[]⟩:ByteArray),iv 0],pZ9 o9 2 [sv q23,iv q24]]):=by
 refine @kG0 _ _ _ _ _ _ _ _ (fun st tm h17 R => ?_)
 obtain ⟨w15,w16,w19,w20⟩:=st
 obtain ⟨rfl,O18⟩:=R
 rw [e_lb0_q11]
 unfold s0_q11
 dsimp only
 refine kA1 (kAl _ _) ?_
 refine kAb (fun c30 => ?_) (fun c30 => ?_)
 ·refine kAr (Tab.enc h17 words_) (fun m32 a31 hi33 hm34 => ?_)
  refine kA1 (v:=AV.agg [sv a31.word,iv a31.cost]) ((Tab.enc h17 words_).ld hm34 true 2 0) ?_
  refine kAs O18 (cs:=[sv (⟨#[]⟩:ByteArray),iv 0]) (by first | rfl | simp) (fun o35 h36 O37 => ?_)
  replace O37:Hold B h36 [pZ9 o1 2 [iv m_.default,Sl.enc m_.bigrams],pZ9 o5 2 [sv (⟨#[]⟩:ByteArray),iv 0],pZ9 o9 2 [sv w15,iv w16],pZ9 o35 2 [sv (⟨#[]⟩:ByteArray),iv 0]]:=O37
  refine kAw O37 3 (cs':=[sv a31.word,iv a31.cost]) rfl (by first | rfl | simp) (by simp) (by first | rfl | simp) (by first | rfl | simp [kAx]) (fun h39 O40 => ?_)
  replace O40:Hold B h39 [pZ9 o1 2 [iv m_.default,Sl.enc m_.bigrams],pZ9 o5 2 [sv (⟨#[]⟩:ByteArray),iv 0],pZ9 o9 2 [sv w15,iv w16],pZ9 o35 2 [sv a31.word,iv a31.cost]]:=O40
  refine kA1 (v:=AV.agg [iv m_.default,Sl.enc m_.bigrams]) (O40.ld 0 rfl true 2 0) ?_
  refine kA1 (v:=AV.ptr o35 1 0 0) rfl ?_
  refine kA1 (v:=sv a31.word) (O40.ld 3 rfl false 1 0) ?_
  refine kGi he_q17 (kAz _ m_ rfl) (kC4 _ _) (kC4 _ _) (fun c41 => ?_)
  refine kAq (kAc (by rfl) _ _) ?_
  refine kA1 (v:=AV.ptr o35 1 0 1) rfl ?_
  refine kA1 (v:=iv a31.cost) (O40.ld 3 rfl false 1 1) ?_
  refine kA1 (kAj _ _) ?_
  refine kA1 (v:=bv (!w19)) (kBu _) ?_
  refine kBt (e:=bv) (fun hb42 => ?_) (fun c43 => ?_)
  ·refine kA1 (v:=AV.ptr o9 1 0 1) rfl ?_
   refine kA1 (v:=iv w16) (O40.ld 2 rfl false 1 1) ?_
   refine kA1 (kAl _ _) ?_
   exact kA6 rfl
  ·refine kA1 (v:=bv (bif !w19 then true else c43)) (kCh _ _ _) ?_
   refine kAb (fun c44 => ?_) (fun c44 => ?_)
   ·refine kA1 (v:=AV.ptr o35 1 0 0) rfl ?_
    refine kA1 (v:=sv a31.word) (O40.ld 3 rfl false 1 0) ?_
    refine kA1 (v:=AV.agg [sv a31.word,iv (wr (c41+a31.cost))]) (by first | rfl | simp [kCm,kGf,kAx]) ?_
    refine kAw O40 2 (cs':=[sv a31.word,iv (wr (c41+a31.cost))]) rfl (by first | rfl | simp) (by simp) (by first | rfl | simp) (by first | rfl | simp [kAx]) (fun h45 O46 => ?_)
    replace O46:Hold B h45 [pZ9 o1 2 [iv m_.default,Sl.enc m_.bigrams],pZ9 o5 2 [sv (⟨#[]⟩:ByteArray),iv 0],pZ9 o9 2 [sv a31.word,iv (wr (c41+a31.cost))],pZ9 o35 2 [sv a31.word,iv a31.cost]]:=O46
    refine kA1 (kAj _ _) ?_
    have O47:Hold B h45 [pZ9 o1 2 [iv m_.default,Sl.enc m_.bigrams],pZ9 o5 2 [sv (⟨#[]⟩:ByteArray),iv 0],pZ9 o9 2 [sv a31.word,iv (wr (c41+a31.cost))]]:=O46.sel [0,1,2] (by decide) rfl
    exact kA6 ⟨rfl,rfl,O47⟩
   ·refine kA1 (kAj _ _) ?_
    have O48:Hold B h39 [pZ9 o1 2 [iv m_.default,Sl.enc m_.bigrams],pZ9 o5 2 [sv (⟨#[]⟩:ByteArray),iv 0],pZ9 o9 2 [sv w15,iv w16]]:=O40.sel [0,1,2] (by decide) rfl
    exact kA6 ⟨rfl,rfl,O48⟩
 ·exact kA6 ⟨nofun,_,_,_,rfl,O18⟩
theorem ts_q11 (env:Nat→Contract) (he_q17:env n_q17=.pure (C3 (fun c:Int=>enc c) t_q17)) (m_:Model) (last_:ByteArray) (words_:Sl WordAt):Sim (kAm Tryz.prog env n_q11 [AV.agg [iv m_.default,Sl.enc m_.bigrams],sv last_,Sl.enc words_] []) (t_q11 m_ last_ words_) fun c p=>release p.2 depth p.1=some ((fun c:WordAt×Bool=>AV.tup [enc c.1,enc c.2]) c):=by
 have O:=Hold.nil []
 generalize hB:(⟨[],[]⟩:Base)=B at O
 clear hB
 rw [e_q11]
 unfold t_q11
 refine kAs O (cs:=[iv m_.default,Sl.enc m_.bigrams]) (by first | rfl | simp) (fun o1 h2 O3 => ?_)
 replace O3:Hold B h2 [pZ9 o1 2 [iv m_.default,Sl.enc m_.bigrams]]:=O3
 refine kAs O3 (cs:=[sv (⟨#[]⟩:ByteArray),iv 0]) (by first | rfl | simp) (fun o5 h6 O7 => ?_)
 replace O7:Hold B h6 [pZ9 o1 2 [iv m_.default,Sl.enc m_.bigrams],pZ9 o5 2 [sv (⟨#[]⟩:ByteArray),iv 0]]:=O7
 refine kA1 (v:=AV.agg [sv (⟨#[]⟩:ByteArray),iv 0]) (by first | rfl | simp [kCm,kGf,kAx]) ?_
 refine kAs O7 (cs:=[sv (⟨#[]⟩:ByteArray),iv 0]) (by first | rfl | simp) (fun o9 h10 O11 => ?_)
 replace O11:Hold B h10 [pZ9 o1 2 [iv m_.default,Sl.enc m_.bigrams],pZ9 o5 2 [sv (⟨#[]⟩:ByteArray),iv 0],pZ9 o9 2 [sv (⟨#[]⟩:ByteArray),iv 0]]:=O11
 refine kAw O11 2 (cs':=[sv (⟨#[]⟩:ByteArray),iv 0]) rfl (by first | rfl | simp) (by simp) (by first | rfl | simp) (by first | rfl | simp [kAx]) (fun h13 O14 => ?_)
 replace O14:Hold B h13 [pZ9 o1 2 [iv m_.default,Sl.enc m_.bigrams],pZ9 o5 2 [sv (⟨#[]⟩:ByteArray),iv 0],pZ9 o9 2 [sv (⟨#[]⟩:ByteArray),iv 0]]:=O14
 refine kA1 (Tab.enc h13 words_).len ?_
 refine kB6 ((tl0_q11 env he_q17 m_ last_ words_ o1 o5 o9) ⟨rfl,O14⟩) (fun qq51 r hq => ?_)
 obtain ⟨q23,q24,q25⟩:=qq51
 obtain ⟨z26,z27,h21,rfl,O22⟩:=hq
 rw [e_lk0x0_q11]
 refine kA1 (v:=AV.agg [sv q23,iv q24]) (O22.ld 2 rfl true 2 0) ?_
 refine kAw O22 1 (cs':=[sv q23,iv q24]) rfl (by first | rfl | simp) (by simp) (by first | rfl | simp) (by first | rfl | simp [kAx]) (fun h28 O29 => ?_)
 replace O29:Hold B h28 [pZ9 o1 2 [iv m_.default,Sl.enc m_.bigrams],pZ9 o5 2 [sv q23,iv q24],pZ9 o9 2 [sv q23,iv q24]]:=O29
 refine kEc (kHh (v:=AV.agg [sv q23,iv q24]) (O29.ld 1 rfl true 2 0) (resL_v (v:=bv q25) (kEe _))) ?_
 dsimp only [pack]
 exact kA6 (kA5 (by rfl) _)
theorem tt_q11:kAn Tryz.prog n_q11 (C3 (fun c:WordAt×Bool=>AV.tup [enc c.1,enc c.2]) t_q11):=kKa (kBc tt_q17 E0) kBd hb_q11 fun m_ last_ words_=>ts_q11 _ (by simp [kBx]) m_ last_ words_
def s2_q5 (list_:Sl Lattice) (m_:Model) (q32:Sl (Sl WordAt)):(Int×(Sl ByteArray)×ByteArray×Int)→Option (Sum (Int×(Sl ByteArray)×ByteArray×Int) (Sum (Int×(Sl ByteArray)) Int)):=fun (w46,w48,w51,w52) =>
 bif decide (w52<(((list_.getD []).length:Nat):Int)) then
  kA0 (kC7 (q32.getD []) w52) fun a77 =>
  kA0 (t_q11 m_ w51 a77) fun c83 =>
  bif !c83.2 then
   some (.inr (.inr 3))
  else
   bif decide (w52=0) then
    kA0 (appO w48 ([c83.1.word]:List ByteArray)) fun _ =>
    some (.inl (c83.1.cost,(kBv w48 ([c83.1.word]:List ByteArray)),c83.1.word,wr (w52+1)))
   else
    kA0 (appO w48 ([c83.1.word]:List ByteArray)) fun _ =>
    some (.inl (w46,(kBv w48 ([c83.1.word]:List ByteArray)),c83.1.word,wr (w52+1)))
 else
  some (.inr (.inl (w46,w48)))
def s1_q5 (list_:Sl Lattice) (x_:Lexicon) (m_:Model) (w29:Int):((Sl (Sl WordAt))×Int)→Option (Sum ((Sl (Sl WordAt))×Int) (Sl (Sl WordAt))):=fun (w127,w132) =>
 bif decide (w132<(((x_.entries.getD []).length:Nat):Int)) then
  kA0 (kC7 (x_.entries.getD []) w132) fun a144 =>
  kA0 (kC7 (list_.getD []) w29) fun a154 =>
  kA0 (kJp a154 a144.word) fun c158 =>
  kA0 (kC7 (w127.getD []) (wr (w29+1))) fun a159 =>
  kA0 (t_q11 m_ a144.word a159) fun c165 =>
  kA0 (bif decide (c158<1099511627776) then (some c165.2) else some false) fun c173 =>
  kA0 (bif ((decide (c158<1099511627776)) && !c173) then (some (decide (w29=wr ((((list_.getD []).length:Nat):Int) - 1)))) else some false) fun c175 =>
  kA0 (bif decide (c158<1099511627776) then (some (bif c173 then true else c175)) else some false) fun c177 =>
  bif (bif decide (c158<1099511627776) then c177 else false) then
   kA0 (kC7 (w127.getD []) w29) fun a179 =>
   kA0 (appO a179 ([(⟨a144.word,wr ((wr (c158+a144.cost))+c165.1.cost)⟩:WordAt)]:List WordAt)) fun _ =>
   some (.inl ((kFe w127 w29 (kBv a179 ([(⟨a144.word,wr ((wr (c158+a144.cost))+c165.1.cost)⟩:WordAt)]:List WordAt))),wr (w132+1)))
  else
   some (.inl (w127,wr (w132+1)))
 else
  some (.inr w127)
def s0_q5 (list_:Sl Lattice) (x_:Lexicon) (m_:Model):((Sl (Sl WordAt))×Int)→Option (Sum ((Sl (Sl WordAt))×Int) (Sl (Sl WordAt))):=fun (w24,w29) =>
 bif decide (0≤w29) then
  kA0 (kBg (s1_q5 list_ x_ m_ w29) (w24,0)) fun q135 =>
  some (.inl (q135,wr (w29 - 1)))
 else
  some (.inr w24)
def t_q5 (list_:Sl Lattice) (x_:Lexicon) (m_:Model):Option (Sentence×Int) :=
 kA0 (t_q18 list_ x_ m_) fun c13 =>
 bif !decide (c13=0) then
  some ((⟨(none:Sl ByteArray),0⟩:Sentence),c13)
 else
  kA0 (kJb (none:Sl WordAt) (wr ((((list_.getD []).length:Nat):Int)+1))) fun l21 =>
  kA0 (kBg (s0_q5 list_ x_ m_) ((some l21),wr ((((list_.getD []).length:Nat):Int) - 1))) fun q32 =>
  kA0 (kBg (s2_q5 list_ m_ q32) (0,(none:Sl ByteArray),(⟨#[]⟩:ByteArray),0)) fun qq125=>match qq125 with
  | (.inl (q55,q57)) =>
    some ((⟨q57,q55⟩:Sentence),0)
  | (.inr q71) =>
    some ((⟨(none:Sl ByteArray),0⟩:Sentence),q71)
end Go.Proofs.YtccoloclaocinaaGreat
