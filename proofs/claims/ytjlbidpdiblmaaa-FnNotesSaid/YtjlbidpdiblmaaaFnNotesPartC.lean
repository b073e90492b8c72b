import Derived.Test.YtjlbidpdiblmaaaFnNotesPartB
namespace Go.Proofs.Ytjlbidpdiblmaaa
open Go Go.Eng Go.Eng.Cod
set_option maxRecDepth 100000
set_option linter.unusedVariables false
set_option linter.unusedSimpArgs false
theorem tl8_q33 (env:Nat→Contract) {B:Base} (he_q24:env kEl=.pure (T2 (fun a b:Int=>max a b))) (he_q25:env kDd=.gen (kAf Try.prog kE5 kDd)) (he_q27:env kCf=.gen (kAf Try.prog kE7 kCf)) (he_q28:env kB1=.gen (kAf Try.prog kC8 kB1)) (he_q29:env kCd=.gen (kAf Try.prog kCz kCd)) (o_:Nat) (o1:Nat) (c5:Int×l00Src) (c11:Int×l00Src) (x17:AV) (o21:Nat) (x27:AV) (c31:ByteArray×l00Src) (x37:AV) (c41:Int×l00Src) (x47:AV) (x52:AV) (c59:Bool×l00Src) (c645:Bool×l00Src) (m653:Nat) (c658:Int×l00Src) (c664:Int×l00Src) (z677:AV) (w678:Sl Channel) (z679:AV) (z683:AV) (w684:Sl Note) (w688:Int) (o785:Nat) (c791:Int×l00Src) :kGr (fun (st:(Sl UInt8)×Int×Int×(Sl (Sl Int))×Int×Int) tm h806=>match st with | (w799,w800,w801,w803,w808,w809)=>∃ z802,∃ ps804:PS (Sl Int),tm=((AV.ptr o_ 1 0 0)::und::(AV.ptr o1 1 0 0)::(AV.ptr o21 1 0 0)::(sv c31.1)::(iv w808)::(iv w688)::(AV.ptr o785 1 0 0)::(iv w809)::.top::und::und::und::(AV.ptr o_ 1 0 0)::(iv c5.1)::(iv (wr (c5.1 - 4)))::(AV.ptr o_ 1 0 0)::(iv c11.1)::(iv (wr (100+c11.1)))::(AV.agg [sv (⟨#[120]⟩:ByteArray),sv (⟨#[109,109]⟩:ByteArray),iv (wr (c5.1 - 4)),iv (wr (100+c11.1))])::(AV.agg [sv (⟨#[121]⟩:ByteArray),sv (⟨#[109,109]⟩:ByteArray),iv (-50),iv 90])::x17::(AV.agg [x17,kA3,kA3])::(AV.ptr o_ 1 0 0)::x27::(sv c31.1)::(AV.ptr o21 1 0 0)::x17::(sv c31.1)::(AV.ptr o_ 1 0 0)::x37::(iv c41.1)::(AV.agg [sv (⟨#[116]⟩:ByteArray),sv c31.1,iv 0,iv c41.1])::x47::x52::(AV.ptr o21 1 0 0)::(AV.ptr o_ 1 0 0)::(bv c59.1)::und::und::und::und::und::und::(AV.ptr o_ 1 0 0)::(bv c645.1)::(AV.ptr o21 1 0 0)::x52::(elp x52 m653 0)::(elp x52 m653 0)::(AV.ptr o_ 1 0 0)::(iv c658.1)::(AV.ptr o_ 1 0 0)::(iv c664.1)::(iv w688)::(bv (decide (0<w688)))::.top::.top::(AV.agg [kA3])::(AV.ptr o_ 1 0 0)::(iv c791.1)::(iv (wr (1+c791.1)))::tZ9 37 [.top,.top,.top,.top,.top,.top,und,und,und,und,und,und,und,und,und,und,und,und,und,und,und,und,und,und,und,und,und,und,und,und,und,und,und,und,und,und,und,und,und,und,und])∧pj ps804=w803∧Hold B h806 ([pZ9 o_ 3 [Sl.enc w799,iv w800,AV.sc (.int .u64 w801)],pZ9 o1 3 [kA3,kA3,kA3],(z677,obS (w678:Sl Channel)),pZ9 o21 3 [z677,z679,z683],(x27,obS ((some ([(⟨#[109,115]⟩:ByteArray),(⟨#[109,115]⟩:ByteArray),(⟨#[99,115]⟩:ByteArray),(⟨#[115]⟩:ByteArray),(⟨#[104,111,117,114]⟩:ByteArray)]:List ByteArray)):Sl ByteArray)),(x37,obS ((some ([900,3600,3600000]:List Int)):Sl Int)),(z683,obS (w684:Sl Note)),pZ9 o785 1 [z802]]++D2 (A:=(Sl Int)) z802 ps804)) hm8_q33 xm8_q33 (lb8_q33 env) (s8_q33 w678) (fun (q:(Sl UInt8)×Int×Int×(Sl (Sl Int))×Int) (r:Res)=>match q with | (q812,q813,q814,q816,q819)=>∃ (q820:Int) (z815:AV) (z821:AV) (ps817:PS (Sl Int)) (h810:kA7),r=(.exit 2,((AV.ptr o_ 1 0 0)::und::(AV.ptr o1 1 0 0)::(AV.ptr o21 1 0 0)::(sv c31.1)::(iv q819)::(iv w688)::(AV.ptr o785 1 0 0)::(iv q820)::z821::und::und::und::(AV.ptr o_ 1 0 0)::(iv c5.1)::(iv (wr (c5.1 - 4)))::(AV.ptr o_ 1 0 0)::(iv c11.1)::(iv (wr (100+c11.1)))::(AV.agg [sv (⟨#[120]⟩:ByteArray),sv (⟨#[109,109]⟩:ByteArray),iv (wr (c5.1 - 4)),iv (wr (100+c11.1))])::(AV.agg [sv (⟨#[121]⟩:ByteArray),sv (⟨#[109,109]⟩:ByteArray),iv (-50),iv 90])::x17::(AV.agg [x17,kA3,kA3])::(AV.ptr o_ 1 0 0)::x27::(sv c31.1)::(AV.ptr o21 1 0 0)::x17::(sv c31.1)::(AV.ptr o_ 1 0 0)::x37::(iv c41.1)::(AV.agg [sv (⟨#[116]⟩:ByteArray),sv c31.1,iv 0,iv c41.1])::x47::x52::(AV.ptr o21 1 0 0)::(AV.ptr o_ 1 0 0)::(bv c59.1)::und::und::und::und::und::und::(AV.ptr o_ 1 0 0)::(bv c645.1)::(AV.ptr o21 1 0 0)::x52::(elp x52 m653 0)::(elp x52 m653 0)::(AV.ptr o_ 1 0 0)::(iv c658.1)::(AV.ptr o_ 1 0 0)::(iv c664.1)::(iv w688)::(bv (decide (0<w688)))::.top::.top::(AV.agg [kA3])::(AV.ptr o_ 1 0 0)::(iv c791.1)::(iv (wr (1+c791.1)))::tZ9 37 [.top,.top,.top,.top,.top,.top,und,und,und,und,und,und,und,und,und,und,und,und,und,und,und,und,und,und,und,und,und,und,und,und,und,und,und,und,und,und,und,und,und,und,und]),h810)∧pj ps817=q816∧Hold B h810 ([pZ9 o_ 3 [Sl.enc q812,iv q813,AV.sc (.int .u64 q814)],pZ9 o1 3 [kA3,kA3,kA3],(z677,obS (w678:Sl Channel)),pZ9 o21 3 [z677,z679,z683],(x27,obS ((some ([(⟨#[109,115]⟩:ByteArray),(⟨#[109,115]⟩:ByteArray),(⟨#[99,115]⟩:ByteArray),(⟨#[115]⟩:ByteArray),(⟨#[104,111,117,114]⟩:ByteArray)]:List ByteArray)):Sl ByteArray)),(x37,obS ((some ([900,3600,3600000]:List Int)):Sl Int)),(z683,obS (w684:Sl Note)),pZ9 o785 1 [z815]]++D2 (A:=(Sl Int)) z815 ps817)):=by
 refine @kH3 _ _ _ _ _ _ _ _ (fun st tm h806 R => ?_)
 obtain ⟨w799,w800,w801,w803,w808,w809⟩:=st
 obtain ⟨z802,ps804,rfl,hp805,O807⟩:=R
 rw [e_lb8_q33]
 unfold s8_q33
 dsimp only
 refine kA1 (kBd _ _) ?_
 refine kAa (fun c835 => ?_) (fun c835 => ?_)
 ·refine kAq he_q28 (kBj (⟨w799,w800,w801⟩:l00Src) 80 (O807.start (i:=0) rfl rfl)) (fun c836 v837 h838 hq839 => ?_)
  obtain ⟨e_v837,O840⟩:=hq839
  dsimp only at e_v837
  subst v837
  have O841:Hold B h838 ([pZ9 o_ 3 [Sl.enc c836.2.code,iv c836.2.pos,AV.sc (.int .u64 c836.2.seed)],pZ9 o1 3 [kA3,kA3,kA3],(z677,obS (w678:Sl Channel)),pZ9 o21 3 [z677,z679,z683],(x27,obS ((some ([(⟨#[109,115]⟩:ByteArray),(⟨#[109,115]⟩:ByteArray),(⟨#[99,115]⟩:ByteArray),(⟨#[115]⟩:ByteArray),(⟨#[104,111,117,114]⟩:ByteArray)]:List ByteArray)):Sl ByteArray)),(x37,obS ((some ([900,3600,3600000]:List Int)):Sl Int)),(z683,obS (w684:Sl Note)),pZ9 o785 1 [z802]]++D2 (A:=(Sl Int)) z802 ps804):=Hold.rot (l:=[pZ9 o_ 3 [Sl.enc c836.2.code,iv c836.2.pos,AV.sc (.int .u64 c836.2.seed)],pZ9 o1 3 [kA3,kA3,kA3],(z677,obS (w678:Sl Channel)),pZ9 o21 3 [z677,z679,z683],(x27,obS ((some ([(⟨#[109,115]⟩:ByteArray),(⟨#[109,115]⟩:ByteArray),(⟨#[99,115]⟩:ByteArray),(⟨#[115]⟩:ByteArray),(⟨#[104,111,117,114]⟩:ByteArray)]:List ByteArray)):Sl ByteArray)),(x37,obS ((some ([900,3600,3600000]:List Int)):Sl Int)),(z683,obS (w684:Sl Note)),pZ9 o785 1 [z802]]) (d:=D2 (A:=(Sl Int)) z802 ps804) (n:=[]) (O807.merge (i:=0) rfl rfl O840)
  refine kA1 (kAg _ _) ?_
  refine kAq he_q28 (kBj c836.2 120 (O841.start (i:=0) rfl rfl)) (fun c842 v843 h844 hq845 => ?_)
  obtain ⟨e_v843,O846⟩:=hq845
  dsimp only at e_v843
  subst v843
  have O847:Hold B h844 ([pZ9 o_ 3 [Sl.enc c842.2.code,iv c842.2.pos,AV.sc (.int .u64 c842.2.seed)],pZ9 o1 3 [kA3,kA3,kA3],(z677,obS (w678:Sl Channel)),pZ9 o21 3 [z677,z679,z683],(x27,obS ((some ([(⟨#[109,115]⟩:ByteArray),(⟨#[109,115]⟩:ByteArray),(⟨#[99,115]⟩:ByteArray),(⟨#[115]⟩:ByteArray),(⟨#[104,111,117,114]⟩:ByteArray)]:List ByteArray)):Sl ByteArray)),(x37,obS ((some ([900,3600,3600000]:List Int)):Sl Int)),(z683,obS (w684:Sl Note)),pZ9 o785 1 [z802]]++D2 (A:=(Sl Int)) z802 ps804):=Hold.rot (l:=[pZ9 o_ 3 [Sl.enc c842.2.code,iv c842.2.pos,AV.sc (.int .u64 c842.2.seed)],pZ9 o1 3 [kA3,kA3,kA3],(z677,obS (w678:Sl Channel)),pZ9 o21 3 [z677,z679,z683],(x27,obS ((some ([(⟨#[109,115]⟩:ByteArray),(⟨#[109,115]⟩:ByteArray),(⟨#[99,115]⟩:ByteArray),(⟨#[115]⟩:ByteArray),(⟨#[104,111,117,114]⟩:ByteArray)]:List ByteArray)):Sl ByteArray)),(x37,obS ((some ([900,3600,3600000]:List Int)):Sl Int)),(z683,obS (w684:Sl Note)),pZ9 o785 1 [z802]]) (d:=D2 (A:=(Sl Int)) z802 ps804) (n:=[]) (O841.merge (i:=0) rfl rfl O846)
  refine kA1 (kAt _ _) ?_
  refine kB7 (A:=Int) O847 ([wr (5+c836.1),wr (c842.1 - 40),w808]:List Int) rfl (by first | rfl | simp [kAk,kBz]) rfl (fun x848 h849 O850 => ?_)
  replace O850:Hold B h849 ([pZ9 o_ 3 [Sl.enc c842.2.code,iv c842.2.pos,AV.sc (.int .u64 c842.2.seed)],pZ9 o1 3 [kA3,kA3,kA3],(z677,obS (w678:Sl Channel)),pZ9 o21 3 [z677,z679,z683],(x27,obS ((some ([(⟨#[109,115]⟩:ByteArray),(⟨#[109,115]⟩:ByteArray),(⟨#[99,115]⟩:ByteArray),(⟨#[115]⟩:ByteArray),(⟨#[104,111,117,114]⟩:ByteArray)]:List ByteArray)):Sl ByteArray)),(x37,obS ((some ([900,3600,3600000]:List Int)):Sl Int)),(z683,obS (w684:Sl Note)),pZ9 o785 1 [z802],(x848,obS ((some ([wr (5+c836.1),wr (c842.1 - 40),w808]:List Int)):Sl Int))]++D2 (A:=(Sl Int)) z802 ps804):=Hold.rot O850
  refine kA1 (v:=AV.ptr o21 1 0 0) rfl ?_
  refine kA1 (v:=z677) (O850.ld 3 rfl false 1 0) ?_
  refine kA1 (v:=iv (((w678.getD []).length:Nat):Int)) (O850.tab (A:=Channel) (s:=w678) 2 rfl).len ?_
  refine kA1 (kBd _ _) ?_
  refine kAa (fun c852 => ?_) (fun c852 => ?_)
  ·refine kAq he_q28 (kBj c842.2 256 (O850.start (i:=0) rfl rfl)) (fun c853 v854 h855 hq856 => ?_)
   obtain ⟨e_v854,O857⟩:=hq856
   dsimp only at e_v854
   subst v854
   have O858:Hold B h855 ([pZ9 o_ 3 [Sl.enc c853.2.code,iv c853.2.pos,AV.sc (.int .u64 c853.2.seed)],pZ9 o1 3 [kA3,kA3,kA3],(z677,obS (w678:Sl Channel)),pZ9 o21 3 [z677,z679,z683],(x27,obS ((some ([(⟨#[109,115]⟩:ByteArray),(⟨#[109,115]⟩:ByteArray),(⟨#[99,115]⟩:ByteArray),(⟨#[115]⟩:ByteArray),(⟨#[104,111,117,114]⟩:ByteArray)]:List ByteArray)):Sl ByteArray)),(x37,obS ((some ([900,3600,3600000]:List Int)):Sl Int)),(z683,obS (w684:Sl Note)),pZ9 o785 1 [z802],(x848,obS ((some ([wr (5+c836.1),wr (c842.1 - 40),w808]:List Int)):Sl Int))]++D2 (A:=(Sl Int)) z802 ps804):=Hold.rot (l:=[pZ9 o_ 3 [Sl.enc c853.2.code,iv c853.2.pos,AV.sc (.int .u64 c853.2.seed)],pZ9 o1 3 [kA3,kA3,kA3],(z677,obS (w678:Sl Channel)),pZ9 o21 3 [z677,z679,z683],(x27,obS ((some ([(⟨#[109,115]⟩:ByteArray),(⟨#[109,115]⟩:ByteArray),(⟨#[99,115]⟩:ByteArray),(⟨#[115]⟩:ByteArray),(⟨#[104,111,117,114]⟩:ByteArray)]:List ByteArray)):Sl ByteArray)),(x37,obS ((some ([900,3600,3600000]:List Int)):Sl Int)),(z683,obS (w684:Sl Note)),pZ9 o785 1 [z802],(x848,obS ((some ([wr (5+c836.1),wr (c842.1 - 40),w808]:List Int)):Sl Int))]) (d:=D2 (A:=(Sl Int)) z802 ps804) (n:=[]) (O850.merge (i:=0) rfl rfl O857)
   refine kB7 (A:=Int) O858 ([c853.1]:List Int) rfl (by first | rfl | simp [kAk,kBz]) rfl (fun x859 h860 O861 => ?_)
   replace O861:Hold B h860 ([pZ9 o_ 3 [Sl.enc c853.2.code,iv c853.2.pos,AV.sc (.int .u64 c853.2.seed)],pZ9 o1 3 [kA3,kA3,kA3],(z677,obS (w678:Sl Channel)),pZ9 o21 3 [z677,z679,z683],(x27,obS ((some ([(⟨#[109,115]⟩:ByteArray),(⟨#[109,115]⟩:ByteArray),(⟨#[99,115]⟩:ByteArray),(⟨#[115]⟩:ByteArray),(⟨#[104,111,117,114]⟩:ByteArray)]:List ByteArray)):Sl ByteArray)),(x37,obS ((some ([900,3600,3600000]:List Int)):Sl Int)),(z683,obS (w684:Sl Note)),pZ9 o785 1 [z802],(x848,obS ((some ([wr (5+c836.1),wr (c842.1 - 40),w808]:List Int)):Sl Int)),(x859,obS ((some ([c853.1]:List Int)):Sl Int))]++D2 (A:=(Sl Int)) z802 ps804):=Hold.rot O861
   refine kBw (A:=Int) (s:=(some ([wr (5+c836.1),wr (c842.1 - 40),w808]:List Int))) O861 8 ([c853.1]:List Int) rfl (O861.src (A:=Int) (s:=(some ([c853.1]:List Int))) 9 rfl) (by decide) (fun x864 h865 O866 => ?_)
   replace O866:Hold B h865 ([pZ9 o_ 3 [Sl.enc c853.2.code,iv c853.2.pos,AV.sc (.int .u64 c853.2.seed)],pZ9 o1 3 [kA3,kA3,kA3],(z677,obS (w678:Sl Channel)),pZ9 o21 3 [z677,z679,z683],(x27,obS ((some ([(⟨#[109,115]⟩:ByteArray),(⟨#[109,115]⟩:ByteArray),(⟨#[99,115]⟩:ByteArray),(⟨#[115]⟩:ByteArray),(⟨#[104,111,117,114]⟩:ByteArray)]:List ByteArray)):Sl ByteArray)),(x37,obS ((some ([900,3600,3600000]:List Int)):Sl Int)),(z683,obS (w684:Sl Note)),pZ9 o785 1 [z802],(x864,obS ((kB3 (some ([wr (5+c836.1),wr (c842.1 - 40),w808]:List Int)) ([c853.1]:List Int)):Sl Int)),(x859,obS ((some ([c853.1]:List Int)):Sl Int))]++D2 (A:=(Sl Int)) z802 ps804):=O866
   have O868:Hold B h865 ([pZ9 o_ 3 [Sl.enc c853.2.code,iv c853.2.pos,AV.sc (.int .u64 c853.2.seed)],pZ9 o1 3 [kA3,kA3,kA3],(z677,obS (w678:Sl Channel)),pZ9 o21 3 [z677,z679,z683],(x27,obS ((some ([(⟨#[109,115]⟩:ByteArray),(⟨#[109,115]⟩:ByteArray),(⟨#[99,115]⟩:ByteArray),(⟨#[115]⟩:ByteArray),(⟨#[104,111,117,114]⟩:ByteArray)]:List ByteArray)):Sl ByteArray)),(x37,obS ((some ([900,3600,3600000]:List Int)):Sl Int)),(z683,obS (w684:Sl Note)),pZ9 o785 1 [z802],(x864,obS ((kB3 (some ([wr (5+c836.1),wr (c842.1 - 40),w808]:List Int)) ([c853.1]:List Int)):Sl Int))]++D2 (A:=(Sl Int)) z802 ps804):=O866.selD [0,1,2,3,4,5,6,7,8] (by decide) rfl
   refine kA1 (v:=AV.ptr o785 1 0 0) rfl ?_
   refine kA1 (v:=z802) (O868.ld 7 rfl false 1 0) ?_
   have jZ0:=O868.one (A:=Int) (s:=(kB3 (some ([wr (5+c836.1),wr (c842.1 - 40),w808]:List Int)) ([c853.1]:List Int))) 8 rfl
   refine kBn O868 [[x864]] 1 rfl (by first | rfl | simp [kAk,kBz,jZ0.1,jZ0.2]) rfl (fun x869 h870 O871 => ?_)
   replace O871:Hold B h870 ([pZ9 o_ 3 [Sl.enc c853.2.code,iv c853.2.pos,AV.sc (.int .u64 c853.2.seed)],pZ9 o1 3 [kA3,kA3,kA3],(z677,obS (w678:Sl Channel)),pZ9 o21 3 [z677,z679,z683],(x27,obS ((some ([(⟨#[109,115]⟩:ByteArray),(⟨#[109,115]⟩:ByteArray),(⟨#[99,115]⟩:ByteArray),(⟨#[115]⟩:ByteArray),(⟨#[104,111,117,114]⟩:ByteArray)]:List ByteArray)):Sl ByteArray)),(x37,obS ((some ([900,3600,3600000]:List Int)):Sl Int)),(z683,obS (w684:Sl Note)),pZ9 o785 1 [z802],(x864,obS ((kB3 (some ([wr (5+c836.1),wr (c842.1 - 40),w808]:List Int)) ([c853.1]:List Int)):Sl Int)),(x869,.sl 1 [[x864]])]++D2 (A:=(Sl Int)) z802 ps804):=Hold.rot O871
   have O873:Hold B h870 ([pZ9 o_ 3 [Sl.enc c853.2.code,iv c853.2.pos,AV.sc (.int .u64 c853.2.seed)],pZ9 o1 3 [kA3,kA3,kA3],(z677,obS (w678:Sl Channel)),pZ9 o21 3 [z677,z679,z683],(x27,obS ((some ([(⟨#[109,115]⟩:ByteArray),(⟨#[109,115]⟩:ByteArray),(⟨#[99,115]⟩:ByteArray),(⟨#[115]⟩:ByteArray),(⟨#[104,111,117,114]⟩:ByteArray)]:List ByteArray)):Sl ByteArray)),(x37,obS ((some ([900,3600,3600000]:List Int)):Sl Int)),(z683,obS (w684:Sl Note)),pZ9 o785 1 [z802],(x864,obS ((kB3 (some ([wr (5+c836.1),wr (c842.1 - 40),w808]:List Int)) ([c853.1]:List Int)):Sl Int)),(x869,.sl 1 [[x864]])]++D2 (A:=(Sl Int)) z802 ps804):=O871.selD [0,1,2,3,4,5,6,7,8,9] (by decide) rfl
   refine kEs (l:=[pZ9 o_ 3 [Sl.enc c853.2.code,iv c853.2.pos,AV.sc (.int .u64 c853.2.seed)],pZ9 o1 3 [kA3,kA3,kA3],(z677,obS (w678:Sl Channel)),pZ9 o21 3 [z677,z679,z683],(x27,obS ((some ([(⟨#[109,115]⟩:ByteArray),(⟨#[109,115]⟩:ByteArray),(⟨#[99,115]⟩:ByteArray),(⟨#[115]⟩:ByteArray),(⟨#[104,111,117,114]⟩:ByteArray)]:List ByteArray)):Sl ByteArray)),(x37,obS ((some ([900,3600,3600000]:List Int)):Sl Int)),(z683,obS (w684:Sl Note)),pZ9 o785 1 [z802]]) (a:=(kB3 (some ([wr (5+c836.1),wr (c842.1 - 40),w808]:List Int)) ([c853.1]:List Int))) (y:=x864) (x:=z802) (ps:=ps804) O873 hp805 (by decide) (fun x874 ps877 h875 hp878 hm879 O876 => ?_)
   refine kA1 (v:=AV.ptr o785 1 0 0) rfl ?_
   have jZ0:=D2.oneX (l:=[pZ9 o_ 3 [Sl.enc c853.2.code,iv c853.2.pos,AV.sc (.int .u64 c853.2.seed)],pZ9 o1 3 [kA3,kA3,kA3],(z677,obS (w678:Sl Channel)),pZ9 o21 3 [z677,z679,z683],(x27,obS ((some ([(⟨#[109,115]⟩:ByteArray),(⟨#[109,115]⟩:ByteArray),(⟨#[99,115]⟩:ByteArray),(⟨#[115]⟩:ByteArray),(⟨#[104,111,117,114]⟩:ByteArray)]:List ByteArray)):Sl ByteArray)),(x37,obS ((some ([900,3600,3600000]:List Int)):Sl Int)),(z683,obS (w684:Sl Note)),pZ9 o785 1 [z802]]) (x:=x874) (ps:=ps877) (A:=(Sl Int)) O876
   refine kAj O876 7 (cs':=[x874]) rfl (by first | rfl | simp [jZ0.1,jZ0.2]) (by simp) (by first | rfl | simp [jZ0.1,jZ0.2]) (by first | rfl | simp [kAo,jZ0.1,jZ0.2]) (fun h881 O882 => ?_)
   replace O882:Hold B h881 ([pZ9 o_ 3 [Sl.enc c853.2.code,iv c853.2.pos,AV.sc (.int .u64 c853.2.seed)],pZ9 o1 3 [kA3,kA3,kA3],(z677,obS (w678:Sl Channel)),pZ9 o21 3 [z677,z679,z683],(x27,obS ((some ([(⟨#[109,115]⟩:ByteArray),(⟨#[109,115]⟩:ByteArray),(⟨#[99,115]⟩:ByteArray),(⟨#[115]⟩:ByteArray),(⟨#[104,111,117,114]⟩:ByteArray)]:List ByteArray)):Sl ByteArray)),(x37,obS ((some ([900,3600,3600000]:List Int)):Sl Int)),(z683,obS (w684:Sl Note)),pZ9 o785 1 [x874]]++D2 (A:=(Sl Int)) x874 ps877):=O882
   refine kAq he_q28 (kBj c853.2 9 (O882.start (i:=0) rfl rfl)) (fun c883 v884 h885 hq886 => ?_)
   obtain ⟨e_v884,O887⟩:=hq886
   dsimp only at e_v884
   subst v884
   have O888:Hold B h885 ([pZ9 o_ 3 [Sl.enc c883.2.code,iv c883.2.pos,AV.sc (.int .u64 c883.2.seed)],pZ9 o1 3 [kA3,kA3,kA3],(z677,obS (w678:Sl Channel)),pZ9 o21 3 [z677,z679,z683],(x27,obS ((some ([(⟨#[109,115]⟩:ByteArray),(⟨#[109,115]⟩:ByteArray),(⟨#[99,115]⟩:ByteArray),(⟨#[115]⟩:ByteArray),(⟨#[104,111,117,114]⟩:ByteArray)]:List ByteArray)):Sl ByteArray)),(x37,obS ((some ([900,3600,3600000]:List Int)):Sl Int)),(z683,obS (w684:Sl Note)),pZ9 o785 1 [x874]]++D2 (A:=(Sl Int)) x874 ps877):=Hold.rot (l:=[pZ9 o_ 3 [Sl.enc c883.2.code,iv c883.2.pos,AV.sc (.int .u64 c883.2.seed)],pZ9 o1 3 [kA3,kA3,kA3],(z677,obS (w678:Sl Channel)),pZ9 o21 3 [z677,z679,z683],(x27,obS ((some ([(⟨#[109,115]⟩:ByteArray),(⟨#[109,115]⟩:ByteArray),(⟨#[99,115]⟩:ByteArray),(⟨#[115]⟩:ByteArray),(⟨#[104,111,117,114]⟩:ByteArray)]:List ByteArray)):Sl ByteArray)),(x37,obS ((some ([900,3600,3600000]:List Int)):Sl Int)),(z683,obS (w684:Sl Note)),pZ9 o785 1 [x874]]) (d:=D2 (A:=(Sl Int)) x874 ps877) (n:=[]) (O882.merge (i:=0) rfl rfl O887)
   refine kA1 (kAg _ _) ?_
   refine kA1 (kAg _ _) ?_
   refine kAq he_q27 (kGc c883.2 30 (O888.start (i:=0) rfl rfl)) (fun c889 v890 h891 hq892 => ?_)
   obtain ⟨e_v890,O893⟩:=hq892
   dsimp only at e_v890
   subst v890
   have O894:Hold B h891 ([pZ9 o_ 3 [Sl.enc c889.2.code,iv c889.2.pos,AV.sc (.int .u64 c889.2.seed)],pZ9 o1 3 [kA3,kA3,kA3],(z677,obS (w678:Sl Channel)),pZ9 o21 3 [z677,z679,z683],(x27,obS ((some ([(⟨#[109,115]⟩:ByteArray),(⟨#[109,115]⟩:ByteArray),(⟨#[99,115]⟩:ByteArray),(⟨#[115]⟩:ByteArray),(⟨#[104,111,117,114]⟩:ByteArray)]:List ByteArray)):Sl ByteArray)),(x37,obS ((some ([900,3600,3600000]:List Int)):Sl Int)),(z683,obS (w684:Sl Note)),pZ9 o785 1 [x874]]++D2 (A:=(Sl Int)) x874 ps877):=Hold.rot (l:=[pZ9 o_ 3 [Sl.enc c889.2.code,iv c889.2.pos,AV.sc (.int .u64 c889.2.seed)],pZ9 o1 3 [kA3,kA3,kA3],(z677,obS (w678:Sl Channel)),pZ9 o21 3 [z677,z679,z683],(x27,obS ((some ([(⟨#[109,115]⟩:ByteArray),(⟨#[109,115]⟩:ByteArray),(⟨#[99,115]⟩:ByteArray),(⟨#[115]⟩:ByteArray),(⟨#[104,111,117,114]⟩:ByteArray)]:List ByteArray)):Sl ByteArray)),(x37,obS ((some ([900,3600,3600000]:List Int)):Sl Int)),(z683,obS (w684:Sl Note)),pZ9 o785 1 [x874]]) (d:=D2 (A:=(Sl Int)) x874 ps877) (n:=[]) (O888.merge (i:=0) rfl rfl O893)
   refine kAa (fun c895 => ?_) (fun c895 => ?_)
   ·refine kA1 (kAt _ _) ?_
    refine kDn (t:=(fun a b:Int=>max a b)) he_q24 (kAe _ _) (kAe _ _) (fun c896 => ?_)
    refine kA1 (kAt _ _) ?_
    exact kA6 ⟨rfl,_,_,rfl,hp878,O894⟩
   ·refine kA1 (kAt _ _) ?_
    exact kA6 ⟨rfl,_,_,rfl,hp878,O894⟩
  ·refine kA1 (v:=AV.ptr o785 1 0 0) rfl ?_
   refine kA1 (v:=z802) (O850.ld 7 rfl false 1 0) ?_
   have jZ0:=O850.one (A:=Int) (s:=(some ([wr (5+c836.1),wr (c842.1 - 40),w808]:List Int))) 8 rfl
   refine kBn O850 [[x848]] 1 rfl (by first | rfl | simp [kAk,kBz,jZ0.1,jZ0.2]) rfl (fun x899 h900 O901 => ?_)
   replace O901:Hold B h900 ([pZ9 o_ 3 [Sl.enc c842.2.code,iv c842.2.pos,AV.sc (.int .u64 c842.2.seed)],pZ9 o1 3 [kA3,kA3,kA3],(z677,obS (w678:Sl Channel)),pZ9 o21 3 [z677,z679,z683],(x27,obS ((some ([(⟨#[109,115]⟩:ByteArray),(⟨#[109,115]⟩:ByteArray),(⟨#[99,115]⟩:ByteArray),(⟨#[115]⟩:ByteArray),(⟨#[104,111,117,114]⟩:ByteArray)]:List ByteArray)):Sl ByteArray)),(x37,obS ((some ([900,3600,3600000]:List Int)):Sl Int)),(z683,obS (w684:Sl Note)),pZ9 o785 1 [z802],(x848,obS ((some ([wr (5+c836.1),wr (c842.1 - 40),w808]:List Int)):Sl Int)),(x899,.sl 1 [[x848]])]++D2 (A:=(Sl Int)) z802 ps804):=Hold.rot O901
   have O903:Hold B h900 ([pZ9 o_ 3 [Sl.enc c842.2.code,iv c842.2.pos,AV.sc (.int .u64 c842.2.seed)],pZ9 o1 3 [kA3,kA3,kA3],(z677,obS (w678:Sl Channel)),pZ9 o21 3 [z677,z679,z683],(x27,obS ((some ([(⟨#[109,115]⟩:ByteArray),(⟨#[109,115]⟩:ByteArray),(⟨#[99,115]⟩:ByteArray),(⟨#[115]⟩:ByteArray),(⟨#[104,111,117,114]⟩:ByteArray)]:List ByteArray)):Sl ByteArray)),(x37,obS ((some ([900,3600,3600000]:List Int)):Sl Int)),(z683,obS (w684:Sl Note)),pZ9 o785 1 [z802],(x848,obS ((some ([wr (5+c836.1),wr (c842.1 - 40),w808]:List Int)):Sl Int)),(x899,.sl 1 [[x848]])]++D2 (A:=(Sl Int)) z802 ps804):=O901.selD [0,1,2,3,4,5,6,7,8,9] (by decide) rfl
   refine kEs (l:=[pZ9 o_ 3 [Sl.enc c842.2.code,iv c842.2.pos,AV.sc (.int .u64 c842.2.seed)],pZ9 o1 3 [kA3,kA3,kA3],(z677,obS (w678:Sl Channel)),pZ9 o21 3 [z677,z679,z683],(x27,obS ((some ([(⟨#[109,115]⟩:ByteArray),(⟨#[109,115]⟩:ByteArray),(⟨#[99,115]⟩:ByteArray),(⟨#[115]⟩:ByteArray),(⟨#[104,111,117,114]⟩:ByteArray)]:List ByteArray)):Sl ByteArray)),(x37,obS ((some ([900,3600,3600000]:List Int)):Sl Int)),(z683,obS (w684:Sl Note)),pZ9 o785 1 [z802]]) (a:=(some ([wr (5+c836.1),wr (c842.1 - 40),w808]:List Int))) (y:=x848) (x:=z802) (ps:=ps804) O903 hp805 (by decide) (fun x904 ps907 h905 hp908 hm909 O906 => ?_)
   refine kA1 (v:=AV.ptr o785 1 0 0) rfl ?_
   have jZ0:=D2.oneX (l:=[pZ9 o_ 3 [Sl.enc c842.2.code,iv c842.2.pos,AV.sc (.int .u64 c842.2.seed)],pZ9 o1 3 [kA3,kA3,kA3],(z677,obS (w678:Sl Channel)),pZ9 o21 3 [z677,z679,z683],(x27,obS ((some ([(⟨#[109,115]⟩:ByteArray),(⟨#[109,115]⟩:ByteArray),(⟨#[99,115]⟩:ByteArray),(⟨#[115]⟩:ByteArray),(⟨#[104,111,117,114]⟩:ByteArray)]:List ByteArray)):Sl ByteArray)),(x37,obS ((some ([900,3600,3600000]:List Int)):Sl Int)),(z683,obS (w684:Sl Note)),pZ9 o785 1 [z802]]) (x:=x904) (ps:=ps907) (A:=(Sl Int)) O906
   refine kAj O906 7 (cs':=[x904]) rfl (by first | rfl | simp [jZ0.1,jZ0.2]) (by simp) (by first | rfl | simp [jZ0.1,jZ0.2]) (by first | rfl | simp [kAo,jZ0.1,jZ0.2]) (fun h911 O912 => ?_)
   replace O912:Hold B h911 ([pZ9 o_ 3 [Sl.enc c842.2.code,iv c842.2.pos,AV.sc (.int .u64 c842.2.seed)],pZ9 o1 3 [kA3,kA3,kA3],(z677,obS (w678:Sl Channel)),pZ9 o21 3 [z677,z679,z683],(x27,obS ((some ([(⟨#[109,115]⟩:ByteArray),(⟨#[109,115]⟩:ByteArray),(⟨#[99,115]⟩:ByteArray),(⟨#[115]⟩:ByteArray),(⟨#[104,111,117,114]⟩:ByteArray)]:List ByteArray)):Sl ByteArray)),(x37,obS ((some ([900,3600,3600000]:List Int)):Sl Int)),(z683,obS (w684:Sl Note)),pZ9 o785 1 [x904]]++D2 (A:=(Sl Int)) x904 ps907):=O912
   refine kAq he_q28 (kBj c842.2 9 (O912.start (i:=0) rfl rfl)) (fun c913 v914 h915 hq916 => ?_)
   obtain ⟨e_v914,O917⟩:=hq916
   dsimp only at e_v914
   subst v914
   have O918:Hold B h915 ([pZ9 o_ 3 [Sl.enc c913.2.code,iv c913.2.pos,AV.sc (.int .u64 c913.2.seed)],pZ9 o1 3 [kA3,kA3,kA3],(z677,obS (w678:Sl Channel)),pZ9 o21 3 [z677,z679,z683],(x27,obS ((some ([(⟨#[109,115]⟩:ByteArray),(⟨#[109,115]⟩:ByteArray),(⟨#[99,115]⟩:ByteArray),(⟨#[115]⟩:ByteArray),(⟨#[104,111,117,114]⟩:ByteArray)]:List ByteArray)):Sl ByteArray)),(x37,obS ((some ([900,3600,3600000]:List Int)):Sl Int)),(z683,obS (w684:Sl Note)),pZ9 o785 1 [x904]]++D2 (A:=(Sl Int)) x904 ps907):=Hold.rot (l:=[pZ9 o_ 3 [Sl.enc c913.2.code,iv c913.2.pos,AV.sc (.int .u64 c913.2.seed)],pZ9 o1 3 [kA3,kA3,kA3],(z677,obS (w678:Sl Channel)),pZ9 o21 3 [z677,z679,z683],(x27,obS ((some ([(⟨#[109,115]⟩:ByteArray),(⟨#[109,115]⟩:ByteArray),(⟨#[99,115]⟩:ByteArray),(⟨#[115]⟩:ByteArray),(⟨#[104,111,117,114]⟩:ByteArray)]:List ByteArray)):Sl ByteArray)),(x37,obS ((some ([900,3600,3600000]:List Int)):Sl Int)),(z683,obS (w684:Sl Note)),pZ9 o785 1 [x904]]) (d:=D2 (A:=(Sl Int)) x904 ps907) (n:=[]) (O912.merge (i:=0) rfl rfl O917)
   refine kA1 (kAg _ _) ?_
   refine kA1 (kAg _ _) ?_
   refine kAq he_q27 (kGc c913.2 30 (O918.start (i:=0) rfl rfl)) (fun c919 v920 h921 hq922 => ?_)
   obtain ⟨e_v920,O923⟩:=hq922
   dsimp only at e_v920
   subst v920
   have O924:Hold B h921 ([pZ9 o_ 3 [Sl.enc c919.2.code,iv c919.2.pos,AV.sc (.int .u64 c919.2.seed)],pZ9 o1 3 [kA3,kA3,kA3],(z677,obS (w678:Sl Channel)),pZ9 o21 3 [z677,z679,z683],(x27,obS ((some ([(⟨#[109,115]⟩:ByteArray),(⟨#[109,115]⟩:ByteArray),(⟨#[99,115]⟩:ByteArray),(⟨#[115]⟩:ByteArray),(⟨#[104,111,117,114]⟩:ByteArray)]:List ByteArray)):Sl ByteArray)),(x37,obS ((some ([900,3600,3600000]:List Int)):Sl Int)),(z683,obS (w684:Sl Note)),pZ9 o785 1 [x904]]++D2 (A:=(Sl Int)) x904 ps907):=Hold.rot (l:=[pZ9 o_ 3 [Sl.enc c919.2.code,iv c919.2.pos,AV.sc (.int .u64 c919.2.seed)],pZ9 o1 3 [kA3,kA3,kA3],(z677,obS (w678:Sl Channel)),pZ9 o21 3 [z677,z679,z683],(x27,obS ((some ([(⟨#[109,115]⟩:ByteArray),(⟨#[109,115]⟩:ByteArray),(⟨#[99,115]⟩:ByteArray),(⟨#[115]⟩:ByteArray),(⟨#[104,111,117,114]⟩:ByteArray)]:List ByteArray)):Sl ByteArray)),(x37,obS ((some ([900,3600,3600000]:List Int)):Sl Int)),(z683,obS (w684:Sl Note)),pZ9 o785 1 [x904]]) (d:=D2 (A:=(Sl Int)) x904 ps907) (n:=[]) (O918.merge (i:=0) rfl rfl O923)
   refine kAa (fun c925 => ?_) (fun c925 => ?_)
   ·refine kA1 (kAt _ _) ?_
    refine kDn (t:=(fun a b:Int=>max a b)) he_q24 (kAe _ _) (kAe _ _) (fun c926 => ?_)
    refine kA1 (kAt _ _) ?_
    exact kA6 ⟨rfl,_,_,rfl,hp908,O924⟩
   ·refine kA1 (kAt _ _) ?_
    exact kA6 ⟨rfl,_,_,rfl,hp908,O924⟩
 ·exact kA6 ⟨nofun,_,_,_,_,_,rfl,hp805,O807⟩
theorem tl2_q33 (env:Nat→Contract) {B0:Base} (he_q24:env kEl=.pure (T2 (fun a b:Int=>max a b))) (he_q25:env kDd=.gen (kAf Try.prog kE5 kDd)) (he_q27:env kCf=.gen (kAf Try.prog kE7 kCf)) (he_q28:env kB1=.gen (kAf Try.prog kC8 kB1)) (he_q29:env kCd=.gen (kAf Try.prog kCz kCd)) (o_:Nat) (o1:Nat) (c5:Int×l00Src) (c11:Int×l00Src) (x17:AV) (o21:Nat) (x27:AV) (c31:ByteArray×l00Src) (x37:AV) (c41:Int×l00Src) (x47:AV) (x52:AV) (c59:Bool×l00Src) (c645:Bool×l00Src) (m653:Nat) (c658:Int×l00Src) (c664:Int×l00Src) :kGr (fun (st:(Sl UInt8)×Int×Int×(Sl Channel)×(Sl FRows)×(Sl Note)×Int×Int) tm h685=>match st with | (w674,w675,w676,w678,w680,w684,w687,w688)=>∃ B:Base,∃ y689 z677 z679 z683,tm=((AV.ptr o_ 1 0 0)::und::(AV.ptr o1 1 0 0)::(AV.ptr o21 1 0 0)::(sv c31.1)::(iv w687)::(iv w688)::.top::.top::y689::und::und::und::(AV.ptr o_ 1 0 0)::(iv c5.1)::(iv (wr (c5.1 - 4)))::(AV.ptr o_ 1 0 0)::(iv c11.1)::(iv (wr (100+c11.1)))::(AV.agg [sv (⟨#[120]⟩:ByteArray),sv (⟨#[109,109]⟩:ByteArray),iv (wr (c5.1 - 4)),iv (wr (100+c11.1))])::(AV.agg [sv (⟨#[121]⟩:ByteArray),sv (⟨#[109,109]⟩:ByteArray),iv (-50),iv 90])::x17::(AV.agg [x17,kA3,kA3])::(AV.ptr o_ 1 0 0)::x27::(sv c31.1)::(AV.ptr o21 1 0 0)::x17::(sv c31.1)::(AV.ptr o_ 1 0 0)::x37::(iv c41.1)::(AV.agg [sv (⟨#[116]⟩:ByteArray),sv c31.1,iv 0,iv c41.1])::x47::x52::(AV.ptr o21 1 0 0)::(AV.ptr o_ 1 0 0)::(bv c59.1)::und::und::und::und::und::und::(AV.ptr o_ 1 0 0)::(bv c645.1)::(AV.ptr o21 1 0 0)::x52::(elp x52 m653 0)::(elp x52 m653 0)::(AV.ptr o_ 1 0 0)::(iv c658.1)::(AV.ptr o_ 1 0 0)::(iv c664.1)::tZ9 51 [und,und,und,und,und,und,und,und,und,und,und,und,und,und,und,und,und,und,und,und,und,und,und,und,und,und,und,und,und,und,und,und,und,und,und])∧OutT B0 B z679 w680∧Hold B h685 [pZ9 o_ 3 [Sl.enc w674,iv w675,AV.sc (.int .u64 w676)],pZ9 o1 3 [kA3,kA3,kA3],(z677,obS (w678:Sl Channel)),pZ9 o21 3 [z677,z679,z683],(x27,obS ((some ([(⟨#[109,115]⟩:ByteArray),(⟨#[109,115]⟩:ByteArray),(⟨#[99,115]⟩:ByteArray),(⟨#[115]⟩:ByteArray),(⟨#[104,111,117,114]⟩:ByteArray)]:List ByteArray)):Sl ByteArray)),(x37,obS ((some ([900,3600,3600000]:List Int)):Sl Int)),(z683,obS (w684:Sl Note))]) hm2_q33 xm2_q33 (lb2_q33 env) s2_q33 (fun (q:(Sl UInt8)×Int×Int×(Sl Channel)×(Sl FRows)×(Sl Note)) (r:Res)=>match q with | (q692,q693,q694,q696,q698,q702)=>∃ (B:Base) (q703:Int) (q704:Int) (z695:AV) (z697:AV) (z701:AV) (z705:AV) (z706:AV) (z707:AV) (h690:kA7),r=(.exit 0,((AV.ptr o_ 1 0 0)::und::(AV.ptr o1 1 0 0)::(AV.ptr o21 1 0 0)::(sv c31.1)::(iv q703)::(iv q704)::z705::z706::z707::und::und::und::(AV.ptr o_ 1 0 0)::(iv c5.1)::(iv (wr (c5.1 - 4)))::(AV.ptr o_ 1 0 0)::(iv c11.1)::(iv (wr (100+c11.1)))::(AV.agg [sv (⟨#[120]⟩:ByteArray),sv (⟨#[109,109]⟩:ByteArray),iv (wr (c5.1 - 4)),iv (wr (100+c11.1))])::(AV.agg [sv (⟨#[121]⟩:ByteArray),sv (⟨#[109,109]⟩:ByteArray),iv (-50),iv 90])::x17::(AV.agg [x17,kA3,kA3])::(AV.ptr o_ 1 0 0)::x27::(sv c31.1)::(AV.ptr o21 1 0 0)::x17::(sv c31.1)::(AV.ptr o_ 1 0 0)::x37::(iv c41.1)::(AV.agg [sv (⟨#[116]⟩:ByteArray),sv c31.1,iv 0,iv c41.1])::x47::x52::(AV.ptr o21 1 0 0)::(AV.ptr o_ 1 0 0)::(bv c59.1)::und::und::und::und::und::und::(AV.ptr o_ 1 0 0)::(bv c645.1)::(AV.ptr o21 1 0 0)::x52::(elp x52 m653 0)::(elp x52 m653 0)::(AV.ptr o_ 1 0 0)::(iv c658.1)::(AV.ptr o_ 1 0 0)::(iv c664.1)::tZ9 51 [und,und,und,und,und,und,und,und,und,und,und,und,und,und,und,und,und,und,und,und,und,und,und,und,und,und,und,und,und,und,und,und,und,und,und]),h690)∧OutT B0 B z697 q698∧Hold B h690 [pZ9 o_ 3 [Sl.enc q692,iv q693,AV.sc (.int .u64 q694)],pZ9 o1 3 [kA3,kA3,kA3],(z695,obS (q696:Sl Channel)),pZ9 o21 3 [z695,z697,z701],(x27,obS ((some ([(⟨#[109,115]⟩:ByteArray),(⟨#[109,115]⟩:ByteArray),(⟨#[99,115]⟩:ByteArray),(⟨#[115]⟩:ByteArray),(⟨#[104,111,117,114]⟩:ByteArray)]:List ByteArray)):Sl ByteArray)),(x37,obS ((some ([900,3600,3600000]:List Int)):Sl Int)),(z701,obS (q702:Sl Note))]):=by
 refine @kH3 _ _ _ _ _ _ _ _ (fun st tm h685 R => ?_)
 obtain ⟨w674,w675,w676,w678,w680,w684,w687,w688⟩:=st
 obtain ⟨B,y689,z677,z679,z683,rfl,hT681,O686⟩:=R
 rw [e_lb2_q33]
 unfold s2_q33
 dsimp only
 refine kA1 (kBd _ _) ?_
 refine kAa (fun c784 => ?_) (fun c784 => ?_)
 ·refine kA1 (v:=AV.agg [kA3]) (by first | rfl | simp [kBs,kEq,kAo]) ?_
  refine kBt O686 (cs:=[kA3]) (by first | rfl | simp) (fun o785 h786 O787 => ?_)
  replace O787:Hold B h786 [pZ9 o_ 3 [Sl.enc w674,iv w675,AV.sc (.int .u64 w676)],pZ9 o1 3 [kA3,kA3,kA3],(z677,obS (w678:Sl Channel)),pZ9 o21 3 [z677,z679,z683],(x27,obS ((some ([(⟨#[109,115]⟩:ByteArray),(⟨#[109,115]⟩:ByteArray),(⟨#[99,115]⟩:ByteArray),(⟨#[115]⟩:ByteArray),(⟨#[104,111,117,114]⟩:ByteArray)]:List ByteArray)):Sl ByteArray)),(x37,obS ((some ([900,3600,3600000]:List Int)):Sl Int)),(z683,obS (w684:Sl Note)),pZ9 o785 1 [kA3]]:=O787
  refine kAj O787 7 (cs':=[kA3]) rfl (by first | rfl | simp) (by simp) (by first | rfl | simp) (by first | rfl | simp [kAo]) (fun h789 O790 => ?_)
  replace O790:Hold B h789 [pZ9 o_ 3 [Sl.enc w674,iv w675,AV.sc (.int .u64 w676)],pZ9 o1 3 [kA3,kA3,kA3],(z677,obS (w678:Sl Channel)),pZ9 o21 3 [z677,z679,z683],(x27,obS ((some ([(⟨#[109,115]⟩:ByteArray),(⟨#[109,115]⟩:ByteArray),(⟨#[99,115]⟩:ByteArray),(⟨#[115]⟩:ByteArray),(⟨#[104,111,117,114]⟩:ByteArray)]:List ByteArray)):Sl ByteArray)),(x37,obS ((some ([900,3600,3600000]:List Int)):Sl Int)),(z683,obS (w684:Sl Note)),pZ9 o785 1 [kA3]]:=O790
  refine kAq he_q28 (kBj (⟨w674,w675,w676⟩:l00Src) 5 (O790.start (i:=0) rfl rfl)) (fun c791 v792 h793 hq794 => ?_)
  obtain ⟨e_v792,O795⟩:=hq794
  dsimp only at e_v792
  subst v792
  have O796:Hold B h793 [pZ9 o_ 3 [Sl.enc c791.2.code,iv c791.2.pos,AV.sc (.int .u64 c791.2.seed)],pZ9 o1 3 [kA3,kA3,kA3],(z677,obS (w678:Sl Channel)),pZ9 o21 3 [z677,z679,z683],(x27,obS ((some ([(⟨#[109,115]⟩:ByteArray),(⟨#[109,115]⟩:ByteArray),(⟨#[99,115]⟩:ByteArray),(⟨#[115]⟩:ByteArray),(⟨#[104,111,117,114]⟩:ByteArray)]:List ByteArray)):Sl ByteArray)),(x37,obS ((some ([900,3600,3600000]:List Int)):Sl Int)),(z683,obS (w684:Sl Note)),pZ9 o785 1 [kA3]]:=O790.merge (i:=0) rfl rfl O795
  refine kA1 (kAg _ _) ?_
  have O797:Hold B h793 ([pZ9 o_ 3 [Sl.enc c791.2.code,iv c791.2.pos,AV.sc (.int .u64 c791.2.seed)],pZ9 o1 3 [kA3,kA3,kA3],(z677,obS (w678:Sl Channel)),pZ9 o21 3 [z677,z679,z683],(x27,obS ((some ([(⟨#[109,115]⟩:ByteArray),(⟨#[109,115]⟩:ByteArray),(⟨#[99,115]⟩:ByteArray),(⟨#[115]⟩:ByteArray),(⟨#[104,111,117,114]⟩:ByteArray)]:List ByteArray)):Sl ByteArray)),(x37,obS ((some ([900,3600,3600000]:List Int)):Sl Int)),(z683,obS (w684:Sl Note)),pZ9 o785 1 [kA3]]++D2 (A:=(Sl Int)) kA3 (none:PS (Sl Int))):=O796.addnil
  refine kBe ((tl8_q33 env he_q24 he_q25 he_q27 he_q28 he_q29 o_ o1 c5 c11 x17 o21 x27 c31 x37 c41 x47 x52 c59 c645 m653 c658 c664 z677 w678 z679 z683 w684 w688 o785 c791) ⟨_,_,rfl,(rfl:pj (none:PS (Sl Int))=(none:Sl (Sl Int))),O797⟩) (fun qq931 r hq => ?_)
  obtain ⟨q812,q813,q814,q816,q819⟩:=qq931
  obtain ⟨q820,z815,z821,ps817,h810,rfl,hp818,O811⟩:=hq
  rw [e_lk8x2_q33]
  refine kA1 (v:=AV.ptr o21 1 0 1) rfl ?_
  refine kA1 (v:=z679) (O811.ld 3 rfl false 1 1) ?_
  refine kA1 (v:=AV.agg [z815]) (O811.ld 7 rfl true 1 0) ?_
  have jZ0:=D2.oneX (l:=[pZ9 o_ 3 [Sl.enc q812,iv q813,AV.sc (.int .u64 q814)],pZ9 o1 3 [kA3,kA3,kA3],(z677,obS (w678:Sl Channel)),pZ9 o21 3 [z677,z679,z683],(x27,obS ((some ([(⟨#[109,115]⟩:ByteArray),(⟨#[109,115]⟩:ByteArray),(⟨#[99,115]⟩:ByteArray),(⟨#[115]⟩:ByteArray),(⟨#[104,111,117,114]⟩:ByteArray)]:List ByteArray)):Sl ByteArray)),(x37,obS ((some ([900,3600,3600000]:List Int)):Sl Int)),(z683,obS (w684:Sl Note)),pZ9 o785 1 [z815]]) (x:=z815) (ps:=ps817) (A:=(Sl Int)) O811
  refine kBn O811 [[z815]] 1 rfl (by first | rfl | simp [kAk,kBz,jZ0.1,jZ0.2]) rfl (fun x822 h823 O824 => ?_)
  replace O824:Hold B h823 ([pZ9 o_ 3 [Sl.enc q812,iv q813,AV.sc (.int .u64 q814)],pZ9 o1 3 [kA3,kA3,kA3],(z677,obS (w678:Sl Channel)),pZ9 o21 3 [z677,z679,z683],(x27,obS ((some ([(⟨#[109,115]⟩:ByteArray),(⟨#[109,115]⟩:ByteArray),(⟨#[99,115]⟩:ByteArray),(⟨#[115]⟩:ByteArray),(⟨#[104,111,117,114]⟩:ByteArray)]:List ByteArray)):Sl ByteArray)),(x37,obS ((some ([900,3600,3600000]:List Int)):Sl Int)),(z683,obS (w684:Sl Note)),pZ9 o785 1 [z815],(x822,.sl 1 [[z815]])]++D2 (A:=(Sl Int)) z815 ps817):=Hold.rot O824
  have O826:Hold B h823 ([pZ9 o_ 3 [Sl.enc q812,iv q813,AV.sc (.int .u64 q814)],pZ9 o1 3 [kA3,kA3,kA3],(z677,obS (w678:Sl Channel)),pZ9 o21 3 [z677,z679,z683],(x27,obS ((some ([(⟨#[109,115]⟩:ByteArray),(⟨#[109,115]⟩:ByteArray),(⟨#[99,115]⟩:ByteArray),(⟨#[115]⟩:ByteArray),(⟨#[104,111,117,114]⟩:ByteArray)]:List ByteArray)):Sl ByteArray)),(x37,obS ((some ([900,3600,3600000]:List Int)):Sl Int)),(z683,obS (w684:Sl Note)),pZ9 o785 1 [z815],(x822,.sl 1 [[z815]])]++D2 (A:=(Sl Int)) z815 ps817):=O824.selD [0,1,2,3,4,5,6,7,8] (by decide) rfl
  refine kG0 (l:=[pZ9 o_ 3 [Sl.enc q812,iv q813,AV.sc (.int .u64 q814)],pZ9 o1 3 [kA3,kA3,kA3],(z677,obS (w678:Sl Channel)),pZ9 o21 3 [z677,z679,z683],(x27,obS ((some ([(⟨#[109,115]⟩:ByteArray),(⟨#[109,115]⟩:ByteArray),(⟨#[99,115]⟩:ByteArray),(⟨#[115]⟩:ByteArray),(⟨#[104,111,117,114]⟩:ByteArray)]:List ByteArray)):Sl ByteArray)),(x37,obS ((some ([900,3600,3600000]:List Int)):Sl Int)),(z683,obS (w684:Sl Note)),pZ9 o785 1 [z815]]) (t:=x822) (y:=z815) (ps:=ps817) (s:=w680) hT681 O826 hp818 (by decide) (fun B x827 h828 hT830 O829 => ?_)
  refine kA1 (v:=AV.ptr o21 1 0 1) rfl ?_
  refine kAj O829 3 (cs':=[z677,x827,z683]) rfl (by first | rfl | simp [((kAy hT830).one O829).1,((kAy hT830).one O829).2]) (by simp) (by first | rfl | simp [((kAy hT830).one O829).1,((kAy hT830).one O829).2]) (by first | rfl | simp [kAo,((kAy hT830).one O829).1,((kAy hT830).one O829).2]) (fun h832 O833 => ?_)
  replace O833:Hold B h832 [pZ9 o_ 3 [Sl.enc q812,iv q813,AV.sc (.int .u64 q814)],pZ9 o1 3 [kA3,kA3,kA3],(z677,obS (w678:Sl Channel)),pZ9 o21 3 [z677,x827,z683],(x27,obS ((some ([(⟨#[109,115]⟩:ByteArray),(⟨#[109,115]⟩:ByteArray),(⟨#[99,115]⟩:ByteArray),(⟨#[115]⟩:ByteArray),(⟨#[104,111,117,114]⟩:ByteArray)]:List ByteArray)):Sl ByteArray)),(x37,obS ((some ([900,3600,3600000]:List Int)):Sl Int)),(z683,obS (w684:Sl Note)),pZ9 o785 1 [z815]]:=O833
  refine kA1 (kAt _ _) ?_
  have O834:Hold B h832 [pZ9 o_ 3 [Sl.enc q812,iv q813,AV.sc (.int .u64 q814)],pZ9 o1 3 [kA3,kA3,kA3],(z677,obS (w678:Sl Channel)),pZ9 o21 3 [z677,x827,z683],(x27,obS ((some ([(⟨#[109,115]⟩:ByteArray),(⟨#[109,115]⟩:ByteArray),(⟨#[99,115]⟩:ByteArray),(⟨#[115]⟩:ByteArray),(⟨#[104,111,117,114]⟩:ByteArray)]:List ByteArray)):Sl ByteArray)),(x37,obS ((some ([900,3600,3600000]:List Int)):Sl Int)),(z683,obS (w684:Sl Note))]:=O833.sel [0,1,2,3,4,5,6] (by decide) rfl
  exact kA6 ⟨rfl,_,_,_,_,_,rfl,hT830,O834⟩
 ·exact kA6 ⟨nofun,_,_,_,_,_,_,_,_,_,_,rfl,hT681,O686⟩
theorem tl11_q33 (env:Nat→Contract) {B:Base} (he_q24:env kEl=.pure (T2 (fun a b:Int=>max a b))) (he_q25:env kDd=.gen (kAf Try.prog kE5 kDd)) (he_q27:env kCf=.gen (kAf Try.prog kE7 kCf)) (he_q28:env kB1=.gen (kAf Try.prog kC8 kB1)) (he_q29:env kCd=.gen (kAf Try.prog kCz kCd)) (o_:Nat) (o1:Nat) (c5:Int×l00Src) (c11:Int×l00Src) (x17:AV) (o21:Nat) (x27:AV) (c31:ByteArray×l00Src) (x37:AV) (c41:Int×l00Src) (x47:AV) (x52:AV) (c59:Bool×l00Src) (c645:Bool×l00Src) (c935:Int×l00Src) (c941:Int×l00Src) (z974:AV) (q975:Sl FRows) (q980:Int) (q981:Int) (z982:AV) (z983:AV) (z984:AV) (c985:Int×l00Src) :kGr (fun (st:(Sl UInt8)×Int×Int×(Sl Channel)×(Sl Note)×Int) tm h998=>match st with | (w991,w992,w993,w995,w997,w1000)=>∃ z994 z996,tm=((AV.ptr o_ 1 0 0)::und::(AV.ptr o1 1 0 0)::(AV.ptr o21 1 0 0)::(sv c31.1)::(iv q980)::(iv q981)::z982::z983::z984::(iv (((q975.getD []).length:Nat):Int))::(iv w1000)::.top::(AV.ptr o_ 1 0 0)::(iv c5.1)::(iv (wr (c5.1 - 4)))::(AV.ptr o_ 1 0 0)::(iv c11.1)::(iv (wr (100+c11.1)))::(AV.agg [sv (⟨#[120]⟩:ByteArray),sv (⟨#[109,109]⟩:ByteArray),iv (wr (c5.1 - 4)),iv (wr (100+c11.1))])::(AV.agg [sv (⟨#[121]⟩:ByteArray),sv (⟨#[109,109]⟩:ByteArray),iv (-50),iv 90])::x17::(AV.agg [x17,kA3,kA3])::(AV.ptr o_ 1 0 0)::x27::(sv c31.1)::(AV.ptr o21 1 0 0)::x17::(sv c31.1)::(AV.ptr o_ 1 0 0)::x37::(iv c41.1)::(AV.agg [sv (⟨#[116]⟩:ByteArray),sv c31.1,iv 0,iv c41.1])::x47::x52::(AV.ptr o21 1 0 0)::(AV.ptr o_ 1 0 0)::(bv c59.1)::und::und::und::und::und::und::(AV.ptr o_ 1 0 0)::(bv c645.1)::und::und::und::und::(AV.ptr o_ 1 0 0)::(iv c935.1)::(AV.ptr o_ 1 0 0)::(iv c941.1)::.top::.top::.top::.top::.top::.top::.top::.top::.top::.top::.top::.top::.top::.top::.top::.top::.top::.top::.top::.top::.top::.top::.top::.top::.top::.top::.top::.top::.top::.top::.top::.top::.top::.top::.top::.top::.top::.top::.top::.top::.top::.top::.top::.top::.top::.top::.top::.top::.top::.top::.top::(AV.ptr o21 1 0 1)::z974::(iv (((q975.getD []).length:Nat):Int))::(AV.ptr o_ 1 0 0)::(iv c985.1)::tZ9 29 [und])∧Hold B h998 [pZ9 o_ 3 [Sl.enc w991,iv w992,AV.sc (.int .u64 w993)],pZ9 o1 3 [kA3,kA3,kA3],(z994,obS (w995:Sl Channel)),pZ9 o21 3 [z994,z974,z996],(x27,obS ((some ([(⟨#[109,115]⟩:ByteArray),(⟨#[109,115]⟩:ByteArray),(⟨#[99,115]⟩:ByteArray),(⟨#[115]⟩:ByteArray),(⟨#[104,111,117,114]⟩:ByteArray)]:List ByteArray)):Sl ByteArray)),(x37,obS ((some ([900,3600,3600000]:List Int)):Sl Int)),(z996,obS (w997:Sl Note))]) hm11_q33 xm11_q33 (lb11_q33 env) (s11_q33 q975) (fun (q:(Sl UInt8)×Int×Int×(Sl Channel)×(Sl Note)) (r:Res)=>match q with | (q1003,q1004,q1005,q1007,q1009)=>∃ (q1010:Int) (z1006:AV) (z1008:AV) (z1011:AV) (h1001:kA7),r=(.exit 4,((AV.ptr o_ 1 0 0)::und::(AV.ptr o1 1 0 0)::(AV.ptr o21 1 0 0)::(sv c31.1)::(iv q980)::(iv q981)::z982::z983::z984::(iv (((q975.getD []).length:Nat):Int))::(iv q1010)::z1011::(AV.ptr o_ 1 0 0)::(iv c5.1)::(iv (wr (c5.1 - 4)))::(AV.ptr o_ 1 0 0)::(iv c11.1)::(iv (wr (100+c11.1)))::(AV.agg [sv (⟨#[120]⟩:ByteArray),sv (⟨#[109,109]⟩:ByteArray),iv (wr (c5.1 - 4)),iv (wr (100+c11.1))])::(AV.agg [sv (⟨#[121]⟩:ByteArray),sv (⟨#[109,109]⟩:ByteArray),iv (-50),iv 90])::x17::(AV.agg [x17,kA3,kA3])::(AV.ptr o_ 1 0 0)::x27::(sv c31.1)::(AV.ptr o21 1 0 0)::x17::(sv c31.1)::(AV.ptr o_ 1 0 0)::x37::(iv c41.1)::(AV.agg [sv (⟨#[116]⟩:ByteArray),sv c31.1,iv 0,iv c41.1])::x47::x52::(AV.ptr o21 1 0 0)::(AV.ptr o_ 1 0 0)::(bv c59.1)::und::und::und::und::und::und::(AV.ptr o_ 1 0 0)::(bv c645.1)::und::und::und::und::(AV.ptr o_ 1 0 0)::(iv c935.1)::(AV.ptr o_ 1 0 0)::(iv c941.1)::.top::.top::.top::.top::.top::.top::.top::.top::.top::.top::.top::.top::.top::.top::.top::.top::.top::.top::.top::.top::.top::.top::.top::.top::.top::.top::.top::.top::.top::.top::.top::.top::.top::.top::.top::.top::.top::.top::.top::.top::.top::.top::.top::.top::.top::.top::.top::.top::.top::.top::.top::(AV.ptr o21 1 0 1)::z974::(iv (((q975.getD []).length:Nat):Int))::(AV.ptr o_ 1 0 0)::(iv c985.1)::tZ9 29 [und]),h1001)∧Hold B h1001 [pZ9 o_ 3 [Sl.enc q1003,iv q1004,AV.sc (.int .u64 q1005)],pZ9 o1 3 [kA3,kA3,kA3],(z1006,obS (q1007:Sl Channel)),pZ9 o21 3 [z1006,z974,z1008],(x27,obS ((some ([(⟨#[109,115]⟩:ByteArray),(⟨#[109,115]⟩:ByteArray),(⟨#[99,115]⟩:ByteArray),(⟨#[115]⟩:ByteArray),(⟨#[104,111,117,114]⟩:ByteArray)]:List ByteArray)):Sl ByteArray)),(x37,obS ((some ([900,3600,3600000]:List Int)):Sl Int)),(z1008,obS (q1009:Sl Note))]):=by
 refine @kH3 _ _ _ _ _ _ _ _ (fun st tm h998 R => ?_)
 obtain ⟨w991,w992,w993,w995,w997,w1000⟩:=st
 obtain ⟨z994,z996,rfl,O999⟩:=R
 rw [e_lb11_q33]
 unfold s11_q33
 dsimp only
 refine kA1 (kBd _ _) ?_
 refine kBa (e:=bv) (fun hb1018 => ?_) (fun c1019 => ?_)
 ·refine kA1 (kBd _ _) ?_
  exact kA6 rfl
 ·refine kA1 (v:=bv (bif decide (0<w1000) then c1019 else false)) (kCh _ _ _) ?_
  refine kAa (fun c1020 => ?_) (fun c1020 => ?_)
  ·refine kAq he_q28 (kBj (⟨w991,w992,w993⟩:l00Src) (((q975.getD []).length:Nat):Int) (O999.start (i:=0) rfl rfl)) (fun c1021 v1022 h1023 hq1024 => ?_)
   obtain ⟨e_v1022,O1025⟩:=hq1024
   dsimp only at e_v1022
   subst v1022
   have O1026:Hold B h1023 [pZ9 o_ 3 [Sl.enc c1021.2.code,iv c1021.2.pos,AV.sc (.int .u64 c1021.2.seed)],pZ9 o1 3 [kA3,kA3,kA3],(z994,obS (w995:Sl Channel)),pZ9 o21 3 [z994,z974,z996],(x27,obS ((some ([(⟨#[109,115]⟩:ByteArray),(⟨#[109,115]⟩:ByteArray),(⟨#[99,115]⟩:ByteArray),(⟨#[115]⟩:ByteArray),(⟨#[104,111,117,114]⟩:ByteArray)]:List ByteArray)):Sl ByteArray)),(x37,obS ((some ([900,3600,3600000]:List Int)):Sl Int)),(z996,obS (w997:Sl Note))]:=O999.merge (i:=0) rfl rfl O1025
   refine kA1 (v:=AV.ptr o21 1 0 2) rfl ?_
   refine kA1 (v:=z996) (O1026.ld 3 rfl false 1 2) ?_
   refine kA1 (kAg _ _) ?_
   refine kA1 (kAt _ _) ?_
   refine kFa he_q28 (kC6 _ _) (kBj c1021.2 (wr ((((q975.getD []).length:Nat):Int) - c1021.1)) (O1026.start (i:=0) rfl rfl)) (fun c1027 v1028 h1029 hq1030 hx1033 => ?_)
   obtain ⟨e_v1028,O1031⟩:=hq1030
   dsimp only at e_v1028
   subst v1028
   have O1032:Hold B h1029 [pZ9 o_ 3 [Sl.enc c1027.2.code,iv c1027.2.pos,AV.sc (.int .u64 c1027.2.seed)],pZ9 o1 3 [kA3,kA3,kA3],(z994,obS (w995:Sl Channel)),pZ9 o21 3 [z994,z974,z996],(x27,obS ((some ([(⟨#[109,115]⟩:ByteArray),(⟨#[109,115]⟩:ByteArray),(⟨#[99,115]⟩:ByteArray),(⟨#[115]⟩:ByteArray),(⟨#[104,111,117,114]⟩:ByteArray)]:List ByteArray)):Sl ByteArray)),(x37,obS ((some ([900,3600,3600000]:List Int)):Sl Int)),(z996,obS (w997:Sl Note))]:=O1026.merge (i:=0) rfl rfl O1031
   refine kBk hx1033 ?_
   refine kA1 (kAg _ _) ?_
   refine kB7 (A:=ByteArray) O1032 ([(⟨#[119,111,114,100]⟩:ByteArray),(⟨#[97]⟩:ByteArray),(⟨#[120,45,50]⟩:ByteArray)]:List ByteArray) rfl (by first | rfl | simp [kAk,kBz]) rfl (fun x1034 h1035 O1036 => ?_)
   replace O1036:Hold B h1035 [pZ9 o_ 3 [Sl.enc c1027.2.code,iv c1027.2.pos,AV.sc (.int .u64 c1027.2.seed)],pZ9 o1 3 [kA3,kA3,kA3],(z994,obS (w995:Sl Channel)),pZ9 o21 3 [z994,z974,z996],(x27,obS ((some ([(⟨#[109,115]⟩:ByteArray),(⟨#[109,115]⟩:ByteArray),(⟨#[99,115]⟩:ByteArray),(⟨#[115]⟩:ByteArray),(⟨#[104,111,117,114]⟩:ByteArray)]:List ByteArray)):Sl ByteArray)),(x37,obS ((some ([900,3600,3600000]:List Int)):Sl Int)),(z996,obS (w997:Sl Note)),(x1034,obS ((some ([(⟨#[119,111,114,100]⟩:ByteArray),(⟨#[97]⟩:ByteArray),(⟨#[120,45,50]⟩:ByteArray)]:List ByteArray)):Sl ByteArray))]:=O1036
   refine kFa he_q29 (kCs _ _) (tg_q29 c1027.2 (some ([(⟨#[119,111,114,100]⟩:ByteArray),(⟨#[97]⟩:ByteArray),(⟨#[120,45,50]⟩:ByteArray)]:List ByteArray)) (O1036.tabK (A:=ByteArray) (s:=(some ([(⟨#[119,111,114,100]⟩:ByteArray),(⟨#[97]⟩:ByteArray),(⟨#[120,45,50]⟩:ByteArray)]:List ByteArray))) 7 0 rfl rfl rfl (by decide)) (O1036.start (i:=0) rfl rfl)) (fun c1038 v1039 h1040 hq1041 hx1044 => ?_)
   obtain ⟨e_v1039,O1042⟩:=hq1041
   dsimp only at e_v1039
   subst v1039
   have O1043:Hold B h1040 [pZ9 o_ 3 [Sl.enc c1038.2.code,iv c1038.2.pos,AV.sc (.int .u64 c1038.2.seed)],pZ9 o1 3 [kA3,kA3,kA3],(z994,obS (w995:Sl Channel)),pZ9 o21 3 [z994,z974,z996],(x27,obS ((some ([(⟨#[109,115]⟩:ByteArray),(⟨#[109,115]⟩:ByteArray),(⟨#[99,115]⟩:ByteArray),(⟨#[115]⟩:ByteArray),(⟨#[104,111,117,114]⟩:ByteArray)]:List ByteArray)):Sl ByteArray)),(x37,obS ((some ([900,3600,3600000]:List Int)):Sl Int)),(z996,obS (w997:Sl Note)),(x1034,obS ((some ([(⟨#[119,111,114,100]⟩:ByteArray),(⟨#[97]⟩:ByteArray),(⟨#[120,45,50]⟩:ByteArray)]:List ByteArray)):Sl ByteArray))]:=O1036.merge (i:=0) rfl rfl O1042
   refine kBk hx1044 ?_
   refine kA1 (v:=AV.agg [iv c1021.1,iv (wr ((wr (c1021.1+1))+c1027.1)),sv c1038.1]) (by first | rfl | simp [kBs,kEq,kAo]) ?_
   refine kB7 (A:=Note) O1043 ([(⟨c1021.1,wr ((wr (c1021.1+1))+c1027.1),c1038.1⟩:Note)]:List Note) rfl (by first | rfl | simp [kAk,kBz]) rfl (fun x1045 h1046 O1047 => ?_)
   replace O1047:Hold B h1046 [pZ9 o_ 3 [Sl.enc c1038.2.code,iv c1038.2.pos,AV.sc (.int .u64 c1038.2.seed)],pZ9 o1 3 [kA3,kA3,kA3],(z994,obS (w995:Sl Channel)),pZ9 o21 3 [z994,z974,z996],(x27,obS ((some ([(⟨#[109,115]⟩:ByteArray),(⟨#[109,115]⟩:ByteArray),(⟨#[99,115]⟩:ByteArray),(⟨#[115]⟩:ByteArray),(⟨#[104,111,117,114]⟩:ByteArray)]:List ByteArray)):Sl ByteArray)),(x37,obS ((some ([900,3600,3600000]:List Int)):Sl Int)),(z996,obS (w997:Sl Note)),(x1034,obS ((some ([(⟨#[119,111,114,100]⟩:ByteArray),(⟨#[97]⟩:ByteArray),(⟨#[120,45,50]⟩:ByteArray)]:List ByteArray)):Sl ByteArray)),(x1045,obS ((some ([(⟨c1021.1,wr ((wr (c1021.1+1))+c1027.1),c1038.1⟩:Note)]:List Note)):Sl Note))]:=O1047
   refine kBk ⟨⟨(kEo (v:=z996) (O1026.ld 3 rfl false 1 2)),⟨(kEo (v:=z996) (O1032.ld 3 rfl false 1 2)),⟨(kEo (v:=z996) (O1036.ld 3 rfl false 1 2)),⟨(kEo (v:=z996) (O1043.ld 3 rfl false 1 2)),⟨(kEo (v:=z996) (O1047.ld 3 rfl false 1 2)),trivial⟩⟩⟩⟩⟩,trivial⟩ ?_
   refine kBw (A:=Note) (s:=w997) O1047 6 ([(⟨c1021.1,wr ((wr (c1021.1+1))+c1027.1),c1038.1⟩:Note)]:List Note) rfl (O1047.src (A:=Note) (s:=(some ([(⟨c1021.1,wr ((wr (c1021.1+1))+c1027.1),c1038.1⟩:Note)]:List Note))) 8 rfl) (by decide) (fun x1050 h1051 O1052 => ?_)
   replace O1052:Hold B h1051 [pZ9 o_ 3 [Sl.enc c1038.2.code,iv c1038.2.pos,AV.sc (.int .u64 c1038.2.seed)],pZ9 o1 3 [kA3,kA3,kA3],(z994,obS (w995:Sl Channel)),pZ9 o21 3 [z994,z974,z996],(x27,obS ((some ([(⟨#[109,115]⟩:ByteArray),(⟨#[109,115]⟩:ByteArray),(⟨#[99,115]⟩:ByteArray),(⟨#[115]⟩:ByteArray),(⟨#[104,111,117,114]⟩:ByteArray)]:List ByteArray)):Sl ByteArray)),(x37,obS ((some ([900,3600,3600000]:List Int)):Sl Int)),(x1050,obS ((kB3 w997 ([(⟨c1021.1,wr ((wr (c1021.1+1))+c1027.1),c1038.1⟩:Note)]:List Note)):Sl Note)),(x1034,obS ((some ([(⟨#[119,111,114,100]⟩:ByteArray),(⟨#[97]⟩:ByteArray),(⟨#[120,45,50]⟩:ByteArray)]:List ByteArray)):Sl ByteArray)),(x1045,obS ((some ([(⟨c1021.1,wr ((wr (c1021.1+1))+c1027.1),c1038.1⟩:Note)]:List Note)):Sl Note))]:=O1052
   have O1054:Hold B h1051 [pZ9 o_ 3 [Sl.enc c1038.2.code,iv c1038.2.pos,AV.sc (.int .u64 c1038.2.seed)],pZ9 o1 3 [kA3,kA3,kA3],(z994,obS (w995:Sl Channel)),pZ9 o21 3 [z994,z974,z996],(x27,obS ((some ([(⟨#[109,115]⟩:ByteArray),(⟨#[109,115]⟩:ByteArray),(⟨#[99,115]⟩:ByteArray),(⟨#[115]⟩:ByteArray),(⟨#[104,111,117,114]⟩:ByteArray)]:List ByteArray)):Sl ByteArray)),(x37,obS ((some ([900,3600,3600000]:List Int)):Sl Int)),(x1050,obS ((kB3 w997 ([(⟨c1021.1,wr ((wr (c1021.1+1))+c1027.1),c1038.1⟩:Note)]:List Note)):Sl Note)),(x1034,obS ((some ([(⟨#[119,111,114,100]⟩:ByteArray),(⟨#[97]⟩:ByteArray),(⟨#[120,45,50]⟩:ByteArray)]:List ByteArray)):Sl ByteArray))]:=O1052.sel [0,1,2,3,4,5,6,7] (by decide) rfl
   refine kA1 (v:=AV.ptr o21 1 0 2) rfl ?_
   have jZ0:=O1054.one (A:=Note) (s:=(kB3 w997 ([(⟨c1021.1,wr ((wr (c1021.1+1))+c1027.1),c1038.1⟩:Note)]:List Note))) 6 rfl
   refine kAj O1054 3 (cs':=[z994,z974,x1050]) rfl (by first | rfl | simp [jZ0.1,jZ0.2]) (by simp) (by first | rfl | simp [jZ0.1,jZ0.2]) (by first | rfl | simp [kAo,jZ0.1,jZ0.2]) (fun h1055 O1056 => ?_)
   replace O1056:Hold B h1055 [pZ9 o_ 3 [Sl.enc c1038.2.code,iv c1038.2.pos,AV.sc (.int .u64 c1038.2.seed)],pZ9 o1 3 [kA3,kA3,kA3],(z994,obS (w995:Sl Channel)),pZ9 o21 3 [z994,z974,x1050],(x27,obS ((some ([(⟨#[109,115]⟩:ByteArray),(⟨#[109,115]⟩:ByteArray),(⟨#[99,115]⟩:ByteArray),(⟨#[115]⟩:ByteArray),(⟨#[104,111,117,114]⟩:ByteArray)]:List ByteArray)):Sl ByteArray)),(x37,obS ((some ([900,3600,3600000]:List Int)):Sl Int)),(x1050,obS ((kB3 w997 ([(⟨c1021.1,wr ((wr (c1021.1+1))+c1027.1),c1038.1⟩:Note)]:List Note)):Sl Note)),(x1034,obS ((some ([(⟨#[119,111,114,100]⟩:ByteArray),(⟨#[97]⟩:ByteArray),(⟨#[120,45,50]⟩:ByteArray)]:List ByteArray)):Sl ByteArray))]:=O1056
   refine kBk trivial ?_
   refine kA1 (kAt _ _) ?_
   have O1057:Hold B h1055 [pZ9 o_ 3 [Sl.enc c1038.2.code,iv c1038.2.pos,AV.sc (.int .u64 c1038.2.seed)],pZ9 o1 3 [kA3,kA3,kA3],(z994,obS (w995:Sl Channel)),pZ9 o21 3 [z994,z974,x1050],(x27,obS ((some ([(⟨#[109,115]⟩:ByteArray),(⟨#[109,115]⟩:ByteArray),(⟨#[99,115]⟩:ByteArray),(⟨#[115]⟩:ByteArray),(⟨#[104,111,117,114]⟩:ByteArray)]:List ByteArray)):Sl ByteArray)),(x37,obS ((some ([900,3600,3600000]:List Int)):Sl Int)),(x1050,obS ((kB3 w997 ([(⟨c1021.1,wr ((wr (c1021.1+1))+c1027.1),c1038.1⟩:Note)]:List Note)):Sl Note))]:=O1056.sel [0,1,2,3,4,5,6] (by decide) rfl
   exact kA6 ⟨rfl,_,_,rfl,O1057⟩
  ·exact kA6 ⟨nofun,_,_,_,_,_,rfl,O999⟩
theorem tl10_q33 (env:Nat→Contract) {B:Base} (he_q24:env kEl=.pure (T2 (fun a b:Int=>max a b))) (he_q25:env kDd=.gen (kAf Try.prog kE5 kDd)) (he_q27:env kCf=.gen (kAf Try.prog kE7 kCf)) (he_q28:env kB1=.gen (kAf Try.prog kC8 kB1)) (he_q29:env kCd=.gen (kAf Try.prog kCz kCd)) (o_:Nat) (o1:Nat) (c5:Int×l00Src) (c11:Int×l00Src) (x17:AV) (o21:Nat) (x27:AV) (c31:ByteArray×l00Src) (x37:AV) (c41:Int×l00Src) (x47:AV) (x52:AV) (c59:Bool×l00Src) (c645:Bool×l00Src) (c935:Int×l00Src) (c941:Int×l00Src) (z954:AV) (w955:Sl Channel) (z956:AV) (z960:AV) (w961:Sl Note) (w965:Int) (o1062:Nat) (c1068:Int×l00Src) :kGr (fun (st:(Sl UInt8)×Int×Int×(Sl (Sl Int))×Int×Int) tm h1083=>match st with | (w1076,w1077,w1078,w1080,w1085,w1086)=>∃ z1079,∃ ps1081:PS (Sl Int),tm=((AV.ptr o_ 1 0 0)::und::(AV.ptr o1 1 0 0)::(AV.ptr o21 1 0 0)::(sv c31.1)::(iv w1085)::(iv w965)::(AV.ptr o1062 1 0 0)::(iv w1086)::.top::und::und::und::(AV.ptr o_ 1 0 0)::(iv c5.1)::(iv (wr (c5.1 - 4)))::(AV.ptr o_ 1 0 0)::(iv c11.1)::(iv (wr (100+c11.1)))::(AV.agg [sv (⟨#[120]⟩:ByteArray),sv (⟨#[109,109]⟩:ByteArray),iv (wr (c5.1 - 4)),iv (wr (100+c11.1))])::(AV.agg [sv (⟨#[121]⟩:ByteArray),sv (⟨#[109,109]⟩:ByteArray),iv (-50),iv 90])::x17::(AV.agg [x17,kA3,kA3])::(AV.ptr o_ 1 0 0)::x27::(sv c31.1)::(AV.ptr o21 1 0 0)::x17::(sv c31.1)::(AV.ptr o_ 1 0 0)::x37::(iv c41.1)::(AV.agg [sv (⟨#[116]⟩:ByteArray),sv c31.1,iv 0,iv c41.1])::x47::x52::(AV.ptr o21 1 0 0)::(AV.ptr o_ 1 0 0)::(bv c59.1)::und::und::und::und::und::und::(AV.ptr o_ 1 0 0)::(bv c645.1)::und::und::und::und::(AV.ptr o_ 1 0 0)::(iv c935.1)::(AV.ptr o_ 1 0 0)::(iv c941.1)::(iv w965)::(bv (decide (0<w965)))::.top::.top::(AV.agg [kA3])::(AV.ptr o_ 1 0 0)::(iv c1068.1)::(iv (wr (1+c1068.1)))::tZ9 37 [.top,.top,.top,.top,.top,.top,und,und,und,und,und,und,und,und,und,und,und,und,und,und,und,und,und,und,und,und,und,und,und,und,und,und,und,und,und,und,und,und,und,und,und])∧pj ps1081=w1080∧Hold B h1083 ([pZ9 o_ 3 [Sl.enc w1076,iv w1077,AV.sc (.int .u64 w1078)],pZ9 o1 3 [kA3,kA3,kA3],(z954,obS (w955:Sl Channel)),pZ9 o21 3 [z954,z956,z960],(x27,obS ((some ([(⟨#[109,115]⟩:ByteArray),(⟨#[109,115]⟩:ByteArray),(⟨#[99,115]⟩:ByteArray),(⟨#[115]⟩:ByteArray),(⟨#[104,111,117,114]⟩:ByteArray)]:List ByteArray)):Sl ByteArray)),(x37,obS ((some ([900,3600,3600000]:List Int)):Sl Int)),(z960,obS (w961:Sl Note)),pZ9 o1062 1 [z1079]]++D2 (A:=(Sl Int)) z1079 ps1081)) hm10_q33 xm10_q33 (lb10_q33 env) (s10_q33 w955) (fun (q:(Sl UInt8)×Int×Int×(Sl (Sl Int))×Int) (r:Res)=>match q with | (q1089,q1090,q1091,q1093,q1096)=>∃ (q1097:Int) (z1092:AV) (z1098:AV) (ps1094:PS (Sl Int)) (h1087:kA7),r=(.exit 2,((AV.ptr o_ 1 0 0)::und::(AV.ptr o1 1 0 0)::(AV.ptr o21 1 0 0)::(sv c31.1)::(iv q1096)::(iv w965)::(AV.ptr o1062 1 0 0)::(iv q1097)::z1098::und::und::und::(AV.ptr o_ 1 0 0)::(iv c5.1)::(iv (wr (c5.1 - 4)))::(AV.ptr o_ 1 0 0)::(iv c11.1)::(iv (wr (100+c11.1)))::(AV.agg [sv (⟨#[120]⟩:ByteArray),sv (⟨#[109,109]⟩:ByteArray),iv (wr (c5.1 - 4)),iv (wr (100+c11.1))])::(AV.agg [sv (⟨#[121]⟩:ByteArray),sv (⟨#[109,109]⟩:ByteArray),iv (-50),iv 90])::x17::(AV.agg [x17,kA3,kA3])::(AV.ptr o_ 1 0 0)::x27::(sv c31.1)::(AV.ptr o21 1 0 0)::x17::(sv c31.1)::(AV.ptr o_ 1 0 0)::x37::(iv c41.1)::(AV.agg [sv (⟨#[116]⟩:ByteArray),sv c31.1,iv 0,iv c41.1])::x47::x52::(AV.ptr o21 1 0 0)::(AV.ptr o_ 1 0 0)::(bv c59.1)::und::und::und::und::und::und::(AV.ptr o_ 1 0 0)::(bv c645.1)::und::und::und::und::(AV.ptr o_ 1 0 0)::(iv c935.1)::(AV.ptr o_ 1 0 0)::(iv c941.1)::(iv w965)::(bv (decide (0<w965)))::.top::.top::(AV.agg [kA3])::(AV.ptr o_ 1 0 0)::(iv c1068.1)::(iv (wr (1+c1068.1)))::tZ9 37 [.top,.top,.top,.top,.top,.top,und,und,und,und,und,und,und,und,und,und,und,und,und,und,und,und,und,und,und,und,und,und,und,und,und,und,und,und,und,und,und,und,und,und,und]),h1087)∧pj ps1094=q1093∧Hold B h1087 ([pZ9 o_ 3 [Sl.enc q1089,iv q1090,AV.sc (.int .u64 q1091)],pZ9 o1 3 [kA3,kA3,kA3],(z954,obS (w955:Sl Channel)),pZ9 o21 3 [z954,z956,z960],(x27,obS ((some ([(⟨#[109,115]⟩:ByteArray),(⟨#[109,115]⟩:ByteArray),(⟨#[99,115]⟩:ByteArray),(⟨#[115]⟩:ByteArray),(⟨#[104,111,117,114]⟩:ByteArray)]:List ByteArray)):Sl ByteArray)),(x37,obS ((some ([900,3600,3600000]:List Int)):Sl Int)),(z960,obS (w961:Sl Note)),pZ9 o1062 1 [z1092]]++D2 (A:=(Sl Int)) z1092 ps1094)):=by
 refine @kH3 _ _ _ _ _ _ _ _ (fun st tm h1083 R => ?_)
 obtain ⟨w1076,w1077,w1078,w1080,w1085,w1086⟩:=st
 obtain ⟨z1079,ps1081,rfl,hp1082,O1084⟩:=R
 rw [e_lb10_q33]
 unfold s10_q33
 dsimp only
 refine kA1 (kBd _ _) ?_
 refine kAa (fun c1112 => ?_) (fun c1112 => ?_)
 ·refine kAq he_q28 (kBj (⟨w1076,w1077,w1078⟩:l00Src) 80 (O1084.start (i:=0) rfl rfl)) (fun c1113 v1114 h1115 hq1116 => ?_)
  obtain ⟨e_v1114,O1117⟩:=hq1116
  dsimp only at e_v1114
  subst v1114
  have O1118:Hold B h1115 ([pZ9 o_ 3 [Sl.enc c1113.2.code,iv c1113.2.pos,AV.sc (.int .u64 c1113.2.seed)],pZ9 o1 3 [kA3,kA3,kA3],(z954,obS (w955:Sl Channel)),pZ9 o21 3 [z954,z956,z960],(x27,obS ((some ([(⟨#[109,115]⟩:ByteArray),(⟨#[109,115]⟩:ByteArray),(⟨#[99,115]⟩:ByteArray),(⟨#[115]⟩:ByteArray),(⟨#[104,111,117,114]⟩:ByteArray)]:List ByteArray)):Sl ByteArray)),(x37,obS ((some ([900,3600,3600000]:List Int)):Sl Int)),(z960,obS (w961:Sl Note)),pZ9 o1062 1 [z1079]]++D2 (A:=(Sl Int)) z1079 ps1081):=Hold.rot (l:=[pZ9 o_ 3 [Sl.enc c1113.2.code,iv c1113.2.pos,AV.sc (.int .u64 c1113.2.seed)],pZ9 o1 3 [kA3,kA3,kA3],(z954,obS (w955:Sl Channel)),pZ9 o21 3 [z954,z956,z960],(x27,obS ((some ([(⟨#[109,115]⟩:ByteArray),(⟨#[109,115]⟩:ByteArray),(⟨#[99,115]⟩:ByteArray),(⟨#[115]⟩:ByteArray),(⟨#[104,111,117,114]⟩:ByteArray)]:List ByteArray)):Sl ByteArray)),(x37,obS ((some ([900,3600,3600000]:List Int)):Sl Int)),(z960,obS (w961:Sl Note)),pZ9 o1062 1 [z1079]]) (d:=D2 (A:=(Sl Int)) z1079 ps1081) (n:=[]) (O1084.merge (i:=0) rfl rfl O1117)
  refine kA1 (kAg _ _) ?_
  refine kAq he_q28 (kBj c1113.2 120 (O1118.start (i:=0) rfl rfl)) (fun c1119 v1120 h1121 hq1122 => ?_)
  obtain ⟨e_v1120,O1123⟩:=hq1122
  dsimp only at e_v1120
  subst v1120
  have O1124:Hold B h1121 ([pZ9 o_ 3 [Sl.enc c1119.2.code,iv c1119.2.pos,AV.sc (.int .u64 c1119.2.seed)],pZ9 o1 3 [kA3,kA3,kA3],(z954,obS (w955:Sl Channel)),pZ9 o21 3 [z954,z956,z960],(x27,obS ((some ([(⟨#[109,115]⟩:ByteArray),(⟨#[109,115]⟩:ByteArray),(⟨#[99,115]⟩:ByteArray),(⟨#[115]⟩:ByteArray),(⟨#[104,111,117,114]⟩:ByteArray)]:List ByteArray)):Sl ByteArray)),(x37,obS ((some ([900,3600,3600000]:List Int)):Sl Int)),(z960,obS (w961:Sl Note)),pZ9 o1062 1 [z1079]]++D2 (A:=(Sl Int)) z1079 ps1081):=Hold.rot (l:=[pZ9 o_ 3 [Sl.enc c1119.2.code,iv c1119.2.pos,AV.sc (.int .u64 c1119.2.seed)],pZ9 o1 3 [kA3,kA3,kA3],(z954,obS (w955:Sl Channel)),pZ9 o21 3 [z954,z956,z960],(x27,obS ((some ([(⟨#[109,115]⟩:ByteArray),(⟨#[109,115]⟩:ByteArray),(⟨#[99,115]⟩:ByteArray),(⟨#[115]⟩:ByteArray),(⟨#[104,111,117,114]⟩:ByteArray)]:List ByteArray)):Sl ByteArray)),(x37,obS ((some ([900,3600,3600000]:List Int)):Sl Int)),(z960,obS (w961:Sl Note)),pZ9 o1062 1 [z1079]]) (d:=D2 (A:=(Sl Int)) z1079 ps1081) (n:=[]) (O1118.merge (i:=0) rfl rfl O1123)
  refine kA1 (kAt _ _) ?_
  refine kB7 (A:=Int) O1124 ([wr (5+c1113.1),wr (c1119.1 - 40),w1085]:List Int) rfl (by first | rfl | simp [kAk,kBz]) rfl (fun x1125 h1126 O1127 => ?_)
  replace O1127:Hold B h1126 ([pZ9 o_ 3 [Sl.enc c1119.2.code,iv c1119.2.pos,AV.sc (.int .u64 c1119.2.seed)],pZ9 o1 3 [kA3,kA3,kA3],(z954,obS (w955:Sl Channel)),pZ9 o21 3 [z954,z956,z960],(x27,obS ((some ([(⟨#[109,115]⟩:ByteArray),(⟨#[109,115]⟩:ByteArray),(⟨#[99,115]⟩:ByteArray),(⟨#[115]⟩:ByteArray),(⟨#[104,111,117,114]⟩:ByteArray)]:List ByteArray)):Sl ByteArray)),(x37,obS ((some ([900,3600,3600000]:List Int)):Sl Int)),(z960,obS (w961:Sl Note)),pZ9 o1062 1 [z1079],(x1125,obS ((some ([wr (5+c1113.1),wr (c1119.1 - 40),w1085]:List Int)):Sl Int))]++D2 (A:=(Sl Int)) z1079 ps1081):=Hold.rot O1127
  refine kA1 (v:=AV.ptr o21 1 0 0) rfl ?_
  refine kA1 (v:=z954) (O1127.ld 3 rfl false 1 0) ?_
  refine kA1 (v:=iv (((w955.getD []).length:Nat):Int)) (O1127.tab (A:=Channel) (s:=w955) 2 rfl).len ?_
  refine kA1 (kBd _ _) ?_
  refine kAa (fun c1129 => ?_) (fun c1129 => ?_)
  ·refine kAq he_q28 (kBj c1119.2 256 (O1127.start (i:=0) rfl rfl)) (fun c1130 v1131 h1132 hq1133 => ?_)
   obtain ⟨e_v1131,O1134⟩:=hq1133
   dsimp only at e_v1131
   subst v1131
   have O1135:Hold B h1132 ([pZ9 o_ 3 [Sl.enc c1130.2.code,iv c1130.2.pos,AV.sc (.int .u64 c1130.2.seed)],pZ9 o1 3 [kA3,kA3,kA3],(z954,obS (w955:Sl Channel)),pZ9 o21 3 [z954,z956,z960],(x27,obS ((some ([(⟨#[109,115]⟩:ByteArray),(⟨#[109,115]⟩:ByteArray),(⟨#[99,115]⟩:ByteArray),(⟨#[115]⟩:ByteArray),(⟨#[104,111,117,114]⟩:ByteArray)]:List ByteArray)):Sl ByteArray)),(x37,obS ((some ([900,3600,3600000]:List Int)):Sl Int)),(z960,obS (w961:Sl Note)),pZ9 o1062 1 [z1079],(x1125,obS ((some ([wr (5+c1113.1),wr (c1119.1 - 40),w1085]:List Int)):Sl Int))]++D2 (A:=(Sl Int)) z1079 ps1081):=Hold.rot (l:=[pZ9 o_ 3 [Sl.enc c1130.2.code,iv c1130.2.pos,AV.sc (.int .u64 c1130.2.seed)],pZ9 o1 3 [kA3,kA3,kA3],(z954,obS (w955:Sl Channel)),pZ9 o21 3 [z954,z956,z960],(x27,obS ((some ([(⟨#[109,115]⟩:ByteArray),(⟨#[109,115]⟩:ByteArray),(⟨#[99,115]⟩:ByteArray),(⟨#[115]⟩:ByteArray),(⟨#[104,111,117,114]⟩:ByteArray)]:List ByteArray)):Sl ByteArray)),(x37,obS ((some ([900,3600,3600000]:List Int)):Sl Int)),(z960,obS (w961:Sl Note)),pZ9 o1062 1 [z1079],(x1125,obS ((some ([wr (5+c1113.1),wr (c1119.1 - 40),w1085]:List Int)):Sl Int))]) (d:=D2 (A:=(Sl Int)) z1079 ps1081) (n:=[]) (O1127.merge (i:=0) rfl rfl O1134)
   refine kB7 (A:=Int) O1135 ([c1130.1]:List Int) rfl (by first | rfl | simp [kAk,kBz]) rfl (fun x1136 h1137 O1138 => ?_)
   replace O1138:Hold B h1137 ([pZ9 o_ 3 [Sl.enc c1130.2.code,iv c1130.2.pos,AV.sc (.int .u64 c1130.2.seed)],pZ9 o1 3 [kA3,kA3,kA3],(z954,obS (w955:Sl Channel)),pZ9 o21 3 [z954,z956,z960],(x27,obS ((some ([(⟨#[109,115]⟩:ByteArray),(⟨#[109,115]⟩:ByteArray),(⟨#[99,115]⟩:ByteArray),(⟨#[115]⟩:ByteArray),(⟨#[104,111,117,114]⟩:ByteArray)]:List ByteArray)):Sl ByteArray)),(x37,obS ((some ([900,3600,3600000]:List Int)):Sl Int)),(z960,obS (w961:Sl Note)),pZ9 o1062 1 [z1079],(x1125,obS ((some ([wr (5+c1113.1),wr (c1119.1 - 40),w1085]:List Int)):Sl Int)),(x1136,obS ((some ([c1130.1]:List Int)):Sl Int))]++D2 (A:=(Sl Int)) z1079 ps1081):=Hold.rot O1138
   refine kBw (A:=Int) (s:=(some ([wr (5+c1113.1),wr (c1119.1 - 40),w1085]:List Int))) O1138 8 ([c1130.1]:List Int) rfl (O1138.src (A:=Int) (s:=(some ([c1130.1]:List Int))) 9 rfl) (by decide) (fun x1141 h1142 O1143 => ?_)
   replace O1143:Hold B h1142 ([pZ9 o_ 3 [Sl.enc c1130.2.code,iv c1130.2.pos,AV.sc (.int .u64 c1130.2.seed)],pZ9 o1 3 [kA3,kA3,kA3],(z954,obS (w955:Sl Channel)),pZ9 o21 3 [z954,z956,z960],(x27,obS ((some ([(⟨#[109,115]⟩:ByteArray),(⟨#[109,115]⟩:ByteArray),(⟨#[99,115]⟩:ByteArray),(⟨#[115]⟩:ByteArray),(⟨#[104,111,117,114]⟩:ByteArray)]:List ByteArray)):Sl ByteArray)),(x37,obS ((some ([900,3600,3600000]:List Int)):Sl Int)),(z960,obS (w961:Sl Note)),pZ9 o1062 1 [z1079],(x1141,obS ((kB3 (some ([wr (5+c1113.1),wr (c1119.1 - 40),w1085]:List Int)) ([c1130.1]:List Int)):Sl Int)),(x1136,obS ((some ([c1130.1]:List Int)):Sl Int))]++D2 (A:=(Sl Int)) z1079 ps1081):=O1143
   have O1145:Hold B h1142 ([pZ9 o_ 3 [Sl.enc c1130.2.code,iv c1130.2.pos,AV.sc (.int .u64 c1130.2.seed)],pZ9 o1 3 [kA3,kA3,kA3],(z954,obS (w955:Sl Channel)),pZ9 o21 3 [z954,z956,z960],(x27,obS ((some ([(⟨#[109,115]⟩:ByteArray),(⟨#[109,115]⟩:ByteArray),(⟨#[99,115]⟩:ByteArray),(⟨#[115]⟩:ByteArray),(⟨#[104,111,117,114]⟩:ByteArray)]:List ByteArray)):Sl ByteArray)),(x37,obS ((some ([900,3600,3600000]:List Int)):Sl Int)),(z960,obS (w961:Sl Note)),pZ9 o1062 1 [z1079],(x1141,obS ((kB3 (some ([wr (5+c1113.1),wr (c1119.1 - 40),w1085]:List Int)) ([c1130.1]:List Int)):Sl Int))]++D2 (A:=(Sl Int)) z1079 ps1081):=O1143.selD [0,1,2,3,4,5,6,7,8] (by decide) rfl
   refine kA1 (v:=AV.ptr o1062 1 0 0) rfl ?_
   refine kA1 (v:=z1079) (O1145.ld 7 rfl false 1 0) ?_
   have jZ0:=O1145.one (A:=Int) (s:=(kB3 (some ([wr (5+c1113.1),wr (c1119.1 - 40),w1085]:List Int)) ([c1130.1]:List Int))) 8 rfl
   refine kBn O1145 [[x1141]] 1 rfl (by first | rfl | simp [kAk,kBz,jZ0.1,jZ0.2]) rfl (fun x1146 h1147 O1148 => ?_)
   replace O1148:Hold B h1147 ([pZ9 o_ 3 [Sl.enc c1130.2.code,iv c1130.2.pos,AV.sc (.int .u64 c1130.2.seed)],pZ9 o1 3 [kA3,kA3,kA3],(z954,obS (w955:Sl Channel)),pZ9 o21 3 [z954,z956,z960],(x27,obS ((some ([(⟨#[109,115]⟩:ByteArray),(⟨#[109,115]⟩:ByteArray),(⟨#[99,115]⟩:ByteArray),(⟨#[115]⟩:ByteArray),(⟨#[104,111,117,114]⟩:ByteArray)]:List ByteArray)):Sl ByteArray)),(x37,obS ((some ([900,3600,3600000]:List Int)):Sl Int)),(z960,obS (w961:Sl Note)),pZ9 o1062 1 [z1079],(x1141,obS ((kB3 (some ([wr (5+c1113.1),wr (c1119.1 - 40),w1085]:List Int)) ([c1130.1]:List Int)):Sl Int)),(x1146,.sl 1 [[x1141]])]++D2 (A:=(Sl Int)) z1079 ps1081):=Hold.rot O1148
   have O1150:Hold B h1147 ([pZ9 o_ 3 [Sl.enc c1130.2.code,iv c1130.2.pos,AV.sc (.int .u64 c1130.2.seed)],pZ9 o1 3 [kA3,kA3,kA3],(z954,obS (w955:Sl Channel)),pZ9 o21 3 [z954,z956,z960],(x27,obS ((some ([(⟨#[109,115]⟩:ByteArray),(⟨#[109,115]⟩:ByteArray),(⟨#[99,115]⟩:ByteArray),(⟨#[115]⟩:ByteArray),(⟨#[104,111,117,114]⟩:ByteArray)]:List ByteArray)):Sl ByteArray)),(x37,obS ((some ([900,3600,3600000]:List Int)):Sl Int)),(z960,obS (w961:Sl Note)),pZ9 o1062 1 [z1079],(x1141,obS ((kB3 (some ([wr (5+c1113.1),wr (c1119.1 - 40),w1085]:List Int)) ([c1130.1]:List Int)):Sl Int)),(x1146,.sl 1 [[x1141]])]++D2 (A:=(Sl Int)) z1079 ps1081):=O1148.selD [0,1,2,3,4,5,6,7,8,9] (by decide) rfl
   refine kEs (l:=[pZ9 o_ 3 [Sl.enc c1130.2.code,iv c1130.2.pos,AV.sc (.int .u64 c1130.2.seed)],pZ9 o1 3 [kA3,kA3,kA3],(z954,obS (w955:Sl Channel)),pZ9 o21 3 [z954,z956,z960],(x27,obS ((some ([(⟨#[109,115]⟩:ByteArray),(⟨#[109,115]⟩:ByteArray),(⟨#[99,115]⟩:ByteArray),(⟨#[115]⟩:ByteArray),(⟨#[104,111,117,114]⟩:ByteArray)]:List ByteArray)):Sl ByteArray)),(x37,obS ((some ([900,3600,3600000]:List Int)):Sl Int)),(z960,obS (w961:Sl Note)),pZ9 o1062 1 [z1079]]) (a:=(kB3 (some ([wr (5+c1113.1),wr (c1119.1 - 40),w1085]:List Int)) ([c1130.1]:List Int))) (y:=x1141) (x:=z1079) (ps:=ps1081) O1150 hp1082 (by decide) (fun x1151 ps1154 h1152 hp1155 hm1156 O1153 => ?_)
   refine kA1 (v:=AV.ptr o1062 1 0 0) rfl ?_
   have jZ0:=D2.oneX (l:=[pZ9 o_ 3 [Sl.enc c1130.2.code,iv c1130.2.pos,AV.sc (.int .u64 c1130.2.seed)],pZ9 o1 3 [kA3,kA3,kA3],(z954,obS (w955:Sl Channel)),pZ9 o21 3 [z954,z956,z960],(x27,obS ((some ([(⟨#[109,115]⟩:ByteArray),(⟨#[109,115]⟩:ByteArray),(⟨#[99,115]⟩:ByteArray),(⟨#[115]⟩:ByteArray),(⟨#[104,111,117,114]⟩:ByteArray)]:List ByteArray)):Sl ByteArray)),(x37,obS ((some ([900,3600,3600000]:List Int)):Sl Int)),(z960,obS (w961:Sl Note)),pZ9 o1062 1 [z1079]]) (x:=x1151) (ps:=ps1154) (A:=(Sl Int)) O1153
   refine kAj O1153 7 (cs':=[x1151]) rfl (by first | rfl | simp [jZ0.1,jZ0.2]) (by simp) (by first | rfl | simp [jZ0.1,jZ0.2]) (by first | rfl | simp [kAo,jZ0.1,jZ0.2]) (fun h1158 O1159 => ?_)
   replace O1159:Hold B h1158 ([pZ9 o_ 3 [Sl.enc c1130.2.code,iv c1130.2.pos,AV.sc (.int .u64 c1130.2.seed)],pZ9 o1 3 [kA3,kA3,kA3],(z954,obS (w955:Sl Channel)),pZ9 o21 3 [z954,z956,z960],(x27,obS ((some ([(⟨#[109,115]⟩:ByteArray),(⟨#[109,115]⟩:ByteArray),(⟨#[99,115]⟩:ByteArray),(⟨#[115]⟩:ByteArray),(⟨#[104,111,117,114]⟩:ByteArray)]:List ByteArray)):Sl ByteArray)),(x37,obS ((some ([900,3600,3600000]:List Int)):Sl Int)),(z960,obS (w961:Sl Note)),pZ9 o1062 1 [x1151]]++D2 (A:=(Sl Int)) x1151 ps1154):=O1159
   refine kAq he_q28 (kBj c1130.2 9 (O1159.start (i:=0) rfl rfl)) (fun c1160 v1161 h1162 hq1163 => ?_)
   obtain ⟨e_v1161,O1164⟩:=hq1163
   dsimp only at e_v1161
   subst v1161
   have O1165:Hold B h1162 ([pZ9 o_ 3 [Sl.enc c1160.2.code,iv c1160.2.pos,AV.sc (.int .u64 c1160.2.seed)],pZ9 o1 3 [kA3,kA3,kA3],(z954,obS (w955:Sl Channel)),pZ9 o21 3 [z954,z956,z960],(x27,obS ((some ([(⟨#[109,115]⟩:ByteArray),(⟨#[109,115]⟩:ByteArray),(⟨#[99,115]⟩:ByteArray),(⟨#[115]⟩:ByteArray),(⟨#[104,111,117,114]⟩:ByteArray)]:List ByteArray)):Sl ByteArray)),(x37,obS ((some ([900,3600,3600000]:List Int)):Sl Int)),(z960,obS (w961:Sl Note)),pZ9 o1062 1 [x1151]]++D2 (A:=(Sl Int)) x1151 ps1154):=Hold.rot (l:=[pZ9 o_ 3 [Sl.enc c1160.2.code,iv c1160.2.pos,AV.sc (.int .u64 c1160.2.seed)],pZ9 o1 3 [kA3,kA3,kA3],(z954,obS (w955:Sl Channel)),pZ9 o21 3 [z954,z956,z960],(x27,obS ((some ([(⟨#[109,115]⟩:ByteArray),(⟨#[109,115]⟩:ByteArray),(⟨#[99,115]⟩:ByteArray),(⟨#[115]⟩:ByteArray),(⟨#[104,111,117,114]⟩:ByteArray)]:List ByteArray)):Sl ByteArray)),(x37,obS ((some ([900,3600,3600000]:List Int)):Sl Int)),(z960,obS (w961:Sl Note)),pZ9 o1062 1 [x1151]]) (d:=D2 (A:=(Sl Int)) x1151 ps1154) (n:=[]) (O1159.merge (i:=0) rfl rfl O1164)
   refine kA1 (kAg _ _) ?_
   refine kA1 (kAg _ _) ?_
   refine kAq he_q27 (kGc c1160.2 30 (O1165.start (i:=0) rfl rfl)) (fun c1166 v1167 h1168 hq1169 => ?_)
   obtain ⟨e_v1167,O1170⟩:=hq1169
   dsimp only at e_v1167
   subst v1167
   have O1171:Hold B h1168 ([pZ9 o_ 3 [Sl.enc c1166.2.code,iv c1166.2.pos,AV.sc (.int .u64 c1166.2.seed)],pZ9 o1 3 [kA3,kA3,kA3],(z954,obS (w955:Sl Channel)),pZ9 o21 3 [z954,z956,z960],(x27,obS ((some ([(⟨#[109,115]⟩:ByteArray),(⟨#[109,115]⟩:ByteArray),(⟨#[99,115]⟩:ByteArray),(⟨#[115]⟩:ByteArray),(⟨#[104,111,117,114]⟩:ByteArray)]:List ByteArray)):Sl ByteArray)),(x37,obS ((some ([900,3600,3600000]:List Int)):Sl Int)),(z960,obS (w961:Sl Note)),pZ9 o1062 1 [x1151]]++D2 (A:=(Sl Int)) x1151 ps1154):=Hold.rot (l:=[pZ9 o_ 3 [Sl.enc c1166.2.code,iv c1166.2.pos,AV.sc (.int .u64 c1166.2.seed)],pZ9 o1 3 [kA3,kA3,kA3],(z954,obS (w955:Sl Channel)),pZ9 o21 3 [z954,z956,z960],(x27,obS ((some ([(⟨#[109,115]⟩:ByteArray),(⟨#[109,115]⟩:ByteArray),(⟨#[99,115]⟩:ByteArray),(⟨#[115]⟩:ByteArray),(⟨#[104,111,117,114]⟩:ByteArray)]:List ByteArray)):Sl ByteArray)),(x37,obS ((some ([900,3600,3600000]:List Int)):Sl Int)),(z960,obS (w961:Sl Note)),pZ9 o1062 1 [x1151]]) (d:=D2 (A:=(Sl Int)) x1151 ps1154) (n:=[]) (O1165.merge (i:=0) rfl rfl O1170)
   refine kAa (fun c1172 => ?_) (fun c1172 => ?_)
   ·refine kA1 (kAt _ _) ?_
    refine kDn (t:=(fun a b:Int=>max a b)) he_q24 (kAe _ _) (kAe _ _) (fun c1173 => ?_)
    refine kA1 (kAt _ _) ?_
    exact kA6 ⟨rfl,_,_,rfl,hp1155,O1171⟩
   ·refine kA1 (kAt _ _) ?_
    exact kA6 ⟨rfl,_,_,rfl,hp1155,O1171⟩
  ·refine kA1 (v:=AV.ptr o1062 1 0 0) rfl ?_
   refine kA1 (v:=z1079) (O1127.ld 7 rfl false 1 0) ?_
   have jZ0:=O1127.one (A:=Int) (s:=(some ([wr (5+c1113.1),wr (c1119.1 - 40),w1085]:List Int))) 8 rfl
   refine kBn O1127 [[x1125]] 1 rfl (by first | rfl | simp [kAk,kBz,jZ0.1,jZ0.2]) rfl (fun x1176 h1177 O1178 => ?_)
   replace O1178:Hold B h1177 ([pZ9 o_ 3 [Sl.enc c1119.2.code,iv c1119.2.pos,AV.sc (.int .u64 c1119.2.seed)],pZ9 o1 3 [kA3,kA3,kA3],(z954,obS (w955:Sl Channel)),pZ9 o21 3 [z954,z956,z960],(x27,obS ((some ([(⟨#[109,115]⟩:ByteArray),(⟨#[109,115]⟩:ByteArray),(⟨#[99,115]⟩:ByteArray),(⟨#[115]⟩:ByteArray),(⟨#[104,111,117,114]⟩:ByteArray)]:List ByteArray)):Sl ByteArray)),(x37,obS ((some ([900,3600,3600000]:List Int)):Sl Int)),(z960,obS (w961:Sl Note)),pZ9 o1062 1 [z1079],(x1125,obS ((some ([wr (5+c1113.1),wr (c1119.1 - 40),w1085]:List Int)):Sl Int)),(x1176,.sl 1 [[x1125]])]++D2 (A:=(Sl Int)) z1079 ps1081):=Hold.rot O1178
   have O1180:Hold B h1177 ([pZ9 o_ 3 [Sl.enc c1119.2.code,iv c1119.2.pos,AV.sc (.int .u64 c1119.2.seed)],pZ9 o1 3 [kA3,kA3,kA3],(z954,obS (w955:Sl Channel)),pZ9 o21 3 [z954,z956,z960],(x27,obS ((some ([(⟨#[109,115]⟩:ByteArray),(⟨#[109,115]⟩:ByteArray),(⟨#[99,115]⟩:ByteArray),(⟨#[115]⟩:ByteArray),(⟨#[104,111,117,114]⟩:ByteArray)]:List ByteArray)):Sl ByteArray)),(x37,obS ((some ([900,3600,3600000]:List Int)):Sl Int)),(z960,obS (w961:Sl Note)),pZ9 o1062 1 [z1079],(x1125,obS ((some ([wr (5+c1113.1),wr (c1119.1 - 40),w1085]:List Int)):Sl Int)),(x1176,.sl 1 [[x1125]])]++D2 (A:=(Sl Int)) z1079 ps1081):=O1178.selD [0,1,2,3,4,5,6,7,8,9] (by decide) rfl
   refine kEs (l:=[pZ9 o_ 3 [Sl.enc c1119.2.code,iv c1119.2.pos,AV.sc (.int .u64 c1119.2.seed)],pZ9 o1 3 [kA3,kA3,kA3],(z954,obS (w955:Sl Channel)),pZ9 o21 3 [z954,z956,z960],(x27,obS ((some ([(⟨#[109,115]⟩:ByteArray),(⟨#[109,115]⟩:ByteArray),(⟨#[99,115]⟩:ByteArray),(⟨#[115]⟩:ByteArray),(⟨#[104,111,117,114]⟩:ByteArray)]:List ByteArray)):Sl ByteArray)),(x37,obS ((some ([900,3600,3600000]:List Int)):Sl Int)),(z960,obS (w961:Sl Note)),pZ9 o1062 1 [z1079]]) (a:=(some ([wr (5+c1113.1),wr (c1119.1 - 40),w1085]:List Int))) (y:=x1125) (x:=z1079) (ps:=ps1081) O1180 hp1082 (by decide) (fun x1181 ps1184 h1182 hp1185 hm1186 O1183 => ?_)
   refine kA1 (v:=AV.ptr o1062 1 0 0) rfl ?_
   have jZ0:=D2.oneX (l:=[pZ9 o_ 3 [Sl.enc c1119.2.code,iv c1119.2.pos,AV.sc (.int .u64 c1119.2.seed)],pZ9 o1 3 [kA3,kA3,kA3],(z954,obS (w955:Sl Channel)),pZ9 o21 3 [z954,z956,z960],(x27,obS ((some ([(⟨#[109,115]⟩:ByteArray),(⟨#[109,115]⟩:ByteArray),(⟨#[99,115]⟩:ByteArray),(⟨#[115]⟩:ByteArray),(⟨#[104,111,117,114]⟩:ByteArray)]:List ByteArray)):Sl ByteArray)),(x37,obS ((some ([900,3600,3600000]:List Int)):Sl Int)),(z960,obS (w961:Sl Note)),pZ9 o1062 1 [z1079]]) (x:=x1181) (ps:=ps1184) (A:=(Sl Int)) O1183
   refine kAj O1183 7 (cs':=[x1181]) rfl (by first | rfl | simp [jZ0.1,jZ0.2]) (by simp) (by first | rfl | simp [jZ0.1,jZ0.2]) (by first | rfl | simp [kAo,jZ0.1,jZ0.2]) (fun h1188 O1189 => ?_)
   replace O1189:Hold B h1188 ([pZ9 o_ 3 [Sl.enc c1119.2.code,iv c1119.2.pos,AV.sc (.int .u64 c1119.2.seed)],pZ9 o1 3 [kA3,kA3,kA3],(z954,obS (w955:Sl Channel)),pZ9 o21 3 [z954,z956,z960],(x27,obS ((some ([(⟨#[109,115]⟩:ByteArray),(⟨#[109,115]⟩:ByteArray),(⟨#[99,115]⟩:ByteArray),(⟨#[115]⟩:ByteArray),(⟨#[104,111,117,114]⟩:ByteArray)]:List ByteArray)):Sl ByteArray)),(x37,obS ((some ([900,3600,3600000]:List Int)):Sl Int)),(z960,obS (w961:Sl Note)),pZ9 o1062 1 [x1181]]++D2 (A:=(Sl Int)) x1181 ps1184):=O1189
   refine kAq he_q28 (kBj c1119.2 9 (O1189.start (i:=0) rfl rfl)) (fun c1190 v1191 h1192 hq1193 => ?_)
   obtain ⟨e_v1191,O1194⟩:=hq1193
   dsimp only at e_v1191
   subst v1191
   have O1195:Hold B h1192 ([pZ9 o_ 3 [Sl.enc c1190.2.code,iv c1190.2.pos,AV.sc (.int .u64 c1190.2.seed)],pZ9 o1 3 [kA3,kA3,kA3],(z954,obS (w955:Sl Channel)),pZ9 o21 3 [z954,z956,z960],(x27,obS ((some ([(⟨#[109,115]⟩:ByteArray),(⟨#[109,115]⟩:ByteArray),(⟨#[99,115]⟩:ByteArray),(⟨#[115]⟩:ByteArray),(⟨#[104,111,117,114]⟩:ByteArray)]:List ByteArray)):Sl ByteArray)),(x37,obS ((some ([900,3600,3600000]:List Int)):Sl Int)),(z960,obS (w961:Sl Note)),pZ9 o1062 1 [x1181]]++D2 (A:=(Sl Int)) x1181 ps1184):=Hold.rot (l:=[pZ9 o_ 3 [Sl.enc c1190.2.code,iv c1190.2.pos,AV.sc (.int .u64 c1190.2.seed)],pZ9 o1 3 [kA3,kA3,kA3],(z954,obS (w955:Sl Channel)),pZ9 o21 3 [z954,z956,z960],(x27,obS ((some ([(⟨#[109,115]⟩:ByteArray),(⟨#[109,115]⟩:ByteArray),(⟨#[99,115]⟩:ByteArray),(⟨#[115]⟩:ByteArray),(⟨#[104,111,117,114]⟩:ByteArray)]:List ByteArray)):Sl ByteArray)),(x37,obS ((some ([900,3600,3600000]:List Int)):Sl Int)),(z960,obS (w961:Sl Note)),pZ9 o1062 1 [x1181]]) (d:=D2 (A:=(Sl Int)) x1181 ps1184) (n:=[]) (O1189.merge (i:=0) rfl rfl O1194)
   refine kA1 (kAg _ _) ?_
   refine kA1 (kAg _ _) ?_
   refine kAq he_q27 (kGc c1190.2 30 (O1195.start (i:=0) rfl rfl)) (fun c1196 v1197 h1198 hq1199 => ?_)
   obtain ⟨e_v1197,O1200⟩:=hq1199
   dsimp only at e_v1197
   subst v1197
   have O1201:Hold B h1198 ([pZ9 o_ 3 [Sl.enc c1196.2.code,iv c1196.2.pos,AV.sc (.int .u64 c1196.2.seed)],pZ9 o1 3 [kA3,kA3,kA3],(z954,obS (w955:Sl Channel)),pZ9 o21 3 [z954,z956,z960],(x27,obS ((some ([(⟨#[109,115]⟩:ByteArray),(⟨#[109,115]⟩:ByteArray),(⟨#[99,115]⟩:ByteArray),(⟨#[115]⟩:ByteArray),(⟨#[104,111,117,114]⟩:ByteArray)]:List ByteArray)):Sl ByteArray)),(x37,obS ((some ([900,3600,3600000]:List Int)):Sl Int)),(z960,obS (w961:Sl Note)),pZ9 o1062 1 [x1181]]++D2 (A:=(Sl Int)) x1181 ps1184):=Hold.rot (l:=[pZ9 o_ 3 [Sl.enc c1196.2.code,iv c1196.2.pos,AV.sc (.int .u64 c1196.2.seed)],pZ9 o1 3 [kA3,kA3,kA3],(z954,obS (w955:Sl Channel)),pZ9 o21 3 [z954,z956,z960],(x27,obS ((some ([(⟨#[109,115]⟩:ByteArray),(⟨#[109,115]⟩:ByteArray),(⟨#[99,115]⟩:ByteArray),(⟨#[115]⟩:ByteArray),(⟨#[104,111,117,114]⟩:ByteArray)]:List ByteArray)):Sl ByteArray)),(x37,obS ((some ([900,3600,3600000]:List Int)):Sl Int)),(z960,obS (w961:Sl Note)),pZ9 o1062 1 [x1181]]) (d:=D2 (A:=(Sl Int)) x1181 ps1184) (n:=[]) (O1195.merge (i:=0) rfl rfl O1200)
   refine kAa (fun c1202 => ?_) (fun c1202 => ?_)
   ·refine kA1 (kAt _ _) ?_
    refine kDn (t:=(fun a b:Int=>max a b)) he_q24 (kAe _ _) (kAe _ _) (fun c1203 => ?_)
    refine kA1 (kAt _ _) ?_
    exact kA6 ⟨rfl,_,_,rfl,hp1185,O1201⟩
   ·refine kA1 (kAt _ _) ?_
    exact kA6 ⟨rfl,_,_,rfl,hp1185,O1201⟩
 ·exact kA6 ⟨nofun,_,_,_,_,_,rfl,hp1082,O1084⟩
theorem tl3_q33 (env:Nat→Contract) {B0:Base} (he_q24:env kEl=.pure (T2 (fun a b:Int=>max a b))) (he_q25:env kDd=.gen (kAf Try.prog kE5 kDd)) (he_q27:env kCf=.gen (kAf Try.prog kE7 kCf)) (he_q28:env kB1=.gen (kAf Try.prog kC8 kB1)) (he_q29:env kCd=.gen (kAf Try.prog kCz kCd)) (o_:Nat) (o1:Nat) (c5:Int×l00Src) (c11:Int×l00Src) (x17:AV) (o21:Nat) (x27:AV) (c31:ByteArray×l00Src) (x37:AV) (c41:Int×l00Src) (x47:AV) (x52:AV) (c59:Bool×l00Src) (c645:Bool×l00Src) (c935:Int×l00Src) (c941:Int×l00Src) :kGr (fun (st:(Sl UInt8)×Int×Int×(Sl Channel)×(Sl FRows)×(Sl Note)×Int×Int) tm h962=>match st with | (w951,w952,w953,w955,w957,w961,w964,w965)=>∃ B:Base,∃ y966 z954 z956 z960,tm=((AV.ptr o_ 1 0 0)::und::(AV.ptr o1 1 0 0)::(AV.ptr o21 1 0 0)::(sv c31.1)::(iv w964)::(iv w965)::.top::.top::y966::und::und::und::(AV.ptr o_ 1 0 0)::(iv c5.1)::(iv (wr (c5.1 - 4)))::(AV.ptr o_ 1 0 0)::(iv c11.1)::(iv (wr (100+c11.1)))::(AV.agg [sv (⟨#[120]⟩:ByteArray),sv (⟨#[109,109]⟩:ByteArray),iv (wr (c5.1 - 4)),iv (wr (100+c11.1))])::(AV.agg [sv (⟨#[121]⟩:ByteArray),sv (⟨#[109,109]⟩:ByteArray),iv (-50),iv 90])::x17::(AV.agg [x17,kA3,kA3])::(AV.ptr o_ 1 0 0)::x27::(sv c31.1)::(AV.ptr o21 1 0 0)::x17::(sv c31.1)::(AV.ptr o_ 1 0 0)::x37::(iv c41.1)::(AV.agg [sv (⟨#[116]⟩:ByteArray),sv c31.1,iv 0,iv c41.1])::x47::x52::(AV.ptr o21 1 0 0)::(AV.ptr o_ 1 0 0)::(bv c59.1)::und::und::und::und::und::und::(AV.ptr o_ 1 0 0)::(bv c645.1)::und::und::und::und::(AV.ptr o_ 1 0 0)::(iv c935.1)::(AV.ptr o_ 1 0 0)::(iv c941.1)::tZ9 51 [und,und,und,und,und,und,und,und,und,und,und,und,und,und,und,und,und,und,und,und,und,und,und,und,und,und,und,und,und,und,und,und,und,und,und])∧OutT B0 B z956 w957∧Hold B h962 [pZ9 o_ 3 [Sl.enc w951,iv w952,AV.sc (.int .u64 w953)],pZ9 o1 3 [kA3,kA3,kA3],(z954,obS (w955:Sl Channel)),pZ9 o21 3 [z954,z956,z960],(x27,obS ((some ([(⟨#[109,115]⟩:ByteArray),(⟨#[109,115]⟩:ByteArray),(⟨#[99,115]⟩:ByteArray),(⟨#[115]⟩:ByteArray),(⟨#[104,111,117,114]⟩:ByteArray)]:List ByteArray)):Sl ByteArray)),(x37,obS ((some ([900,3600,3600000]:List Int)):Sl Int)),(z960,obS (w961:Sl Note))]) hm3_q33 xm3_q33 (lb3_q33 env) s3_q33 (fun (q:(Sl UInt8)×Int×Int×(Sl Channel)×(Sl FRows)×(Sl Note)) (r:Res)=>match q with | (q969,q970,q971,q973,q975,q979)=>∃ (B:Base) (q980:Int) (q981:Int) (z972:AV) (z974:AV) (z978:AV) (z982:AV) (z983:AV) (z984:AV) (h967:kA7),r=(.exit 0,((AV.ptr o_ 1 0 0)::und::(AV.ptr o1 1 0 0)::(AV.ptr o21 1 0 0)::(sv c31.1)::(iv q980)::(iv q981)::z982::z983::z984::und::und::und::(AV.ptr o_ 1 0 0)::(iv c5.1)::(iv (wr (c5.1 - 4)))::(AV.ptr o_ 1 0 0)::(iv c11.1)::(iv (wr (100+c11.1)))::(AV.agg [sv (⟨#[120]⟩:ByteArray),sv (⟨#[109,109]⟩:ByteArray),iv (wr (c5.1 - 4)),iv (wr (100+c11.1))])::(AV.agg [sv (⟨#[121]⟩:ByteArray),sv (⟨#[109,109]⟩:ByteArray),iv (-50),iv 90])::x17::(AV.agg [x17,kA3,kA3])::(AV.ptr o_ 1 0 0)::x27::(sv c31.1)::(AV.ptr o21 1 0 0)::x17::(sv c31.1)::(AV.ptr o_ 1 0 0)::x37::(iv c41.1)::(AV.agg [sv (⟨#[116]⟩:ByteArray),sv c31.1,iv 0,iv c41.1])::x47::x52::(AV.ptr o21 1 0 0)::(AV.ptr o_ 1 0 0)::(bv c59.1)::und::und::und::und::und::und::(AV.ptr o_ 1 0 0)::(bv c645.1)::und::und::und::und::(AV.ptr o_ 1 0 0)::(iv c935.1)::(AV.ptr o_ 1 0 0)::(iv c941.1)::tZ9 51 [und,und,und,und,und,und,und,und,und,und,und,und,und,und,und,und,und,und,und,und,und,und,und,und,und,und,und,und,und,und,und,und,und,und,und]),h967)∧OutT B0 B z974 q975∧Hold B h967 [pZ9 o_ 3 [Sl.enc q969,iv q970,AV.sc (.int .u64 q971)],pZ9 o1 3 [kA3,kA3,kA3],(z972,obS (q973:Sl Channel)),pZ9 o21 3 [z972,z974,z978],(x27,obS ((some ([(⟨#[109,115]⟩:ByteArray),(⟨#[109,115]⟩:ByteArray),(⟨#[99,115]⟩:ByteArray),(⟨#[115]⟩:ByteArray),(⟨#[104,111,117,114]⟩:ByteArray)]:List ByteArray)):Sl ByteArray)),(x37,obS ((some ([900,3600,3600000]:List Int)):Sl Int)),(z978,obS (q979:Sl Note))]):=by
 refine @kH3 _ _ _ _ _ _ _ _ (fun st tm h962 R => ?_)
 obtain ⟨w951,w952,w953,w955,w957,w961,w964,w965⟩:=st
 obtain ⟨B,y966,z954,z956,z960,rfl,hT958,O963⟩:=R
 rw [e_lb3_q33]
 unfold s3_q33
 dsimp only
 refine kA1 (kBd _ _) ?_
 refine kAa (fun c1061 => ?_) (fun c1061 => ?_)
 ·refine kA1 (v:=AV.agg [kA3]) (by first | rfl | simp [kBs,kEq,kAo]) ?_
  refine kBt O963 (cs:=[kA3]) (by first | rfl | simp) (fun o1062 h1063 O1064 => ?_)
  replace O1064:Hold B h1063 [pZ9 o_ 3 [Sl.enc w951,iv w952,AV.sc (.int .u64 w953)],pZ9 o1 3 [kA3,kA3,kA3],(z954,obS (w955:Sl Channel)),pZ9 o21 3 [z954,z956,z960],(x27,obS ((some ([(⟨#[109,115]⟩:ByteArray),(⟨#[109,115]⟩:ByteArray),(⟨#[99,115]⟩:ByteArray),(⟨#[115]⟩:ByteArray),(⟨#[104,111,117,114]⟩:ByteArray)]:List ByteArray)):Sl ByteArray)),(x37,obS ((some ([900,3600,3600000]:List Int)):Sl Int)),(z960,obS (w961:Sl Note)),pZ9 o1062 1 [kA3]]:=O1064
  refine kAj O1064 7 (cs':=[kA3]) rfl (by first | rfl | simp) (by simp) (by first | rfl | simp) (by first | rfl | simp [kAo]) (fun h1066 O1067 => ?_)
  replace O1067:Hold B h1066 [pZ9 o_ 3 [Sl.enc w951,iv w952,AV.sc (.int .u64 w953)],pZ9 o1 3 [kA3,kA3,kA3],(z954,obS (w955:Sl Channel)),pZ9 o21 3 [z954,z956,z960],(x27,obS ((some ([(⟨#[109,115]⟩:ByteArray),(⟨#[109,115]⟩:ByteArray),(⟨#[99,115]⟩:ByteArray),(⟨#[115]⟩:ByteArray),(⟨#[104,111,117,114]⟩:ByteArray)]:List ByteArray)):Sl ByteArray)),(x37,obS ((some ([900,3600,3600000]:List Int)):Sl Int)),(z960,obS (w961:Sl Note)),pZ9 o1062 1 [kA3]]:=O1067
  refine kAq he_q28 (kBj (⟨w951,w952,w953⟩:l00Src) 5 (O1067.start (i:=0) rfl rfl)) (fun c1068 v1069 h1070 hq1071 => ?_)
  obtain ⟨e_v1069,O1072⟩:=hq1071
  dsimp only at e_v1069
  subst v1069
  have O1073:Hold B h1070 [pZ9 o_ 3 [Sl.enc c1068.2.code,iv c1068.2.pos,AV.sc (.int .u64 c1068.2.seed)],pZ9 o1 3 [kA3,kA3,kA3],(z954,obS (w955:Sl Channel)),pZ9 o21 3 [z954,z956,z960],(x27,obS ((some ([(⟨#[109,115]⟩:ByteArray),(⟨#[109,115]⟩:ByteArray),(⟨#[99,115]⟩:ByteArray),(⟨#[115]⟩:ByteArray),(⟨#[104,111,117,114]⟩:ByteArray)]:List ByteArray)):Sl ByteArray)),(x37,obS ((some ([900,3600,3600000]:List Int)):Sl Int)),(z960,obS (w961:Sl Note)),pZ9 o1062 1 [kA3]]:=O1067.merge (i:=0) rfl rfl O1072
  refine kA1 (kAg _ _) ?_
  have O1074:Hold B h1070 ([pZ9 o_ 3 [Sl.enc c1068.2.code,iv c1068.2.pos,AV.sc (.int .u64 c1068.2.seed)],pZ9 o1 3 [kA3,kA3,kA3],(z954,obS (w955:Sl Channel)),pZ9 o21 3 [z954,z956,z960],(x27,obS ((some ([(⟨#[109,115]⟩:ByteArray),(⟨#[109,115]⟩:ByteArray),(⟨#[99,115]⟩:ByteArray),(⟨#[115]⟩:ByteArray),(⟨#[104,111,117,114]⟩:ByteArray)]:List ByteArray)):Sl ByteArray)),(x37,obS ((some ([900,3600,3600000]:List Int)):Sl Int)),(z960,obS (w961:Sl Note)),pZ9 o1062 1 [kA3]]++D2 (A:=(Sl Int)) kA3 (none:PS (Sl Int))):=O1073.addnil
  refine kBe ((tl10_q33 env he_q24 he_q25 he_q27 he_q28 he_q29 o_ o1 c5 c11 x17 o21 x27 c31 x37 c41 x47 x52 c59 c645 c935 c941 z954 w955 z956 z960 w961 w965 o1062 c1068) ⟨_,_,rfl,(rfl:pj (none:PS (Sl Int))=(none:Sl (Sl Int))),O1074⟩) (fun qq1208 r hq => ?_)
  obtain ⟨q1089,q1090,q1091,q1093,q1096⟩:=qq1208
  obtain ⟨q1097,z1092,z1098,ps1094,h1087,rfl,hp1095,O1088⟩:=hq
  rw [e_lk10x2_q33]
  refine kA1 (v:=AV.ptr o21 1 0 1) rfl ?_
  refine kA1 (v:=z956) (O1088.ld 3 rfl false 1 1) ?_
  refine kA1 (v:=AV.agg [z1092]) (O1088.ld 7 rfl true 1 0) ?_
  have jZ0:=D2.oneX (l:=[pZ9 o_ 3 [Sl.enc q1089,iv q1090,AV.sc (.int .u64 q1091)],pZ9 o1 3 [kA3,kA3,kA3],(z954,obS (w955:Sl Channel)),pZ9 o21 3 [z954,z956,z960],(x27,obS ((some ([(⟨#[109,115]⟩:ByteArray),(⟨#[109,115]⟩:ByteArray),(⟨#[99,115]⟩:ByteArray),(⟨#[115]⟩:ByteArray),(⟨#[104,111,117,114]⟩:ByteArray)]:List ByteArray)):Sl ByteArray)),(x37,obS ((some ([900,3600,3600000]:List Int)):Sl Int)),(z960,obS (w961:Sl Note)),pZ9 o1062 1 [z1092]]) (x:=z1092) (ps:=ps1094) (A:=(Sl Int)) O1088
  refine kBn O1088 [[z1092]] 1 rfl (by first | rfl | simp [kAk,kBz,jZ0.1,jZ0.2]) rfl (fun x1099 h1100 O1101 => ?_)
  replace O1101:Hold B h1100 ([pZ9 o_ 3 [Sl.enc q1089,iv q1090,AV.sc (.int .u64 q1091)],pZ9 o1 3 [kA3,kA3,kA3],(z954,obS (w955:Sl Channel)),pZ9 o21 3 [z954,z956,z960],(x27,obS ((some ([(⟨#[109,115]⟩:ByteArray),(⟨#[109,115]⟩:ByteArray),(⟨#[99,115]⟩:ByteArray),(⟨#[115]⟩:ByteArray),(⟨#[104,111,117,114]⟩:ByteArray)]:List ByteArray)):Sl ByteArray)),(x37,obS ((some ([900,3600,3600000]:List Int)):Sl Int)),(z960,obS (w961:Sl Note)),pZ9 o1062 1 [z1092],(x1099,.sl 1 [[z1092]])]++D2 (A:=(Sl Int)) z1092 ps1094):=Hold.rot O1101
  have O1103:Hold B h1100 ([pZ9 o_ 3 [Sl.enc q1089,iv q1090,AV.sc (.int .u64 q1091)],pZ9 o1 3 [kA3,kA3,kA3],(z954,obS (w955:Sl Channel)),pZ9 o21 3 [z954,z956,z960],(x27,obS ((some ([(⟨#[109,115]⟩:ByteArray),(⟨#[109,115]⟩:ByteArray),(⟨#[99,115]⟩:ByteArray),(⟨#[115]⟩:ByteArray),(⟨#[104,111,117,114]⟩:ByteArray)]:List ByteArray)):Sl ByteArray)),(x37,obS ((some ([900,3600,3600000]:List Int)):Sl Int)),(z960,obS (w961:Sl Note)),pZ9 o1062 1 [z1092],(x1099,.sl 1 [[z1092]])]++D2 (A:=(Sl Int)) z1092 ps1094):=O1101.selD [0,1,2,3,4,5,6,7,8] (by decide) rfl
  refine kG0 (l:=[pZ9 o_ 3 [Sl.enc q1089,iv q1090,AV.sc (.int .u64 q1091)],pZ9 o1 3 [kA3,kA3,kA3],(z954,obS (w955:Sl Channel)),pZ9 o21 3 [z954,z956,z960],(x27,obS ((some ([(⟨#[109,115]⟩:ByteArray),(⟨#[109,115]⟩:ByteArray),(⟨#[99,115]⟩:ByteArray),(⟨#[115]⟩:ByteArray),(⟨#[104,111,117,114]⟩:ByteArray)]:List ByteArray)):Sl ByteArray)),(x37,obS ((some ([900,3600,3600000]:List Int)):Sl Int)),(z960,obS (w961:Sl Note)),pZ9 o1062 1 [z1092]]) (t:=x1099) (y:=z1092) (ps:=ps1094) (s:=w957) hT958 O1103 hp1095 (by decide) (fun B x1104 h1105 hT1107 O1106 => ?_)
  refine kA1 (v:=AV.ptr o21 1 0 1) rfl ?_
  refine kAj O1106 3 (cs':=[z954,x1104,z960]) rfl (by first | rfl | simp [((kAy hT1107).one O1106).1,((kAy hT1107).one O1106).2]) (by simp) (by first | rfl | simp [((kAy hT1107).one O1106).1,((kAy hT1107).one O1106).2]) (by first | rfl | simp [kAo,((kAy hT1107).one O1106).1,((kAy hT1107).one O1106).2]) (fun h1109 O1110 => ?_)
  replace O1110:Hold B h1109 [pZ9 o_ 3 [Sl.enc q1089,iv q1090,AV.sc (.int .u64 q1091)],pZ9 o1 3 [kA3,kA3,kA3],(z954,obS (w955:Sl Channel)),pZ9 o21 3 [z954,x1104,z960],(x27,obS ((some ([(⟨#[109,115]⟩:ByteArray),(⟨#[109,115]⟩:ByteArray),(⟨#[99,115]⟩:ByteArray),(⟨#[115]⟩:ByteArray),(⟨#[104,111,117,114]⟩:ByteArray)]:List ByteArray)):Sl ByteArray)),(x37,obS ((some ([900,3600,3600000]:List Int)):Sl Int)),(z960,obS (w961:Sl Note)),pZ9 o1062 1 [z1092]]:=O1110
  refine kA1 (kAt _ _) ?_
  have O1111:Hold B h1109 [pZ9 o_ 3 [Sl.enc q1089,iv q1090,AV.sc (.int .u64 q1091)],pZ9 o1 3 [kA3,kA3,kA3],(z954,obS (w955:Sl Channel)),pZ9 o21 3 [z954,x1104,z960],(x27,obS ((some ([(⟨#[109,115]⟩:ByteArray),(⟨#[109,115]⟩:ByteArray),(⟨#[99,115]⟩:ByteArray),(⟨#[115]⟩:ByteArray),(⟨#[104,111,117,114]⟩:ByteArray)]:List ByteArray)):Sl ByteArray)),(x37,obS ((some ([900,3600,3600000]:List Int)):Sl Int)),(z960,obS (w961:Sl Note))]:=O1110.sel [0,1,2,3,4,5,6] (by decide) rfl
  exact kA6 ⟨rfl,_,_,_,_,_,rfl,hT1107,O1111⟩
 ·exact kA6 ⟨nofun,_,_,_,_,_,_,_,_,_,_,rfl,hT958,O963⟩
theorem ts_q33 (env:Nat→Contract) (he_q24:env kEl=.pure (T2 (fun a b:Int=>max a b))) (he_q25:env kDd=.gen (kAf Try.prog kE5 kDd)) (he_q27:env kCf=.gen (kAf Try.prog kE7 kCf)) (he_q28:env kB1=.gen (kAf Try.prog kC8 kB1)) (he_q29:env kCd=.gen (kAf Try.prog kCz kCd)) {B:Base} {h:kA7} {o_:Nat} (s_:l00Src) (O:Hold B h [pZ9 o_ 3 [Sl.enc s_.code,iv s_.pos,AV.sc (.int .u64 s_.seed)]]):Sim (denFnM true Try.prog env n_q33 [AV.ptr o_ 1 0 0] h) (t_q33 s_) (fun c p=>∃ x1,∃ x2,∃ x3,∃ qs2:P3,p.1=AV.agg [x1,x2,x3]∧pj3 qs2=c.1.strokes∧Hold B p.2 ([pZ9 o_ 3 [Sl.enc c.2.code,iv c.2.pos,AV.sc (.int .u64 c.2.seed)],(x1,obS (c.1.channels:Sl Channel)),(x3,obS (c.1.notes:Sl Note))]++D3 x2 qs2)):=by
 rw [e_q33]
 unfold t_q33
 refine kBt O (cs:=[kA3,kA3,kA3]) (by first | rfl | simp) (fun o1 h2 O3 => ?_)
 replace O3:Hold B h2 [pZ9 o_ 3 [Sl.enc s_.code,iv s_.pos,AV.sc (.int .u64 s_.seed)],pZ9 o1 3 [kA3,kA3,kA3]]:=O3
 refine kAq he_q28 (kBj s_ 9 (O3.start (i:=0) rfl rfl)) (fun c5 v6 h7 hq8 => ?_)
 obtain ⟨e_v6,O9⟩:=hq8
 dsimp only at e_v6
 subst v6
 have O10:Hold B h7 [pZ9 o_ 3 [Sl.enc c5.2.code,iv c5.2.pos,AV.sc (.int .u64 c5.2.seed)],pZ9 o1 3 [kA3,kA3,kA3]]:=O3.merge (i:=0) rfl rfl O9
 refine kA1 (kAt _ _) ?_
 refine kAq he_q28 (kBj c5.2 300 (O10.start (i:=0) rfl rfl)) (fun c11 v12 h13 hq14 => ?_)
 obtain ⟨e_v12,O15⟩:=hq14
 dsimp only at e_v12
 subst v12
 have O16:Hold B h13 [pZ9 o_ 3 [Sl.enc c11.2.code,iv c11.2.pos,AV.sc (.int .u64 c11.2.seed)],pZ9 o1 3 [kA3,kA3,kA3]]:=O10.merge (i:=0) rfl rfl O15
 refine kA1 (kAg _ _) ?_
 refine kA1 (v:=AV.agg [sv (⟨#[120]⟩:ByteArray),sv (⟨#[109,109]⟩:ByteArray),iv (wr (c5.1 - 4)),iv (wr (100+c11.1))]) (by first | rfl | simp [kBs,kEq,kAo]) ?_
 refine kA1 (v:=AV.agg [sv (⟨#[121]⟩:ByteArray),sv (⟨#[109,109]⟩:ByteArray),iv (-50),iv 90]) (by first | rfl | simp [kBs,kEq,kAo]) ?_
 refine kB7 (A:=Channel) O16 ([(⟨(⟨#[120]⟩:ByteArray),(⟨#[109,109]⟩:ByteArray),wr (c5.1 - 4),wr (100+c11.1)⟩:Channel),(⟨(⟨#[121]⟩:ByteArray),(⟨#[109,109]⟩:ByteArray),(-50),90⟩:Channel)]:List Channel) rfl (by first | rfl | simp [kAk,kBz]) rfl (fun x17 h18 O19 => ?_)
 replace O19:Hold B h18 [pZ9 o_ 3 [Sl.enc c11.2.code,iv c11.2.pos,AV.sc (.int .u64 c11.2.seed)],pZ9 o1 3 [kA3,kA3,kA3],(x17,obS ((some ([(⟨(⟨#[120]⟩:ByteArray),(⟨#[109,109]⟩:ByteArray),wr (c5.1 - 4),wr (100+c11.1)⟩:Channel),(⟨(⟨#[121]⟩:ByteArray),(⟨#[109,109]⟩:ByteArray),(-50),90⟩:Channel)]:List Channel)):Sl Channel))]:=O19
 have jZ0:=O19.one (A:=Channel) (s:=(some ([(⟨(⟨#[120]⟩:ByteArray),(⟨#[109,109]⟩:ByteArray),wr (c5.1 - 4),wr (100+c11.1)⟩:Channel),(⟨(⟨#[121]⟩:ByteArray),(⟨#[109,109]⟩:ByteArray),(-50),90⟩:Channel)]:List Channel))) 2 rfl
 refine kA1 (v:=AV.agg [x17,kA3,kA3]) (by first | rfl | simp [kBs,kEq,kAo,jZ0.1,jZ0.2]) ?_
 refine kBt O19 (cs:=[kA3,kA3,kA3]) (by first | rfl | simp) (fun o21 h22 O23 => ?_)
 replace O23:Hold B h22 [pZ9 o_ 3 [Sl.enc c11.2.code,iv c11.2.pos,AV.sc (.int .u64 c11.2.seed)],pZ9 o1 3 [kA3,kA3,kA3],(x17,obS ((some ([(⟨(⟨#[120]⟩:ByteArray),(⟨#[109,109]⟩:ByteArray),wr (c5.1 - 4),wr (100+c11.1)⟩:Channel),(⟨(⟨#[121]⟩:ByteArray),(⟨#[109,109]⟩:ByteArray),(-50),90⟩:Channel)]:List Channel)):Sl Channel)),pZ9 o21 3 [kA3,kA3,kA3]]:=O23
 have jZ0:=O23.one (A:=Channel) (s:=(some ([(⟨(⟨#[120]⟩:ByteArray),(⟨#[109,109]⟩:ByteArray),wr (c5.1 - 4),wr (100+c11.1)⟩:Channel),(⟨(⟨#[121]⟩:ByteArray),(⟨#[109,109]⟩:ByteArray),(-50),90⟩:Channel)]:List Channel))) 2 rfl
 refine kAj O23 3 (cs':=[x17,kA3,kA3]) rfl (by first | rfl | simp [jZ0.1,jZ0.2]) (by simp) (by first | rfl | simp [jZ0.1,jZ0.2]) (by first | rfl | simp [kAo,jZ0.1,jZ0.2]) (fun h25 O26 => ?_)
 replace O26:Hold B h25 [pZ9 o_ 3 [Sl.enc c11.2.code,iv c11.2.pos,AV.sc (.int .u64 c11.2.seed)],pZ9 o1 3 [kA3,kA3,kA3],(x17,obS ((some ([(⟨(⟨#[120]⟩:ByteArray),(⟨#[109,109]⟩:ByteArray),wr (c5.1 - 4),wr (100+c11.1)⟩:Channel),(⟨(⟨#[121]⟩:ByteArray),(⟨#[109,109]⟩:ByteArray),(-50),90⟩:Channel)]:List Channel)):Sl Channel)),pZ9 o21 3 [x17,kA3,kA3]]:=O26
 refine kB7 (A:=ByteArray) O26 ([(⟨#[109,115]⟩:ByteArray),(⟨#[109,115]⟩:ByteArray),(⟨#[99,115]⟩:ByteArray),(⟨#[115]⟩:ByteArray),(⟨#[104,111,117,114]⟩:ByteArray)]:List ByteArray) rfl (by first | rfl | simp [kAk,kBz]) rfl (fun x27 h28 O29 => ?_)
 replace O29:Hold B h28 [pZ9 o_ 3 [Sl.enc c11.2.code,iv c11.2.pos,AV.sc (.int .u64 c11.2.seed)],pZ9 o1 3 [kA3,kA3,kA3],(x17,obS ((some ([(⟨(⟨#[120]⟩:ByteArray),(⟨#[109,109]⟩:ByteArray),wr (c5.1 - 4),wr (100+c11.1)⟩:Channel),(⟨(⟨#[121]⟩:ByteArray),(⟨#[109,109]⟩:ByteArray),(-50),90⟩:Channel)]:List Channel)):Sl Channel)),pZ9 o21 3 [x17,kA3,kA3],(x27,obS ((some ([(⟨#[109,115]⟩:ByteArray),(⟨#[109,115]⟩:ByteArray),(⟨#[99,115]⟩:ByteArray),(⟨#[115]⟩:ByteArray),(⟨#[104,111,117,114]⟩:ByteArray)]:List ByteArray)):Sl ByteArray))]:=O29
 refine kAq he_q29 (tg_q29 c11.2 (some ([(⟨#[109,115]⟩:ByteArray),(⟨#[109,115]⟩:ByteArray),(⟨#[99,115]⟩:ByteArray),(⟨#[115]⟩:ByteArray),(⟨#[104,111,117,114]⟩:ByteArray)]:List ByteArray)) (O29.tabK (A:=ByteArray) (s:=(some ([(⟨#[109,115]⟩:ByteArray),(⟨#[109,115]⟩:ByteArray),(⟨#[99,115]⟩:ByteArray),(⟨#[115]⟩:ByteArray),(⟨#[104,111,117,114]⟩:ByteArray)]:List ByteArray))) 4 0 rfl rfl rfl (by decide)) (O29.start (i:=0) rfl rfl)) (fun c31 v32 h33 hq34 => ?_)
 obtain ⟨e_v32,O35⟩:=hq34
 dsimp only at e_v32
 subst v32
 have O36:Hold B h33 [pZ9 o_ 3 [Sl.enc c31.2.code,iv c31.2.pos,AV.sc (.int .u64 c31.2.seed)],pZ9 o1 3 [kA3,kA3,kA3],(x17,obS ((some ([(⟨(⟨#[120]⟩:ByteArray),(⟨#[109,109]⟩:ByteArray),wr (c5.1 - 4),wr (100+c11.1)⟩:Channel),(⟨(⟨#[121]⟩:ByteArray),(⟨#[109,109]⟩:ByteArray),(-50),90⟩:Channel)]:List Channel)):Sl Channel)),pZ9 o21 3 [x17,kA3,kA3],(x27,obS ((some ([(⟨#[109,115]⟩:ByteArray),(⟨#[109,115]⟩:ByteArray),(⟨#[99,115]⟩:ByteArray),(⟨#[115]⟩:ByteArray),(⟨#[104,111,117,114]⟩:ByteArray)]:List ByteArray)):Sl ByteArray))]:=O29.merge (i:=0) rfl rfl O35
 refine kA1 (v:=AV.ptr o21 1 0 0) rfl ?_
 refine kA1 (v:=x17) (O36.ld 3 rfl false 1 0) ?_
 refine kB7 (A:=Int) O36 ([900,3600,3600000]:List Int) rfl (by first | rfl | simp [kAk,kBz]) rfl (fun x37 h38 O39 => ?_)
 replace O39:Hold B h38 [pZ9 o_ 3 [Sl.enc c31.2.code,iv c31.2.pos,AV.sc (.int .u64 c31.2.seed)],pZ9 o1 3 [kA3,kA3,kA3],(x17,obS ((some ([(⟨(⟨#[120]⟩:ByteArray),(⟨#[109,109]⟩:ByteArray),wr (c5.1 - 4),wr (100+c11.1)⟩:Channel),(⟨(⟨#[121]⟩:ByteArray),(⟨#[109,109]⟩:ByteArray),(-50),90⟩:Channel)]:List Channel)):Sl Channel)),pZ9 o21 3 [x17,kA3,kA3],(x27,obS ((some ([(⟨#[109,115]⟩:ByteArray),(⟨#[109,115]⟩:ByteArray),(⟨#[99,115]⟩:ByteArray),(⟨#[115]⟩:ByteArray),(⟨#[104,111,117,114]⟩:ByteArray)]:List ByteArray)):Sl ByteArray)),(x37,obS ((some ([900,3600,3600000]:List Int)):Sl Int))]:=O39
 refine kAq he_q25 (tg_q25 c31.2 (some ([900,3600,3600000]:List Int)) (O39.tabK (A:=Int) (s:=(some ([900,3600,3600000]:List Int))) 5 0 rfl rfl rfl (by decide)) (O39.start (i:=0) rfl rfl)) (fun c41 v42 h43 hq44 => ?_)
 obtain ⟨e_v42,O45⟩:=hq44
 dsimp only at e_v42
 subst v42
 have O46:Hold B h43 [pZ9 o_ 3 [Sl.enc c41.2.code,iv c41.2.pos,AV.sc (.int .u64 c41.2.seed)],pZ9 o1 3 [kA3,kA3,kA3],(x17,obS ((some ([(⟨(⟨#[120]⟩:ByteArray),(⟨#[109,109]⟩:ByteArray),wr (c5.1 - 4),wr (100+c11.1)⟩:Channel),(⟨(⟨#[121]⟩:ByteArray),(⟨#[109,109]⟩:ByteArray),(-50),90⟩:Channel)]:List Channel)):Sl Channel)),pZ9 o21 3 [x17,kA3,kA3],(x27,obS ((some ([(⟨#[109,115]⟩:ByteArray),(⟨#[109,115]⟩:ByteArray),(⟨#[99,115]⟩:ByteArray),(⟨#[115]⟩:ByteArray),(⟨#[104,111,117,114]⟩:ByteArray)]:List ByteArray)):Sl ByteArray)),(x37,obS ((some ([900,3600,3600000]:List Int)):Sl Int))]:=O39.merge (i:=0) rfl rfl O45
 refine kBk O45.len ?_
 refine kA1 (v:=AV.agg [sv (⟨#[116]⟩:ByteArray),sv c31.1,iv 0,iv c41.1]) (by first | rfl | simp [kBs,kEq,kAo]) ?_
 refine kB7 (A:=Channel) O46 ([(⟨(⟨#[116]⟩:ByteArray),c31.1,0,c41.1⟩:Channel)]:List Channel) rfl (by first | rfl | simp [kAk,kBz]) rfl (fun x47 h48 O49 => ?_)
 replace O49:Hold B h48 [pZ9 o_ 3 [Sl.enc c41.2.code,iv c41.2.pos,AV.sc (.int .u64 c41.2.seed)],pZ9 o1 3 [kA3,kA3,kA3],(x17,obS ((some ([(⟨(⟨#[120]⟩:ByteArray),(⟨#[109,109]⟩:ByteArray),wr (c5.1 - 4),wr (100+c11.1)⟩:Channel),(⟨(⟨#[121]⟩:ByteArray),(⟨#[109,109]⟩:ByteArray),(-50),90⟩:Channel)]:List Channel)):Sl Channel)),pZ9 o21 3 [x17,kA3,kA3],(x27,obS ((some ([(⟨#[109,115]⟩:ByteArray),(⟨#[109,115]⟩:ByteArray),(⟨#[99,115]⟩:ByteArray),(⟨#[115]⟩:ByteArray),(⟨#[104,111,117,114]⟩:ByteArray)]:List ByteArray)):Sl ByteArray)),(x37,obS ((some ([900,3600,3600000]:List Int)):Sl Int)),(x47,obS ((some ([(⟨(⟨#[116]⟩:ByteArray),c31.1,0,c41.1⟩:Channel)]:List Channel)):Sl Channel))]:=O49
 refine kBk ⟨⟨(kEo (v:=x17) (O36.ld 3 rfl false 1 0)),⟨(kEo (v:=x17) (O39.ld 3 rfl false 1 0)),⟨(kEo (v:=x17) (O46.ld 3 rfl false 1 0)),⟨(kEo (v:=x17) (O49.ld 3 rfl false 1 0)),trivial⟩⟩⟩⟩,trivial⟩ ?_
 refine kBw (A:=Channel) (s:=(some ([(⟨(⟨#[120]⟩:ByteArray),(⟨#[109,109]⟩:ByteArray),wr (c5.1 - 4),wr (100+c11.1)⟩:Channel),(⟨(⟨#[121]⟩:ByteArray),(⟨#[109,109]⟩:ByteArray),(-50),90⟩:Channel)]:List Channel))) O49 2 ([(⟨(⟨#[116]⟩:ByteArray),c31.1,0,c41.1⟩:Channel)]:List Channel) rfl (O49.src (A:=Channel) (s:=(some ([(⟨(⟨#[116]⟩:ByteArray),c31.1,0,c41.1⟩:Channel)]:List Channel))) 6 rfl) (by decide) (fun x52 h53 O54 => ?_)
 replace O54:Hold B h53 [pZ9 o_ 3 [Sl.enc c41.2.code,iv c41.2.pos,AV.sc (.int .u64 c41.2.seed)],pZ9 o1 3 [kA3,kA3,kA3],(x52,obS ((kB3 (some ([(⟨(⟨#[120]⟩:ByteArray),(⟨#[109,109]⟩:ByteArray),wr (c5.1 - 4),wr (100+c11.1)⟩:Channel),(⟨(⟨#[121]⟩:ByteArray),(⟨#[109,109]⟩:ByteArray),(-50),90⟩:Channel)]:List Channel)) ([(⟨(⟨#[116]⟩:ByteArray),c31.1,0,c41.1⟩:Channel)]:List Channel)):Sl Channel)),pZ9 o21 3 [x17,kA3,kA3],(x27,obS ((some ([(⟨#[109,115]⟩:ByteArray),(⟨#[109,115]⟩:ByteArray),(⟨#[99,115]⟩:ByteArray),(⟨#[115]⟩:ByteArray),(⟨#[104,111,117,114]⟩:ByteArray)]:List ByteArray)):Sl ByteArray)),(x37,obS ((some ([900,3600,3600000]:List Int)):Sl Int)),(x47,obS ((some ([(⟨(⟨#[116]⟩:ByteArray),c31.1,0,c41.1⟩:Channel)]:List Channel)):Sl Channel))]:=O54
 have O56:Hold B h53 [pZ9 o_ 3 [Sl.enc c41.2.code,iv c41.2.pos,AV.sc (.int .u64 c41.2.seed)],pZ9 o1 3 [kA3,kA3,kA3],(x52,obS ((kB3 (some ([(⟨(⟨#[120]⟩:ByteArray),(⟨#[109,109]⟩:ByteArray),wr (c5.1 - 4),wr (100+c11.1)⟩:Channel),(⟨(⟨#[121]⟩:ByteArray),(⟨#[109,109]⟩:ByteArray),(-50),90⟩:Channel)]:List Channel)) ([(⟨(⟨#[116]⟩:ByteArray),c31.1,0,c41.1⟩:Channel)]:List Channel)):Sl Channel)),pZ9 o21 3 [x17,kA3,kA3],(x27,obS ((some ([(⟨#[109,115]⟩:ByteArray),(⟨#[109,115]⟩:ByteArray),(⟨#[99,115]⟩:ByteArray),(⟨#[115]⟩:ByteArray),(⟨#[104,111,117,114]⟩:ByteArray)]:List ByteArray)):Sl ByteArray)),(x37,obS ((some ([900,3600,3600000]:List Int)):Sl Int))]:=O54.sel [0,1,2,3,4,5] (by decide) rfl
 refine kA1 (v:=AV.ptr o21 1 0 0) rfl ?_
 have jZ0:=O56.one (A:=Channel) (s:=(kB3 (some ([(⟨(⟨#[120]⟩:ByteArray),(⟨#[109,109]⟩:ByteArray),wr (c5.1 - 4),wr (100+c11.1)⟩:Channel),(⟨(⟨#[121]⟩:ByteArray),(⟨#[109,109]⟩:ByteArray),(-50),90⟩:Channel)]:List Channel)) ([(⟨(⟨#[116]⟩:ByteArray),c31.1,0,c41.1⟩:Channel)]:List Channel))) 2 rfl
 refine kAj O56 3 (cs':=[x52,kA3,kA3]) rfl (by first | rfl | simp [jZ0.1,jZ0.2]) (by simp) (by first | rfl | simp [jZ0.1,jZ0.2]) (by first | rfl | simp [kAo,jZ0.1,jZ0.2]) (fun h57 O58 => ?_)
 replace O58:Hold B h57 [pZ9 o_ 3 [Sl.enc c41.2.code,iv c41.2.pos,AV.sc (.int .u64 c41.2.seed)],pZ9 o1 3 [kA3,kA3,kA3],(x52,obS ((kB3 (some ([(⟨(⟨#[120]⟩:ByteArray),(⟨#[109,109]⟩:ByteArray),wr (c5.1 - 4),wr (100+c11.1)⟩:Channel),(⟨(⟨#[121]⟩:ByteArray),(⟨#[109,109]⟩:ByteArray),(-50),90⟩:Channel)]:List Channel)) ([(⟨(⟨#[116]⟩:ByteArray),c31.1,0,c41.1⟩:Channel)]:List Channel)):Sl Channel)),pZ9 o21 3 [x52,kA3,kA3],(x27,obS ((some ([(⟨#[109,115]⟩:ByteArray),(⟨#[109,115]⟩:ByteArray),(⟨#[99,115]⟩:ByteArray),(⟨#[115]⟩:ByteArray),(⟨#[104,111,117,114]⟩:ByteArray)]:List ByteArray)):Sl ByteArray)),(x37,obS ((some ([900,3600,3600000]:List Int)):Sl Int))]:=O58
 refine kBk trivial ?_
 refine kAq he_q27 (kGc c41.2 3 (O58.start (i:=0) rfl rfl)) (fun c59 v60 h61 hq62 => ?_)
 obtain ⟨e_v60,O63⟩:=hq62
 dsimp only at e_v60
 subst v60
 have O64:Hold B h61 [pZ9 o_ 3 [Sl.enc c59.2.code,iv c59.2.pos,AV.sc (.int .u64 c59.2.seed)],pZ9 o1 3 [kA3,kA3,kA3],(x52,obS ((kB3 (some ([(⟨(⟨#[120]⟩:ByteArray),(⟨#[109,109]⟩:ByteArray),wr (c5.1 - 4),wr (100+c11.1)⟩:Channel),(⟨(⟨#[121]⟩:ByteArray),(⟨#[109,109]⟩:ByteArray),(-50),90⟩:Channel)]:List Channel)) ([(⟨(⟨#[116]⟩:ByteArray),c31.1,0,c41.1⟩:Channel)]:List Channel)):Sl Channel)),pZ9 o21 3 [x52,kA3,kA3],(x27,obS ((some ([(⟨#[109,115]⟩:ByteArray),(⟨#[109,115]⟩:ByteArray),(⟨#[99,115]⟩:ByteArray),(⟨#[115]⟩:ByteArray),(⟨#[104,111,117,114]⟩:ByteArray)]:List ByteArray)):Sl ByteArray)),(x37,obS ((some ([900,3600,3600000]:List Int)):Sl Int))]:=O58.merge (i:=0) rfl rfl O63
 refine kAa (fun c65 => ?_) (fun c65 => ?_)
 ·refine kA1 (v:=AV.ptr o21 1 0 0) rfl ?_
  refine kA1 (v:=x52) (O64.ld 3 rfl false 1 0) ?_
  refine kA1 (v:=AV.agg [sv (⟨#[112]⟩:ByteArray),sv (⟨#[111,110,101]⟩:ByteArray),iv 0,iv 255]) (by first | rfl | simp [kBs,kEq,kAo]) ?_
  refine kB7 (A:=Channel) O64 ([(⟨(⟨#[112]⟩:ByteArray),(⟨#[111,110,101]⟩:ByteArray),0,255⟩:Channel)]:List Channel) rfl (by first | rfl | simp [kAk,kBz]) rfl (fun x66 h67 O68 => ?_)
  replace O68:Hold B h67 [pZ9 o_ 3 [Sl.enc c59.2.code,iv c59.2.pos,AV.sc (.int .u64 c59.2.seed)],pZ9 o1 3 [kA3,kA3,kA3],(x52,obS ((kB3 (some ([(⟨(⟨#[120]⟩:ByteArray),(⟨#[109,109]⟩:ByteArray),wr (c5.1 - 4),wr (100+c11.1)⟩:Channel),(⟨(⟨#[121]⟩:ByteArray),(⟨#[109,109]⟩:ByteArray),(-50),90⟩:Channel)]:List Channel)) ([(⟨(⟨#[116]⟩:ByteArray),c31.1,0,c41.1⟩:Channel)]:List Channel)):Sl Channel)),pZ9 o21 3 [x52,kA3,kA3],(x27,obS ((some ([(⟨#[109,115]⟩:ByteArray),(⟨#[109,115]⟩:ByteArray),(⟨#[99,115]⟩:ByteArray),(⟨#[115]⟩:ByteArray),(⟨#[104,111,117,114]⟩:ByteArray)]:List ByteArray)):Sl ByteArray)),(x37,obS ((some ([900,3600,3600000]:List Int)):Sl Int)),(x66,obS ((some ([(⟨(⟨#[112]⟩:ByteArray),(⟨#[111,110,101]⟩:ByteArray),0,255⟩:Channel)]:List Channel)):Sl Channel))]:=O68
  refine kBw (A:=Channel) (s:=(kB3 (some ([(⟨(⟨#[120]⟩:ByteArray),(⟨#[109,109]⟩:ByteArray),wr (c5.1 - 4),wr (100+c11.1)⟩:Channel),(⟨(⟨#[121]⟩:ByteArray),(⟨#[109,109]⟩:ByteArray),(-50),90⟩:Channel)]:List Channel)) ([(⟨(⟨#[116]⟩:ByteArray),c31.1,0,c41.1⟩:Channel)]:List Channel))) O68 2 ([(⟨(⟨#[112]⟩:ByteArray),(⟨#[111,110,101]⟩:ByteArray),0,255⟩:Channel)]:List Channel) rfl (O68.src (A:=Channel) (s:=(some ([(⟨(⟨#[112]⟩:ByteArray),(⟨#[111,110,101]⟩:ByteArray),0,255⟩:Channel)]:List Channel))) 6 rfl) (by decide) (fun x71 h72 O73 => ?_)
  replace O73:Hold B h72 [pZ9 o_ 3 [Sl.enc c59.2.code,iv c59.2.pos,AV.sc (.int .u64 c59.2.seed)],pZ9 o1 3 [kA3,kA3,kA3],(x71,obS ((kB3 (kB3 (some ([(⟨(⟨#[120]⟩:ByteArray),(⟨#[109,109]⟩:ByteArray),wr (c5.1 - 4),wr (100+c11.1)⟩:Channel),(⟨(⟨#[121]⟩:ByteArray),(⟨#[109,109]⟩:ByteArray),(-50),90⟩:Channel)]:List Channel)) ([(⟨(⟨#[116]⟩:ByteArray),c31.1,0,c41.1⟩:Channel)]:List Channel)) ([(⟨(⟨#[112]⟩:ByteArray),(⟨#[111,110,101]⟩:ByteArray),0,255⟩:Channel)]:List Channel)):Sl Channel)),pZ9 o21 3 [x52,kA3,kA3],(x27,obS ((some ([(⟨#[109,115]⟩:ByteArray),(⟨#[109,115]⟩:ByteArray),(⟨#[99,115]⟩:ByteArray),(⟨#[115]⟩:ByteArray),(⟨#[104,111,117,114]⟩:ByteArray)]:List ByteArray)):Sl ByteArray)),(x37,obS ((some ([900,3600,3600000]:List Int)):Sl Int)),(x66,obS ((some ([(⟨(⟨#[112]⟩:ByteArray),(⟨#[111,110,101]⟩:ByteArray),0,255⟩:Channel)]:List Channel)):Sl Channel))]:=O73
  have O75:Hold B h72 [pZ9 o_ 3 [Sl.enc c59.2.code,iv c59.2.pos,AV.sc (.int .u64 c59.2.seed)],pZ9 o1 3 [kA3,kA3,kA3],(x71,obS ((kB3 (kB3 (some ([(⟨(⟨#[120]⟩:ByteArray),(⟨#[109,109]⟩:ByteArray),wr (c5.1 - 4),wr (100+c11.1)⟩:Channel),(⟨(⟨#[121]⟩:ByteArray),(⟨#[109,109]⟩:ByteArray),(-50),90⟩:Channel)]:List Channel)) ([(⟨(⟨#[116]⟩:ByteArray),c31.1,0,c41.1⟩:Channel)]:List Channel)) ([(⟨(⟨#[112]⟩:ByteArray),(⟨#[111,110,101]⟩:ByteArray),0,255⟩:Channel)]:List Channel)):Sl Channel)),pZ9 o21 3 [x52,kA3,kA3],(x27,obS ((some ([(⟨#[109,115]⟩:ByteArray),(⟨#[109,115]⟩:ByteArray),(⟨#[99,115]⟩:ByteArray),(⟨#[115]⟩:ByteArray),(⟨#[104,111,117,114]⟩:ByteArray)]:List ByteArray)):Sl ByteArray)),(x37,obS ((some ([900,3600,3600000]:List Int)):Sl Int))]:=O73.sel [0,1,2,3,4,5] (by decide) rfl
  refine kA1 (v:=AV.ptr o21 1 0 0) rfl ?_
  have jZ0:=O75.one (A:=Channel) (s:=(kB3 (kB3 (some ([(⟨(⟨#[120]⟩:ByteArray),(⟨#[109,109]⟩:ByteArray),wr (c5.1 - 4),wr (100+c11.1)⟩:Channel),(⟨(⟨#[121]⟩:ByteArray),(⟨#[109,109]⟩:ByteArray),(-50),90⟩:Channel)]:List Channel)) ([(⟨(⟨#[116]⟩:ByteArray),c31.1,0,c41.1⟩:Channel)]:List Channel)) ([(⟨(⟨#[112]⟩:ByteArray),(⟨#[111,110,101]⟩:ByteArray),0,255⟩:Channel)]:List Channel))) 2 rfl
  refine kAj O75 3 (cs':=[x71,kA3,kA3]) rfl (by first | rfl | simp [jZ0.1,jZ0.2]) (by simp) (by first | rfl | simp [jZ0.1,jZ0.2]) (by first | rfl | simp [kAo,jZ0.1,jZ0.2]) (fun h76 O77 => ?_)
  replace O77:Hold B h76 [pZ9 o_ 3 [Sl.enc c59.2.code,iv c59.2.pos,AV.sc (.int .u64 c59.2.seed)],pZ9 o1 3 [kA3,kA3,kA3],(x71,obS ((kB3 (kB3 (some ([(⟨(⟨#[120]⟩:ByteArray),(⟨#[109,109]⟩:ByteArray),wr (c5.1 - 4),wr (100+c11.1)⟩:Channel),(⟨(⟨#[121]⟩:ByteArray),(⟨#[109,109]⟩:ByteArray),(-50),90⟩:Channel)]:List Channel)) ([(⟨(⟨#[116]⟩:ByteArray),c31.1,0,c41.1⟩:Channel)]:List Channel)) ([(⟨(⟨#[112]⟩:ByteArray),(⟨#[111,110,101]⟩:ByteArray),0,255⟩:Channel)]:List Channel)):Sl Channel)),pZ9 o21 3 [x71,kA3,kA3],(x27,obS ((some ([(⟨#[109,115]⟩:ByteArray),(⟨#[109,115]⟩:ByteArray),(⟨#[99,115]⟩:ByteArray),(⟨#[115]⟩:ByteArray),(⟨#[104,111,117,114]⟩:ByteArray)]:List ByteArray)):Sl ByteArray)),(x37,obS ((some ([900,3600,3600000]:List Int)):Sl Int))]:=O77
  refine kAq he_q27 (kGc c59.2 6 (O77.start (i:=0) rfl rfl)) (fun c78 v79 h80 hq81 => ?_)
  obtain ⟨e_v79,O82⟩:=hq81
  dsimp only at e_v79
  subst v79
  have O83:Hold B h80 [pZ9 o_ 3 [Sl.enc c78.2.code,iv c78.2.pos,AV.sc (.int .u64 c78.2.seed)],pZ9 o1 3 [kA3,kA3,kA3],(x71,obS ((kB3 (kB3 (some ([(⟨(⟨#[120]⟩:ByteArray),(⟨#[109,109]⟩:ByteArray),wr (c5.1 - 4),wr (100+c11.1)⟩:Channel),(⟨(⟨#[121]⟩:ByteArray),(⟨#[109,109]⟩:ByteArray),(-50),90⟩:Channel)]:List Channel)) ([(⟨(⟨#[116]⟩:ByteArray),c31.1,0,c41.1⟩:Channel)]:List Channel)) ([(⟨(⟨#[112]⟩:ByteArray),(⟨#[111,110,101]⟩:ByteArray),0,255⟩:Channel)]:List Channel)):Sl Channel)),pZ9 o21 3 [x71,kA3,kA3],(x27,obS ((some ([(⟨#[109,115]⟩:ByteArray),(⟨#[109,115]⟩:ByteArray),(⟨#[99,115]⟩:ByteArray),(⟨#[115]⟩:ByteArray),(⟨#[104,111,117,114]⟩:ByteArray)]:List ByteArray)):Sl ByteArray)),(x37,obS ((some ([900,3600,3600000]:List Int)):Sl Int))]:=O77.merge (i:=0) rfl rfl O82
  refine kAa (fun c84 => ?_) (fun c84 => ?_)
  ·refine kA1 (v:=AV.ptr o21 1 0 0) rfl ?_
   refine kA1 (v:=x71) (O83.ld 3 rfl false 1 0) ?_
   refine kBm (O83.tab (A:=Channel) (s:=(kB3 (kB3 (some ([(⟨(⟨#[120]⟩:ByteArray),(⟨#[109,109]⟩:ByteArray),wr (c5.1 - 4),wr (100+c11.1)⟩:Channel),(⟨(⟨#[121]⟩:ByteArray),(⟨#[109,109]⟩:ByteArray),(-50),90⟩:Channel)]:List Channel)) ([(⟨(⟨#[116]⟩:ByteArray),c31.1,0,c41.1⟩:Channel)]:List Channel)) ([(⟨(⟨#[112]⟩:ByteArray),(⟨#[111,110,101]⟩:ByteArray),0,255⟩:Channel)]:List Channel))) 2 rfl) (fun m86 a85 hi87 hm88 => ?_)
   refine kA1 (v:=elp x71 m86 0) ((O83.tab (A:=Channel) (s:=(kB3 (kB3 (some ([(⟨(⟨#[120]⟩:ByteArray),(⟨#[109,109]⟩:ByteArray),wr (c5.1 - 4),wr (100+c11.1)⟩:Channel),(⟨(⟨#[121]⟩:ByteArray),(⟨#[109,109]⟩:ByteArray),(-50),90⟩:Channel)]:List Channel)) ([(⟨(⟨#[116]⟩:ByteArray),c31.1,0,c41.1⟩:Channel)]:List Channel)) ([(⟨(⟨#[112]⟩:ByteArray),(⟨#[111,110,101]⟩:ByteArray),0,255⟩:Channel)]:List Channel))) 2 rfl).fld _ _ _) ?_
   refine sim_set (A:=Channel) O83 2 (⟨(⟨#[113]⟩:ByteArray),a85.unit,a85.low,a85.high⟩:Channel) rfl hi87 hm88 rfl (Nat.le_of_ble_eq_true rfl) (by first | rfl | simp) (by first | rfl | simp [kAo]) (fun h89 O90 => ?_)
   replace O90:Hold B h89 [pZ9 o_ 3 [Sl.enc c78.2.code,iv c78.2.pos,AV.sc (.int .u64 c78.2.seed)],pZ9 o1 3 [kA3,kA3,kA3],(x71,obS ((setS (kB3 (kB3 (some ([(⟨(⟨#[120]⟩:ByteArray),(⟨#[109,109]⟩:ByteArray),wr (c5.1 - 4),wr (100+c11.1)⟩:Channel),(⟨(⟨#[121]⟩:ByteArray),(⟨#[109,109]⟩:ByteArray),(-50),90⟩:Channel)]:List Channel)) ([(⟨(⟨#[116]⟩:ByteArray),c31.1,0,c41.1⟩:Channel)]:List Channel)) ([(⟨(⟨#[112]⟩:ByteArray),(⟨#[111,110,101]⟩:ByteArray),0,255⟩:Channel)]:List Channel)) 0 (⟨(⟨#[113]⟩:ByteArray),a85.unit,a85.low,a85.high⟩:Channel)):Sl Channel)),pZ9 o21 3 [x71,kA3,kA3],(x27,obS ((some ([(⟨#[109,115]⟩:ByteArray),(⟨#[109,115]⟩:ByteArray),(⟨#[99,115]⟩:ByteArray),(⟨#[115]⟩:ByteArray),(⟨#[104,111,117,114]⟩:ByteArray)]:List ByteArray)):Sl ByteArray)),(x37,obS ((some ([900,3600,3600000]:List Int)):Sl Int))]:=O90
   refine kAq he_q28 (kBj c78.2 20 (O90.start (i:=0) rfl rfl)) (fun c91 v92 h93 hq94 => ?_)
   obtain ⟨e_v92,O95⟩:=hq94
   dsimp only at e_v92
   subst v92
   have O96:Hold B h93 [pZ9 o_ 3 [Sl.enc c91.2.code,iv c91.2.pos,AV.sc (.int .u64 c91.2.seed)],pZ9 o1 3 [kA3,kA3,kA3],(x71,obS ((setS (kB3 (kB3 (some ([(⟨(⟨#[120]⟩:ByteArray),(⟨#[109,109]⟩:ByteArray),wr (c5.1 - 4),wr (100+c11.1)⟩:Channel),(⟨(⟨#[121]⟩:ByteArray),(⟨#[109,109]⟩:ByteArray),(-50),90⟩:Channel)]:List Channel)) ([(⟨(⟨#[116]⟩:ByteArray),c31.1,0,c41.1⟩:Channel)]:List Channel)) ([(⟨(⟨#[112]⟩:ByteArray),(⟨#[111,110,101]⟩:ByteArray),0,255⟩:Channel)]:List Channel)) 0 (⟨(⟨#[113]⟩:ByteArray),a85.unit,a85.low,a85.high⟩:Channel)):Sl Channel)),pZ9 o21 3 [x71,kA3,kA3],(x27,obS ((some ([(⟨#[109,115]⟩:ByteArray),(⟨#[109,115]⟩:ByteArray),(⟨#[99,115]⟩:ByteArray),(⟨#[115]⟩:ByteArray),(⟨#[104,111,117,114]⟩:ByteArray)]:List ByteArray)):Sl ByteArray)),(x37,obS ((some ([900,3600,3600000]:List Int)):Sl Int))]:=O90.merge (i:=0) rfl rfl O95
   refine kAq he_q28 (kBj c91.2 4 (O96.start (i:=0) rfl rfl)) (fun c97 v98 h99 hq100 => ?_)
   obtain ⟨e_v98,O101⟩:=hq100
   dsimp only at e_v98
   subst v98
   have O102:Hold B h99 [pZ9 o_ 3 [Sl.enc c97.2.code,iv c97.2.pos,AV.sc (.int .u64 c97.2.seed)],pZ9 o1 3 [kA3,kA3,kA3],(x71,obS ((setS (kB3 (kB3 (some ([(⟨(⟨#[120]⟩:ByteArray),(⟨#[109,109]⟩:ByteArray),wr (c5.1 - 4),wr (100+c11.1)⟩:Channel),(⟨(⟨#[121]⟩:ByteArray),(⟨#[109,109]⟩:ByteArray),(-50),90⟩:Channel)]:List Channel)) ([(⟨(⟨#[116]⟩:ByteArray),c31.1,0,c41.1⟩:Channel)]:List Channel)) ([(⟨(⟨#[112]⟩:ByteArray),(⟨#[111,110,101]⟩:ByteArray),0,255⟩:Channel)]:List Channel)) 0 (⟨(⟨#[113]⟩:ByteArray),a85.unit,a85.low,a85.high⟩:Channel)):Sl Channel)),pZ9 o21 3 [x71,kA3,kA3],(x27,obS ((some ([(⟨#[109,115]⟩:ByteArray),(⟨#[109,115]⟩:ByteArray),(⟨#[99,115]⟩:ByteArray),(⟨#[115]⟩:ByteArray),(⟨#[104,111,117,114]⟩:ByteArray)]:List ByteArray)):Sl ByteArray)),(x37,obS ((some ([900,3600,3600000]:List Int)):Sl Int))]:=O96.merge (i:=0) rfl rfl O101
   have hT103:=out_nil B
   have O105:Hold B h99 [pZ9 o_ 3 [Sl.enc c97.2.code,iv c97.2.pos,AV.sc (.int .u64 c97.2.seed)],pZ9 o1 3 [kA3,kA3,kA3],(x71,obS ((setS (kB3 (kB3 (some ([(⟨(⟨#[120]⟩:ByteArray),(⟨#[109,109]⟩:ByteArray),wr (c5.1 - 4),wr (100+c11.1)⟩:Channel),(⟨(⟨#[121]⟩:ByteArray),(⟨#[109,109]⟩:ByteArray),(-50),90⟩:Channel)]:List Channel)) ([(⟨(⟨#[116]⟩:ByteArray),c31.1,0,c41.1⟩:Channel)]:List Channel)) ([(⟨(⟨#[112]⟩:ByteArray),(⟨#[111,110,101]⟩:ByteArray),0,255⟩:Channel)]:List Channel)) 0 (⟨(⟨#[113]⟩:ByteArray),a85.unit,a85.low,a85.high⟩:Channel)):Sl Channel)),pZ9 o21 3 [x71,kA3,kA3],(x27,obS ((some ([(⟨#[109,115]⟩:ByteArray),(⟨#[109,115]⟩:ByteArray),(⟨#[99,115]⟩:ByteArray),(⟨#[115]⟩:ByteArray),(⟨#[104,111,117,114]⟩:ByteArray)]:List ByteArray)):Sl ByteArray)),(x37,obS ((some ([900,3600,3600000]:List Int)):Sl Int)),(kA3,obS ((none:Sl Note):Sl Note))]:=O102.addnil
   refine kBe ((tl0_q33 env he_q24 he_q25 he_q27 he_q28 he_q29 o_ o1 c5 c11 x17 o21 x27 c31 x37 c41 x47 x52 c59 x66 x71 c78 m86 c91 c97) ⟨_,_,_,_,_,rfl,hT103,O105⟩) (fun qq367 r hq => ?_)
   obtain ⟨q125,q126,q127,q129,q131,q135⟩:=qq367
   obtain ⟨B,q136,q137,z128,z130,z134,z138,z139,z140,h123,rfl,hT132,O124⟩:=hq
   rw [e_lk0x0_q33]
   refine kA1 (v:=AV.ptr o21 1 0 1) rfl ?_
   refine kA1 (v:=z130) (O124.ld 3 rfl false 1 1) ?_
   refine kA1 (v:=iv (((q131.getD []).length:Nat):Int)) ((kAy hT132).len O124) ?_
   refine kAq he_q28 (kBj (⟨q125,q126,q127⟩:l00Src) 3 (O124.start (i:=0) rfl rfl)) (fun c141 v142 h143 hq144 => ?_)
   obtain ⟨e_v142,O145⟩:=hq144
   dsimp only at e_v142
   subst v142
   have O146:Hold B h143 [pZ9 o_ 3 [Sl.enc c141.2.code,iv c141.2.pos,AV.sc (.int .u64 c141.2.seed)],pZ9 o1 3 [kA3,kA3,kA3],(z128,obS (q129:Sl Channel)),pZ9 o21 3 [z128,z130,z134],(x27,obS ((some ([(⟨#[109,115]⟩:ByteArray),(⟨#[109,115]⟩:ByteArray),(⟨#[99,115]⟩:ByteArray),(⟨#[115]⟩:ByteArray),(⟨#[104,111,117,114]⟩:ByteArray)]:List ByteArray)):Sl ByteArray)),(x37,obS ((some ([900,3600,3600000]:List Int)):Sl Int)),(z134,obS (q135:Sl Note))]:=O124.merge (i:=0) rfl rfl O145
   refine kBe ((tl5_q33 env he_q24 he_q25 he_q27 he_q28 he_q29 o_ o1 c5 c11 x17 o21 x27 c31 x37 c41 x47 x52 c59 x66 x71 c78 m86 c91 c97 z130 q131 q136 q137 z138 z139 z140 c141) ⟨_,_,rfl,O146⟩) (fun qq216 r hq => ?_)
   obtain ⟨q159,q160,q161,q163,q165⟩:=qq216
   obtain ⟨q166,z162,z164,z167,h157,rfl,O158⟩:=hq
   rw [e_lk5x4_q33]
   refine kA1 (v:=AV.agg [z162,z130,z164]) (O158.ld 3 rfl true 3 0) ?_
   have jZ0:=O158.one (A:=Channel) (s:=q163) 2 rfl
   have jZ1:=O158.one (A:=Note) (s:=q165) 6 rfl
   refine kAj O158 1 (cs':=[z162,z130,z164]) rfl (by first | rfl | simp [((kAy hT132).one O158).1,((kAy hT132).one O158).2,jZ0.1,jZ0.2,jZ1.1,jZ1.2]) (by simp) (by first | rfl | simp [((kAy hT132).one O158).1,((kAy hT132).one O158).2,jZ0.1,jZ0.2,jZ1.1,jZ1.2]) (by first | rfl | simp [kAo,((kAy hT132).one O158).1,((kAy hT132).one O158).2,jZ0.1,jZ0.2,jZ1.1,jZ1.2]) (fun h168 O169 => ?_)
   replace O169:Hold B h168 [pZ9 o_ 3 [Sl.enc q159,iv q160,AV.sc (.int .u64 q161)],pZ9 o1 3 [z162,z130,z164],(z162,obS (q163:Sl Channel)),pZ9 o21 3 [z162,z130,z164],(x27,obS ((some ([(⟨#[109,115]⟩:ByteArray),(⟨#[109,115]⟩:ByteArray),(⟨#[99,115]⟩:ByteArray),(⟨#[115]⟩:ByteArray),(⟨#[104,111,117,114]⟩:ByteArray)]:List ByteArray)):Sl ByteArray)),(x37,obS ((some ([900,3600,3600000]:List Int)):Sl Int)),(z164,obS (q165:Sl Note))]:=O169
   refine kDx (kG1 (v:=AV.agg [z162,z130,z164]) (O169.ld 1 rfl true 3 0) (kDy _)) ?_
   dsimp only [pack]
   have O170:Hold B h168 [pZ9 o_ 3 [Sl.enc q159,iv q160,AV.sc (.int .u64 q161)],(z162,obS (q163:Sl Channel)),(z164,obS (q165:Sl Note))]:=O169.sel [0,2,6] (by decide) rfl
   obtain ⟨qs171,hq172,hc173⟩:=hT132
   exact kA6 ⟨_,_,_,_,rfl,hq172,(hc173 _ _ O170)⟩
  ·refine kAq he_q28 (kBj c78.2 20 (O83.start (i:=0) rfl rfl)) (fun c368 v369 h370 hq371 => ?_)
   obtain ⟨e_v369,O372⟩:=hq371
   dsimp only at e_v369
   subst v369
   have O373:Hold B h370 [pZ9 o_ 3 [Sl.enc c368.2.code,iv c368.2.pos,AV.sc (.int .u64 c368.2.seed)],pZ9 o1 3 [kA3,kA3,kA3],(x71,obS ((kB3 (kB3 (some ([(⟨(⟨#[120]⟩:ByteArray),(⟨#[109,109]⟩:ByteArray),wr (c5.1 - 4),wr (100+c11.1)⟩:Channel),(⟨(⟨#[121]⟩:ByteArray),(⟨#[109,109]⟩:ByteArray),(-50),90⟩:Channel)]:List Channel)) ([(⟨(⟨#[116]⟩:ByteArray),c31.1,0,c41.1⟩:Channel)]:List Channel)) ([(⟨(⟨#[112]⟩:ByteArray),(⟨#[111,110,101]⟩:ByteArray),0,255⟩:Channel)]:List Channel)):Sl Channel)),pZ9 o21 3 [x71,kA3,kA3],(x27,obS ((some ([(⟨#[109,115]⟩:ByteArray),(⟨#[109,115]⟩:ByteArray),(⟨#[99,115]⟩:ByteArray),(⟨#[115]⟩:ByteArray),(⟨#[104,111,117,114]⟩:ByteArray)]:List ByteArray)):Sl ByteArray)),(x37,obS ((some ([900,3600,3600000]:List Int)):Sl Int))]:=O83.merge (i:=0) rfl rfl O372
   refine kAq he_q28 (kBj c368.2 4 (O373.start (i:=0) rfl rfl)) (fun c374 v375 h376 hq377 => ?_)
   obtain ⟨e_v375,O378⟩:=hq377
   dsimp only at e_v375
   subst v375
   have O379:Hold B h376 [pZ9 o_ 3 [Sl.enc c374.2.code,iv c374.2.pos,AV.sc (.int .u64 c374.2.seed)],pZ9 o1 3 [kA3,kA3,kA3],(x71,obS ((kB3 (kB3 (some ([(⟨(⟨#[120]⟩:ByteArray),(⟨#[109,109]⟩:ByteArray),wr (c5.1 - 4),wr (100+c11.1)⟩:Channel),(⟨(⟨#[121]⟩:ByteArray),(⟨#[109,109]⟩:ByteArray),(-50),90⟩:Channel)]:List Channel)) ([(⟨(⟨#[116]⟩:ByteArray),c31.1,0,c41.1⟩:Channel)]:List Channel)) ([(⟨(⟨#[112]⟩:ByteArray),(⟨#[111,110,101]⟩:ByteArray),0,255⟩:Channel)]:List Channel)):Sl Channel)),pZ9 o21 3 [x71,kA3,kA3],(x27,obS ((some ([(⟨#[109,115]⟩:ByteArray),(⟨#[109,115]⟩:ByteArray),(⟨#[99,115]⟩:ByteArray),(⟨#[115]⟩:ByteArray),(⟨#[104,111,117,114]⟩:ByteArray)]:List ByteArray)):Sl ByteArray)),(x37,obS ((some ([900,3600,3600000]:List Int)):Sl Int))]:=O373.merge (i:=0) rfl rfl O378
   have hT380:=out_nil B
   have O382:Hold B h376 [pZ9 o_ 3 [Sl.enc c374.2.code,iv c374.2.pos,AV.sc (.int .u64 c374.2.seed)],pZ9 o1 3 [kA3,kA3,kA3],(x71,obS ((kB3 (kB3 (some ([(⟨(⟨#[120]⟩:ByteArray),(⟨#[109,109]⟩:ByteArray),wr (c5.1 - 4),wr (100+c11.1)⟩:Channel),(⟨(⟨#[121]⟩:ByteArray),(⟨#[109,109]⟩:ByteArray),(-50),90⟩:Channel)]:List Channel)) ([(⟨(⟨#[116]⟩:ByteArray),c31.1,0,c41.1⟩:Channel)]:List Channel)) ([(⟨(⟨#[112]⟩:ByteArray),(⟨#[111,110,101]⟩:ByteArray),0,255⟩:Channel)]:List Channel)):Sl Channel)),pZ9 o21 3 [x71,kA3,kA3],(x27,obS ((some ([(⟨#[109,115]⟩:ByteArray),(⟨#[109,115]⟩:ByteArray),(⟨#[99,115]⟩:ByteArray),(⟨#[115]⟩:ByteArray),(⟨#[104,111,117,114]⟩:ByteArray)]:List ByteArray)):Sl ByteArray)),(x37,obS ((some ([900,3600,3600000]:List Int)):Sl Int)),(kA3,obS ((none:Sl Note):Sl Note))]:=O379.addnil
   refine kBe ((tl1_q33 env he_q24 he_q25 he_q27 he_q28 he_q29 o_ o1 c5 c11 x17 o21 x27 c31 x37 c41 x47 x52 c59 x66 x71 c78 c368 c374) ⟨_,_,_,_,_,rfl,hT380,O382⟩) (fun qq644 r hq => ?_)
   obtain ⟨q402,q403,q404,q406,q408,q412⟩:=qq644
   obtain ⟨B,q413,q414,z405,z407,z411,z415,z416,z417,h400,rfl,hT409,O401⟩:=hq
   rw [e_lk1x0_q33]
   refine kA1 (v:=AV.ptr o21 1 0 1) rfl ?_
   refine kA1 (v:=z407) (O401.ld 3 rfl false 1 1) ?_
   refine kA1 (v:=iv (((q408.getD []).length:Nat):Int)) ((kAy hT409).len O401) ?_
   refine kAq he_q28 (kBj (⟨q402,q403,q404⟩:l00Src) 3 (O401.start (i:=0) rfl rfl)) (fun c418 v419 h420 hq421 => ?_)
   obtain ⟨e_v419,O422⟩:=hq421
   dsimp only at e_v419
   subst v419
   have O423:Hold B h420 [pZ9 o_ 3 [Sl.enc c418.2.code,iv c418.2.pos,AV.sc (.int .u64 c418.2.seed)],pZ9 o1 3 [kA3,kA3,kA3],(z405,obS (q406:Sl Channel)),pZ9 o21 3 [z405,z407,z411],(x27,obS ((some ([(⟨#[109,115]⟩:ByteArray),(⟨#[109,115]⟩:ByteArray),(⟨#[99,115]⟩:ByteArray),(⟨#[115]⟩:ByteArray),(⟨#[104,111,117,114]⟩:ByteArray)]:List ByteArray)):Sl ByteArray)),(x37,obS ((some ([900,3600,3600000]:List Int)):Sl Int)),(z411,obS (q412:Sl Note))]:=O401.merge (i:=0) rfl rfl O422
   refine kBe ((tl7_q33 env he_q24 he_q25 he_q27 he_q28 he_q29 o_ o1 c5 c11 x17 o21 x27 c31 x37 c41 x47 x52 c59 x66 x71 c78 c368 c374 z407 q408 q413 q414 z415 z416 z417 c418) ⟨_,_,rfl,O423⟩) (fun qq493 r hq => ?_)
   obtain ⟨q436,q437,q438,q440,q442⟩:=qq493
   obtain ⟨q443,z439,z441,z444,h434,rfl,O435⟩:=hq
   rw [e_lk7x4_q33]
   refine kA1 (v:=AV.agg [z439,z407,z441]) (O435.ld 3 rfl true 3 0) ?_
   have jZ0:=O435.one (A:=Channel) (s:=q440) 2 rfl
   have jZ1:=O435.one (A:=Note) (s:=q442) 6 rfl
   refine kAj O435 1 (cs':=[z439,z407,z441]) rfl (by first | rfl | simp [((kAy hT409).one O435).1,((kAy hT409).one O435).2,jZ0.1,jZ0.2,jZ1.1,jZ1.2]) (by simp) (by first | rfl | simp [((kAy hT409).one O435).1,((kAy hT409).one O435).2,jZ0.1,jZ0.2,jZ1.1,jZ1.2]) (by first | rfl | simp [kAo,((kAy hT409).one O435).1,((kAy hT409).one O435).2,jZ0.1,jZ0.2,jZ1.1,jZ1.2]) (fun h445 O446 => ?_)
   replace O446:Hold B h445 [pZ9 o_ 3 [Sl.enc q436,iv q437,AV.sc (.int .u64 q438)],pZ9 o1 3 [z439,z407,z441],(z439,obS (q440:Sl Channel)),pZ9 o21 3 [z439,z407,z441],(x27,obS ((some ([(⟨#[109,115]⟩:ByteArray),(⟨#[109,115]⟩:ByteArray),(⟨#[99,115]⟩:ByteArray),(⟨#[115]⟩:ByteArray),(⟨#[104,111,117,114]⟩:ByteArray)]:List ByteArray)):Sl ByteArray)),(x37,obS ((some ([900,3600,3600000]:List Int)):Sl Int)),(z441,obS (q442:Sl Note))]:=O446
   refine kDx (kG1 (v:=AV.agg [z439,z407,z441]) (O446.ld 1 rfl true 3 0) (kDy _)) ?_
   dsimp only [pack]
   have O447:Hold B h445 [pZ9 o_ 3 [Sl.enc q436,iv q437,AV.sc (.int .u64 q438)],(z439,obS (q440:Sl Channel)),(z441,obS (q442:Sl Note))]:=O446.sel [0,2,6] (by decide) rfl
   obtain ⟨qs448,hq449,hc450⟩:=hT409
   exact kA6 ⟨_,_,_,_,rfl,hq449,(hc450 _ _ O447)⟩
 ·refine kAq he_q27 (kGc c59.2 6 (O64.start (i:=0) rfl rfl)) (fun c645 v646 h647 hq648 => ?_)
  obtain ⟨e_v646,O649⟩:=hq648
  dsimp only at e_v646
  subst v646
  have O650:Hold B h647 [pZ9 o_ 3 [Sl.enc c645.2.code,iv c645.2.pos,AV.sc (.int .u64 c645.2.seed)],pZ9 o1 3 [kA3,kA3,kA3],(x52,obS ((kB3 (some ([(⟨(⟨#[120]⟩:ByteArray),(⟨#[109,109]⟩:ByteArray),wr (c5.1 - 4),wr (100+c11.1)⟩:Channel),(⟨(⟨#[121]⟩:ByteArray),(⟨#[109,109]⟩:ByteArray),(-50),90⟩:Channel)]:List Channel)) ([(⟨(⟨#[116]⟩:ByteArray),c31.1,0,c41.1⟩:Channel)]:List Channel)):Sl Channel)),pZ9 o21 3 [x52,kA3,kA3],(x27,obS ((some ([(⟨#[109,115]⟩:ByteArray),(⟨#[109,115]⟩:ByteArray),(⟨#[99,115]⟩:ByteArray),(⟨#[115]⟩:ByteArray),(⟨#[104,111,117,114]⟩:ByteArray)]:List ByteArray)):Sl ByteArray)),(x37,obS ((some ([900,3600,3600000]:List Int)):Sl Int))]:=O64.merge (i:=0) rfl rfl O649
  refine kAa (fun c651 => ?_) (fun c651 => ?_)
  ·refine kA1 (v:=AV.ptr o21 1 0 0) rfl ?_
   refine kA1 (v:=x52) (O650.ld 3 rfl false 1 0) ?_
   refine kBm (O650.tab (A:=Channel) (s:=(kB3 (some ([(⟨(⟨#[120]⟩:ByteArray),(⟨#[109,109]⟩:ByteArray),wr (c5.1 - 4),wr (100+c11.1)⟩:Channel),(⟨(⟨#[121]⟩:ByteArray),(⟨#[109,109]⟩:ByteArray),(-50),90⟩:Channel)]:List Channel)) ([(⟨(⟨#[116]⟩:ByteArray),c31.1,0,c41.1⟩:Channel)]:List Channel))) 2 rfl) (fun m653 a652 hi654 hm655 => ?_)
   refine kA1 (v:=elp x52 m653 0) ((O650.tab (A:=Channel) (s:=(kB3 (some ([(⟨(⟨#[120]⟩:ByteArray),(⟨#[109,109]⟩:ByteArray),wr (c5.1 - 4),wr (100+c11.1)⟩:Channel),(⟨(⟨#[121]⟩:ByteArray),(⟨#[109,109]⟩:ByteArray),(-50),90⟩:Channel)]:List Channel)) ([(⟨(⟨#[116]⟩:ByteArray),c31.1,0,c41.1⟩:Channel)]:List Channel))) 2 rfl).fld _ _ _) ?_
   refine sim_set (A:=Channel) O650 2 (⟨(⟨#[113]⟩:ByteArray),a652.unit,a652.low,a652.high⟩:Channel) rfl hi654 hm655 rfl (Nat.le_of_ble_eq_true rfl) (by first | rfl | simp) (by first | rfl | simp [kAo]) (fun h656 O657 => ?_)
   replace O657:Hold B h656 [pZ9 o_ 3 [Sl.enc c645.2.code,iv c645.2.pos,AV.sc (.int .u64 c645.2.seed)],pZ9 o1 3 [kA3,kA3,kA3],(x52,obS ((setS (kB3 (some ([(⟨(⟨#[120]⟩:ByteArray),(⟨#[109,109]⟩:ByteArray),wr (c5.1 - 4),wr (100+c11.1)⟩:Channel),(⟨(⟨#[121]⟩:ByteArray),(⟨#[109,109]⟩:ByteArray),(-50),90⟩:Channel)]:List Channel)) ([(⟨(⟨#[116]⟩:ByteArray),c31.1,0,c41.1⟩:Channel)]:List Channel)) 0 (⟨(⟨#[113]⟩:ByteArray),a652.unit,a652.low,a652.high⟩:Channel)):Sl Channel)),pZ9 o21 3 [x52,kA3,kA3],(x27,obS ((some ([(⟨#[109,115]⟩:ByteArray),(⟨#[109,115]⟩:ByteArray),(⟨#[99,115]⟩:ByteArray),(⟨#[115]⟩:ByteArray),(⟨#[104,111,117,114]⟩:ByteArray)]:List ByteArray)):Sl ByteArray)),(x37,obS ((some ([900,3600,3600000]:List Int)):Sl Int))]:=O657
   refine kAq he_q28 (kBj c645.2 20 (O657.start (i:=0) rfl rfl)) (fun c658 v659 h660 hq661 => ?_)
   obtain ⟨e_v659,O662⟩:=hq661
   dsimp only at e_v659
   subst v659
   have O663:Hold B h660 [pZ9 o_ 3 [Sl.enc c658.2.code,iv c658.2.pos,AV.sc (.int .u64 c658.2.seed)],pZ9 o1 3 [kA3,kA3,kA3],(x52,obS ((setS (kB3 (some ([(⟨(⟨#[120]⟩:ByteArray),(⟨#[109,109]⟩:ByteArray),wr (c5.1 - 4),wr (100+c11.1)⟩:Channel),(⟨(⟨#[121]⟩:ByteArray),(⟨#[109,109]⟩:ByteArray),(-50),90⟩:Channel)]:List Channel)) ([(⟨(⟨#[116]⟩:ByteArray),c31.1,0,c41.1⟩:Channel)]:List Channel)) 0 (⟨(⟨#[113]⟩:ByteArray),a652.unit,a652.low,a652.high⟩:Channel)):Sl Channel)),pZ9 o21 3 [x52,kA3,kA3],(x27,obS ((some ([(⟨#[109,115]⟩:ByteArray),(⟨#[109,115]⟩:ByteArray),(⟨#[99,115]⟩:ByteArray),(⟨#[115]⟩:ByteArray),(⟨#[104,111,117,114]⟩:ByteArray)]:List ByteArray)):Sl ByteArray)),(x37,obS ((some ([900,3600,3600000]:List Int)):Sl Int))]:=O657.merge (i:=0) rfl rfl O662
   refine kAq he_q28 (kBj c658.2 4 (O663.start (i:=0) rfl rfl)) (fun c664 v665 h666 hq667 => ?_)
   obtain ⟨e_v665,O668⟩:=hq667
   dsimp only at e_v665
   subst v665
   have O669:Hold B h666 [pZ9 o_ 3 [Sl.enc c664.2.code,iv c664.2.pos,AV.sc (.int .u64 c664.2.seed)],pZ9 o1 3 [kA3,kA3,kA3],(x52,obS ((setS (kB3 (some ([(⟨(⟨#[120]⟩:ByteArray),(⟨#[109,109]⟩:ByteArray),wr (c5.1 - 4),wr (100+c11.1)⟩:Channel),(⟨(⟨#[121]⟩:ByteArray),(⟨#[109,109]⟩:ByteArray),(-50),90⟩:Channel)]:List Channel)) ([(⟨(⟨#[116]⟩:ByteArray),c31.1,0,c41.1⟩:Channel)]:List Channel)) 0 (⟨(⟨#[113]⟩:ByteArray),a652.unit,a652.low,a652.high⟩:Channel)):Sl Channel)),pZ9 o21 3 [x52,kA3,kA3],(x27,obS ((some ([(⟨#[109,115]⟩:ByteArray),(⟨#[109,115]⟩:ByteArray),(⟨#[99,115]⟩:ByteArray),(⟨#[115]⟩:ByteArray),(⟨#[104,111,117,114]⟩:ByteArray)]:List ByteArray)):Sl ByteArray)),(x37,obS ((some ([900,3600,3600000]:List Int)):Sl Int))]:=O663.merge (i:=0) rfl rfl O668
   have hT670:=out_nil B
   have O672:Hold B h666 [pZ9 o_ 3 [Sl.enc c664.2.code,iv c664.2.pos,AV.sc (.int .u64 c664.2.seed)],pZ9 o1 3 [kA3,kA3,kA3],(x52,obS ((setS (kB3 (some ([(⟨(⟨#[120]⟩:ByteArray),(⟨#[109,109]⟩:ByteArray),wr (c5.1 - 4),wr (100+c11.1)⟩:Channel),(⟨(⟨#[121]⟩:ByteArray),(⟨#[109,109]⟩:ByteArray),(-50),90⟩:Channel)]:List Channel)) ([(⟨(⟨#[116]⟩:ByteArray),c31.1,0,c41.1⟩:Channel)]:List Channel)) 0 (⟨(⟨#[113]⟩:ByteArray),a652.unit,a652.low,a652.high⟩:Channel)):Sl Channel)),pZ9 o21 3 [x52,kA3,kA3],(x27,obS ((some ([(⟨#[109,115]⟩:ByteArray),(⟨#[109,115]⟩:ByteArray),(⟨#[99,115]⟩:ByteArray),(⟨#[115]⟩:ByteArray),(⟨#[104,111,117,114]⟩:ByteArray)]:List ByteArray)):Sl ByteArray)),(x37,obS ((some ([900,3600,3600000]:List Int)):Sl Int)),(kA3,obS ((none:Sl Note):Sl Note))]:=O669.addnil
   refine kBe ((tl2_q33 env he_q24 he_q25 he_q27 he_q28 he_q29 o_ o1 c5 c11 x17 o21 x27 c31 x37 c41 x47 x52 c59 c645 m653 c658 c664) ⟨_,_,_,_,_,rfl,hT670,O672⟩) (fun qq934 r hq => ?_)
   obtain ⟨q692,q693,q694,q696,q698,q702⟩:=qq934
   obtain ⟨B,q703,q704,z695,z697,z701,z705,z706,z707,h690,rfl,hT699,O691⟩:=hq
   rw [e_lk2x0_q33]
   refine kA1 (v:=AV.ptr o21 1 0 1) rfl ?_
   refine kA1 (v:=z697) (O691.ld 3 rfl false 1 1) ?_
   refine kA1 (v:=iv (((q698.getD []).length:Nat):Int)) ((kAy hT699).len O691) ?_
   refine kAq he_q28 (kBj (⟨q692,q693,q694⟩:l00Src) 3 (O691.start (i:=0) rfl rfl)) (fun c708 v709 h710 hq711 => ?_)
   obtain ⟨e_v709,O712⟩:=hq711
   dsimp only at e_v709
   subst v709
   have O713:Hold B h710 [pZ9 o_ 3 [Sl.enc c708.2.code,iv c708.2.pos,AV.sc (.int .u64 c708.2.seed)],pZ9 o1 3 [kA3,kA3,kA3],(z695,obS (q696:Sl Channel)),pZ9 o21 3 [z695,z697,z701],(x27,obS ((some ([(⟨#[109,115]⟩:ByteArray),(⟨#[109,115]⟩:ByteArray),(⟨#[99,115]⟩:ByteArray),(⟨#[115]⟩:ByteArray),(⟨#[104,111,117,114]⟩:ByteArray)]:List ByteArray)):Sl ByteArray)),(x37,obS ((some ([900,3600,3600000]:List Int)):Sl Int)),(z701,obS (q702:Sl Note))]:=O691.merge (i:=0) rfl rfl O712
   refine kBe ((tl9_q33 env he_q24 he_q25 he_q27 he_q28 he_q29 o_ o1 c5 c11 x17 o21 x27 c31 x37 c41 x47 x52 c59 c645 m653 c658 c664 z697 q698 q703 q704 z705 z706 z707 c708) ⟨_,_,rfl,O713⟩) (fun qq783 r hq => ?_)
   obtain ⟨q726,q727,q728,q730,q732⟩:=qq783
   obtain ⟨q733,z729,z731,z734,h724,rfl,O725⟩:=hq
   rw [e_lk9x4_q33]
   refine kA1 (v:=AV.agg [z729,z697,z731]) (O725.ld 3 rfl true 3 0) ?_
   have jZ0:=O725.one (A:=Channel) (s:=q730) 2 rfl
   have jZ1:=O725.one (A:=Note) (s:=q732) 6 rfl
   refine kAj O725 1 (cs':=[z729,z697,z731]) rfl (by first | rfl | simp [((kAy hT699).one O725).1,((kAy hT699).one O725).2,jZ0.1,jZ0.2,jZ1.1,jZ1.2]) (by simp) (by first | rfl | simp [((kAy hT699).one O725).1,((kAy hT699).one O725).2,jZ0.1,jZ0.2,jZ1.1,jZ1.2]) (by first | rfl | simp [kAo,((kAy hT699).one O725).1,((kAy hT699).one O725).2,jZ0.1,jZ0.2,jZ1.1,jZ1.2]) (fun h735 O736 => ?_)
   replace O736:Hold B h735 [pZ9 o_ 3 [Sl.enc q726,iv q727,AV.sc (.int .u64 q728)],pZ9 o1 3 [z729,z697,z731],(z729,obS (q730:Sl Channel)),pZ9 o21 3 [z729,z697,z731],(x27,obS ((some ([(⟨#[109,115]⟩:ByteArray),(⟨#[109,115]⟩:ByteArray),(⟨#[99,115]⟩:ByteArray),(⟨#[115]⟩:ByteArray),(⟨#[104,111,117,114]⟩:ByteArray)]:List ByteArray)):Sl ByteArray)),(x37,obS ((some ([900,3600,3600000]:List Int)):Sl Int)),(z731,obS (q732:Sl Note))]:=O736
   refine kDx (kG1 (v:=AV.agg [z729,z697,z731]) (O736.ld 1 rfl true 3 0) (kDy _)) ?_
   dsimp only [pack]
   have O737:Hold B h735 [pZ9 o_ 3 [Sl.enc q726,iv q727,AV.sc (.int .u64 q728)],(z729,obS (q730:Sl Channel)),(z731,obS (q732:Sl Note))]:=O736.sel [0,2,6] (by decide) rfl
   obtain ⟨qs738,hq739,hc740⟩:=hT699
   exact kA6 ⟨_,_,_,_,rfl,hq739,(hc740 _ _ O737)⟩
  ·refine kAq he_q28 (kBj c645.2 20 (O650.start (i:=0) rfl rfl)) (fun c935 v936 h937 hq938 => ?_)
   obtain ⟨e_v936,O939⟩:=hq938
   dsimp only at e_v936
   subst v936
   have O940:Hold B h937 [pZ9 o_ 3 [Sl.enc c935.2.code,iv c935.2.pos,AV.sc (.int .u64 c935.2.seed)],pZ9 o1 3 [kA3,kA3,kA3],(x52,obS ((kB3 (some ([(⟨(⟨#[120]⟩:ByteArray),(⟨#[109,109]⟩:ByteArray),wr (c5.1 - 4),wr (100+c11.1)⟩:Channel),(⟨(⟨#[121]⟩:ByteArray),(⟨#[109,109]⟩:ByteArray),(-50),90⟩:Channel)]:List Channel)) ([(⟨(⟨#[116]⟩:ByteArray),c31.1,0,c41.1⟩:Channel)]:List Channel)):Sl Channel)),pZ9 o21 3 [x52,kA3,kA3],(x27,obS ((some ([(⟨#[109,115]⟩:ByteArray),(⟨#[109,115]⟩:ByteArray),(⟨#[99,115]⟩:ByteArray),(⟨#[115]⟩:ByteArray),(⟨#[104,111,117,114]⟩:ByteArray)]:List ByteArray)):Sl ByteArray)),(x37,obS ((some ([900,3600,3600000]:List Int)):Sl Int))]:=O650.merge (i:=0) rfl rfl O939
   refine kAq he_q28 (kBj c935.2 4 (O940.start (i:=0) rfl rfl)) (fun c941 v942 h943 hq944 => ?_)
   obtain ⟨e_v942,O945⟩:=hq944
   dsimp only at e_v942
   subst v942
   have O946:Hold B h943 [pZ9 o_ 3 [Sl.enc c941.2.code,iv c941.2.pos,AV.sc (.int .u64 c941.2.seed)],pZ9 o1 3 [kA3,kA3,kA3],(x52,obS ((kB3 (some ([(⟨(⟨#[120]⟩:ByteArray),(⟨#[109,109]⟩:ByteArray),wr (c5.1 - 4),wr (100+c11.1)⟩:Channel),(⟨(⟨#[121]⟩:ByteArray),(⟨#[109,109]⟩:ByteArray),(-50),90⟩:Channel)]:List Channel)) ([(⟨(⟨#[116]⟩:ByteArray),c31.1,0,c41.1⟩:Channel)]:List Channel)):Sl Channel)),pZ9 o21 3 [x52,kA3,kA3],(x27,obS ((some ([(⟨#[109,115]⟩:ByteArray),(⟨#[109,115]⟩:ByteArray),(⟨#[99,115]⟩:ByteArray),(⟨#[115]⟩:ByteArray),(⟨#[104,111,117,114]⟩:ByteArray)]:List ByteArray)):Sl ByteArray)),(x37,obS ((some ([900,3600,3600000]:List Int)):Sl Int))]:=O940.merge (i:=0) rfl rfl O945
   have hT947:=out_nil B
   have O949:Hold B h943 [pZ9 o_ 3 [Sl.enc c941.2.code,iv c941.2.pos,AV.sc (.int .u64 c941.2.seed)],pZ9 o1 3 [kA3,kA3,kA3],(x52,obS ((kB3 (some ([(⟨(⟨#[120]⟩:ByteArray),(⟨#[109,109]⟩:ByteArray),wr (c5.1 - 4),wr (100+c11.1)⟩:Channel),(⟨(⟨#[121]⟩:ByteArray),(⟨#[109,109]⟩:ByteArray),(-50),90⟩:Channel)]:List Channel)) ([(⟨(⟨#[116]⟩:ByteArray),c31.1,0,c41.1⟩:Channel)]:List Channel)):Sl Channel)),pZ9 o21 3 [x52,kA3,kA3],(x27,obS ((some ([(⟨#[109,115]⟩:ByteArray),(⟨#[109,115]⟩:ByteArray),(⟨#[99,115]⟩:ByteArray),(⟨#[115]⟩:ByteArray),(⟨#[104,111,117,114]⟩:ByteArray)]:List ByteArray)):Sl ByteArray)),(x37,obS ((some ([900,3600,3600000]:List Int)):Sl Int)),(kA3,obS ((none:Sl Note):Sl Note))]:=O946.addnil
   refine kBe ((tl3_q33 env he_q24 he_q25 he_q27 he_q28 he_q29 o_ o1 c5 c11 x17 o21 x27 c31 x37 c41 x47 x52 c59 c645 c935 c941) ⟨_,_,_,_,_,rfl,hT947,O949⟩) (fun qq1211 r hq => ?_)
   obtain ⟨q969,q970,q971,q973,q975,q979⟩:=qq1211
   obtain ⟨B,q980,q981,z972,z974,z978,z982,z983,z984,h967,rfl,hT976,O968⟩:=hq
   rw [e_lk3x0_q33]
   refine kA1 (v:=AV.ptr o21 1 0 1) rfl ?_
   refine kA1 (v:=z974) (O968.ld 3 rfl false 1 1) ?_
   refine kA1 (v:=iv (((q975.getD []).length:Nat):Int)) ((kAy hT976).len O968) ?_
   refine kAq he_q28 (kBj (⟨q969,q970,q971⟩:l00Src) 3 (O968.start (i:=0) rfl rfl)) (fun c985 v986 h987 hq988 => ?_)
   obtain ⟨e_v986,O989⟩:=hq988
   dsimp only at e_v986
   subst v986
   have O990:Hold B h987 [pZ9 o_ 3 [Sl.enc c985.2.code,iv c985.2.pos,AV.sc (.int .u64 c985.2.seed)],pZ9 o1 3 [kA3,kA3,kA3],(z972,obS (q973:Sl Channel)),pZ9 o21 3 [z972,z974,z978],(x27,obS ((some ([(⟨#[109,115]⟩:ByteArray),(⟨#[109,115]⟩:ByteArray),(⟨#[99,115]⟩:ByteArray),(⟨#[115]⟩:ByteArray),(⟨#[104,111,117,114]⟩:ByteArray)]:List ByteArray)):Sl ByteArray)),(x37,obS ((some ([900,3600,3600000]:List Int)):Sl Int)),(z978,obS (q979:Sl Note))]:=O968.merge (i:=0) rfl rfl O989
   refine kBe ((tl11_q33 env he_q24 he_q25 he_q27 he_q28 he_q29 o_ o1 c5 c11 x17 o21 x27 c31 x37 c41 x47 x52 c59 c645 c935 c941 z974 q975 q980 q981 z982 z983 z984 c985) ⟨_,_,rfl,O990⟩) (fun qq1060 r hq => ?_)
   obtain ⟨q1003,q1004,q1005,q1007,q1009⟩:=qq1060
   obtain ⟨q1010,z1006,z1008,z1011,h1001,rfl,O1002⟩:=hq
   rw [e_lk11x4_q33]
   refine kA1 (v:=AV.agg [z1006,z974,z1008]) (O1002.ld 3 rfl true 3 0) ?_
   have jZ0:=O1002.one (A:=Channel) (s:=q1007) 2 rfl
   have jZ1:=O1002.one (A:=Note) (s:=q1009) 6 rfl
   refine kAj O1002 1 (cs':=[z1006,z974,z1008]) rfl (by first | rfl | simp [((kAy hT976).one O1002).1,((kAy hT976).one O1002).2,jZ0.1,jZ0.2,jZ1.1,jZ1.2]) (by simp) (by first | rfl | simp [((kAy hT976).one O1002).1,((kAy hT976).one O1002).2,jZ0.1,jZ0.2,jZ1.1,jZ1.2]) (by first | rfl | simp [kAo,((kAy hT976).one O1002).1,((kAy hT976).one O1002).2,jZ0.1,jZ0.2,jZ1.1,jZ1.2]) (fun h1012 O1013 => ?_)
   replace O1013:Hold B h1012 [pZ9 o_ 3 [Sl.enc q1003,iv q1004,AV.sc (.int .u64 q1005)],pZ9 o1 3 [z1006,z974,z1008],(z1006,obS (q1007:Sl Channel)),pZ9 o21 3 [z1006,z974,z1008],(x27,obS ((some ([(⟨#[109,115]⟩:ByteArray),(⟨#[109,115]⟩:ByteArray),(⟨#[99,115]⟩:ByteArray),(⟨#[115]⟩:ByteArray),(⟨#[104,111,117,114]⟩:ByteArray)]:List ByteArray)):Sl ByteArray)),(x37,obS ((some ([900,3600,3600000]:List Int)):Sl Int)),(z1008,obS (q1009:Sl Note))]:=O1013
   refine kDx (kG1 (v:=AV.agg [z1006,z974,z1008]) (O1013.ld 1 rfl true 3 0) (kDy _)) ?_
   dsimp only [pack]
   have O1014:Hold B h1012 [pZ9 o_ 3 [Sl.enc q1003,iv q1004,AV.sc (.int .u64 q1005)],(z1006,obS (q1007:Sl Channel)),(z1008,obS (q1009:Sl Note))]:=O1013.sel [0,2,6] (by decide) rfl
   obtain ⟨qs1015,hq1016,hc1017⟩:=hT976
   exact kA6 ⟨_,_,_,_,rfl,hq1016,(hc1017 _ _ O1014)⟩
noncomputable def kH9:Nat→Contract:=kD7 [(kEl,.pure (T2 (fun a b:Int=>max a b))),(kDd,.gen (kAf Try.prog kE5 kDd)),(kCf,.gen (kAf Try.prog kE7 kCf)),(kB1,.gen (kAf Try.prog kC8 kB1)),(kCd,.gen (kAf Try.prog kCz kCd))]
theorem eo_spec_l03Draw:kC5 Try.prog kH9:=(kCl ok_q24 (kHf (kDq kGp kCm hb_q25) (kHf (kDq kHi kCm hb_q27) (kHf (kDq kCu kCm hb_q28) (kHf (kDq kGz kCm hb_q29) E0)))))
theorem tg_q33 {B:Base} {h:kA7} {o_:Nat} (s_:l00Src) (O:Hold B h [pZ9 o_ 3 [Sl.enc s_.code,iv s_.pos,AV.sc (.int .u64 s_.seed)]]):Sim (denFnM true Try.prog kH9 n_q33 [AV.ptr o_ 1 0 0] h) (t_q33 s_) (fun c p=>∃ x1,∃ x2,∃ x3,∃ qs2:P3,p.1=AV.agg [x1,x2,x3]∧pj3 qs2=c.1.strokes∧Hold B p.2 ([pZ9 o_ 3 [Sl.enc c.2.code,iv c.2.pos,AV.sc (.int .u64 c.2.seed)],(x1,obS (c.1.channels:Sl Channel)),(x3,obS (c.1.notes:Sl Note))]++D3 x2 qs2)):=ts_q33 kH9 (by simp [kH9,kD7]) (by simp [kH9,kD7]) (by simp [kH9,kD7]) (by simp [kH9,kD7]) (by simp [kH9,kD7]) s_  O
def t_q19 (code_:Sl UInt8):Option File :=
 kA0 (t_q33 (⟨code_,0,0⟩:l00Src)) fun c9 =>
 some c9.1
theorem ts_q19 (env:Nat→Contract) (he_q22:env n_q22=.pure (C1 fromA (fun q:Sl UInt8=>some q))) (he_q33:env n_q33=.gen (denFnM true Try.prog kH9 n_q33)) (code_:Sl UInt8):Sim (kAf Try.prog env n_q19 [Sl.enc code_] []) (t_q19 code_) fun c p=>release p.2 depth p.1=some ((fun c:File=>AV.agg [rS c.channels,rT c.strokes,rS c.notes]) c):=by
 have O:=Hold.nil []
 generalize hB:(⟨[],[]⟩:Base)=B at O
 clear hB
 rw [e_q19]
 unfold t_q19
 refine kBt O (cs:=[kA3,kA3,kA3]) (by first | rfl | simp) (fun o1 h2 O3 => ?_)
 replace O3:Hold B h2 [pZ9 o1 3 [kA3,kA3,kA3]]:=O3
 refine sim_src O3 he_q22 (kCp _ _) (by first | rfl | exact noRef_enc _) (fun o5 h6 O7 => ?_)
 replace O7:Hold B h6 [pZ9 o1 3 [kA3,kA3,kA3],pZ9 o5 3 [Sl.enc code_,iv 0,AV.sc (.int .u64 0)]]:=O7
 refine kAq he_q33 (tg_q33 (⟨code_,0,0⟩:l00Src) (O7.start (i:=1) rfl rfl)) (fun c9 v10 h11 hq12 => ?_)
 obtain ⟨x15,x17,x22,qs18,e_v10,hq19,O13⟩:=hq12
 dsimp only at e_v10
 subst v10
 have O14:Hold B h11 ([pZ9 o1 3 [kA3,kA3,kA3],pZ9 o5 3 [Sl.enc c9.2.code,iv c9.2.pos,AV.sc (.int .u64 c9.2.seed)],(x15,obS (c9.1.channels:Sl Channel)),(x22,obS (c9.1.notes:Sl Note))]++D3 x17 qs18):=O7.merge (i:=1) rfl rfl O13
 obtain ⟨B,hT20,O14⟩:=out_make O14 hq19
 have jZ0:=O14.one (A:=Channel) (s:=c9.1.channels) 2 rfl
 have jZ1:=O14.one (A:=Note) (s:=c9.1.notes) 3 rfl
 refine kAj O14 0 (cs':=[x15,x17,x22]) rfl (by first | rfl | simp [((kAy hT20).one O14).1,((kAy hT20).one O14).2,jZ0.1,jZ0.2,jZ1.1,jZ1.2]) (by simp) (by first | rfl | simp [((kAy hT20).one O14).1,((kAy hT20).one O14).2,jZ0.1,jZ0.2,jZ1.1,jZ1.2]) (by first | rfl | simp [kAo,((kAy hT20).one O14).1,((kAy hT20).one O14).2,jZ0.1,jZ0.2,jZ1.1,jZ1.2]) (fun h24 O25 => ?_)
 replace O25:Hold B h24 [pZ9 o1 3 [x15,x17,x22],pZ9 o5 3 [Sl.enc c9.2.code,iv c9.2.pos,AV.sc (.int .u64 c9.2.seed)],(x15,obS (c9.1.channels:Sl Channel)),(x22,obS (c9.1.notes:Sl Note))]:=O25
 refine kDx (kG1 (v:=AV.agg [x15,x17,x22]) (O25.ld 0 rfl true 3 0) (kDy _)) ?_
 dsimp only [pack]
 have O26:Hold B h24 [(x15,obS (c9.1.channels:Sl Channel)),(x22,obS (c9.1.notes:Sl Note))]:=O25.sel [2,3] (by decide) rfl
 exact kA6 (releaseF (c:=c9.1) hT20 O26)
theorem tt_q19:kB6 Try.prog n_q19 (C1 (fun c:File=>AV.agg [rS c.channels,rT c.strokes,rS c.notes]) t_q19):=kFx (kCl tt_q22 (kHf (kH5 (W:=true) eo_spec_l03Draw kCm hb_q33) E0)) kCm hb_q19 fun code_=>ts_q19 _ (by simp [kD7]) (by simp [kD7]) code_
def s1_q4 (a55:FRows):((Sl (Sl Int))×Int)→Option (Sum ((Sl (Sl Int))×Int) (Sl (Sl Int))):=fun (w72,w77) =>
 bif decide (w77<(((a55.values.getD []).length:Nat):Int)) then
  kA0 (kF8 (a55.values.getD []) w77) fun a99 =>
  kA0 (t_q17 a99) fun c103 =>
  kA0 (kF9 w72 ([c103]:List (Sl Int))) fun _ =>
  some (.inl ((kB3 w72 ([c103]:List (Sl Int))),wr (w77+1)))
 else
  some (.inr w72)
def s0_q4 (f_:File):((Sl Channel)×(Sl Note)×(Sl FRows)×Int)→Option (Sum ((Sl Channel)×(Sl Note)×(Sl FRows)×Int) ((Sl Channel)×(Sl Note)×(Sl FRows))):=fun (w28,w30,w32,w37) =>
 bif decide (w37<(((f_.strokes.getD []).length:Nat):Int)) then
  kA0 (kF8 (f_.strokes.getD []) w37) fun a55 =>
  kA0 (kBo (s1_q4 a55) ((none:Sl (Sl Int)),0)) fun q81 =>
  kA0 (kF9 w32 ([(⟨q81⟩:FRows)]:List FRows)) fun _ =>
  some (.inl (w28,w30,(kB3 w32 ([(⟨q81⟩:FRows)]:List FRows)),wr (w37+1)))
 else
  some (.inr (w28,w30,w32))
def t_q4 (f_:File):Option File :=
 kA0 (t_q15 f_.channels) fun c9 =>
 kA0 (t_q16 f_.notes) fun c14 =>
 kA0 (kBo (s0_q4 f_) (c9,c14,(none:Sl FRows),0)) fun (q41,q43,q45) =>
 some (⟨q41,q45,q43⟩:File)
theorem tl1_q4 (env:Nat→Contract) {B:Base} (he_q15:env n_q15=.pure (C1 (fun c:(Sl Channel)=>rS c) t_q15)) (he_q16:env n_q16=.pure (C1 (fun c:(Sl Note)=>rS c) t_q16)) (he_q17:env n_q17=.pure (C1 (fun c:(Sl Int)=>rS c) t_q17)) (f_:File) (o1:Nat) (o5:Nat) (x11:AV) (x16:AV) (o19:Nat) (z27:AV) (w28:Sl Channel) (z29:AV) (w30:Sl Note) (z31:AV) (w37:Int) (a55:FRows) (m56:Nat) (o59:Nat) (o65:Nat) :kGr (fun (st:(Sl (Sl Int))×Int) tm h75=>match st with | (w72,w77)=>∃ z71,∃ ps73:PS (Sl Int),tm=((AV.agg [Sl.enc f_.channels,Sl.enc f_.strokes,Sl.enc f_.notes])::(AV.ptr o1 1 0 0)::(AV.ptr o5 1 0 0)::(AV.ptr o19 1 0 0)::und::(AV.ptr o59 1 0 0)::(AV.ptr o65 1 0 0)::und::.top::(AV.ptr o1 1 0 0)::(Sl.enc f_.channels)::x11::(AV.ptr o1 1 0 2)::(Sl.enc f_.notes)::x16::(AV.agg [x11,kA3,x16])::(AV.ptr o1 1 0 1)::(Sl.enc f_.strokes)::(iv (((f_.strokes.getD []).length:Nat):Int))::(iv w37)::(bv (decide (w37<(((f_.strokes.getD []).length:Nat):Int))))::(elp (Sl.enc f_.strokes) m56 0)::(AV.agg [Sl.enc a55.values])::(AV.ptr o59 1 0 0)::(Sl.enc a55.values)::(iv (((a55.values.getD []).length:Nat):Int))::(iv w77)::tZ9 11 [.top,.top,.top,.top,.top,.top,.top,und])∧pj ps73=w72∧Hold B h75 ([pZ9 o1 3 [Sl.enc f_.channels,Sl.enc f_.strokes,Sl.enc f_.notes],pZ9 o5 3 [kA3,kA3,kA3],(z27,obS (w28:Sl Channel)),(z29,obS (w30:Sl Note)),pZ9 o19 3 [z27,z31,z29],pZ9 o59 1 [Sl.enc a55.values],pZ9 o65 1 [z71]]++D2 (A:=(Sl Int)) z71 ps73)) hm1_q4 xm1_q4 (lb1_q4 env) (s1_q4 a55) (fun (q:Sl (Sl Int)) (r:Res)=>match q with | q81=>∃ (z80:AV) (z84:AV) (ps82:PS (Sl Int)) (h78:kA7),r=(.exit 2,((AV.agg [Sl.enc f_.channels,Sl.enc f_.strokes,Sl.enc f_.notes])::(AV.ptr o1 1 0 0)::(AV.ptr o5 1 0 0)::(AV.ptr o19 1 0 0)::und::(AV.ptr o59 1 0 0)::(AV.ptr o65 1 0 0)::und::z84::(AV.ptr o1 1 0 0)::(Sl.enc f_.channels)::x11::(AV.ptr o1 1 0 2)::(Sl.enc f_.notes)::x16::(AV.agg [x11,kA3,x16])::(AV.ptr o1 1 0 1)::(Sl.enc f_.strokes)::(iv (((f_.strokes.getD []).length:Nat):Int))::(iv w37)::(bv (decide (w37<(((f_.strokes.getD []).length:Nat):Int))))::(elp (Sl.enc f_.strokes) m56 0)::(AV.agg [Sl.enc a55.values])::(AV.ptr o59 1 0 0)::(Sl.enc a55.values)::(iv (((a55.values.getD []).length:Nat):Int))::tZ9 12 [.top,.top,.top,.top,.top,.top,.top,und]),h78)∧pj ps82=q81∧Hold B h78 ([pZ9 o1 3 [Sl.enc f_.channels,Sl.enc f_.strokes,Sl.enc f_.notes],pZ9 o5 3 [kA3,kA3,kA3],(z27,obS (w28:Sl Channel)),(z29,obS (w30:Sl Note)),pZ9 o19 3 [z27,z31,z29],pZ9 o59 1 [Sl.enc a55.values],pZ9 o65 1 [z80]]++D2 (A:=(Sl Int)) z80 ps82)):=by
 refine @kH3 _ _ _ _ _ _ _ _ (fun st tm h75 R => ?_)
 obtain ⟨w72,w77⟩:=st
 obtain ⟨z71,ps73,rfl,hp74,O76⟩:=R
 rw [e_lb1_q4]
 unfold s1_q4
 dsimp only
 refine kA1 (kBi _ _) ?_
 refine kAa (fun c98 => ?_) (fun c98 => ?_)
 ·refine kBm (Tab.enc h75 a55.values) (fun m100 a99 hi101 hm102 => ?_)
  refine kA1 (v:=Sl.enc a99) ((Tab.enc h75 a55.values).ld hm102 false 1 0) ?_
  refine kA1 (v:=AV.ptr o65 1 0 0) rfl ?_
  refine kA1 (v:=z71) (O76.ld 6 rfl false 1 0) ?_
  refine kE9 he_q17 (kCp _ _) (fun c103 => ?_)
  refine sim_hand (A:=Int) O76 (fun x105 h106 O107 => ?_)
  replace O107:Hold B h106 ([pZ9 o1 3 [Sl.enc f_.channels,Sl.enc f_.strokes,Sl.enc f_.notes],pZ9 o5 3 [kA3,kA3,kA3],(z27,obS (w28:Sl Channel)),(z29,obS (w30:Sl Note)),pZ9 o19 3 [z27,z31,z29],pZ9 o59 1 [Sl.enc a55.values],pZ9 o65 1 [z71],(x105,obS (c103:Sl Int))]++D2 (A:=(Sl Int)) z71 ps73):=Hold.rot O107
  have jZ0:=O107.one (A:=Int) (s:=c103) 7 rfl
  refine kBn O107 [[x105]] 1 rfl (by first | rfl | simp [kAk,kBz,jZ0.1,jZ0.2]) rfl (fun x108 h109 O110 => ?_)
  replace O110:Hold B h109 ([pZ9 o1 3 [Sl.enc f_.channels,Sl.enc f_.strokes,Sl.enc f_.notes],pZ9 o5 3 [kA3,kA3,kA3],(z27,obS (w28:Sl Channel)),(z29,obS (w30:Sl Note)),pZ9 o19 3 [z27,z31,z29],pZ9 o59 1 [Sl.enc a55.values],pZ9 o65 1 [z71],(x105,obS (c103:Sl Int)),(x108,.sl 1 [[x105]])]++D2 (A:=(Sl Int)) z71 ps73):=Hold.rot O110
  have O112:Hold B h109 ([pZ9 o1 3 [Sl.enc f_.channels,Sl.enc f_.strokes,Sl.enc f_.notes],pZ9 o5 3 [kA3,kA3,kA3],(z27,obS (w28:Sl Channel)),(z29,obS (w30:Sl Note)),pZ9 o19 3 [z27,z31,z29],pZ9 o59 1 [Sl.enc a55.values],pZ9 o65 1 [z71],(x105,obS (c103:Sl Int)),(x108,.sl 1 [[x105]])]++D2 (A:=(Sl Int)) z71 ps73):=O110.selD [0,1,2,3,4,5,6,7,8] (by decide) rfl
  refine kEs (l:=[pZ9 o1 3 [Sl.enc f_.channels,Sl.enc f_.strokes,Sl.enc f_.notes],pZ9 o5 3 [kA3,kA3,kA3],(z27,obS (w28:Sl Channel)),(z29,obS (w30:Sl Note)),pZ9 o19 3 [z27,z31,z29],pZ9 o59 1 [Sl.enc a55.values],pZ9 o65 1 [z71]]) (a:=c103) (y:=x105) (x:=z71) (ps:=ps73) O112 hp74 (by decide) (fun x113 ps116 h114 hp117 hm118 O115 => ?_)
  refine kA1 (v:=AV.ptr o65 1 0 0) rfl ?_
  have jZ0:=D2.oneX (l:=[pZ9 o1 3 [Sl.enc f_.channels,Sl.enc f_.strokes,Sl.enc f_.notes],pZ9 o5 3 [kA3,kA3,kA3],(z27,obS (w28:Sl Channel)),(z29,obS (w30:Sl Note)),pZ9 o19 3 [z27,z31,z29],pZ9 o59 1 [Sl.enc a55.values],pZ9 o65 1 [z71]]) (x:=x113) (ps:=ps116) (A:=(Sl Int)) O115
  refine kAj O115 6 (cs':=[x113]) rfl (by first | rfl | simp [jZ0.1,jZ0.2]) (by simp) (by first | rfl | simp [jZ0.1,jZ0.2]) (by first | rfl | simp [kAo,jZ0.1,jZ0.2]) (fun h120 O121 => ?_)
  replace O121:Hold B h120 ([pZ9 o1 3 [Sl.enc f_.channels,Sl.enc f_.strokes,Sl.enc f_.notes],pZ9 o5 3 [kA3,kA3,kA3],(z27,obS (w28:Sl Channel)),(z29,obS (w30:Sl Note)),pZ9 o19 3 [z27,z31,z29],pZ9 o59 1 [Sl.enc a55.values],pZ9 o65 1 [x113]]++D2 (A:=(Sl Int)) x113 ps116):=O121
  refine kA1 (kAg _ _) ?_
  exact kA6 ⟨rfl,_,_,rfl,hp117,O121⟩
 ·exact kA6 ⟨nofun,_,_,_,_,rfl,hp74,O76⟩
theorem tl0_q4 (env:Nat→Contract) {B0:Base} (he_q15:env n_q15=.pure (C1 (fun c:(Sl Channel)=>rS c) t_q15)) (he_q16:env n_q16=.pure (C1 (fun c:(Sl Note)=>rS c) t_q16)) (he_q17:env n_q17=.pure (C1 (fun c:(Sl Int)=>rS c) t_q17)) (f_:File) (o1:Nat) (o5:Nat) (x11:AV) (x16:AV) (o19:Nat) :kGr (fun (st:(Sl Channel)×(Sl Note)×(Sl FRows)×Int) tm h35=>match st with | (w28,w30,w32,w37)=>∃ B:Base,∃ z27 z29 z31,tm=((AV.agg [Sl.enc f_.channels,Sl.enc f_.strokes,Sl.enc f_.notes])::(AV.ptr o1 1 0 0)::(AV.ptr o5 1 0 0)::(AV.ptr o19 1 0 0)::und::.top::.top::und::.top::(AV.ptr o1 1 0 0)::(Sl.enc f_.channels)::x11::(AV.ptr o1 1 0 2)::(Sl.enc f_.notes)::x16::(AV.agg [x11,kA3,x16])::(AV.ptr o1 1 0 1)::(Sl.enc f_.strokes)::(iv (((f_.strokes.getD []).length:Nat):Int))::(iv w37)::tZ9 25 [und])∧OutT B0 B z31 w32∧Hold B h35 [pZ9 o1 3 [Sl.enc f_.channels,Sl.enc f_.strokes,Sl.enc f_.notes],pZ9 o5 3 [kA3,kA3,kA3],(z27,obS (w28:Sl Channel)),(z29,obS (w30:Sl Note)),pZ9 o19 3 [z27,z31,z29]]) hm0_q4 xm0_q4 (lb0_q4 env) (s0_q4 f_) (fun (q:(Sl Channel)×(Sl Note)×(Sl FRows)) (r:Res)=>match q with | (q41,q43,q45)=>∃ (B:Base) (z40:AV) (z42:AV) (z44:AV) (z48:AV) (z49:AV) (z50:AV) (h38:kA7),r=(.exit 0,((AV.agg [Sl.enc f_.channels,Sl.enc f_.strokes,Sl.enc f_.notes])::(AV.ptr o1 1 0 0)::(AV.ptr o5 1 0 0)::(AV.ptr o19 1 0 0)::und::z48::z49::und::z50::(AV.ptr o1 1 0 0)::(Sl.enc f_.channels)::x11::(AV.ptr o1 1 0 2)::(Sl.enc f_.notes)::x16::(AV.agg [x11,kA3,x16])::(AV.ptr o1 1 0 1)::(Sl.enc f_.strokes)::(iv (((f_.strokes.getD []).length:Nat):Int))::tZ9 26 [und]),h38)∧OutT B0 B z44 q45∧Hold B h38 [pZ9 o1 3 [Sl.enc f_.channels,Sl.enc f_.strokes,Sl.enc f_.notes],pZ9 o5 3 [kA3,kA3,kA3],(z40,obS (q41:Sl Channel)),(z42,obS (q43:Sl Note)),pZ9 o19 3 [z40,z44,z42]]):=by
 refine @kH3 _ _ _ _ _ _ _ _ (fun st tm h35 R => ?_)
 obtain ⟨w28,w30,w32,w37⟩:=st
 obtain ⟨B,z27,z29,z31,rfl,hT33,O36⟩:=R
 rw [e_lb0_q4]
 unfold s0_q4
 dsimp only
 refine kA1 (kBi _ _) ?_
 refine kAa (fun c54 => ?_) (fun c54 => ?_)
 ·refine kBm (Tab.enc h35 f_.strokes) (fun m56 a55 hi57 hm58 => ?_)
  refine kA1 (v:=AV.agg [Sl.enc a55.values]) ((Tab.enc h35 f_.strokes).ld hm58 true 1 0) ?_
  refine kBt O36 (cs:=[kA3]) (by first | rfl | simp) (fun o59 h60 O61 => ?_)
  replace O61:Hold B h60 [pZ9 o1 3 [Sl.enc f_.channels,Sl.enc f_.strokes,Sl.enc f_.notes],pZ9 o5 3 [kA3,kA3,kA3],(z27,obS (w28:Sl Channel)),(z29,obS (w30:Sl Note)),pZ9 o19 3 [z27,z31,z29],pZ9 o59 1 [kA3]]:=O61
  refine kAj O61 5 (cs':=[Sl.enc a55.values]) rfl (by first | rfl | simp) (by simp) (by first | rfl | simp) (by first | rfl | simp [kAo]) (fun h63 O64 => ?_)
  replace O64:Hold B h63 [pZ9 o1 3 [Sl.enc f_.channels,Sl.enc f_.strokes,Sl.enc f_.notes],pZ9 o5 3 [kA3,kA3,kA3],(z27,obS (w28:Sl Channel)),(z29,obS (w30:Sl Note)),pZ9 o19 3 [z27,z31,z29],pZ9 o59 1 [Sl.enc a55.values]]:=O64
  refine kBt O64 (cs:=[kA3]) (by first | rfl | simp) (fun o65 h66 O67 => ?_)
  replace O67:Hold B h66 [pZ9 o1 3 [Sl.enc f_.channels,Sl.enc f_.strokes,Sl.enc f_.notes],pZ9 o5 3 [kA3,kA3,kA3],(z27,obS (w28:Sl Channel)),(z29,obS (w30:Sl Note)),pZ9 o19 3 [z27,z31,z29],pZ9 o59 1 [Sl.enc a55.values],pZ9 o65 1 [kA3]]:=O67
  refine kA1 (v:=AV.ptr o59 1 0 0) rfl ?_
  refine kA1 (v:=Sl.enc a55.values) (O67.ld 5 rfl false 1 0) ?_
  refine kA1 (Tab.enc h66 a55.values).len ?_
  have O69:Hold B h66 ([pZ9 o1 3 [Sl.enc f_.channels,Sl.enc f_.strokes,Sl.enc f_.notes],pZ9 o5 3 [kA3,kA3,kA3],(z27,obS (w28:Sl Channel)),(z29,obS (w30:Sl Note)),pZ9 o19 3 [z27,z31,z29],pZ9 o59 1 [Sl.enc a55.values],pZ9 o65 1 [kA3]]++D2 (A:=(Sl Int)) kA3 (none:PS (Sl Int))):=O67.addnil
  refine kBe ((tl1_q4 env he_q15 he_q16 he_q17 f_ o1 o5 x11 x16 o19 z27 w28 z29 w30 z31 w37 a55 m56 o59 o65) ⟨_,_,rfl,(rfl:pj (none:PS (Sl Int))=(none:Sl (Sl Int))),O69⟩) (fun qq125 r hq => ?_)
  revert hq
  revert qq125
  intro q81 hq
  obtain ⟨z80,z84,ps82,h78,rfl,hp83,O79⟩:=hq
  rw [e_lk1x2_q4]
  refine kA1 (v:=AV.ptr o19 1 0 1) rfl ?_
  refine kA1 (v:=z31) (O79.ld 4 rfl false 1 1) ?_
  refine kA1 (v:=AV.agg [z80]) (O79.ld 6 rfl true 1 0) ?_
  have jZ0:=D2.oneX (l:=[pZ9 o1 3 [Sl.enc f_.channels,Sl.enc f_.strokes,Sl.enc f_.notes],pZ9 o5 3 [kA3,kA3,kA3],(z27,obS (w28:Sl Channel)),(z29,obS (w30:Sl Note)),pZ9 o19 3 [z27,z31,z29],pZ9 o59 1 [Sl.enc a55.values],pZ9 o65 1 [z80]]) (x:=z80) (ps:=ps82) (A:=(Sl Int)) O79
  refine kBn O79 [[z80]] 1 rfl (by first | rfl | simp [kAk,kBz,jZ0.1,jZ0.2]) rfl (fun x85 h86 O87 => ?_)
  replace O87:Hold B h86 ([pZ9 o1 3 [Sl.enc f_.channels,Sl.enc f_.strokes,Sl.enc f_.notes],pZ9 o5 3 [kA3,kA3,kA3],(z27,obS (w28:Sl Channel)),(z29,obS (w30:Sl Note)),pZ9 o19 3 [z27,z31,z29],pZ9 o59 1 [Sl.enc a55.values],pZ9 o65 1 [z80],(x85,.sl 1 [[z80]])]++D2 (A:=(Sl Int)) z80 ps82):=Hold.rot O87
  have O89:Hold B h86 ([pZ9 o1 3 [Sl.enc f_.channels,Sl.enc f_.strokes,Sl.enc f_.notes],pZ9 o5 3 [kA3,kA3,kA3],(z27,obS (w28:Sl Channel)),(z29,obS (w30:Sl Note)),pZ9 o19 3 [z27,z31,z29],pZ9 o59 1 [Sl.enc a55.values],pZ9 o65 1 [z80],(x85,.sl 1 [[z80]])]++D2 (A:=(Sl Int)) z80 ps82):=O87.selD [0,1,2,3,4,5,6,7] (by decide) rfl
  refine kG0 (l:=[pZ9 o1 3 [Sl.enc f_.channels,Sl.enc f_.strokes,Sl.enc f_.notes],pZ9 o5 3 [kA3,kA3,kA3],(z27,obS (w28:Sl Channel)),(z29,obS (w30:Sl Note)),pZ9 o19 3 [z27,z31,z29],pZ9 o59 1 [Sl.enc a55.values],pZ9 o65 1 [z80]]) (t:=x85) (y:=z80) (ps:=ps82) (s:=w32) hT33 O89 hp83 (by decide) (fun B x90 h91 hT93 O92 => ?_)
  refine kA1 (v:=AV.ptr o19 1 0 1) rfl ?_
  refine kAj O92 4 (cs':=[z27,x90,z29]) rfl (by first | rfl | simp [((kAy hT93).one O92).1,((kAy hT93).one O92).2]) (by simp) (by first | rfl | simp [((kAy hT93).one O92).1,((kAy hT93).one O92).2]) (by first | rfl | simp [kAo,((kAy hT93).one O92).1,((kAy hT93).one O92).2]) (fun h95 O96 => ?_)
  replace O96:Hold B h95 [pZ9 o1 3 [Sl.enc f_.channels,Sl.enc f_.strokes,Sl.enc f_.notes],pZ9 o5 3 [kA3,kA3,kA3],(z27,obS (w28:Sl Channel)),(z29,obS (w30:Sl Note)),pZ9 o19 3 [z27,x90,z29],pZ9 o59 1 [Sl.enc a55.values],pZ9 o65 1 [z80]]:=O96
  refine kA1 (kAg _ _) ?_
  have O97:Hold B h95 [pZ9 o1 3 [Sl.enc f_.channels,Sl.enc f_.strokes,Sl.enc f_.notes],pZ9 o5 3 [kA3,kA3,kA3],(z27,obS (w28:Sl Channel)),(z29,obS (w30:Sl Note)),pZ9 o19 3 [z27,x90,z29]]:=O96.sel [0,1,2,3,4] (by decide) rfl
  exact kA6 ⟨rfl,_,_,_,_,rfl,hT93,O97⟩
 ·exact kA6 ⟨nofun,_,_,_,_,_,_,_,_,rfl,hT33,O36⟩
theorem ts_q4 (env:Nat→Contract) (he_q15:env n_q15=.pure (C1 (fun c:(Sl Channel)=>rS c) t_q15)) (he_q16:env n_q16=.pure (C1 (fun c:(Sl Note)=>rS c) t_q16)) (he_q17:env n_q17=.pure (C1 (fun c:(Sl Int)=>rS c) t_q17)) (f_:File):Sim (kAf Try.prog env n_q4 [AV.agg [Sl.enc f_.channels,Sl.enc f_.strokes,Sl.enc f_.notes]] []) (t_q4 f_) fun c p=>release p.2 depth p.1=some ((fun c:File=>AV.agg [rS c.channels,rT c.strokes,rS c.notes]) c):=by
 have O:=Hold.nil []
 generalize hB:(⟨[],[]⟩:Base)=B at O
 clear hB
 rw [e_q4]
 unfold t_q4
 refine kBt O (cs:=[Sl.enc f_.channels,Sl.enc f_.strokes,Sl.enc f_.notes]) (by first | rfl | simp) (fun o1 h2 O3 => ?_)
 replace O3:Hold B h2 [pZ9 o1 3 [Sl.enc f_.channels,Sl.enc f_.strokes,Sl.enc f_.notes]]:=O3
 refine kBt O3 (cs:=[kA3,kA3,kA3]) (by first | rfl | simp) (fun o5 h6 O7 => ?_)
 replace O7:Hold B h6 [pZ9 o1 3 [Sl.enc f_.channels,Sl.enc f_.strokes,Sl.enc f_.notes],pZ9 o5 3 [kA3,kA3,kA3]]:=O7
 refine kA1 (v:=AV.ptr o1 1 0 0) rfl ?_
 refine kA1 (v:=Sl.enc f_.channels) (O7.ld 0 rfl false 1 0) ?_
 refine kE9 he_q15 (kCp _ _) (fun c9 => ?_)
 refine sim_hand (A:=Channel) O7 (fun x11 h12 O13 => ?_)
 replace O13:Hold B h12 [pZ9 o1 3 [Sl.enc f_.channels,Sl.enc f_.strokes,Sl.enc f_.notes],pZ9 o5 3 [kA3,kA3,kA3],(x11,obS (c9:Sl Channel))]:=O13
 refine kA1 (v:=AV.ptr o1 1 0 2) rfl ?_
 refine kA1 (v:=Sl.enc f_.notes) (O13.ld 0 rfl false 1 2) ?_
 refine kE9 he_q16 (kCp _ _) (fun c14 => ?_)
 refine sim_hand (A:=Note) O13 (fun x16 h17 O18 => ?_)
 replace O18:Hold B h17 [pZ9 o1 3 [Sl.enc f_.channels,Sl.enc f_.strokes,Sl.enc f_.notes],pZ9 o5 3 [kA3,kA3,kA3],(x11,obS (c9:Sl Channel)),(x16,obS (c14:Sl Note))]:=O18
 have jZ0:=O18.one (A:=Channel) (s:=c9) 2 rfl
 have jZ1:=O18.one (A:=Note) (s:=c14) 3 rfl
 refine kA1 (v:=AV.agg [x11,kA3,x16]) (by first | rfl | simp [kBs,kEq,kAo,jZ0.1,jZ0.2,jZ1.1,jZ1.2]) ?_
 refine kBt O18 (cs:=[kA3,kA3,kA3]) (by first | rfl | simp) (fun o19 h20 O21 => ?_)
 replace O21:Hold B h20 [pZ9 o1 3 [Sl.enc f_.channels,Sl.enc f_.strokes,Sl.enc f_.notes],pZ9 o5 3 [kA3,kA3,kA3],(x11,obS (c9:Sl Channel)),(x16,obS (c14:Sl Note)),pZ9 o19 3 [kA3,kA3,kA3]]:=O21
 have jZ0:=O21.one (A:=Channel) (s:=c9) 2 rfl
 have jZ1:=O21.one (A:=Note) (s:=c14) 3 rfl
 refine kAj O21 4 (cs':=[x11,kA3,x16]) rfl (by first | rfl | simp [jZ0.1,jZ0.2,jZ1.1,jZ1.2]) (by simp) (by first | rfl | simp [jZ0.1,jZ0.2,jZ1.1,jZ1.2]) (by first | rfl | simp [kAo,jZ0.1,jZ0.2,jZ1.1,jZ1.2]) (fun h23 O24 => ?_)
 replace O24:Hold B h23 [pZ9 o1 3 [Sl.enc f_.channels,Sl.enc f_.strokes,Sl.enc f_.notes],pZ9 o5 3 [kA3,kA3,kA3],(x11,obS (c9:Sl Channel)),(x16,obS (c14:Sl Note)),pZ9 o19 3 [x11,kA3,x16]]:=O24
 refine kA1 (v:=AV.ptr o1 1 0 1) rfl ?_
 refine kA1 (v:=Sl.enc f_.strokes) (O24.ld 0 rfl false 1 1) ?_
 refine kA1 (Tab.enc h23 f_.strokes).len ?_
 have hT25:=out_nil B
 refine kBe ((tl0_q4 env he_q15 he_q16 he_q17 f_ o1 o5 x11 x16 o19) ⟨_,_,_,_,rfl,hT25,O24⟩) (fun qq128 r hq => ?_)
 obtain ⟨q41,q43,q45⟩:=qq128
 obtain ⟨B,z40,z42,z44,z48,z49,z50,h38,rfl,hT46,O39⟩:=hq
 rw [e_lk0x0_q4]
 refine kA1 (v:=AV.agg [z40,z44,z42]) (O39.ld 4 rfl true 3 0) ?_
 have jZ0:=O39.one (A:=Channel) (s:=q41) 2 rfl
 have jZ1:=O39.one (A:=Note) (s:=q43) 3 rfl
 refine kAj O39 1 (cs':=[z40,z44,z42]) rfl (by first | rfl | simp [((kAy hT46).one O39).1,((kAy hT46).one O39).2,jZ0.1,jZ0.2,jZ1.1,jZ1.2]) (by simp) (by first | rfl | simp [((kAy hT46).one O39).1,((kAy hT46).one O39).2,jZ0.1,jZ0.2,jZ1.1,jZ1.2]) (by first | rfl | simp [kAo,((kAy hT46).one O39).1,((kAy hT46).one O39).2,jZ0.1,jZ0.2,jZ1.1,jZ1.2]) (fun h51 O52 => ?_)
 replace O52:Hold B h51 [pZ9 o1 3 [Sl.enc f_.channels,Sl.enc f_.strokes,Sl.enc f_.notes],pZ9 o5 3 [z40,z44,z42],(z40,obS (q41:Sl Channel)),(z42,obS (q43:Sl Note)),pZ9 o19 3 [z40,z44,z42]]:=O52
 refine kDx (kG1 (v:=AV.agg [z40,z44,z42]) (O52.ld 1 rfl true 3 0) (kDy _)) ?_
 dsimp only [pack]
 have O53:Hold B h51 [(z40,obS (q41:Sl Channel)),(z42,obS (q43:Sl Note))]:=O52.sel [2,3] (by decide) rfl
 exact kA6 (releaseF (c:=(⟨q41,q45,q43⟩:File)) hT46 O53)
theorem tt_q4:kB6 Try.prog n_q4 (C1 (fun c:File=>AV.agg [rS c.channels,rT c.strokes,rS c.notes]) t_q4):=kFx (kCl tt_q15 (kCl tt_q16 (kCl tt_q17 E0))) kCm hb_q4 fun f_=>ts_q4 _ (by simp [kD7]) (by simp [kD7]) (by simp [kD7]) f_
def t_q0 (f_:File) (n_:Note):Option (File×Int) :=
 kA0 (t_q3 f_) fun c13 =>
 bif !c13 then
  some ((⟨(none:Sl Channel),(none:Sl FRows),(none:Sl Note)⟩:File),1)
 else
  kA0 (t_q8 f_ n_) fun c17 =>
  bif !c17 then
   some ((⟨(none:Sl Channel),(none:Sl FRows),(none:Sl Note)⟩:File),2)
  else
   kA0 (t_q1 n_.text) fun c21 =>
   bif !c21 then
    some ((⟨(none:Sl Channel),(none:Sl FRows),(none:Sl Note)⟩:File),7)
   else
    bif decide (12≤(((f_.notes.getD []).length:Nat):Int)) then
     some ((⟨(none:Sl Channel),(none:Sl FRows),(none:Sl Note)⟩:File),5)
    else
     kA0 (t_q4 f_) fun c28 =>
     kA0 (kF9 c28.notes ([n_]:List Note)) fun _ =>
     some ((⟨c28.channels,c28.strokes,(kB3 c28.notes ([n_]:List Note))⟩:File),0)
end Go.Proofs.Ytjlbidpdiblmaaa
