import Derived.Test.YtccoloclaocinaaGreatFnExactFindSentencePartB
namespace Go.Proofs.YtccoloclaocinaaGreat
open Go Go.Eng Go.Eng.Cod
set_option maxRecDepth 100000
set_option linter.unusedVariables false
set_option linter.unusedSimpArgs false
theorem tl2_q5 (env:Nat→Contract) {B:Base} (he_q11:env n_q11=.pure (C3 (fun c:WordAt×Bool=>AV.tup [enc c.1,enc c.2]) t_q11)) (he_q18:env n_q18=.pure (C3 (fun c:Int=>enc c) t_q18)) (he_q20:env n_q20=.pure (C2 (fun c:Int=>enc c) kJp)) (list_:Sl Lattice) (x_:Lexicon) (m_:Model) (o1:Nat) (o5:Nat) (o9:Nat) (c13:Int) (x17:AV) (q32:Sl (Sl WordAt)) (ps33:PS (Sl WordAt)) (hp34:pj ps33=q32) (q35:Int) (z36:AV) (z37:AV) (z38:AV) (z39:AV) (o40:Nat) :kFq (fun (st:Int×(Sl ByteArray)×ByteArray×Int) tm h49=>match st with | (w46,w48,w51,w52)=>∃ z47,tm=((Sl.enc list_)::(AV.agg [Sl.enc x_.entries])::(AV.agg [iv m_.default,Sl.enc m_.bigrams])::und::(AV.ptr o1 1 0 0)::(AV.ptr o5 1 0 0)::(AV.ptr o9 1 0 0)::.top::(iv c13)::x17::(iv q35)::und::z36::z37::z38::z39::(AV.ptr o40 1 0 0)::(sv w51)::.top::.top::.top::(Sl.enc list_)::(AV.agg [Sl.enc x_.entries])::(AV.agg [iv m_.default,Sl.enc m_.bigrams])::(iv c13)::(iv c13)::(bv (!decide (c13=0)))::und::und::(Sl.enc list_)::(iv (((list_.getD []).length:Nat):Int))::(iv (wr ((((list_.getD []).length:Nat):Int)+1)))::x17::(Sl.enc list_)::(iv (((list_.getD []).length:Nat):Int))::(iv (wr ((((list_.getD []).length:Nat):Int) - 1)))::.top::.top::.top::.top::.top::.top::.top::.top::.top::.top::.top::.top::.top::.top::.top::.top::.top::.top::.top::.top::.top::.top::.top::.top::.top::.top::.top::.top::.top::.top::.top::.top::.top::.top::.top::.top::.top::.top::.top::.top::.top::.top::.top::.top::.top::.top::.top::.top::.top::.top::.top::.top::.top::.top::.top::.top::.top::.top::.top::.top::.top::.top::(Sl.enc list_)::(iv (((list_.getD []).length:Nat):Int))::(iv w52)::tZ9 30 [und])∧Hold B h49 ([pZ9 o1 1 [Sl.enc x_.entries],pZ9 o5 2 [iv m_.default,Sl.enc m_.bigrams],pZ9 o9 2 [kB3,iv 0],pZ9 o40 2 [z47,iv w46],(z47,obS (w48:Sl ByteArray))]++D2 (A:=(Sl WordAt)) x17 ps33)) hm2_q5 xm2_q5 (lb2_q5 env) (s2_q5 list_ m_ q32) (fun (q:Sum (Int×(Sl ByteArray)) Int) (r:Res)=>match q with | .inl (q55,q57)=>∃ (q59:ByteArray) (z56:AV) (z58:AV) (z60:AV) (z61:AV) (z62:AV) (h53:kA9),r=(.exit 4,((Sl.enc list_)::(AV.agg [Sl.enc x_.entries])::(AV.agg [iv m_.default,Sl.enc m_.bigrams])::und::(AV.ptr o1 1 0 0)::(AV.ptr o5 1 0 0)::(AV.ptr o9 1 0 0)::z58::(iv c13)::x17::(iv q35)::und::z36::z37::z38::z39::(AV.ptr o40 1 0 0)::(sv q59)::z60::z61::z62::(Sl.enc list_)::(AV.agg [Sl.enc x_.entries])::(AV.agg [iv m_.default,Sl.enc m_.bigrams])::(iv c13)::(iv c13)::(bv (!decide (c13=0)))::und::und::(Sl.enc list_)::(iv (((list_.getD []).length:Nat):Int))::(iv (wr ((((list_.getD []).length:Nat):Int)+1)))::x17::(Sl.enc list_)::(iv (((list_.getD []).length:Nat):Int))::(iv (wr ((((list_.getD []).length:Nat):Int) - 1)))::.top::.top::.top::.top::.top::.top::.top::.top::.top::.top::.top::.top::.top::.top::.top::.top::.top::.top::.top::.top::.top::.top::.top::.top::.top::.top::.top::.top::.top::.top::.top::.top::.top::.top::.top::.top::.top::.top::.top::.top::.top::.top::.top::.top::.top::.top::.top::.top::.top::.top::.top::.top::.top::.top::.top::.top::.top::.top::.top::.top::.top::.top::(Sl.enc list_)::(iv (((list_.getD []).length:Nat):Int))::tZ9 31 [und]),h53)∧Hold B h53 ([pZ9 o1 1 [Sl.enc x_.entries],pZ9 o5 2 [iv m_.default,Sl.enc m_.bigrams],pZ9 o9 2 [kB3,iv 0],pZ9 o40 2 [z56,iv q55],(z56,obS (q57:Sl ByteArray))]++D2 (A:=(Sl WordAt)) x17 ps33) | .inr q71=>∃ (q68:Int) (q70:Sl ByteArray) (q72:ByteArray) (q73:Int) (q75:Bool) (z69:AV) (z74:AV) (h66:kA9),r=(.ret,((Sl.enc list_)::(AV.agg [Sl.enc x_.entries])::(AV.agg [iv m_.default,Sl.enc m_.bigrams])::und::(AV.ptr o1 1 0 0)::(AV.ptr o5 1 0 0)::(AV.ptr o9 1 0 0)::(iv q71)::(iv c13)::x17::(iv q35)::und::z36::z37::z38::z39::(AV.ptr o40 1 0 0)::(sv q72)::(iv q73)::z74::(bv q75)::(Sl.enc list_)::(AV.agg [Sl.enc x_.entries])::(AV.agg [iv m_.default,Sl.enc m_.bigrams])::(iv c13)::(iv c13)::(bv (!decide (c13=0)))::und::und::(Sl.enc list_)::(iv (((list_.getD []).length:Nat):Int))::(iv (wr ((((list_.getD []).length:Nat):Int)+1)))::x17::(Sl.enc list_)::(iv (((list_.getD []).length:Nat):Int))::(iv (wr ((((list_.getD []).length:Nat):Int) - 1)))::.top::.top::.top::.top::.top::.top::.top::.top::.top::.top::.top::.top::.top::.top::.top::.top::.top::.top::.top::.top::.top::.top::.top::.top::.top::.top::.top::.top::.top::.top::.top::.top::.top::.top::.top::.top::.top::.top::.top::.top::.top::.top::.top::.top::.top::.top::.top::.top::.top::.top::.top::.top::.top::.top::.top::.top::.top::.top::.top::.top::.top::.top::(Sl.enc list_)::(iv (((list_.getD []).length:Nat):Int))::tZ9 31 [und]),h66)∧Hold B h66 ([pZ9 o1 1 [Sl.enc x_.entries],pZ9 o5 2 [iv m_.default,Sl.enc m_.bigrams],pZ9 o9 2 [kB3,iv 0],pZ9 o40 2 [z69,iv q68],(z69,obS (q70:Sl ByteArray))]++D2 (A:=(Sl WordAt)) x17 ps33)):=by
 refine @kG0 _ _ _ _ _ _ _ _ (fun st tm h49 R => ?_)
 obtain ⟨w46,w48,w51,w52⟩:=st
 obtain ⟨z47,rfl,O50⟩:=R
 rw [e_lb2_q5]
 unfold s2_q5
 dsimp only
 refine kA1 (kAl _ _) ?_
 refine kAb (fun c76 => ?_) (fun c76 => ?_)
 ·refine kA1 (v:=AV.agg [iv m_.default,Sl.enc m_.bigrams]) (O50.ld 1 rfl true 2 0) ?_
  refine kGx (l:=[pZ9 o1 1 [Sl.enc x_.entries],pZ9 o5 2 [iv m_.default,Sl.enc m_.bigrams],pZ9 o9 2 [kB3,iv 0],pZ9 o40 2 [z47,iv w46],(z47,obS (w48:Sl ByteArray))]) (x:=x17) (ps:=ps33) (A:=(Sl WordAt)) O50 hp34 (fun m78 a77 x81 hi79 hm80 hg82 => ?_)
  refine kA1 (v:=x81) (D2.ld (l:=[pZ9 o1 1 [Sl.enc x_.entries],pZ9 o5 2 [iv m_.default,Sl.enc m_.bigrams],pZ9 o9 2 [kB3,iv 0],pZ9 o40 2 [z47,iv w46],(z47,obS (w48:Sl ByteArray))]) (x:=x17) (ps:=ps33) (A:=(Sl WordAt)) O50 hm80 false 1 0) ?_
  refine kGi he_q11 (kAz _ m_ rfl) (kC4 _ _) ((D2.tab (l:=[pZ9 o1 1 [Sl.enc x_.entries],pZ9 o5 2 [iv m_.default,Sl.enc m_.bigrams],pZ9 o9 2 [kB3,iv 0],pZ9 o40 2 [z47,iv w46],(z47,obS (w48:Sl ByteArray))]) (x:=x17) (ps:=ps33) (A:=(Sl WordAt)) O50 hm80).snap) (fun c83 => ?_)
  refine kAq (kAc (by rfl) _ _) ?_
  refine kA1 (v:=AV.agg [sv c83.1.word,iv c83.1.cost]) rfl ?_
  refine kA1 (v:=bv c83.2) rfl ?_
  refine kAs O50 (cs:=[sv (⟨#[]⟩:ByteArray),iv 0]) (by first | rfl | simp) (fun o84 h85 O86 => ?_)
  replace O86:Hold B h85 ([pZ9 o1 1 [Sl.enc x_.entries],pZ9 o5 2 [iv m_.default,Sl.enc m_.bigrams],pZ9 o9 2 [kB3,iv 0],pZ9 o40 2 [z47,iv w46],(z47,obS (w48:Sl ByteArray)),pZ9 o84 2 [sv (⟨#[]⟩:ByteArray),iv 0]]++D2 (A:=(Sl WordAt)) x17 ps33):=Hold.rot O86
  refine kAw O86 5 (cs':=[sv c83.1.word,iv c83.1.cost]) rfl (by first | rfl | simp) (by simp) (by first | rfl | simp) (by first | rfl | simp [kAx]) (fun h88 O89 => ?_)
  replace O89:Hold B h88 ([pZ9 o1 1 [Sl.enc x_.entries],pZ9 o5 2 [iv m_.default,Sl.enc m_.bigrams],pZ9 o9 2 [kB3,iv 0],pZ9 o40 2 [z47,iv w46],(z47,obS (w48:Sl ByteArray)),pZ9 o84 2 [sv c83.1.word,iv c83.1.cost]]++D2 (A:=(Sl WordAt)) x17 ps33):=O89
  refine kA1 (v:=bv (!c83.2)) (kBu _) ?_
  refine kAb (fun c90 => ?_) (fun c90 => ?_)
  ·refine kA1 (v:=AV.agg [kB3,iv 0]) (by first | rfl | simp [kCm,kGf,kAx]) ?_
   refine kAw O89 2 (cs':=[kB3,iv 0]) rfl (by first | rfl | simp) (by simp) (by first | rfl | simp) (by first | rfl | simp [kAx]) (fun h91 O92 => ?_)
   replace O92:Hold B h91 ([pZ9 o1 1 [Sl.enc x_.entries],pZ9 o5 2 [iv m_.default,Sl.enc m_.bigrams],pZ9 o9 2 [kB3,iv 0],pZ9 o40 2 [z47,iv w46],(z47,obS (w48:Sl ByteArray)),pZ9 o84 2 [sv c83.1.word,iv c83.1.cost]]++D2 (A:=(Sl WordAt)) x17 ps33):=O92
   have O93:Hold B h91 ([pZ9 o1 1 [Sl.enc x_.entries],pZ9 o5 2 [iv m_.default,Sl.enc m_.bigrams],pZ9 o9 2 [kB3,iv 0],pZ9 o40 2 [z47,iv w46],(z47,obS (w48:Sl ByteArray))]++D2 (A:=(Sl WordAt)) x17 ps33):=O92.selD [0,1,2,3,4] (by decide) rfl
   exact kA6 ⟨nofun,_,_,_,_,_,_,_,_,rfl,O93⟩
  ·refine kA1 (kHu _ _) ?_
   refine kAb (fun c94 => ?_) (fun c94 => ?_)
   ·refine kA1 (v:=AV.ptr o84 1 0 1) rfl ?_
    refine kA1 (v:=iv c83.1.cost) (O89.ld 5 rfl false 1 1) ?_
    refine kA1 (v:=AV.ptr o40 1 0 1) rfl ?_
    refine kAw O89 3 (cs':=[z47,iv c83.1.cost]) rfl (by first | rfl | simp) (by simp) (by first | rfl | simp) (by first | rfl | simp [kAx]) (fun h95 O96 => ?_)
    replace O96:Hold B h95 ([pZ9 o1 1 [Sl.enc x_.entries],pZ9 o5 2 [iv m_.default,Sl.enc m_.bigrams],pZ9 o9 2 [kB3,iv 0],pZ9 o40 2 [z47,iv c83.1.cost],(z47,obS (w48:Sl ByteArray)),pZ9 o84 2 [sv c83.1.word,iv c83.1.cost]]++D2 (A:=(Sl WordAt)) x17 ps33):=O96
    refine kA1 (v:=AV.ptr o40 1 0 0) rfl ?_
    refine kA1 (v:=z47) (O96.ld 3 rfl false 1 0) ?_
    refine kA1 (v:=AV.ptr o84 1 0 0) rfl ?_
    refine kA1 (v:=sv c83.1.word) (O96.ld 5 rfl false 1 0) ?_
    refine kD7 (A:=ByteArray) O96 ([c83.1.word]:List ByteArray) rfl (by first | rfl | simp [kBy,kEp]) rfl (fun x97 h98 O99 => ?_)
    replace O99:Hold B h98 ([pZ9 o1 1 [Sl.enc x_.entries],pZ9 o5 2 [iv m_.default,Sl.enc m_.bigrams],pZ9 o9 2 [kB3,iv 0],pZ9 o40 2 [z47,iv c83.1.cost],(z47,obS (w48:Sl ByteArray)),pZ9 o84 2 [sv c83.1.word,iv c83.1.cost],(x97,obS ((some ([c83.1.word]:List ByteArray)):Sl ByteArray))]++D2 (A:=(Sl WordAt)) x17 ps33):=Hold.rot O99
    refine kDx (A:=ByteArray) (s:=w48) O99 4 ([c83.1.word]:List ByteArray) rfl (O99.src (A:=ByteArray) (s:=(some ([c83.1.word]:List ByteArray))) 6 rfl) (by decide) (fun x102 h103 O104 => ?_)
    replace O104:Hold B h103 ([pZ9 o1 1 [Sl.enc x_.entries],pZ9 o5 2 [iv m_.default,Sl.enc m_.bigrams],pZ9 o9 2 [kB3,iv 0],pZ9 o40 2 [z47,iv c83.1.cost],(x102,obS ((kBv w48 ([c83.1.word]:List ByteArray)):Sl ByteArray)),pZ9 o84 2 [sv c83.1.word,iv c83.1.cost],(x97,obS ((some ([c83.1.word]:List ByteArray)):Sl ByteArray))]++D2 (A:=(Sl WordAt)) x17 ps33):=O104
    have O106:Hold B h103 ([pZ9 o1 1 [Sl.enc x_.entries],pZ9 o5 2 [iv m_.default,Sl.enc m_.bigrams],pZ9 o9 2 [kB3,iv 0],pZ9 o40 2 [z47,iv c83.1.cost],(x102,obS ((kBv w48 ([c83.1.word]:List ByteArray)):Sl ByteArray)),pZ9 o84 2 [sv c83.1.word,iv c83.1.cost]]++D2 (A:=(Sl WordAt)) x17 ps33):=O104.selD [0,1,2,3,4,5] (by decide) rfl
    refine kA1 (v:=AV.ptr o40 1 0 0) rfl ?_
    have jZ0:=O106.one (A:=ByteArray) (s:=(kBv w48 ([c83.1.word]:List ByteArray))) 4 rfl
    refine kAw O106 3 (cs':=[x102,iv c83.1.cost]) rfl (by first | rfl | simp [jZ0.1,jZ0.2]) (by simp) (by first | rfl | simp [jZ0.1,jZ0.2]) (by first | rfl | simp [kAx,jZ0.1,jZ0.2]) (fun h107 O108 => ?_)
    replace O108:Hold B h107 ([pZ9 o1 1 [Sl.enc x_.entries],pZ9 o5 2 [iv m_.default,Sl.enc m_.bigrams],pZ9 o9 2 [kB3,iv 0],pZ9 o40 2 [x102,iv c83.1.cost],(x102,obS ((kBv w48 ([c83.1.word]:List ByteArray)):Sl ByteArray)),pZ9 o84 2 [sv c83.1.word,iv c83.1.cost]]++D2 (A:=(Sl WordAt)) x17 ps33):=O108
    refine kA1 (v:=AV.ptr o84 1 0 0) rfl ?_
    refine kA1 (v:=sv c83.1.word) (O108.ld 5 rfl false 1 0) ?_
    refine kA1 (kAj _ _) ?_
    have O109:Hold B h107 ([pZ9 o1 1 [Sl.enc x_.entries],pZ9 o5 2 [iv m_.default,Sl.enc m_.bigrams],pZ9 o9 2 [kB3,iv 0],pZ9 o40 2 [x102,iv c83.1.cost],(x102,obS ((kBv w48 ([c83.1.word]:List ByteArray)):Sl ByteArray))]++D2 (A:=(Sl WordAt)) x17 ps33):=O108.selD [0,1,2,3,4] (by decide) rfl
    exact kA6 ⟨rfl,_,rfl,O109⟩
   ·refine kA1 (v:=AV.ptr o40 1 0 0) rfl ?_
    refine kA1 (v:=z47) (O89.ld 3 rfl false 1 0) ?_
    refine kA1 (v:=AV.ptr o84 1 0 0) rfl ?_
    refine kA1 (v:=sv c83.1.word) (O89.ld 5 rfl false 1 0) ?_
    refine kD7 (A:=ByteArray) O89 ([c83.1.word]:List ByteArray) rfl (by first | rfl | simp [kBy,kEp]) rfl (fun x110 h111 O112 => ?_)
    replace O112:Hold B h111 ([pZ9 o1 1 [Sl.enc x_.entries],pZ9 o5 2 [iv m_.default,Sl.enc m_.bigrams],pZ9 o9 2 [kB3,iv 0],pZ9 o40 2 [z47,iv w46],(z47,obS (w48:Sl ByteArray)),pZ9 o84 2 [sv c83.1.word,iv c83.1.cost],(x110,obS ((some ([c83.1.word]:List ByteArray)):Sl ByteArray))]++D2 (A:=(Sl WordAt)) x17 ps33):=Hold.rot O112
    refine kDx (A:=ByteArray) (s:=w48) O112 4 ([c83.1.word]:List ByteArray) rfl (O112.src (A:=ByteArray) (s:=(some ([c83.1.word]:List ByteArray))) 6 rfl) (by decide) (fun x115 h116 O117 => ?_)
    replace O117:Hold B h116 ([pZ9 o1 1 [Sl.enc x_.entries],pZ9 o5 2 [iv m_.default,Sl.enc m_.bigrams],pZ9 o9 2 [kB3,iv 0],pZ9 o40 2 [z47,iv w46],(x115,obS ((kBv w48 ([c83.1.word]:List ByteArray)):Sl ByteArray)),pZ9 o84 2 [sv c83.1.word,iv c83.1.cost],(x110,obS ((some ([c83.1.word]:List ByteArray)):Sl ByteArray))]++D2 (A:=(Sl WordAt)) x17 ps33):=O117
    have O119:Hold B h116 ([pZ9 o1 1 [Sl.enc x_.entries],pZ9 o5 2 [iv m_.default,Sl.enc m_.bigrams],pZ9 o9 2 [kB3,iv 0],pZ9 o40 2 [z47,iv w46],(x115,obS ((kBv w48 ([c83.1.word]:List ByteArray)):Sl ByteArray)),pZ9 o84 2 [sv c83.1.word,iv c83.1.cost]]++D2 (A:=(Sl WordAt)) x17 ps33):=O117.selD [0,1,2,3,4,5] (by decide) rfl
    refine kA1 (v:=AV.ptr o40 1 0 0) rfl ?_
    have jZ0:=O119.one (A:=ByteArray) (s:=(kBv w48 ([c83.1.word]:List ByteArray))) 4 rfl
    refine kAw O119 3 (cs':=[x115,iv w46]) rfl (by first | rfl | simp [jZ0.1,jZ0.2]) (by simp) (by first | rfl | simp [jZ0.1,jZ0.2]) (by first | rfl | simp [kAx,jZ0.1,jZ0.2]) (fun h120 O121 => ?_)
    replace O121:Hold B h120 ([pZ9 o1 1 [Sl.enc x_.entries],pZ9 o5 2 [iv m_.default,Sl.enc m_.bigrams],pZ9 o9 2 [kB3,iv 0],pZ9 o40 2 [x115,iv w46],(x115,obS ((kBv w48 ([c83.1.word]:List ByteArray)):Sl ByteArray)),pZ9 o84 2 [sv c83.1.word,iv c83.1.cost]]++D2 (A:=(Sl WordAt)) x17 ps33):=O121
    refine kA1 (v:=AV.ptr o84 1 0 0) rfl ?_
    refine kA1 (v:=sv c83.1.word) (O121.ld 5 rfl false 1 0) ?_
    refine kA1 (kAj _ _) ?_
    have O122:Hold B h120 ([pZ9 o1 1 [Sl.enc x_.entries],pZ9 o5 2 [iv m_.default,Sl.enc m_.bigrams],pZ9 o9 2 [kB3,iv 0],pZ9 o40 2 [x115,iv w46],(x115,obS ((kBv w48 ([c83.1.word]:List ByteArray)):Sl ByteArray))]++D2 (A:=(Sl WordAt)) x17 ps33):=O121.selD [0,1,2,3,4] (by decide) rfl
    exact kA6 ⟨rfl,_,rfl,O122⟩
 ·exact kA6 ⟨nofun,_,_,_,_,_,_,_,rfl,O50⟩
theorem tl1_q5 (env:Nat→Contract) {B:Base} (he_q11:env n_q11=.pure (C3 (fun c:WordAt×Bool=>AV.tup [enc c.1,enc c.2]) t_q11)) (he_q18:env n_q18=.pure (C3 (fun c:Int=>enc c) t_q18)) (he_q20:env n_q20=.pure (C2 (fun c:Int=>enc c) kJp)) (list_:Sl Lattice) (x_:Lexicon) (m_:Model) (o1:Nat) (o5:Nat) (o9:Nat) (c13:Int) (x17:AV) (w29:Int) :kFq (fun (st:(Sl (Sl WordAt))×Int) tm h130=>match st with | (w127,w132)=>∃ ps128:PS (Sl WordAt),tm=((Sl.enc list_)::(AV.agg [Sl.enc x_.entries])::(AV.agg [iv m_.default,Sl.enc m_.bigrams])::und::(AV.ptr o1 1 0 0)::(AV.ptr o5 1 0 0)::(AV.ptr o9 1 0 0)::(iv 0)::(iv c13)::x17::(iv w29)::und::tZ9 4 (und::und::und::und::und::(Sl.enc list_)::(AV.agg [Sl.enc x_.entries])::(AV.agg [iv m_.default,Sl.enc m_.bigrams])::(iv c13)::(iv c13)::(bv (!decide (c13=0)))::und::und::(Sl.enc list_)::(iv (((list_.getD []).length:Nat):Int))::(iv (wr ((((list_.getD []).length:Nat):Int)+1)))::x17::(Sl.enc list_)::(iv (((list_.getD []).length:Nat):Int))::(iv (wr ((((list_.getD []).length:Nat):Int) - 1)))::(iv w29)::(bv (decide (0≤w29)))::.top::.top::(AV.ptr o1 1 0 0)::(Sl.enc x_.entries)::(iv (((x_.entries.getD []).length:Nat):Int))::(iv w132)::tZ9 54 [und,und,und,und,und,und,und,und,und,und,und,und,und,und,und,und,und,und,und,und,und,und,und,und,und,und,und,und,und,und,und,und,und,und]))∧pj ps128=w127∧Hold B h130 ([pZ9 o1 1 [Sl.enc x_.entries],pZ9 o5 2 [iv m_.default,Sl.enc m_.bigrams],pZ9 o9 2 [kB3,iv 0]]++D2 (A:=(Sl WordAt)) x17 ps128)) hm1_q5 xm1_q5 (lb1_q5 env) (s1_q5 list_ x_ m_ w29) (fun (q:Sl (Sl WordAt)) (r:Res)=>match q with | q135=>∃ (z138:AV) (z139:AV) (z140:AV) (z141:AV) (ps136:PS (Sl WordAt)) (h133:kA9),r=(.exit 2,((Sl.enc list_)::(AV.agg [Sl.enc x_.entries])::(AV.agg [iv m_.default,Sl.enc m_.bigrams])::und::(AV.ptr o1 1 0 0)::(AV.ptr o5 1 0 0)::(AV.ptr o9 1 0 0)::(iv 0)::(iv c13)::x17::(iv w29)::und::z138::z139::z140::z141::und::und::und::und::und::(Sl.enc list_)::(AV.agg [Sl.enc x_.entries])::(AV.agg [iv m_.default,Sl.enc m_.bigrams])::(iv c13)::(iv c13)::(bv (!decide (c13=0)))::und::und::(Sl.enc list_)::(iv (((list_.getD []).length:Nat):Int))::(iv (wr ((((list_.getD []).length:Nat):Int)+1)))::x17::(Sl.enc list_)::(iv (((list_.getD []).length:Nat):Int))::(iv (wr ((((list_.getD []).length:Nat):Int) - 1)))::(iv w29)::(bv (decide (0≤w29)))::.top::.top::(AV.ptr o1 1 0 0)::(Sl.enc x_.entries)::(iv (((x_.entries.getD []).length:Nat):Int))::tZ9 55 [und,und,und,und,und,und,und,und,und,und,und,und,und,und,und,und,und,und,und,und,und,und,und,und,und,und,und,und,und,und,und,und,und,und]),h133)∧pj ps136=q135∧Hold B h133 ([pZ9 o1 1 [Sl.enc x_.entries],pZ9 o5 2 [iv m_.default,Sl.enc m_.bigrams],pZ9 o9 2 [kB3,iv 0]]++D2 (A:=(Sl WordAt)) x17 ps136)):=by
 refine @kG0 _ _ _ _ _ _ _ _ (fun st tm h130 R => ?_)
 obtain ⟨w127,w132⟩:=st
 obtain ⟨ps128,rfl,hp129,O131⟩:=R
 rw [e_lb1_q5]
 unfold s1_q5
 dsimp only
 refine kA1 (kAl _ _) ?_
 refine kAb (fun c143 => ?_) (fun c143 => ?_)
 ·refine kAr (Tab.enc h130 x_.entries) (fun m145 a144 hi146 hm147 => ?_)
  refine kA1 (v:=AV.agg [sv a144.word,iv a144.cost]) ((Tab.enc h130 x_.entries).ld hm147 true 2 0) ?_
  refine kAs O131 (cs:=[sv (⟨#[]⟩:ByteArray),iv 0]) (by first | rfl | simp) (fun o148 h149 O150 => ?_)
  replace O150:Hold B h149 ([pZ9 o1 1 [Sl.enc x_.entries],pZ9 o5 2 [iv m_.default,Sl.enc m_.bigrams],pZ9 o9 2 [kB3,iv 0],pZ9 o148 2 [sv (⟨#[]⟩:ByteArray),iv 0]]++D2 (A:=(Sl WordAt)) x17 ps128):=Hold.rot O150
  refine kAw O150 3 (cs':=[sv a144.word,iv a144.cost]) rfl (by first | rfl | simp) (by simp) (by first | rfl | simp) (by first | rfl | simp [kAx]) (fun h152 O153 => ?_)
  replace O153:Hold B h152 ([pZ9 o1 1 [Sl.enc x_.entries],pZ9 o5 2 [iv m_.default,Sl.enc m_.bigrams],pZ9 o9 2 [kB3,iv 0],pZ9 o148 2 [sv a144.word,iv a144.cost]]++D2 (A:=(Sl WordAt)) x17 ps128):=O153
  refine kAr (Tab.enc h152 list_) (fun m155 a154 hi156 hm157 => ?_)
  refine kA1 (v:=AV.agg [iv a154.nodes,Sl.enc a154.edges]) ((Tab.enc h152 list_).ld hm157 true 2 0) ?_
  refine kA1 (v:=AV.ptr o148 1 0 0) rfl ?_
  refine kA1 (v:=sv a144.word) (O153.ld 3 rfl false 1 0) ?_
  refine kCb he_q20 (kAz _ a154 rfl) (kC4 _ _) (fun c158 => ?_)
  refine kAq (kAc (by rfl) _ _) ?_
  refine kA1 (v:=AV.agg [iv m_.default,Sl.enc m_.bigrams]) (O153.ld 1 rfl true 2 0) ?_
  refine kA1 (v:=AV.ptr o148 1 0 0) rfl ?_
  refine kA1 (v:=sv a144.word) (O153.ld 3 rfl false 1 0) ?_
  refine kA1 (kAj _ _) ?_
  refine kGx (l:=[pZ9 o1 1 [Sl.enc x_.entries],pZ9 o5 2 [iv m_.default,Sl.enc m_.bigrams],pZ9 o9 2 [kB3,iv 0],pZ9 o148 2 [sv a144.word,iv a144.cost]]) (x:=x17) (ps:=ps128) (A:=(Sl WordAt)) O153 hp129 (fun m160 a159 x163 hi161 hm162 hg164 => ?_)
  refine kA1 (v:=x163) (D2.ld (l:=[pZ9 o1 1 [Sl.enc x_.entries],pZ9 o5 2 [iv m_.default,Sl.enc m_.bigrams],pZ9 o9 2 [kB3,iv 0],pZ9 o148 2 [sv a144.word,iv a144.cost]]) (x:=x17) (ps:=ps128) (A:=(Sl WordAt)) O153 hm162 false 1 0) ?_
  refine kGi he_q11 (kAz _ m_ rfl) (kC4 _ _) ((D2.tab (l:=[pZ9 o1 1 [Sl.enc x_.entries],pZ9 o5 2 [iv m_.default,Sl.enc m_.bigrams],pZ9 o9 2 [kB3,iv 0],pZ9 o148 2 [sv a144.word,iv a144.cost]]) (x:=x17) (ps:=ps128) (A:=(Sl WordAt)) O153 hm162).snap) (fun c165 => ?_)
  refine kAq (kAc (by rfl) _ _) ?_
  refine kA1 (v:=AV.agg [sv c165.1.word,iv c165.1.cost]) rfl ?_
  refine kA1 (v:=bv c165.2) rfl ?_
  refine kAs O153 (cs:=[sv (⟨#[]⟩:ByteArray),iv 0]) (by first | rfl | simp) (fun o166 h167 O168 => ?_)
  replace O168:Hold B h167 ([pZ9 o1 1 [Sl.enc x_.entries],pZ9 o5 2 [iv m_.default,Sl.enc m_.bigrams],pZ9 o9 2 [kB3,iv 0],pZ9 o148 2 [sv a144.word,iv a144.cost],pZ9 o166 2 [sv (⟨#[]⟩:ByteArray),iv 0]]++D2 (A:=(Sl WordAt)) x17 ps128):=Hold.rot O168
  refine kAw O168 4 (cs':=[sv c165.1.word,iv c165.1.cost]) rfl (by first | rfl | simp) (by simp) (by first | rfl | simp) (by first | rfl | simp [kAx]) (fun h170 O171 => ?_)
  replace O171:Hold B h170 ([pZ9 o1 1 [Sl.enc x_.entries],pZ9 o5 2 [iv m_.default,Sl.enc m_.bigrams],pZ9 o9 2 [kB3,iv 0],pZ9 o148 2 [sv a144.word,iv a144.cost],pZ9 o166 2 [sv c165.1.word,iv c165.1.cost]]++D2 (A:=(Sl WordAt)) x17 ps128):=O171
  refine kA1 (kAl _ _) ?_
  refine kC3 (e:=bv) (fun hb172 => ?_) (fun c173 => ?_)
  ·exact kA6 rfl
  ·simp only [gv_TF]
   refine kC3 (e:=bv) (fun hb174 => ?_) (fun c175 => ?_)
   ·refine kA1 (Tab.enc h170 list_).len ?_
    refine kA1 (kCa _ _) ?_
    refine kA1 (kHu _ _) ?_
    exact kA6 rfl
   ·refine kC3 (e:=bv) (fun hb176 => ?_) (fun c177 => ?_)
    ·simp only [hb176,cond_true,cond_false,Bool.not_true,Bool.not_false,Bool.true_and,Bool.and_true,Bool.false_and,Bool.not_not]
     refine kA1 (v:=bv (bif c173 then true else c175)) (pick_nb _ _ _) ?_
     exact kA6 rfl
    ·refine kA1 (v:=bv (bif decide (c158<1099511627776) then c177 else false)) (kD3 _ _ _) ?_
     refine kAb (fun c178 => ?_) (fun c178 => ?_)
     ·refine kGx (l:=[pZ9 o1 1 [Sl.enc x_.entries],pZ9 o5 2 [iv m_.default,Sl.enc m_.bigrams],pZ9 o9 2 [kB3,iv 0],pZ9 o148 2 [sv a144.word,iv a144.cost],pZ9 o166 2 [sv c165.1.word,iv c165.1.cost]]) (x:=x17) (ps:=ps128) (A:=(Sl WordAt)) O171 hp129 (fun m180 a179 x183 hi181 hm182 hg184 => ?_)
      refine kA1 (v:=x183) (D2.ld (l:=[pZ9 o1 1 [Sl.enc x_.entries],pZ9 o5 2 [iv m_.default,Sl.enc m_.bigrams],pZ9 o9 2 [kB3,iv 0],pZ9 o148 2 [sv a144.word,iv a144.cost],pZ9 o166 2 [sv c165.1.word,iv c165.1.cost]]) (x:=x17) (ps:=ps128) (A:=(Sl WordAt)) O171 hm182 false 1 0) ?_
      refine kA1 (v:=AV.ptr o148 1 0 0) rfl ?_
      refine kA1 (v:=sv a144.word) (O171.ld 3 rfl false 1 0) ?_
      refine kA1 (v:=AV.ptr o148 1 0 1) rfl ?_
      refine kA1 (v:=iv a144.cost) (O171.ld 3 rfl false 1 1) ?_
      refine kA1 (kAj _ _) ?_
      refine kA1 (v:=AV.ptr o166 1 0 1) rfl ?_
      refine kA1 (v:=iv c165.1.cost) (O171.ld 4 rfl false 1 1) ?_
      refine kA1 (kAj _ _) ?_
      refine kA1 (v:=AV.agg [sv a144.word,iv (wr ((wr (c158+a144.cost))+c165.1.cost))]) (by first | rfl | simp [kCm,kGf,kAx]) ?_
      refine kD7 (A:=WordAt) O171 ([(⟨a144.word,wr ((wr (c158+a144.cost))+c165.1.cost)⟩:WordAt)]:List WordAt) rfl (by first | rfl | simp [kBy,kEp]) rfl (fun x185 h186 O187 => ?_)
      replace O187:Hold B h186 ([pZ9 o1 1 [Sl.enc x_.entries],pZ9 o5 2 [iv m_.default,Sl.enc m_.bigrams],pZ9 o9 2 [kB3,iv 0],pZ9 o148 2 [sv a144.word,iv a144.cost],pZ9 o166 2 [sv c165.1.word,iv c165.1.cost],(x185,obS ((some ([(⟨a144.word,wr ((wr (c158+a144.cost))+c165.1.cost)⟩:WordAt)]:List WordAt)):Sl WordAt))]++D2 (A:=(Sl WordAt)) x17 ps128):=Hold.rot O187
      refine sim_appRow (bytes:=24) (C:=WordAt) (l:=[pZ9 o1 1 [Sl.enc x_.entries],pZ9 o5 2 [iv m_.default,Sl.enc m_.bigrams],pZ9 o9 2 [kB3,iv 0],pZ9 o148 2 [sv a144.word,iv a144.cost],pZ9 o166 2 [sv c165.1.word,iv c165.1.cost],(x185,obS ((some ([(⟨a144.word,wr ((wr (c158+a144.cost))+c165.1.cost)⟩:WordAt)]:List WordAt)):Sl WordAt))]) (x:=x17) (ps:=ps128) O187 hp129 hi181 hm182 ([(⟨a144.word,wr ((wr (c158+a144.cost))+c165.1.cost)⟩:WordAt)]:List WordAt) (O187.src (A:=WordAt) (s:=(some ([(⟨a144.word,wr ((wr (c158+a144.cost))+c165.1.cost)⟩:WordAt)]:List WordAt))) 5 rfl) (by decide) (fun v195 v196 ps191 h189 hp192 O190 => ?_)
      replace O190:Hold B h189 ([pZ9 o1 1 [Sl.enc x_.entries],pZ9 o5 2 [iv m_.default,Sl.enc m_.bigrams],pZ9 o9 2 [kB3,iv 0],pZ9 o148 2 [sv a144.word,iv a144.cost],pZ9 o166 2 [sv c165.1.word,iv c165.1.cost],(x185,obS ((some ([(⟨a144.word,wr ((wr (c158+a144.cost))+c165.1.cost)⟩:WordAt)]:List WordAt)):Sl WordAt))]++D2 (A:=(Sl WordAt)) x17 ps191):=O190
      have O193:Hold B h189 ([pZ9 o1 1 [Sl.enc x_.entries],pZ9 o5 2 [iv m_.default,Sl.enc m_.bigrams],pZ9 o9 2 [kB3,iv 0],pZ9 o148 2 [sv a144.word,iv a144.cost],pZ9 o166 2 [sv c165.1.word,iv c165.1.cost]]++D2 (A:=(Sl WordAt)) x17 ps191):=O190.selD [0,1,2,3,4] (by decide) rfl
      refine kA1 (kAj _ _) ?_
      have O194:Hold B h189 ([pZ9 o1 1 [Sl.enc x_.entries],pZ9 o5 2 [iv m_.default,Sl.enc m_.bigrams],pZ9 o9 2 [kB3,iv 0]]++D2 (A:=(Sl WordAt)) x17 ps191):=O193.selD [0,1,2] (by decide) rfl
      exact kA6 ⟨rfl,_,rfl,hp192,O194⟩
     ·refine kA1 (kAj _ _) ?_
      have O197:Hold B h170 ([pZ9 o1 1 [Sl.enc x_.entries],pZ9 o5 2 [iv m_.default,Sl.enc m_.bigrams],pZ9 o9 2 [kB3,iv 0]]++D2 (A:=(Sl WordAt)) x17 ps128):=O171.selD [0,1,2] (by decide) rfl
      exact kA6 ⟨rfl,_,rfl,hp129,O197⟩
 ·exact kA6 ⟨nofun,_,_,_,_,_,_,rfl,hp129,O131⟩
theorem tl0_q5 (env:Nat→Contract) {B:Base} (he_q11:env n_q11=.pure (C3 (fun c:WordAt×Bool=>AV.tup [enc c.1,enc c.2]) t_q11)) (he_q18:env n_q18=.pure (C3 (fun c:Int=>enc c) t_q18)) (he_q20:env n_q20=.pure (C2 (fun c:Int=>enc c) kJp)) (list_:Sl Lattice) (x_:Lexicon) (m_:Model) (o1:Nat) (o5:Nat) (o9:Nat) (c13:Int) (x17:AV) :kFq (fun (st:(Sl (Sl WordAt))×Int) tm h27=>match st with | (w24,w29)=>∃ ps25:PS (Sl WordAt),tm=((Sl.enc list_)::(AV.agg [Sl.enc x_.entries])::(AV.agg [iv m_.default,Sl.enc m_.bigrams])::und::(AV.ptr o1 1 0 0)::(AV.ptr o5 1 0 0)::(AV.ptr o9 1 0 0)::(iv 0)::(iv c13)::x17::(iv w29)::und::tZ9 4 (und::und::und::und::und::(Sl.enc list_)::(AV.agg [Sl.enc x_.entries])::(AV.agg [iv m_.default,Sl.enc m_.bigrams])::(iv c13)::(iv c13)::(bv (!decide (c13=0)))::und::und::(Sl.enc list_)::(iv (((list_.getD []).length:Nat):Int))::(iv (wr ((((list_.getD []).length:Nat):Int)+1)))::x17::(Sl.enc list_)::(iv (((list_.getD []).length:Nat):Int))::(iv (wr ((((list_.getD []).length:Nat):Int) - 1)))::tZ9 62 [und,und,und,und,und,und,und,und,und,und,und,und,und,und,und,und,und,und,und,und,und,und,und,und,und,und,und,und,und,und,und,und,und,und]))∧pj ps25=w24∧Hold B h27 ([pZ9 o1 1 [Sl.enc x_.entries],pZ9 o5 2 [iv m_.default,Sl.enc m_.bigrams],pZ9 o9 2 [kB3,iv 0]]++D2 (A:=(Sl WordAt)) x17 ps25)) hm0_q5 xm0_q5 (lb0_q5 env) (s0_q5 list_ x_ m_) (fun (q:Sl (Sl WordAt)) (r:Res)=>match q with | q32=>∃ (q35:Int) (z36:AV) (z37:AV) (z38:AV) (z39:AV) (ps33:PS (Sl WordAt)) (h30:kA9),r=(.exit 0,((Sl.enc list_)::(AV.agg [Sl.enc x_.entries])::(AV.agg [iv m_.default,Sl.enc m_.bigrams])::und::(AV.ptr o1 1 0 0)::(AV.ptr o5 1 0 0)::(AV.ptr o9 1 0 0)::(iv 0)::(iv c13)::x17::(iv q35)::und::z36::z37::z38::z39::und::und::und::und::und::(Sl.enc list_)::(AV.agg [Sl.enc x_.entries])::(AV.agg [iv m_.default,Sl.enc m_.bigrams])::(iv c13)::(iv c13)::(bv (!decide (c13=0)))::und::und::(Sl.enc list_)::(iv (((list_.getD []).length:Nat):Int))::(iv (wr ((((list_.getD []).length:Nat):Int)+1)))::x17::(Sl.enc list_)::(iv (((list_.getD []).length:Nat):Int))::(iv (wr ((((list_.getD []).length:Nat):Int) - 1)))::tZ9 62 [und,und,und,und,und,und,und,und,und,und,und,und,und,und,und,und,und,und,und,und,und,und,und,und,und,und,und,und,und,und,und,und,und,und]),h30)∧pj ps33=q32∧Hold B h30 ([pZ9 o1 1 [Sl.enc x_.entries],pZ9 o5 2 [iv m_.default,Sl.enc m_.bigrams],pZ9 o9 2 [kB3,iv 0]]++D2 (A:=(Sl WordAt)) x17 ps33)):=by
 refine @kG0 _ _ _ _ _ _ _ _ (fun st tm h27 R => ?_)
 obtain ⟨w24,w29⟩:=st
 obtain ⟨ps25,rfl,hp26,O28⟩:=R
 rw [e_lb0_q5]
 unfold s0_q5
 dsimp only
 refine kA1 (kG8 _ _) ?_
 refine kAb (fun c126 => ?_) (fun c126 => ?_)
 ·refine kA1 (v:=AV.ptr o1 1 0 0) rfl ?_
  refine kA1 (v:=Sl.enc x_.entries) (O28.ld 0 rfl false 1 0) ?_
  refine kA1 (Tab.enc h27 x_.entries).len ?_
  refine kB6 ((tl1_q5 env he_q11 he_q18 he_q20 list_ x_ m_ o1 o5 o9 c13 x17 w29) ⟨_,rfl,hp26,O28⟩) (fun qq200 r hq => ?_)
  revert hq
  revert qq200
  intro q135 hq
  obtain ⟨z138,z139,z140,z141,ps136,h133,rfl,hp137,O134⟩:=hq
  rw [e_lk1x2_q5]
  refine kA1 (kCa _ _) ?_
  exact kA6 ⟨rfl,_,rfl,hp137,O134⟩
 ·exact kA6 ⟨nofun,_,_,_,_,_,_,_,rfl,hp26,O28⟩
theorem ts_q5 (env:Nat→Contract) (he_q11:env n_q11=.pure (C3 (fun c:WordAt×Bool=>AV.tup [enc c.1,enc c.2]) t_q11)) (he_q18:env n_q18=.pure (C3 (fun c:Int=>enc c) t_q18)) (he_q20:env n_q20=.pure (C2 (fun c:Int=>enc c) kJp)) (list_:Sl Lattice) (x_:Lexicon) (m_:Model):Sim (kAm Tryz.prog env n_q5 [Sl.enc list_,AV.agg [Sl.enc x_.entries],AV.agg [iv m_.default,Sl.enc m_.bigrams]] []) (t_q5 list_ x_ m_) fun c p=>release p.2 depth p.1=some ((fun c:Sentence×Int=>AV.tup [AV.agg [rS c.1.words,iv c.1.cost],enc c.2]) c):=by
 have O:=Hold.nil []
 generalize hB:(⟨[],[]⟩:Base)=B at O
 clear hB
 rw [e_q5]
 unfold t_q5
 refine kAs O (cs:=[Sl.enc x_.entries]) (by first | rfl | simp) (fun o1 h2 O3 => ?_)
 replace O3:Hold B h2 [pZ9 o1 1 [Sl.enc x_.entries]]:=O3
 refine kAs O3 (cs:=[iv m_.default,Sl.enc m_.bigrams]) (by first | rfl | simp) (fun o5 h6 O7 => ?_)
 replace O7:Hold B h6 [pZ9 o1 1 [Sl.enc x_.entries],pZ9 o5 2 [iv m_.default,Sl.enc m_.bigrams]]:=O7
 refine kAs O7 (cs:=[kB3,iv 0]) (by first | rfl | simp) (fun o9 h10 O11 => ?_)
 replace O11:Hold B h10 [pZ9 o1 1 [Sl.enc x_.entries],pZ9 o5 2 [iv m_.default,Sl.enc m_.bigrams],pZ9 o9 2 [kB3,iv 0]]:=O11
 refine kA1 (v:=AV.agg [Sl.enc x_.entries]) (O11.ld 0 rfl true 1 0) ?_
 refine kA1 (v:=AV.agg [iv m_.default,Sl.enc m_.bigrams]) (O11.ld 1 rfl true 2 0) ?_
 refine kGl he_q18 (kBp _ _) (kAz _ x_ rfl) (kAz _ m_ rfl) (fun c13 => ?_)
 refine kAq (kAc (by rfl) _ _) ?_
 refine kA1 (kCo _ _) ?_
 refine kAb (fun c14 => ?_) (fun c14 => ?_)
 ·refine kA1 (v:=AV.agg [kB3,iv 0]) (by first | rfl | simp [kCm,kGf,kAx]) ?_
  refine kAw O11 2 (cs':=[kB3,iv 0]) rfl (by first | rfl | simp) (by simp) (by first | rfl | simp) (by first | rfl | simp [kAx]) (fun h15 O16 => ?_)
  replace O16:Hold B h15 [pZ9 o1 1 [Sl.enc x_.entries],pZ9 o5 2 [iv m_.default,Sl.enc m_.bigrams],pZ9 o9 2 [kB3,iv 0]]:=O16
  refine kEc (kHh (v:=AV.agg [kB3,iv 0]) (O16.ld 2 rfl true 2 0) (resL_v (v:=iv c13) (kEe _))) ?_
  dsimp only [pack]
  exact kA6 (kA5 (by rfl) _)
 ·refine kA1 (Tab.enc h10 list_).len ?_
  refine kA1 (kAj _ _) ?_
  refine sim_makeN (l:=[pZ9 o1 1 [Sl.enc x_.entries],pZ9 o5 2 [iv m_.default,Sl.enc m_.bigrams],pZ9 o9 2 [kB3,iv 0]]) (A:=(Sl WordAt)) O11 (none:Sl WordAt) rfl rfl (by decide) (fun l21 x17 ps22 h18 hp23 O19 => ?_)
  refine kA1 (Tab.enc h18 list_).len ?_
  refine kA1 (kCa _ _) ?_
  refine kB6 ((tl0_q5 env he_q11 he_q18 he_q20 list_ x_ m_ o1 o5 o9 c13 x17) ⟨_,rfl,hp23,O19⟩) (fun qq203 r hq => ?_)
  revert hq
  revert qq203
  intro q32 hq
  obtain ⟨q35,z36,z37,z38,z39,ps33,h30,rfl,hp34,O31⟩:=hq
  rw [e_lk0x0_q5]
  refine kAs O31 (cs:=[kB3,iv 0]) (by first | rfl | simp) (fun o40 h41 O42 => ?_)
  replace O42:Hold B h41 ([pZ9 o1 1 [Sl.enc x_.entries],pZ9 o5 2 [iv m_.default,Sl.enc m_.bigrams],pZ9 o9 2 [kB3,iv 0],pZ9 o40 2 [kB3,iv 0]]++D2 (A:=(Sl WordAt)) x17 ps33):=Hold.rot O42
  refine kA1 (Tab.enc h41 list_).len ?_
  have O44:Hold B h41 ([pZ9 o1 1 [Sl.enc x_.entries],pZ9 o5 2 [iv m_.default,Sl.enc m_.bigrams],pZ9 o9 2 [kB3,iv 0],pZ9 o40 2 [kB3,iv 0],(kB3,obS ((none:Sl ByteArray):Sl ByteArray))]++D2 (A:=(Sl WordAt)) x17 ps33):=Hold.rot O42.addnil
  refine kB6 ((tl2_q5 env he_q11 he_q18 he_q20 list_ x_ m_ o1 o5 o9 c13 x17 q32 ps33 hp34 q35 z36 z37 z38 z39 o40) ⟨_,rfl,O44⟩) (fun qq125 r hq => ?_)
  rcases qq125 with ⟨q55,q57⟩ | q71
  ·obtain ⟨q59,z56,z58,z60,z61,z62,h53,rfl,O54⟩:=hq
   rw [e_lk2x4_q5]
   refine kA1 (v:=AV.agg [z56,iv q55]) (O54.ld 3 rfl true 2 0) ?_
   have jZ0:=O54.one (A:=ByteArray) (s:=q57) 4 rfl
   refine kAw O54 2 (cs':=[z56,iv q55]) rfl (by first | rfl | simp [jZ0.1,jZ0.2]) (by simp) (by first | rfl | simp [jZ0.1,jZ0.2]) (by first | rfl | simp [kAx,jZ0.1,jZ0.2]) (fun h63 O64 => ?_)
   replace O64:Hold B h63 ([pZ9 o1 1 [Sl.enc x_.entries],pZ9 o5 2 [iv m_.default,Sl.enc m_.bigrams],pZ9 o9 2 [z56,iv q55],pZ9 o40 2 [z56,iv q55],(z56,obS (q57:Sl ByteArray))]++D2 (A:=(Sl WordAt)) x17 ps33):=O64
   refine kEc (kHh (v:=AV.agg [z56,iv q55]) (O64.ld 2 rfl true 2 0) (resL_v (v:=iv 0) (kEe _))) ?_
   dsimp only [pack]
   have O65:Hold B h63 [(z56,obS (q57:Sl ByteArray))]:=O64.left.sel [4] (by decide) rfl
   exact kA6 (kF1 (by simp only [kJ0,kGv,kJo,kJu,ids_bv,ids_sv,ids_bt,kGt,kJe,O65.idsD (A:=ByteArray) (s:=q57) 0 rfl,List.map_append,List.map_nil,List.flatMap_cons,List.flatMap_nil,List.append_nil,List.nil_append];simpa only [List.flatMap_cons,List.flatMap_nil,List.append_nil,List.nil_append] using O65.nd2) (by simp only [kJ4,kH3,kHt,kJz,rel_bv,rel_sv,rel_bt,kH1,kJn,O65.relD (A:=ByteArray) (s:=q57) 0 rfl,omapc,omapn,kA4] <;> rfl))
  ·obtain ⟨q68,q70,q72,q73,q75,z69,z74,h66,rfl,O67⟩:=hq
   rw [e_lk2r_q5]
   refine kEc (kHh (v:=AV.agg [kB3,iv 0]) (O67.ld 2 rfl true 2 0) (resL_v (v:=iv q71) (kEe _))) ?_
   dsimp only [pack]
   exact kA6 (kA5 (by rfl) _)
theorem tt_q5:kAn Tryz.prog n_q5 (C3 (fun c:Sentence×Int=>AV.tup [AV.agg [rS c.1.words,iv c.1.cost],enc c.2]) t_q5):=kKa (kBc tt_q11 (kBc tt_q18 (kBc tt_q20 E0))) kBd hb_q5 fun list_ x_ m_=>ts_q5 _ (by simp [kBx]) (by simp [kBx]) (by simp [kBx]) list_ x_ m_
def s0_q37 (a_:Sl ByteArray) (b_:Sl ByteArray):Int→Option (Sum Int (Sum Unit Bool)):=fun w4 =>
 bif decide (w4<(((a_.getD []).length:Nat):Int)) then
  kA0 (kC7 (a_.getD []) w4) fun a14 =>
  kA0 (kC7 (b_.getD []) w4) fun a18 =>
  bif !decide (a14=a18) then
   some (.inr (.inr false))
  else
   some (.inl (wr (w4+1)))
 else
  some (.inr (.inl ()))
def t_q37 (a_:Sl ByteArray) (b_:Sl ByteArray):Option Bool :=
 bif !decide ((((a_.getD []).length:Nat):Int)=(((b_.getD []).length:Nat):Int)) then
  some false
 else
  kA0 (kBg (s0_q37 a_ b_) 0) fun qq27=>match qq27 with
  | (.inl _) =>
    some true
  | (.inr q11) =>
    some q11
theorem tl0_q37 (env:Nat→Contract) {B:Base}  (a_:Sl ByteArray) (b_:Sl ByteArray) :kFq (fun (st:Int) tm h2=>match st with | w4=>tm=((Sl.enc a_)::(Sl.enc b_)::und::und::.top::(iv w4)::(Sl.enc a_)::(iv (((a_.getD []).length:Nat):Int))::(Sl.enc b_)::(iv (((b_.getD []).length:Nat):Int))::(bv (!decide ((((a_.getD []).length:Nat):Int)=(((b_.getD []).length:Nat):Int))))::tZ9 15 [])∧Hold B h2 []) hm0_q37 xm0_q37 (lb0_q37 env) (s0_q37 a_ b_) (fun (q:Sum Unit Bool) (r:Res)=>match q with | .inl _=>∃ (q8:Int) (z7:AV) (h5:kA9),r=(.exit 0,((Sl.enc a_)::(Sl.enc b_)::und::und::z7::(iv q8)::(Sl.enc a_)::(iv (((a_.getD []).length:Nat):Int))::(Sl.enc b_)::(iv (((b_.getD []).length:Nat):Int))::(bv (!decide ((((a_.getD []).length:Nat):Int)=(((b_.getD []).length:Nat):Int))))::tZ9 15 []),h5)∧Hold B h5 [] | .inr q11=>∃ (q12:Int) (h9:kA9),r=(.ret,((Sl.enc a_)::(Sl.enc b_)::und::und::(bv q11)::(iv q12)::(Sl.enc a_)::(iv (((a_.getD []).length:Nat):Int))::(Sl.enc b_)::(iv (((b_.getD []).length:Nat):Int))::(bv (!decide ((((a_.getD []).length:Nat):Int)=(((b_.getD []).length:Nat):Int))))::tZ9 15 []),h9)∧Hold B h9 []):=by
 refine @kG0 _ _ _ _ _ _ _ _ (fun w4 tm h2 R => ?_)
 obtain ⟨rfl,O3⟩:=R
 rw [e_lb0_q37]
 unfold s0_q37
 dsimp only
 refine kA1 (Tab.enc h2 a_).len ?_
 refine kA1 (kAl _ _) ?_
 refine kAb (fun c13 => ?_) (fun c13 => ?_)
 ·refine kAr (Tab.enc h2 a_) (fun m15 a14 hi16 hm17 => ?_)
  refine kA1 (v:=sv a14) ((Tab.enc h2 a_).ld hm17 false 1 0) ?_
  refine kAr (Tab.enc h2 b_) (fun m19 a18 hi20 hm21 => ?_)
  refine kA1 (v:=sv a18) ((Tab.enc h2 b_).ld hm21 false 1 0) ?_
  refine kA1 (kI7 _ _) ?_
  refine kAb (fun c22 => ?_) (fun c22 => ?_)
  ·exact kA6 ⟨nofun,_,_,rfl,O3⟩
  ·refine kA1 (kAj _ _) ?_
   exact kA6 ⟨rfl,rfl,O3⟩
 ·exact kA6 ⟨nofun,_,_,_,rfl,O3⟩
theorem ts_q37 (env:Nat→Contract)  (a_:Sl ByteArray) (b_:Sl ByteArray):Sim (kAm Tryz.prog env n_q37 [Sl.enc a_,Sl.enc b_] []) (t_q37 a_ b_) fun c p=>release p.2 depth p.1=some ((fun c:Bool=>enc c) c):=by
 have O:=Hold.nil []
 generalize hB:(⟨[],[]⟩:Base)=B at O
 clear hB
 rw [e_q37]
 unfold t_q37
 refine kA1 (v:=iv (((a_.getD []).length:Nat):Int)) (Tab.enc [] a_).len ?_
 refine kA1 (v:=iv (((b_.getD []).length:Nat):Int)) (Tab.enc [] b_).len ?_
 refine kA1 (kCo _ _) ?_
 refine kAb (fun c1 => ?_) (fun c1 => ?_)
 ·exact kA6 (kA5 (by rfl) _)
 ·refine kB6 ((tl0_q37 env a_ b_) ⟨rfl,O⟩) (fun qq27 r hq => ?_)
  rcases qq27 with _ | q11
  ·obtain ⟨q8,z7,h5,rfl,O6⟩:=hq
   rw [e_lk0x0_q37]
   exact kA6 (kA5 (by rfl) _)
  ·obtain ⟨q12,h9,rfl,O10⟩:=hq
   rw [e_lk0r_q37]
   exact kA6 (kA5 (by rfl) _)
theorem tt_q37:kAn Tryz.prog n_q37 (C2 (fun c:Bool=>enc c) t_q37):=kCe E0 kBd hb_q37 fun a_ b_=>ts_q37 _  a_ b_
def t_q36 (a_:Sentence) (b_:Sentence):Option Bool :=
 kA0 (t_q37 a_.words b_.words) fun c9 =>
 bif !c9 then
  some false
 else
  bif !decide (a_.cost=b_.cost) then
   some false
  else
   some true
theorem ts_q36 (env:Nat→Contract) (he_q37:env n_q37=.pure (C2 (fun c:Bool=>enc c) t_q37)) (a_:Sentence) (b_:Sentence):Sim (kAm Tryz.prog env n_q36 [AV.agg [Sl.enc a_.words,iv a_.cost],AV.agg [Sl.enc b_.words,iv b_.cost]] []) (t_q36 a_ b_) fun c p=>release p.2 depth p.1=some ((fun c:Bool=>enc c) c):=by
 have O:=Hold.nil []
 generalize hB:(⟨[],[]⟩:Base)=B at O
 clear hB
 rw [e_q36]
 unfold t_q36
 refine kAs O (cs:=[Sl.enc a_.words,iv a_.cost]) (by first | rfl | simp) (fun o1 h2 O3 => ?_)
 replace O3:Hold B h2 [pZ9 o1 2 [Sl.enc a_.words,iv a_.cost]]:=O3
 refine kAs O3 (cs:=[Sl.enc b_.words,iv b_.cost]) (by first | rfl | simp) (fun o5 h6 O7 => ?_)
 replace O7:Hold B h6 [pZ9 o1 2 [Sl.enc a_.words,iv a_.cost],pZ9 o5 2 [Sl.enc b_.words,iv b_.cost]]:=O7
 refine kA1 (v:=AV.ptr o1 1 0 0) rfl ?_
 refine kA1 (v:=Sl.enc a_.words) (O7.ld 0 rfl false 1 0) ?_
 refine kA1 (v:=AV.ptr o5 1 0 0) rfl ?_
 refine kA1 (v:=Sl.enc b_.words) (O7.ld 1 rfl false 1 0) ?_
 refine kBo he_q37 (kBp _ _) (kBp _ _) (fun c9 => ?_)
 refine kAq (kAc (by rfl) _ _) ?_
 refine kA1 (v:=bv (!c9)) (kBu _) ?_
 refine kAb (fun c10 => ?_) (fun c10 => ?_)
 ·exact kA6 (kA5 (by rfl) _)
 ·refine kA1 (v:=AV.ptr o1 1 0 1) rfl ?_
  refine kA1 (v:=iv a_.cost) (O7.ld 0 rfl false 1 1) ?_
  refine kA1 (v:=AV.ptr o5 1 0 1) rfl ?_
  refine kA1 (v:=iv b_.cost) (O7.ld 1 rfl false 1 1) ?_
  refine kA1 (kCo _ _) ?_
  refine kAb (fun c11 => ?_) (fun c11 => ?_)
  ·exact kA6 (kA5 (by rfl) _)
  ·exact kA6 (kA5 (by rfl) _)
theorem tt_q36:kAn Tryz.prog n_q36 (C2 (fun c:Bool=>enc c) t_q36):=kCe (kBc tt_q37 E0) kBd hb_q36 fun a_ b_=>ts_q36 _ (by simp [kBx]) a_ b_
def t_q28 (a_:Edg) (b_:Edg):Option Bool :=
 bif !decide (a_.frm=b_.frm) then
  some false
 else
  bif !decide (a_.upto=b_.upto) then
   some false
  else
   bif !decide (a_.label=b_.label) then
    some false
   else
    bif !decide (a_.cost=b_.cost) then
     some false
    else
     some true
theorem ts_q28 (env:Nat→Contract)  (a_:Edg) (b_:Edg):Sim (kAm Tryz.prog env n_q28 [AV.agg [iv a_.frm,iv a_.upto,sv a_.label,iv a_.cost],AV.agg [iv b_.frm,iv b_.upto,sv b_.label,iv b_.cost]] []) (t_q28 a_ b_) fun c p=>release p.2 depth p.1=some ((fun c:Bool=>enc c) c):=by
 have O:=Hold.nil []
 generalize hB:(⟨[],[]⟩:Base)=B at O
 clear hB
 rw [e_q28]
 unfold t_q28
 refine kAs O (cs:=[iv a_.frm,iv a_.upto,sv a_.label,iv a_.cost]) (by first | rfl | simp) (fun o1 h2 O3 => ?_)
 replace O3:Hold B h2 [pZ9 o1 4 [iv a_.frm,iv a_.upto,sv a_.label,iv a_.cost]]:=O3
 refine kAs O3 (cs:=[iv b_.frm,iv b_.upto,sv b_.label,iv b_.cost]) (by first | rfl | simp) (fun o5 h6 O7 => ?_)
 replace O7:Hold B h6 [pZ9 o1 4 [iv a_.frm,iv a_.upto,sv a_.label,iv a_.cost],pZ9 o5 4 [iv b_.frm,iv b_.upto,sv b_.label,iv b_.cost]]:=O7
 refine kA1 (v:=AV.ptr o1 1 0 0) rfl ?_
 refine kA1 (v:=iv a_.frm) (O7.ld 0 rfl false 1 0) ?_
 refine kA1 (v:=AV.ptr o5 1 0 0) rfl ?_
 refine kA1 (v:=iv b_.frm) (O7.ld 1 rfl false 1 0) ?_
 refine kA1 (kCo _ _) ?_
 refine kAb (fun c9 => ?_) (fun c9 => ?_)
 ·exact kA6 (kA5 (by rfl) _)
 ·refine kA1 (v:=AV.ptr o1 1 0 1) rfl ?_
  refine kA1 (v:=iv a_.upto) (O7.ld 0 rfl false 1 1) ?_
  refine kA1 (v:=AV.ptr o5 1 0 1) rfl ?_
  refine kA1 (v:=iv b_.upto) (O7.ld 1 rfl false 1 1) ?_
  refine kA1 (kCo _ _) ?_
  refine kAb (fun c10 => ?_) (fun c10 => ?_)
  ·exact kA6 (kA5 (by rfl) _)
  ·refine kA1 (v:=AV.ptr o1 1 0 2) rfl ?_
   refine kA1 (v:=sv a_.label) (O7.ld 0 rfl false 1 2) ?_
   refine kA1 (v:=AV.ptr o5 1 0 2) rfl ?_
   refine kA1 (v:=sv b_.label) (O7.ld 1 rfl false 1 2) ?_
   refine kA1 (kI7 _ _) ?_
   refine kAb (fun c11 => ?_) (fun c11 => ?_)
   ·exact kA6 (kA5 (by rfl) _)
   ·refine kA1 (v:=AV.ptr o1 1 0 3) rfl ?_
    refine kA1 (v:=iv a_.cost) (O7.ld 0 rfl false 1 3) ?_
    refine kA1 (v:=AV.ptr o5 1 0 3) rfl ?_
    refine kA1 (v:=iv b_.cost) (O7.ld 1 rfl false 1 3) ?_
    refine kA1 (kCo _ _) ?_
    refine kAb (fun c12 => ?_) (fun c12 => ?_)
    ·exact kA6 (kA5 (by rfl) _)
    ·exact kA6 (kA5 (by rfl) _)
theorem tt_q28:kAn Tryz.prog n_q28 (C2 (fun c:Bool=>enc c) t_q28):=kCe E0 kBd hb_q28 fun a_ b_=>ts_q28 _  a_ b_
def s0_q29 (a_:Sl Edg) (b_:Sl Edg):Int→Option (Sum Int (Sum Unit Bool)):=fun w4 =>
 bif decide (w4<(((a_.getD []).length:Nat):Int)) then
  kA0 (kC7 (a_.getD []) w4) fun a14 =>
  kA0 (kC7 (b_.getD []) w4) fun a18 =>
  kA0 (t_q28 a14 a18) fun c22 =>
  bif !c22 then
   some (.inr (.inr false))
  else
   some (.inl (wr (w4+1)))
 else
  some (.inr (.inl ()))
def t_q29 (a_:Sl Edg) (b_:Sl Edg):Option Bool :=
 bif !decide ((((a_.getD []).length:Nat):Int)=(((b_.getD []).length:Nat):Int)) then
  some false
 else
  kA0 (kBg (s0_q29 a_ b_) 0) fun qq28=>match qq28 with
  | (.inl _) =>
    some true
  | (.inr q11) =>
    some q11
theorem tl0_q29 (env:Nat→Contract) {B:Base} (he_q28:env n_q28=.pure (C2 (fun c:Bool=>enc c) t_q28)) (a_:Sl Edg) (b_:Sl Edg) :kFq (fun (st:Int) tm h2=>match st with | w4=>tm=((Sl.enc a_)::(Sl.enc b_)::und::und::.top::(iv w4)::(Sl.enc a_)::(iv (((a_.getD []).length:Nat):Int))::(Sl.enc b_)::(iv (((b_.getD []).length:Nat):Int))::(bv (!decide ((((a_.getD []).length:Nat):Int)=(((b_.getD []).length:Nat):Int))))::tZ9 16 [])∧Hold B h2 []) hm0_q29 xm0_q29 (lb0_q29 env) (s0_q29 a_ b_) (fun (q:Sum Unit Bool) (r:Res)=>match q with | .inl _=>∃ (q8:Int) (z7:AV) (h5:kA9),r=(.exit 0,((Sl.enc a_)::(Sl.enc b_)::und::und::z7::(iv q8)::(Sl.enc a_)::(iv (((a_.getD []).length:Nat):Int))::(Sl.enc b_)::(iv (((b_.getD []).length:Nat):Int))::(bv (!decide ((((a_.getD []).length:Nat):Int)=(((b_.getD []).length:Nat):Int))))::tZ9 16 []),h5)∧Hold B h5 [] | .inr q11=>∃ (q12:Int) (h9:kA9),r=(.ret,((Sl.enc a_)::(Sl.enc b_)::und::und::(bv q11)::(iv q12)::(Sl.enc a_)::(iv (((a_.getD []).length:Nat):Int))::(Sl.enc b_)::(iv (((b_.getD []).length:Nat):Int))::(bv (!decide ((((a_.getD []).length:Nat):Int)=(((b_.getD []).length:Nat):Int))))::tZ9 16 []),h9)∧Hold B h9 []):=by
 refine @kG0 _ _ _ _ _ _ _ _ (fun w4 tm h2 R => ?_)
 obtain ⟨rfl,O3⟩:=R
 rw [e_lb0_q29]
 unfold s0_q29
 dsimp only
 refine kA1 (Tab.enc h2 a_).len ?_
 refine kA1 (kAl _ _) ?_
 refine kAb (fun c13 => ?_) (fun c13 => ?_)
 ·refine kAr (Tab.enc h2 a_) (fun m15 a14 hi16 hm17 => ?_)
  refine kA1 (v:=AV.agg [iv a14.frm,iv a14.upto,sv a14.label,iv a14.cost]) ((Tab.enc h2 a_).ld hm17 true 4 0) ?_
  refine kAr (Tab.enc h2 b_) (fun m19 a18 hi20 hm21 => ?_)
  refine kA1 (v:=AV.agg [iv a18.frm,iv a18.upto,sv a18.label,iv a18.cost]) ((Tab.enc h2 b_).ld hm21 true 4 0) ?_
  refine kCb he_q28 (kAz _ a14 rfl) (kAz _ a18 rfl) (fun c22 => ?_)
  refine kAq (kAc (by rfl) _ _) ?_
  refine kA1 (v:=bv (!c22)) (kBu _) ?_
  refine kAb (fun c23 => ?_) (fun c23 => ?_)
  ·exact kA6 ⟨nofun,_,_,rfl,O3⟩
  ·refine kA1 (kAj _ _) ?_
   exact kA6 ⟨rfl,rfl,O3⟩
 ·exact kA6 ⟨nofun,_,_,_,rfl,O3⟩
theorem ts_q29 (env:Nat→Contract) (he_q28:env n_q28=.pure (C2 (fun c:Bool=>enc c) t_q28)) (a_:Sl Edg) (b_:Sl Edg):Sim (kAm Tryz.prog env n_q29 [Sl.enc a_,Sl.enc b_] []) (t_q29 a_ b_) fun c p=>release p.2 depth p.1=some ((fun c:Bool=>enc c) c):=by
 have O:=Hold.nil []
 generalize hB:(⟨[],[]⟩:Base)=B at O
 clear hB
 rw [e_q29]
 unfold t_q29
 refine kA1 (v:=iv (((a_.getD []).length:Nat):Int)) (Tab.enc [] a_).len ?_
 refine kA1 (v:=iv (((b_.getD []).length:Nat):Int)) (Tab.enc [] b_).len ?_
 refine kA1 (kCo _ _) ?_
 refine kAb (fun c1 => ?_) (fun c1 => ?_)
 ·exact kA6 (kA5 (by rfl) _)
 ·refine kB6 ((tl0_q29 env he_q28 a_ b_) ⟨rfl,O⟩) (fun qq28 r hq => ?_)
  rcases qq28 with _ | q11
  ·obtain ⟨q8,z7,h5,rfl,O6⟩:=hq
   rw [e_lk0x0_q29]
   exact kA6 (kA5 (by rfl) _)
  ·obtain ⟨q12,h9,rfl,O10⟩:=hq
   rw [e_lk0r_q29]
   exact kA6 (kA5 (by rfl) _)
theorem tt_q29:kAn Tryz.prog n_q29 (C2 (fun c:Bool=>enc c) t_q29):=kCe (kBc tt_q28 E0) kBd hb_q29 fun a_ b_=>ts_q29 _ (by simp [kBx]) a_ b_
def t_q32 (a_:Lattice) (b_:Lattice):Option Bool :=
 bif !decide (a_.nodes=b_.nodes) then
  some false
 else
  kA0 (t_q29 a_.edges b_.edges) fun c10 =>
  bif !c10 then
   some false
  else
   some true
theorem ts_q32 (env:Nat→Contract) (he_q29:env n_q29=.pure (C2 (fun c:Bool=>enc c) t_q29)) (a_:Lattice) (b_:Lattice):Sim (kAm Tryz.prog env n_q32 [AV.agg [iv a_.nodes,Sl.enc a_.edges],AV.agg [iv b_.nodes,Sl.enc b_.edges]] []) (t_q32 a_ b_) fun c p=>release p.2 depth p.1=some ((fun c:Bool=>enc c) c):=by
 have O:=Hold.nil []
 generalize hB:(⟨[],[]⟩:Base)=B at O
 clear hB
 rw [e_q32]
 unfold t_q32
 refine kAs O (cs:=[iv a_.nodes,Sl.enc a_.edges]) (by first | rfl | simp) (fun o1 h2 O3 => ?_)
 replace O3:Hold B h2 [pZ9 o1 2 [iv a_.nodes,Sl.enc a_.edges]]:=O3
 refine kAs O3 (cs:=[iv b_.nodes,Sl.enc b_.edges]) (by first | rfl | simp) (fun o5 h6 O7 => ?_)
 replace O7:Hold B h6 [pZ9 o1 2 [iv a_.nodes,Sl.enc a_.edges],pZ9 o5 2 [iv b_.nodes,Sl.enc b_.edges]]:=O7
 refine kA1 (v:=AV.ptr o1 1 0 0) rfl ?_
 refine kA1 (v:=iv a_.nodes) (O7.ld 0 rfl false 1 0) ?_
 refine kA1 (v:=AV.ptr o5 1 0 0) rfl ?_
 refine kA1 (v:=iv b_.nodes) (O7.ld 1 rfl false 1 0) ?_
 refine kA1 (kCo _ _) ?_
 refine kAb (fun c9 => ?_) (fun c9 => ?_)
 ·exact kA6 (kA5 (by rfl) _)
 ·refine kA1 (v:=AV.ptr o1 1 0 1) rfl ?_
  refine kA1 (v:=Sl.enc a_.edges) (O7.ld 0 rfl false 1 1) ?_
  refine kA1 (v:=AV.ptr o5 1 0 1) rfl ?_
  refine kA1 (v:=Sl.enc b_.edges) (O7.ld 1 rfl false 1 1) ?_
  refine kBo he_q29 (kBp _ _) (kBp _ _) (fun c10 => ?_)
  refine kAq (kAc (by rfl) _ _) ?_
  refine kA1 (v:=bv (!c10)) (kBu _) ?_
  refine kAb (fun c11 => ?_) (fun c11 => ?_)
  ·exact kA6 (kA5 (by rfl) _)
  ·exact kA6 (kA5 (by rfl) _)
theorem tt_q32:kAn Tryz.prog n_q32 (C2 (fun c:Bool=>enc c) t_q32):=kCe (kBc tt_q29 E0) kBd hb_q32 fun a_ b_=>ts_q32 _ (by simp [kBx]) a_ b_
def s0_q33 (a_:Sl Lattice) (b_:Sl Lattice):Int→Option (Sum Int (Sum Unit Bool)):=fun w4 =>
 bif decide (w4<(((a_.getD []).length:Nat):Int)) then
  kA0 (kC7 (a_.getD []) w4) fun a14 =>
  kA0 (kC7 (b_.getD []) w4) fun a18 =>
  kA0 (t_q32 a14 a18) fun c22 =>
  bif !c22 then
   some (.inr (.inr false))
  else
   some (.inl (wr (w4+1)))
 else
  some (.inr (.inl ()))
def t_q33 (a_:Sl Lattice) (b_:Sl Lattice):Option Bool :=
 bif !decide ((((a_.getD []).length:Nat):Int)=(((b_.getD []).length:Nat):Int)) then
  some false
 else
  kA0 (kBg (s0_q33 a_ b_) 0) fun qq28=>match qq28 with
  | (.inl _) =>
    some true
  | (.inr q11) =>
    some q11
theorem tl0_q33 (env:Nat→Contract) {B:Base} (he_q32:env n_q32=.pure (C2 (fun c:Bool=>enc c) t_q32)) (a_:Sl Lattice) (b_:Sl Lattice) :kFq (fun (st:Int) tm h2=>match st with | w4=>tm=((Sl.enc a_)::(Sl.enc b_)::und::und::.top::(iv w4)::(Sl.enc a_)::(iv (((a_.getD []).length:Nat):Int))::(Sl.enc b_)::(iv (((b_.getD []).length:Nat):Int))::(bv (!decide ((((a_.getD []).length:Nat):Int)=(((b_.getD []).length:Nat):Int))))::tZ9 16 [])∧Hold B h2 []) hm0_q33 xm0_q33 (lb0_q33 env) (s0_q33 a_ b_) (fun (q:Sum Unit Bool) (r:Res)=>match q with | .inl _=>∃ (q8:Int) (z7:AV) (h5:kA9),r=(.exit 0,((Sl.enc a_)::(Sl.enc b_)::und::und::z7::(iv q8)::(Sl.enc a_)::(iv (((a_.getD []).length:Nat):Int))::(Sl.enc b_)::(iv (((b_.getD []).length:Nat):Int))::(bv (!decide ((((a_.getD []).length:Nat):Int)=(((b_.getD []).length:Nat):Int))))::tZ9 16 []),h5)∧Hold B h5 [] | .inr q11=>∃ (q12:Int) (h9:kA9),r=(.ret,((Sl.enc a_)::(Sl.enc b_)::und::und::(bv q11)::(iv q12)::(Sl.enc a_)::(iv (((a_.getD []).length:Nat):Int))::(Sl.enc b_)::(iv (((b_.getD []).length:Nat):Int))::(bv (!decide ((((a_.getD []).length:Nat):Int)=(((b_.getD []).length:Nat):Int))))::tZ9 16 []),h9)∧Hold B h9 []):=by
 refine @kG0 _ _ _ _ _ _ _ _ (fun w4 tm h2 R => ?_)
 obtain ⟨rfl,O3⟩:=R
 rw [e_lb0_q33]
 unfold s0_q33
 dsimp only
 refine kA1 (Tab.enc h2 a_).len ?_
 refine kA1 (kAl _ _) ?_
 refine kAb (fun c13 => ?_) (fun c13 => ?_)
 ·refine kAr (Tab.enc h2 a_) (fun m15 a14 hi16 hm17 => ?_)
  refine kA1 (v:=AV.agg [iv a14.nodes,Sl.enc a14.edges]) ((Tab.enc h2 a_).ld hm17 true 2 0) ?_
  refine kAr (Tab.enc h2 b_) (fun m19 a18 hi20 hm21 => ?_)
  refine kA1 (v:=AV.agg [iv a18.nodes,Sl.enc a18.edges]) ((Tab.enc h2 b_).ld hm21 true 2 0) ?_
  refine kCb he_q32 (kAz _ a14 rfl) (kAz _ a18 rfl) (fun c22 => ?_)
  refine kAq (kAc (by rfl) _ _) ?_
  refine kA1 (v:=bv (!c22)) (kBu _) ?_
  refine kAb (fun c23 => ?_) (fun c23 => ?_)
  ·exact kA6 ⟨nofun,_,_,rfl,O3⟩
  ·refine kA1 (kAj _ _) ?_
   exact kA6 ⟨rfl,rfl,O3⟩
 ·exact kA6 ⟨nofun,_,_,_,rfl,O3⟩
theorem ts_q33 (env:Nat→Contract) (he_q32:env n_q32=.pure (C2 (fun c:Bool=>enc c) t_q32)) (a_:Sl Lattice) (b_:Sl Lattice):Sim (kAm Tryz.prog env n_q33 [Sl.enc a_,Sl.enc b_] []) (t_q33 a_ b_) fun c p=>release p.2 depth p.1=some ((fun c:Bool=>enc c) c):=by
 have O:=Hold.nil []
 generalize hB:(⟨[],[]⟩:Base)=B at O
 clear hB
 rw [e_q33]
 unfold t_q33
 refine kA1 (v:=iv (((a_.getD []).length:Nat):Int)) (Tab.enc [] a_).len ?_
 refine kA1 (v:=iv (((b_.getD []).length:Nat):Int)) (Tab.enc [] b_).len ?_
 refine kA1 (kCo _ _) ?_
 refine kAb (fun c1 => ?_) (fun c1 => ?_)
 ·exact kA6 (kA5 (by rfl) _)
 ·refine kB6 ((tl0_q33 env he_q32 a_ b_) ⟨rfl,O⟩) (fun qq28 r hq => ?_)
  rcases qq28 with _ | q11
  ·obtain ⟨q8,z7,h5,rfl,O6⟩:=hq
   rw [e_lk0x0_q33]
   exact kA6 (kA5 (by rfl) _)
  ·obtain ⟨q12,h9,rfl,O10⟩:=hq
   rw [e_lk0r_q33]
   exact kA6 (kA5 (by rfl) _)
theorem tt_q33:kAn Tryz.prog n_q33 (C2 (fun c:Bool=>enc c) t_q33):=kCe (kBc tt_q32 E0) kBd hb_q33 fun a_ b_=>ts_q33 _ (by simp [kBx]) a_ b_
def t_q30 (a_:Entry) (b_:Entry):Option Bool :=
 bif !decide (a_.word=b_.word) then
  some false
 else
  bif !decide (a_.cost=b_.cost) then
   some false
  else
   some true
theorem ts_q30 (env:Nat→Contract)  (a_:Entry) (b_:Entry):Sim (kAm Tryz.prog env n_q30 [AV.agg [sv a_.word,iv a_.cost],AV.agg [sv b_.word,iv b_.cost]] []) (t_q30 a_ b_) fun c p=>release p.2 depth p.1=some ((fun c:Bool=>enc c) c):=by
 have O:=Hold.nil []
 generalize hB:(⟨[],[]⟩:Base)=B at O
 clear hB
 rw [e_q30]
 unfold t_q30
 refine kAs O (cs:=[sv a_.word,iv a_.cost]) (by first | rfl | simp) (fun o1 h2 O3 => ?_)
 replace O3:Hold B h2 [pZ9 o1 2 [sv a_.word,iv a_.cost]]:=O3
 refine kAs O3 (cs:=[sv b_.word,iv b_.cost]) (by first | rfl | simp) (fun o5 h6 O7 => ?_)
 replace O7:Hold B h6 [pZ9 o1 2 [sv a_.word,iv a_.cost],pZ9 o5 2 [sv b_.word,iv b_.cost]]:=O7
 refine kA1 (v:=AV.ptr o1 1 0 0) rfl ?_
 refine kA1 (v:=sv a_.word) (O7.ld 0 rfl false 1 0) ?_
 refine kA1 (v:=AV.ptr o5 1 0 0) rfl ?_
 refine kA1 (v:=sv b_.word) (O7.ld 1 rfl false 1 0) ?_
 refine kA1 (kI7 _ _) ?_
 refine kAb (fun c9 => ?_) (fun c9 => ?_)
 ·exact kA6 (kA5 (by rfl) _)
 ·refine kA1 (v:=AV.ptr o1 1 0 1) rfl ?_
  refine kA1 (v:=iv a_.cost) (O7.ld 0 rfl false 1 1) ?_
  refine kA1 (v:=AV.ptr o5 1 0 1) rfl ?_
  refine kA1 (v:=iv b_.cost) (O7.ld 1 rfl false 1 1) ?_
  refine kA1 (kCo _ _) ?_
  refine kAb (fun c10 => ?_) (fun c10 => ?_)
  ·exact kA6 (kA5 (by rfl) _)
  ·exact kA6 (kA5 (by rfl) _)
theorem tt_q30:kAn Tryz.prog n_q30 (C2 (fun c:Bool=>enc c) t_q30):=kCe E0 kBd hb_q30 fun a_ b_=>ts_q30 _  a_ b_
def s0_q31 (a_:Sl Entry) (b_:Sl Entry):Int→Option (Sum Int (Sum Unit Bool)):=fun w4 =>
 bif decide (w4<(((a_.getD []).length:Nat):Int)) then
  kA0 (kC7 (a_.getD []) w4) fun a14 =>
  kA0 (kC7 (b_.getD []) w4) fun a18 =>
  kA0 (t_q30 a14 a18) fun c22 =>
  bif !c22 then
   some (.inr (.inr false))
  else
   some (.inl (wr (w4+1)))
 else
  some (.inr (.inl ()))
def t_q31 (a_:Sl Entry) (b_:Sl Entry):Option Bool :=
 bif !decide ((((a_.getD []).length:Nat):Int)=(((b_.getD []).length:Nat):Int)) then
  some false
 else
  kA0 (kBg (s0_q31 a_ b_) 0) fun qq28=>match qq28 with
  | (.inl _) =>
    some true
  | (.inr q11) =>
    some q11
theorem tl0_q31 (env:Nat→Contract) {B:Base} (he_q30:env n_q30=.pure (C2 (fun c:Bool=>enc c) t_q30)) (a_:Sl Entry) (b_:Sl Entry) :kFq (fun (st:Int) tm h2=>match st with | w4=>tm=((Sl.enc a_)::(Sl.enc b_)::und::und::.top::(iv w4)::(Sl.enc a_)::(iv (((a_.getD []).length:Nat):Int))::(Sl.enc b_)::(iv (((b_.getD []).length:Nat):Int))::(bv (!decide ((((a_.getD []).length:Nat):Int)=(((b_.getD []).length:Nat):Int))))::tZ9 16 [])∧Hold B h2 []) hm0_q31 xm0_q31 (lb0_q31 env) (s0_q31 a_ b_) (fun (q:Sum Unit Bool) (r:Res)=>match q with | .inl _=>∃ (q8:Int) (z7:AV) (h5:kA9),r=(.exit 0,((Sl.enc a_)::(Sl.enc b_)::und::und::z7::(iv q8)::(Sl.enc a_)::(iv (((a_.getD []).length:Nat):Int))::(Sl.enc b_)::(iv (((b_.getD []).length:Nat):Int))::(bv (!decide ((((a_.getD []).length:Nat):Int)=(((b_.getD []).length:Nat):Int))))::tZ9 16 []),h5)∧Hold B h5 [] | .inr q11=>∃ (q12:Int) (h9:kA9),r=(.ret,((Sl.enc a_)::(Sl.enc b_)::und::und::(bv q11)::(iv q12)::(Sl.enc a_)::(iv (((a_.getD []).length:Nat):Int))::(Sl.enc b_)::(iv (((b_.getD []).length:Nat):Int))::(bv (!decide ((((a_.getD []).length:Nat):Int)=(((b_.getD []).length:Nat):Int))))::tZ9 16 []),h9)∧Hold B h9 []):=by
 refine @kG0 _ _ _ _ _ _ _ _ (fun w4 tm h2 R => ?_)
 obtain ⟨rfl,O3⟩:=R
 rw [e_lb0_q31]
 unfold s0_q31
 dsimp only
 refine kA1 (Tab.enc h2 a_).len ?_
 refine kA1 (kAl _ _) ?_
 refine kAb (fun c13 => ?_) (fun c13 => ?_)
 ·refine kAr (Tab.enc h2 a_) (fun m15 a14 hi16 hm17 => ?_)
  refine kA1 (v:=AV.agg [sv a14.word,iv a14.cost]) ((Tab.enc h2 a_).ld hm17 true 2 0) ?_
  refine kAr (Tab.enc h2 b_) (fun m19 a18 hi20 hm21 => ?_)
  refine kA1 (v:=AV.agg [sv a18.word,iv a18.cost]) ((Tab.enc h2 b_).ld hm21 true 2 0) ?_
  refine kCb he_q30 (kAz _ a14 rfl) (kAz _ a18 rfl) (fun c22 => ?_)
  refine kAq (kAc (by rfl) _ _) ?_
  refine kA1 (v:=bv (!c22)) (kBu _) ?_
  refine kAb (fun c23 => ?_) (fun c23 => ?_)
  ·exact kA6 ⟨nofun,_,_,rfl,O3⟩
  ·refine kA1 (kAj _ _) ?_
   exact kA6 ⟨rfl,rfl,O3⟩
 ·exact kA6 ⟨nofun,_,_,_,rfl,O3⟩
theorem ts_q31 (env:Nat→Contract) (he_q30:env n_q30=.pure (C2 (fun c:Bool=>enc c) t_q30)) (a_:Sl Entry) (b_:Sl Entry):Sim (kAm Tryz.prog env n_q31 [Sl.enc a_,Sl.enc b_] []) (t_q31 a_ b_) fun c p=>release p.2 depth p.1=some ((fun c:Bool=>enc c) c):=by
 have O:=Hold.nil []
 generalize hB:(⟨[],[]⟩:Base)=B at O
 clear hB
 rw [e_q31]
 unfold t_q31
 refine kA1 (v:=iv (((a_.getD []).length:Nat):Int)) (Tab.enc [] a_).len ?_
 refine kA1 (v:=iv (((b_.getD []).length:Nat):Int)) (Tab.enc [] b_).len ?_
 refine kA1 (kCo _ _) ?_
 refine kAb (fun c1 => ?_) (fun c1 => ?_)
 ·exact kA6 (kA5 (by rfl) _)
 ·refine kB6 ((tl0_q31 env he_q30 a_ b_) ⟨rfl,O⟩) (fun qq28 r hq => ?_)
  rcases qq28 with _ | q11
  ·obtain ⟨q8,z7,h5,rfl,O6⟩:=hq
   rw [e_lk0x0_q31]
   exact kA6 (kA5 (by rfl) _)
  ·obtain ⟨q12,h9,rfl,O10⟩:=hq
   rw [e_lk0r_q31]
   exact kA6 (kA5 (by rfl) _)
theorem tt_q31:kAn Tryz.prog n_q31 (C2 (fun c:Bool=>enc c) t_q31):=kCe (kBc tt_q30 E0) kBd hb_q31 fun a_ b_=>ts_q31 _ (by simp [kBx]) a_ b_
def t_q34 (a_:Lexicon) (b_:Lexicon):Option Bool :=
 kA0 (t_q31 a_.entries b_.entries) fun c9 =>
 bif !c9 then
  some false
 else
  some true
theorem ts_q34 (env:Nat→Contract) (he_q31:env n_q31=.pure (C2 (fun c:Bool=>enc c) t_q31)) (a_:Lexicon) (b_:Lexicon):Sim (kAm Tryz.prog env n_q34 [AV.agg [Sl.enc a_.entries],AV.agg [Sl.enc b_.entries]] []) (t_q34 a_ b_) fun c p=>release p.2 depth p.1=some ((fun c:Bool=>enc c) c):=by
 have O:=Hold.nil []
 generalize hB:(⟨[],[]⟩:Base)=B at O
 clear hB
 rw [e_q34]
 unfold t_q34
 refine kAs O (cs:=[Sl.enc a_.entries]) (by first | rfl | simp) (fun o1 h2 O3 => ?_)
 replace O3:Hold B h2 [pZ9 o1 1 [Sl.enc a_.entries]]:=O3
 refine kAs O3 (cs:=[Sl.enc b_.entries]) (by first | rfl | simp) (fun o5 h6 O7 => ?_)
 replace O7:Hold B h6 [pZ9 o1 1 [Sl.enc a_.entries],pZ9 o5 1 [Sl.enc b_.entries]]:=O7
 refine kA1 (v:=AV.ptr o1 1 0 0) rfl ?_
 refine kA1 (v:=Sl.enc a_.entries) (O7.ld 0 rfl false 1 0) ?_
 refine kA1 (v:=AV.ptr o5 1 0 0) rfl ?_
 refine kA1 (v:=Sl.enc b_.entries) (O7.ld 1 rfl false 1 0) ?_
 refine kBo he_q31 (kBp _ _) (kBp _ _) (fun c9 => ?_)
 refine kAq (kAc (by rfl) _ _) ?_
 refine kA1 (v:=bv (!c9)) (kBu _) ?_
 refine kAb (fun c10 => ?_) (fun c10 => ?_)
 ·exact kA6 (kA5 (by rfl) _)
 ·exact kA6 (kA5 (by rfl) _)
theorem tt_q34:kAn Tryz.prog n_q34 (C2 (fun c:Bool=>enc c) t_q34):=kCe (kBc tt_q31 E0) kBd hb_q34 fun a_ b_=>ts_q34 _ (by simp [kBx]) a_ b_
def s0_q27 (a_:Sl Bigram) (b_:Sl Bigram):Int→Option (Sum Int (Sum Unit Bool)):=fun w4 =>
 bif decide (w4<(((a_.getD []).length:Nat):Int)) then
  kA0 (kC7 (a_.getD []) w4) fun a14 =>
  kA0 (kC7 (b_.getD []) w4) fun a18 =>
  kA0 (some ((fun a b:Bigram=>decide (a=b)) a14 a18)) fun c22 =>
  bif !c22 then
   some (.inr (.inr false))
  else
   some (.inl (wr (w4+1)))
 else
  some (.inr (.inl ()))
def t_q27 (a_:Sl Bigram) (b_:Sl Bigram):Option Bool :=
 bif !decide ((((a_.getD []).length:Nat):Int)=(((b_.getD []).length:Nat):Int)) then
  some false
 else
  kA0 (kBg (s0_q27 a_ b_) 0) fun qq28=>match qq28 with
  | (.inl _) =>
    some true
  | (.inr q11) =>
    some q11
theorem tl0_q27 (env:Nat→Contract) {B:Base} (he_q26:env n_q26=.pure (T2 (fun a b:Bigram=>decide (a=b)))) (a_:Sl Bigram) (b_:Sl Bigram) :kFq (fun (st:Int) tm h2=>match st with | w4=>tm=((Sl.enc a_)::(Sl.enc b_)::und::und::.top::(iv w4)::(Sl.enc a_)::(iv (((a_.getD []).length:Nat):Int))::(Sl.enc b_)::(iv (((b_.getD []).length:Nat):Int))::(bv (!decide ((((a_.getD []).length:Nat):Int)=(((b_.getD []).length:Nat):Int))))::tZ9 16 [])∧Hold B h2 []) hm0_q27 xm0_q27 (lb0_q27 env) (s0_q27 a_ b_) (fun (q:Sum Unit Bool) (r:Res)=>match q with | .inl _=>∃ (q8:Int) (z7:AV) (h5:kA9),r=(.exit 0,((Sl.enc a_)::(Sl.enc b_)::und::und::z7::(iv q8)::(Sl.enc a_)::(iv (((a_.getD []).length:Nat):Int))::(Sl.enc b_)::(iv (((b_.getD []).length:Nat):Int))::(bv (!decide ((((a_.getD []).length:Nat):Int)=(((b_.getD []).length:Nat):Int))))::tZ9 16 []),h5)∧Hold B h5 [] | .inr q11=>∃ (q12:Int) (h9:kA9),r=(.ret,((Sl.enc a_)::(Sl.enc b_)::und::und::(bv q11)::(iv q12)::(Sl.enc a_)::(iv (((a_.getD []).length:Nat):Int))::(Sl.enc b_)::(iv (((b_.getD []).length:Nat):Int))::(bv (!decide ((((a_.getD []).length:Nat):Int)=(((b_.getD []).length:Nat):Int))))::tZ9 16 []),h9)∧Hold B h9 []):=by
 refine @kG0 _ _ _ _ _ _ _ _ (fun w4 tm h2 R => ?_)
 obtain ⟨rfl,O3⟩:=R
 rw [e_lb0_q27]
 unfold s0_q27
 dsimp only
 refine kA1 (Tab.enc h2 a_).len ?_
 refine kA1 (kAl _ _) ?_
 refine kAb (fun c13 => ?_) (fun c13 => ?_)
 ·refine kAr (Tab.enc h2 a_) (fun m15 a14 hi16 hm17 => ?_)
  refine kA1 (v:=AV.agg [sv a14.first,sv a14.second,iv a14.cost]) ((Tab.enc h2 a_).ld hm17 true 3 0) ?_
  refine kAr (Tab.enc h2 b_) (fun m19 a18 hi20 hm21 => ?_)
  refine kA1 (v:=AV.agg [sv a18.first,sv a18.second,iv a18.cost]) ((Tab.enc h2 b_).ld hm21 true 3 0) ?_
  refine kEk (t:=(fun a b:Bigram=>decide (a=b))) he_q26 (kAz _ a14 rfl) (kAz _ a18 rfl) (fun c22 => ?_)
  refine kA1 (v:=bv (!c22)) (kBu _) ?_
  refine kAb (fun c23 => ?_) (fun c23 => ?_)
  ·exact kA6 ⟨nofun,_,_,rfl,O3⟩
  ·refine kA1 (kAj _ _) ?_
   exact kA6 ⟨rfl,rfl,O3⟩
 ·exact kA6 ⟨nofun,_,_,_,rfl,O3⟩
theorem ts_q27 (env:Nat→Contract) (he_q26:env n_q26=.pure (T2 (fun a b:Bigram=>decide (a=b)))) (a_:Sl Bigram) (b_:Sl Bigram):Sim (kAm Tryz.prog env n_q27 [Sl.enc a_,Sl.enc b_] []) (t_q27 a_ b_) fun c p=>release p.2 depth p.1=some ((fun c:Bool=>enc c) c):=by
 have O:=Hold.nil []
 generalize hB:(⟨[],[]⟩:Base)=B at O
 clear hB
 rw [e_q27]
 unfold t_q27
 refine kA1 (v:=iv (((a_.getD []).length:Nat):Int)) (Tab.enc [] a_).len ?_
 refine kA1 (v:=iv (((b_.getD []).length:Nat):Int)) (Tab.enc [] b_).len ?_
 refine kA1 (kCo _ _) ?_
 refine kAb (fun c1 => ?_) (fun c1 => ?_)
 ·exact kA6 (kA5 (by rfl) _)
 ·refine kB6 ((tl0_q27 env he_q26 a_ b_) ⟨rfl,O⟩) (fun qq28 r hq => ?_)
  rcases qq28 with _ | q11
  ·obtain ⟨q8,z7,h5,rfl,O6⟩:=hq
   rw [e_lk0x0_q27]
   exact kA6 (kA5 (by rfl) _)
  ·obtain ⟨q12,h9,rfl,O10⟩:=hq
   rw [e_lk0r_q27]
   exact kA6 (kA5 (by rfl) _)
theorem tt_q27:kAn Tryz.prog n_q27 (C2 (fun c:Bool=>enc c) t_q27):=kCe (kBc ok_q26 E0) kBd hb_q27 fun a_ b_=>ts_q27 _ (by simp [kBx]) a_ b_
def t_q35 (a_:Model) (b_:Model):Option Bool :=
 bif !decide (a_.default=b_.default) then
  some false
 else
  kA0 (t_q27 a_.bigrams b_.bigrams) fun c10 =>
  bif !c10 then
   some false
  else
   some true
theorem ts_q35 (env:Nat→Contract) (he_q27:env n_q27=.pure (C2 (fun c:Bool=>enc c) t_q27)) (a_:Model) (b_:Model):Sim (kAm Tryz.prog env n_q35 [AV.agg [iv a_.default,Sl.enc a_.bigrams],AV.agg [iv b_.default,Sl.enc b_.bigrams]] []) (t_q35 a_ b_) fun c p=>release p.2 depth p.1=some ((fun c:Bool=>enc c) c):=by
 have O:=Hold.nil []
 generalize hB:(⟨[],[]⟩:Base)=B at O
 clear hB
 rw [e_q35]
 unfold t_q35
 refine kAs O (cs:=[iv a_.default,Sl.enc a_.bigrams]) (by first | rfl | simp) (fun o1 h2 O3 => ?_)
 replace O3:Hold B h2 [pZ9 o1 2 [iv a_.default,Sl.enc a_.bigrams]]:=O3
 refine kAs O3 (cs:=[iv b_.default,Sl.enc b_.bigrams]) (by first | rfl | simp) (fun o5 h6 O7 => ?_)
 replace O7:Hold B h6 [pZ9 o1 2 [iv a_.default,Sl.enc a_.bigrams],pZ9 o5 2 [iv b_.default,Sl.enc b_.bigrams]]:=O7
 refine kA1 (v:=AV.ptr o1 1 0 0) rfl ?_
 refine kA1 (v:=iv a_.default) (O7.ld 0 rfl false 1 0) ?_
 refine kA1 (v:=AV.ptr o5 1 0 0) rfl ?_
 refine kA1 (v:=iv b_.default) (O7.ld 1 rfl false 1 0) ?_
 refine kA1 (kCo _ _) ?_
 refine kAb (fun c9 => ?_) (fun c9 => ?_)
 ·exact kA6 (kA5 (by rfl) _)
 ·refine kA1 (v:=AV.ptr o1 1 0 1) rfl ?_
  refine kA1 (v:=Sl.enc a_.bigrams) (O7.ld 0 rfl false 1 1) ?_
  refine kA1 (v:=AV.ptr o5 1 0 1) rfl ?_
  refine kA1 (v:=Sl.enc b_.bigrams) (O7.ld 1 rfl false 1 1) ?_
  refine kBo he_q27 (kBp _ _) (kBp _ _) (fun c10 => ?_)
  refine kAq (kAc (by rfl) _ _) ?_
  refine kA1 (v:=bv (!c10)) (kBu _) ?_
  refine kAb (fun c11 => ?_) (fun c11 => ?_)
  ·exact kA6 (kA5 (by rfl) _)
  ·exact kA6 (kA5 (by rfl) _)
theorem tt_q35:kAn Tryz.prog n_q35 (C2 (fun c:Bool=>enc c) t_q35):=kCe (kBc tt_q27 E0) kBd hb_q35 fun a_ b_=>ts_q35 _ (by simp [kBx]) a_ b_
def s0_q48:(Int×ByteArray)→Option (Sum (Int×ByteArray) ByteArray):=fun (w4,w5) =>
 bif decide (0<w4) then
  kA0 (catO (strL ((some ([byteI (wr (48+(Int.tmod w4 10)))]:List UInt8)).getD [])) w5) fun s16 =>
  some (.inl (wr (Int.tdiv w4 10),s16))
 else
  some (.inr w5)
def t_q48 (k_:Int):Option ByteArray :=
 bif decide (k_≤0) then
  some (⟨#[109,48]⟩:ByteArray)
 else
  kA0 (kBg s0_q48 (k_,(⟨#[]⟩:ByteArray))) fun q9 =>
  kA0 (catO (⟨#[109]⟩:ByteArray) q9) fun s10 =>
  some s10
theorem tl0_q48 (env:Nat→Contract) {B:Base}  (k_:Int) :kFq (fun (st:Int×ByteArray) tm h2=>match st with | (w4,w5)=>tm=[iv w4,und,sv (⟨#[]⟩:ByteArray),sv w5,iv k_,bv (decide (k_≤0)),.top,.top,.top,.top,.top,.top,.top,.top,.top,.top,.top,.top,und,und]∧Hold B h2 []) hm0_q48 xm0_q48 (lb0_q48 env) s0_q48 (fun (q:ByteArray) (r:Res)=>match q with | q9=>∃ (q8:Int) (h6:kA9),r=(.exit 0,[iv q8,und,sv (⟨#[]⟩:ByteArray),sv q9,iv k_,bv (decide (k_≤0)),.top,.top,.top,.top,.top,.top,.top,.top,.top,.top,.top,.top,und,und],h6)∧Hold B h6 []):=by
 refine @kG0 _ _ _ _ _ _ _ _ (fun st tm h2 R => ?_)
 obtain ⟨w4,w5⟩:=st
 obtain ⟨rfl,O3⟩:=R
 rw [e_lb0_q48]
 unfold s0_q48
 dsimp only
 refine kA1 (kDa _ _) ?_
 refine kAb (fun c11 => ?_) (fun c11 => ?_)
 ·refine kA1 (v:=iv (Int.tmod w4 10)) (aBin_rem _ _ (by decide)) ?_
  refine kA1 (kAj _ _) ?_
  refine kA1 (v:=bt (byteI (wr (48+(Int.tmod w4 10))))) (conv_u8 _) ?_
  refine kD7 (A:=UInt8) O3 ([byteI (wr (48+(Int.tmod w4 10)))]:List UInt8) rfl (by first | rfl | simp [kBy,kEp]) rfl (fun x12 h13 O14 => ?_)
  replace O14:Hold B h13 [(x12,obS ((some ([byteI (wr (48+(Int.tmod w4 10)))]:List UInt8)):Sl UInt8))]:=O14
  refine kA1 (v:=sv (strL ((some ([byteI (wr (48+(Int.tmod w4 10)))]:List UInt8)).getD []))) (conv_str (s:=(some ([byteI (wr (48+(Int.tmod w4 10)))]:List UInt8))) (O14.src (A:=UInt8) (s:=(some ([byteI (wr (48+(Int.tmod w4 10)))]:List UInt8))) 0 rfl)) ?_
  refine sim_cat (fun s16 => ?_)
  refine kA1 (v:=iv (wr (Int.tdiv w4 10))) (aBin_quo _ _ (by decide)) ?_
  have O17:Hold B h13 []:=O14.sel [] (by decide) rfl
  exact kA6 ⟨rfl,rfl,O17⟩
 ·exact kA6 ⟨nofun,_,_,rfl,O3⟩
theorem ts_q48 (env:Nat→Contract)  (k_:Int):Sim (kAm Tryz.prog env kDt [iv k_] []) (t_q48 k_) fun c p=>release p.2 depth p.1=some ((fun c:ByteArray=>enc c) c):=by
 have O:=Hold.nil []
 generalize hB:(⟨[],[]⟩:Base)=B at O
 clear hB
 rw [e_q48]
 unfold t_q48
 refine kA1 (kFn _ _) ?_
 refine kAb (fun c1 => ?_) (fun c1 => ?_)
 ·exact kA6 (kA5 (by rfl) _)
 ·refine kB6 ((tl0_q48 env k_) ⟨rfl,O⟩) (fun qq20 r hq => ?_)
  revert hq
  revert qq20
  intro q9 hq
  obtain ⟨q8,h6,rfl,O7⟩:=hq
  rw [e_lk0x0_q48]
  refine sim_cat (fun s10 => ?_)
  exact kA6 (kA5 (by rfl) _)
theorem tt_q48:kAn Tryz.prog kDt (C1 (fun c:ByteArray=>enc c) t_q48):=kDl E0 kBd hb_q48 fun k_=>ts_q48 _  k_
def s0_q39 (a_:Sl ByteArray):(Int×Int)→Option (Sum (Int×Int) (Sum Int Int)):=fun (w3,w4) =>
 bif decide (w4<(((a_.getD []).length:Nat):Int)) then
  kA0 (kC7 (a_.getD []) w4) fun a16 =>
  kA0 (t_q48 w3) fun c20 =>
  bif !decide (a16=c20) then
   some (.inr (.inr (-1)))
  else
   some (.inl (wr (w3+1),wr (w4+1)))
 else
  some (.inr (.inl w3))
def t_q39 (a_:Sl ByteArray) (k_:Int):Option Int :=
 kA0 (kBg (s0_q39 a_) (k_,0)) fun qq26=>match qq26 with
 | (.inl q7) =>
   some q7
 | (.inr q13) =>
   some q13
theorem tl0_q39 (env:Nat→Contract) {B:Base} (he_q48:env kDt=.pure (C1 (fun c:ByteArray=>enc c) t_q48)) (a_:Sl ByteArray) :kFq (fun (st:Int×Int) tm h1=>match st with | (w3,w4)=>tm=((Sl.enc a_)::(iv w3)::und::und::.top::(iv w4)::tZ9 15 [und])∧Hold B h1 []) hm0_q39 xm0_q39 (lb0_q39 env) (s0_q39 a_) (fun (q:Sum Int Int) (r:Res)=>match q with | .inl q7=>∃ (q9:Int) (z8:AV) (h5:kA9),r=(.exit 0,((Sl.enc a_)::(iv q7)::und::und::z8::(iv q9)::tZ9 15 [und]),h5)∧Hold B h5 [] | .inr q13=>∃ (q12:Int) (q14:Int) (h10:kA9),r=(.ret,((Sl.enc a_)::(iv q12)::und::und::(iv q13)::(iv q14)::tZ9 15 [und]),h10)∧Hold B h10 []):=by
 refine @kG0 _ _ _ _ _ _ _ _ (fun st tm h1 R => ?_)
 obtain ⟨w3,w4⟩:=st
 obtain ⟨rfl,O2⟩:=R
 rw [e_lb0_q39]
 unfold s0_q39
 dsimp only
 refine kA1 (Tab.enc h1 a_).len ?_
 refine kA1 (kAl _ _) ?_
 refine kAb (fun c15 => ?_) (fun c15 => ?_)
 ·refine kAr (Tab.enc h1 a_) (fun m17 a16 hi18 hm19 => ?_)
  refine kA1 (v:=sv a16) ((Tab.enc h1 a_).ld hm19 false 1 0) ?_
  refine kCc he_q48 (kAy _ _) (fun c20 => ?_)
  refine kAq (kAc (by rfl) _ _) ?_
  refine kA1 (kI7 _ _) ?_
  refine kAb (fun c21 => ?_) (fun c21 => ?_)
  ·exact kA6 ⟨nofun,_,_,_,rfl,O2⟩
  ·refine kA1 (kAj _ _) ?_
   refine kA1 (kAj _ _) ?_
   exact kA6 ⟨rfl,rfl,O2⟩
 ·exact kA6 ⟨nofun,_,_,_,rfl,O2⟩
theorem ts_q39 (env:Nat→Contract) (he_q48:env kDt=.pure (C1 (fun c:ByteArray=>enc c) t_q48)) (a_:Sl ByteArray) (k_:Int):Sim (kAm Tryz.prog env n_q39 [Sl.enc a_,iv k_] []) (t_q39 a_ k_) fun c p=>release p.2 depth p.1=some ((fun c:Int=>enc c) c):=by
 have O:=Hold.nil []
 generalize hB:(⟨[],[]⟩:Base)=B at O
 clear hB
 rw [e_q39]
 unfold t_q39
 refine kB6 ((tl0_q39 env he_q48 a_) ⟨rfl,O⟩) (fun qq26 r hq => ?_)
 rcases qq26 with q7 | q13
 ·obtain ⟨q9,z8,h5,rfl,O6⟩:=hq
  rw [e_lk0x0_q39]
  exact kA6 (kA5 (by rfl) _)
 ·obtain ⟨q12,q14,h10,rfl,O11⟩:=hq
  rw [e_lk0r_q39]
  exact kA6 (kA5 (by rfl) _)
theorem tt_q39:kAn Tryz.prog n_q39 (C2 (fun c:Int=>enc c) t_q39):=kCe (kBc tt_q48 E0) kBd hb_q39 fun a_ k_=>ts_q39 _ (by simp [kBx]) a_ k_
def t_q38 (a_:Sentence) (k_:Int):Option Int :=
 kA0 (t_q39 a_.words k_) fun c5 =>
 bif decide (c5<0) then
  some (-1)
 else
  some c5
theorem ts_q38 (env:Nat→Contract) (he_q39:env n_q39=.pure (C2 (fun c:Int=>enc c) t_q39)) (a_:Sentence) (k_:Int):Sim (kAm Tryz.prog env n_q38 [AV.agg [Sl.enc a_.words,iv a_.cost],iv k_] []) (t_q38 a_ k_) fun c p=>release p.2 depth p.1=some ((fun c:Int=>enc c) c):=by
 have O:=Hold.nil []
 generalize hB:(⟨[],[]⟩:Base)=B at O
 clear hB
 rw [e_q38]
 unfold t_q38
 refine kAs O (cs:=[Sl.enc a_.words,iv a_.cost]) (by first | rfl | simp) (fun o1 h2 O3 => ?_)
 replace O3:Hold B h2 [pZ9 o1 2 [Sl.enc a_.words,iv a_.cost]]:=O3
 refine kA1 (v:=AV.ptr o1 1 0 0) rfl ?_
 refine kA1 (v:=Sl.enc a_.words) (O3.ld 0 rfl false 1 0) ?_
 refine kBo he_q39 (kBp _ _) (kAy _ _) (fun c5 => ?_)
 refine kAq (kAc (by rfl) _ _) ?_
 refine kA1 (kAl _ _) ?_
 refine kAb (fun c6 => ?_) (fun c6 => ?_)
 ·exact kA6 (kA5 (by rfl) _)
 ·exact kA6 (kA5 (by rfl) _)
theorem tt_q38:kAn Tryz.prog n_q38 (C2 (fun c:Int=>enc c) t_q38):=kCe (kBc tt_q39 E0) kBd hb_q38 fun a_ k_=>ts_q38 _ (by simp [kBx]) a_ k_
theorem lp_q40 (env:Nat→Contract) (he:env kDt=.pure (G1 (fun k:Int=>decide (0≤k) && decide (k≤100000000)) fun k=>sv (kBr k.toNat))) {y2 y3 y4 y35:AV} (o n:Nat):∀ (S P:List (List AV)) (k i:Nat) (h:kA9),i=P.length→P.length+S.length=n→n≤4294967296→(∀ r∈S,r.length=3)→k+3*S.length≤100000000→h[o]?=some ⟨3,P++S⟩ →
  (kA0 (kBf hm0_q40 xm0_q40 (lb0_q40 env) [.sl o n 0 n,iv (k:Nat),y2,y3,y4,iv (i:Nat),.top,.top,.top,.top,.top,.top,.top,.top,.top,.top,.top,.top,.top,.top,.top,.top,.top,.top,.top,.top,.top,.top,.top,.top,.top,.top,.top,.top,.top,y35] h) fun r=>lk0_q40 env r.1 r.2.1 r.2.2)=some (iv ((k+3*S.length:Nat):Int),h.set o ⟨3,P++kFc [true,true,false] k S.length⟩):=by
 intro S
 induction S with
 | nil =>
  intro P k i h hi hl hn hr hk ho
  have:¬ i<n:=by simp at hl;omega
  have hs:=set_same ho
  simp at hs
  rw [kBf.eq_1]
  simp [e_lb0_q40,restr,e_lk0x0_q40,this,kFc,hs]
 | cons r S ih =>
  intro P k i h hi hl hn hr hk ho
  have hl':P.length+(S.length+1)=n:=by simpa using hl
  simp only [List.length_cons] at hk
  have hlt:i<n:=by omega
  have hrl:=hr r (by simp)
  obtain ⟨c0,c1,c2,rfl⟩:∃ c0 c1 c2,r=[c0,c1,c2]:=by
   match r,hrl with
   | [c0,c1,c2],_=>exact ⟨c0,c1,c2,rfl⟩
  have olt:=(List.getElem?_eq_some_iff.1 ho).1
  have a0:=kE8 (w:=3) (r:=[c0,c1,c2]) ho hi hl'
  have s0:=kDh (j:=0) (v:=sv (kBr k)) ho hi hl' rfl rfl (by simp)
  simp only [List.set_cons_zero,List.set_cons_succ,List.set_set] at s0
  have g0:(h.set o ⟨3,P++[(sv (kBr k)),c1,c2]::S⟩)[o]?=some ⟨3,P++[(sv (kBr k)),c1,c2]::S⟩:=by simp [olt]
  have w0:wr ((k:Int)+1)=((k+1:Nat):Int):=by rw [kC9 (by omega) (by omega)];omega
  have t0:(0≤(k:Int))=True:=eq_true (by omega)
  have u0:((k:Int)≤100000000)=True:=eq_true (by omega)
  have q0:∀ h,kB5 (env kDt) [iv (k:Int)] h=some (sv (kBr k),h):=fun h=>by
   rw [he]
   simp [-Int.natCast_add,t0,u0]
  have a1:=kE8 (w:=3) (r:=[(sv (kBr k)),c1,c2]) g0 hi hl'
  have s1:=kDh (j:=1) (v:=sv (kBr (k+1))) g0 hi hl' rfl rfl (by simp)
  simp only [List.set_cons_zero,List.set_cons_succ,List.set_set] at s1
  have g1:(h.set o ⟨3,P++[(sv (kBr k)),(sv (kBr (k+1))),c2]::S⟩)[o]?=some ⟨3,P++[(sv (kBr k)),(sv (kBr (k+1))),c2]::S⟩:=by simp [olt]
  have w1:wr (((k+1:Nat):Int)+1)=((k+2:Nat):Int):=by rw [kC9 (by omega) (by omega)];omega
  have t1:(0≤((k+1:Nat):Int))=True:=eq_true (by omega)
  have u1:(((k+1:Nat):Int)≤100000000)=True:=eq_true (by omega)
  have q1:∀ h,kB5 (env kDt) [iv ((k+1:Nat):Int)] h=some (sv (kBr (k+1)),h):=fun h=>by
   rw [he]
   simp [-Int.natCast_add,t1,u1]
  have a2:=kE8 (w:=3) (r:=[(sv (kBr k)),(sv (kBr (k+1))),c2]) g1 hi hl'
  have s2:=kDh (j:=2) (v:=iv ((k+2:Nat):Int)) g1 hi hl' rfl rfl (by simp)
  simp only [List.set_cons_zero,List.set_cons_succ,List.set_set] at s2
  have g2:(h.set o ⟨3,P++[(sv (kBr k)),(sv (kBr (k+1))),(iv ((k+2:Nat):Int))]::S⟩)[o]?=some ⟨3,P++[(sv (kBr k)),(sv (kBr (k+1))),(iv ((k+2:Nat):Int))]::S⟩:=by simp [olt]
  have w2:wr (((k+2:Nat):Int)+1)=((k+3:Nat):Int):=by rw [kC9 (by omega) (by omega)];omega
  have wi:wr ((i:Int)+1)=((i+1:Nat):Int):=by rw [kC9 (by omega) (by omega)];omega
  have r:=ih (P++[[(sv (kBr k)),(sv (kBr (k+1))),(iv ((k+2:Nat):Int))]]) (k+3) (i+1) (h.set o ⟨3,P++[(sv (kBr k)),(sv (kBr (k+1))),(iv ((k+2:Nat):Int))]::S⟩) (by simp [hi]) (by simp;omega) hn (fun r hr'=>hr r (by simp [hr'])) (by omega) (by simp [olt])
  have hlz:((i:Int)<(n:Nat)):=by omega
  rw [kBf.eq_1]
  simp only [e_lb0_q40,aLenK_sl,kA4,kAl,kGu,hlz,decide_true,cond_true,kF5,Nat.zero_add,a0,s0,w0,q0,kBn,a1,s1,w1,q1,kBn,a2,s2,w2,wi,kAj,restr,cond_false]
  rw [r]
  simp only [kFc,mrow,List.length_cons,List.set_set,List.append_assoc,List.singleton_append,cond_true,cond_false,Nat.add_assoc]
  congr 3
  ·omega
theorem kIl (env:Nat→Contract) (he:env kDt=.pure (G1 (fun k:Int=>decide (0≤k) && decide (k≤100000000)) fun k=>sv (kBr k.toNat))) (R:List (List AV)) (o n:Nat) (hn:R.length=n) (hl:n≤4294967296) (hr:∀ r∈R,r.length=3) (k:Nat) (hk:k+3*n≤100000000) (h:kA9) (ho:h[o]?=some ⟨3,R⟩) :
  kAm Tryz.prog env n_q40 [.sl o n 0 n,iv (k:Nat)] h=some (iv ((k+3*n:Nat):Int),h.set o ⟨3,kFc [true,true,false] k n⟩):=by
 have L:=fun {y2 y3 y4 y35}=>@lp_q40 env he y2 y3 y4 y35 o n R [] k 0 h rfl (by simpa using hn) hl hr (by rw [hn];exact hk) (by simpa using ho)
 rw [hn] at L
 simp [-Int.natCast_add] at L
 simp [-Int.natCast_add,e_q40,L]
def MarkGOK {A:Type} [Row A] (w j:Nat) (f:List AV→kA9→Option (AV×kA9)) (mk:Sl A→Int→Option (Int×Sl A)):Prop :=
 ∀ (B:Base) (h:kA9) (L:List Ent) (i:Nat) (x:AV) (s:Sl A) (k r:Int) (s':Sl A) (cs:List AV),Hold B h L→L[i]?=some (x,obS s)→cs.all AV.flat=true→cs.length=w→cs[j]?=some x→mk s k=some (r,s')→∃ h',f [AV.agg cs,iv k] h=some (iv r,h')∧Hold B h' (L.set i (x,obS s'))
theorem sim_markG {A:Type} [Row A] {B:Base} {h:kA9} {L:List Ent} {γ δ:Type} {env:Nat→Contract} {g w j:Nat} {f:List AV→kA9→Option (AV×kA9)} {mk:Sl A→Int→Option (Int×Sl A)} {cs:List AV} (O:Hold B h L) (i:Nat) {x:AV} {s:Sl A} (hi:L[i]?=some (x,obS s)) {k:Int} (he:env g=.gen f) (hf:MarkGOK w j f mk) (hc:cs.all AV.flat=true) (hw:cs.length=w) (hj:cs[j]?=some x)
  {F:AV→kA9→Option γ} {G:Int×Sl A→Option δ} {Q:δ→γ→Prop} (K:∀ r s' h',Hold B h' (L.set i (x,obS s'))→Sim (F (iv r) h') (G (r,s')) Q):Sim (kA2 (kB5 (env g) [AV.agg cs,iv k] h) F) (kA0 (mk s k) G) Q:=by
 rw [he]
 show Sim (kA2 (f [AV.agg cs,iv k] h) F) _ Q
 cases hm:mk s k with
 | none=>exact kDg
 | some p =>
  obtain ⟨r,s'⟩:=p
  obtain ⟨h',e1,e2⟩:=hf B h L i x s k r s' cs O hi hc hw hj hm
  rw [kA4,e1,kBn]
  exact K r s' h' e2
theorem markG_of {A:Type} [Row A] {w j g1:Nat} {env:Nat→Contract} {f:List AV→kA9→Option (AV×kA9)} {D:List AV→kA9→Option (AV×kA9)} {mk:Sl A→Int→Option (Int×Sl A)} (he:env g1=.gen f) (hf:MarkOK f mk)
  (e:∀ (cs:List AV) (x1:AV) (h:kA9),D [AV.agg cs,x1] h=kA2 (kCd cs h) fun v1 h2=>kA0 (kA3 j v1) fun v3=>kA0 (kAa false 1 v3 h2) fun v4=>kA2 (kB5 (env g1) [v4,x1] h2) fun v5 h6=>some (v5,h6)):MarkGOK w j D mk:=by
 intro B h L i x s k r s' cs O hi hc hw hj hm
 have hx:x.cells=[x]∧x.flat=true:=O.one i hi
 have hlt:=(List.getElem?_eq_some_iff.1 hi).1
 have O2:Hold B (h++[⟨cs.length,[cs]⟩]) (L++[(.ptr h.length 1 0 0,.pt cs.length cs)]):=O.alloc (.pt cs.length cs) rfl
 have hi2:(L++[(AV.ptr h.length 1 0 0,EV.pt cs.length cs)])[i]?=some (x,obS s):=by rw [List.getElem?_append_left hlt];exact hi
 obtain ⟨h',f1,f2⟩:=O2.mark i hi2 hf hm
 rw [List.set_append_left _ _ hlt] at f2
 refine ⟨h',?_,f2.left⟩
 have ld:=O2.ld (o:=h.length) (k:=cs.length) (cs:=cs) L.length (by simp) false 1 j
 have dr:cs.drop j=x::cs.drop (j+1):=by
  obtain ⟨hl,e⟩:=List.getElem?_eq_some_iff.1 hj
  rw [List.drop_eq_getElem_cons hl,e]
 rw [e]
 unfold kCd
 rw [if_pos hc,kBn]
 have fa:kA3 j (AV.ptr h.length 1 0 0)=some (AV.ptr h.length 1 0 j):=by simp [kA3]
 rw [fa,kA4,ld,dr]
 have ct:cut false 1 (x::cs.drop (j+1))=some x:=by simp [cut]
 rw [ct,kA4,he]
 show kA2 (f [x,iv k] _) _=_
 rw [f1,kBn]
theorem kIg (env:Nat→Contract) (he:env kDt=.pure (G1 (fun k:Int=>decide (0≤k) && decide (k≤100000000)) fun k=>sv (kBr k.toNat))) {y2 y3 y4 y19:AV} (o n:Nat):∀ (S P:List (List AV)) (k i:Nat) (h:kA9),i=P.length→P.length+S.length=n→n≤4294967296→(∀ r∈S,r.length=1)→k+1*S.length≤100000000→h[o]?=some ⟨1,P++S⟩ →
  (kA0 (kBf hm0_q47 xm0_q47 (lb0_q47 env) [.sl o n 0 n,iv (k:Nat),y2,y3,y4,iv (i:Nat),.top,.top,.top,.top,.top,.top,.top,.top,.top,.top,.top,.top,.top,y19] h) fun r=>lk0_q47 env r.1 r.2.1 r.2.2)=some (iv ((k+1*S.length:Nat):Int),h.set o ⟨1,P++kFc [true] k S.length⟩):=by
 intro S
 induction S with
 | nil =>
  intro P k i h hi hl hn hr hk ho
  have:¬ i<n:=by simp at hl;omega
  have hs:=set_same ho
  simp at hs
  rw [kBf.eq_1]
  simp [e_lb0_q47,restr,e_lk0x0_q47,this,kFc,hs]
 | cons r S ih =>
  intro P k i h hi hl hn hr hk ho
  have hl':P.length+(S.length+1)=n:=by simpa using hl
  simp only [List.length_cons] at hk
  have hlt:i<n:=by omega
  have hrl:=hr r (by simp)
  obtain ⟨c0,rfl⟩:∃ c0,r=[c0]:=by
   match r,hrl with
   | [c0],_=>exact ⟨c0,rfl⟩
  have olt:=(List.getElem?_eq_some_iff.1 ho).1
  have a0:=kE8 (w:=1) (r:=[c0]) ho hi hl'
  have s0:=kDh (j:=0) (v:=sv (kBr k)) ho hi hl' rfl rfl (by simp)
  simp only [List.set_cons_zero,List.set_cons_succ,List.set_set] at s0
  have g0:(h.set o ⟨1,P++[(sv (kBr k))]::S⟩)[o]?=some ⟨1,P++[(sv (kBr k))]::S⟩:=by simp [olt]
  have w0:wr ((k:Int)+1)=((k+1:Nat):Int):=by rw [kC9 (by omega) (by omega)];omega
  have t0:(0≤(k:Int))=True:=eq_true (by omega)
  have u0:((k:Int)≤100000000)=True:=eq_true (by omega)
  have q0:∀ h,kB5 (env kDt) [iv (k:Int)] h=some (sv (kBr k),h):=fun h=>by
   rw [he]
   simp [-Int.natCast_add,t0,u0]
  have wi:wr ((i:Int)+1)=((i+1:Nat):Int):=by rw [kC9 (by omega) (by omega)];omega
  have r:=ih (P++[[(sv (kBr k))]]) (k+1) (i+1) (h.set o ⟨1,P++[(sv (kBr k))]::S⟩) (by simp [hi]) (by simp;omega) hn (fun r hr'=>hr r (by simp [hr'])) (by omega) (by simp [olt])
  have hlz:((i:Int)<(n:Nat)):=by omega
  rw [kBf.eq_1]
  simp only [e_lb0_q47,aLenK_sl,kA4,kAl,kGu,hlz,decide_true,cond_true,kF5,Nat.zero_add,a0,s0,w0,q0,kBn,wi,kAj,restr,cond_false]
  rw [r]
  simp only [kFc,mrow,List.length_cons,List.set_set,List.append_assoc,List.singleton_append,cond_true,cond_false,Nat.add_assoc]
  congr 3
  ·omega
theorem kI1 (env:Nat→Contract) (he:env kDt=.pure (G1 (fun k:Int=>decide (0≤k) && decide (k≤100000000)) fun k=>sv (kBr k.toNat))) (R:List (List AV)) (o n:Nat) (hn:R.length=n) (hl:n≤4294967296) (hr:∀ r∈R,r.length=1) (k:Nat) (hk:k+1*n≤100000000) (h:kA9) (ho:h[o]?=some ⟨1,R⟩) :
  kAm Tryz.prog env n_q47 [.sl o n 0 n,iv (k:Nat)] h=some (iv ((k+1*n:Nat):Int),h.set o ⟨1,kFc [true] k n⟩):=by
 have L:=fun {y2 y3 y4 y19}=>@kIg env he y2 y3 y4 y19 o n R [] k 0 h rfl (by simpa using hn) hl hr (by rw [hn];exact hk) (by simpa using ho)
 rw [hn] at L
 simp [-Int.natCast_add] at L
 simp [-Int.natCast_add,e_q47,L]
def mkSt:Nat→Nat→List ByteArray
 | _,0=>[]
 | k,n+1=>kBr k::mkSt (k+1) n
theorem mkSt_len:∀ (n k:Nat),(mkSt k n).length=n
 | 0,_=>rfl
 | n+1,k=>by simp [mkSt,mkSt_len n]
def t_q47 (s:Sl ByteArray) (k:Int):Option (Int×Sl ByteArray):=bif decide (0≤k) && decide (k+1*((s.getD []).length:Nat)≤100000000) then some (k+1*((s.getD []).length:Nat),s.map fun l=>mkSt k.toNat l.length) else none
def mkBg:Nat→Nat→List Bigram
 | _,0=>[]
 | k,n+1=>⟨kBr k,kBr (k+1),((k+2:Nat):Int)⟩::mkBg (k+3) n
theorem mkBg_len:∀ (n k:Nat),(mkBg k n).length=n
 | 0,_=>rfl
 | n+1,k=>by simp [mkBg,mkBg_len n]
def t_q40 (s:Sl Bigram) (k:Int):Option (Int×Sl Bigram):=bif decide (0≤k) && decide (k+3*((s.getD []).length:Nat)≤100000000) then some (k+3*((s.getD []).length:Nat),s.map fun l=>mkBg k.toNat l.length) else none
noncomputable def ev_q47:Nat→Contract:=kBx [(kDt,.pure (G1 (fun k:Int=>decide (0≤k) && decide (k≤100000000)) fun k=>sv (kBr k.toNat)))]
theorem kIy:kCg Tryz.prog ev_q47:=kBc kDw E0
noncomputable def ev_q40:Nat→Contract:=kBx [(kDt,.pure (G1 (fun k:Int=>decide (0≤k) && decide (k≤100000000)) fun k=>sv (kBr k.toNat)))]
theorem kJ9:kCg Tryz.prog ev_q40:=kBc kDw E0
theorem mrows_St:∀ (n k:Nat),kFc [true] k n=(mkSt k n).map Row.cells
 | 0,_=>rfl
 | n+1,k=>by
  have ih:=mrows_St n (k+1)
  show [sv (kBr k)]::kFc [true] (k+1) n=[sv (kBr k)]::(mkSt (k+1) n).map Row.cells
  rw [ih]
theorem kIz:MarkOK (kAm Tryz.prog ev_q47 n_q47) t_q47:=by
 have he:ev_q47 kDt=.pure (G1 (fun k:Int=>decide (0≤k) && decide (k≤100000000)) fun k=>sv (kBr k.toNat)):=by simp [ev_q47,kBx]
 intro s k r s' h
 unfold t_q47 at h
 cases c:decide (0≤k) && decide (k+1*((s.getD []).length:Nat)≤100000000) with
 | false=>rw [c] at h;cases h
 | true =>
  rw [c] at h
  simp only [cond_true,Option.some.injEq,Prod.mk.injEq] at h
  obtain ⟨rfl,rfl⟩:=h
  simp only [Bool.and_eq_true,decide_eq_true_eq] at c
  obtain ⟨m,rfl⟩:=Int.eq_ofNat_of_zero_le c.1
  cases s with
  | none =>
   refine .inl ⟨rfl,rfl,fun h => ?_⟩
   rw [e_q47,kBf.eq_1]
   simp [e_lb0_q47,e_lk0x0_q47,restr]
  | some l =>
   refine .inr ⟨l,mkSt m l.length,rfl,rfl,mkSt_len _ _,fun o h ho => ?_⟩
   have g:=kI1 ev_q47 he (l.map Row.cells) o l.length (by simp) (by simp only [Option.getD_some] at c;omega) (fun r hr=>by
    obtain ⟨a,_,rfl⟩:=List.mem_map.1 hr
    rfl) m (by simp only [Option.getD_some] at c;omega) h ho
   rw [mrows_St] at g
   rw [g]
   simp only [Option.getD_some]
   congr 3
theorem mrows_Bg:∀ (n k:Nat),kFc [true,true,false] k n=(mkBg k n).map Row.cells
 | 0,_=>rfl
 | n+1,k=>by
  have ih:=mrows_Bg n (k+3)
  show [sv (kBr k),sv (kBr (k+1)),iv ((k+1+1:Nat):Int)]::kFc [true,true,false] (k+3) n=[sv (kBr k),sv (kBr (k+1)),iv ((k+2:Nat):Int)]::(mkBg (k+3) n).map Row.cells
  rw [ih]
theorem kJ2:MarkOK (kAm Tryz.prog ev_q40 n_q40) t_q40:=by
 have he:ev_q40 kDt=.pure (G1 (fun k:Int=>decide (0≤k) && decide (k≤100000000)) fun k=>sv (kBr k.toNat)):=by simp [ev_q40,kBx]
 intro s k r s' h
 unfold t_q40 at h
 cases c:decide (0≤k) && decide (k+3*((s.getD []).length:Nat)≤100000000) with
 | false=>rw [c] at h;cases h
 | true =>
  rw [c] at h
  simp only [cond_true,Option.some.injEq,Prod.mk.injEq] at h
  obtain ⟨rfl,rfl⟩:=h
  simp only [Bool.and_eq_true,decide_eq_true_eq] at c
  obtain ⟨m,rfl⟩:=Int.eq_ofNat_of_zero_le c.1
  cases s with
  | none =>
   refine .inl ⟨rfl,rfl,fun h => ?_⟩
   rw [e_q40,kBf.eq_1]
   simp [e_lb0_q40,e_lk0x0_q40,restr]
  | some l =>
   refine .inr ⟨l,mkBg m l.length,rfl,rfl,mkBg_len _ _,fun o h ho => ?_⟩
   have g:=kIl ev_q40 he (l.map Row.cells) o l.length (by simp) (by simp only [Option.getD_some] at c;omega) (fun r hr=>by
    obtain ⟨a,_,rfl⟩:=List.mem_map.1 hr
    rfl) m (by simp only [Option.getD_some] at c;omega) h ho
   rw [mrows_Bg] at g
   rw [g]
   simp only [Option.getD_some]
   congr 3
noncomputable def ev_q45:Nat→Contract:=kBx [(n_q40,.gen (kAm Tryz.prog ev_q40 n_q40))]
theorem eo_laws_markModel:kCg Tryz.prog ev_q45:=EconsG (kEn kJ9 kBd hb_q40) E0
theorem mk_laws_markModel:MarkGOK 2 1 (kAm Tryz.prog ev_q45 n_q45) t_q40 :=
 markG_of (g1:=n_q40) (env:=ev_q45) (by simp [ev_q45,kBx]) kJ2 fun cs x1 h=>e_q45 _ _ _ _
theorem Hold.rot4 {B:Base} {h:kA9} {l d1 d2 d3 d4 n:List Ent} (O:Hold B h (l++d1++d2++d3++d4++n)):Hold B h (l++n++d1++d2++d3++d4):=O.perm (by
 rw [List.append_assoc,List.append_assoc,List.append_assoc,List.append_assoc,List.append_assoc,List.append_assoc,List.append_assoc,List.append_assoc]
 refine List.Perm.append_left l ?_
 rw [← List.append_assoc d3 d4 n,← List.append_assoc d2 (d3++d4) n,← List.append_assoc d1 (d2++(d3++d4)) n]
 exact List.perm_append_comm)
noncomputable def ev_q46:Nat→Contract:=kBx [(n_q47,.gen (kAm Tryz.prog ev_q47 n_q47))]
theorem kIj:kCg Tryz.prog ev_q46:=EconsG (kEn kIy kBd hb_q47) E0
theorem kIh:MarkGOK 2 0 (kAm Tryz.prog ev_q46 n_q46) t_q47 :=
 markG_of (g1:=n_q47) (env:=ev_q46) (by simp [ev_q46,kBx]) kIz fun cs x1 h=>e_q46 _ _ _ _
theorem lp_q41 (env:Nat→Contract) (he:env kDt=.pure (G1 (fun k:Int=>decide (0≤k) && decide (k≤100000000)) fun k=>sv (kBr k.toNat))) {y2 y3 y4 y41:AV} (o n:Nat):∀ (S P:List (List AV)) (k i:Nat) (h:kA9),i=P.length→P.length+S.length=n→n≤4294967296→(∀ r∈S,r.length=4)→k+4*S.length≤100000000→h[o]?=some ⟨4,P++S⟩ →
  (kA0 (kBf hm0_q41 xm0_q41 (lb0_q41 env) [.sl o n 0 n,iv (k:Nat),y2,y3,y4,iv (i:Nat),.top,.top,.top,.top,.top,.top,.top,.top,.top,.top,.top,.top,.top,.top,.top,.top,.top,.top,.top,.top,.top,.top,.top,.top,.top,.top,.top,.top,.top,.top,.top,.top,.top,.top,.top,y41] h) fun r=>lk0_q41 env r.1 r.2.1 r.2.2)=some (iv ((k+4*S.length:Nat):Int),h.set o ⟨4,P++kFc [false,false,true,false] k S.length⟩):=by
 intro S
 induction S with
 | nil =>
  intro P k i h hi hl hn hr hk ho
  have:¬ i<n:=by simp at hl;omega
  have hs:=set_same ho
  simp at hs
  rw [kBf.eq_1]
  simp [e_lb0_q41,restr,e_lk0x0_q41,this,kFc,hs]
 | cons r S ih =>
  intro P k i h hi hl hn hr hk ho
  have hl':P.length+(S.length+1)=n:=by simpa using hl
  simp only [List.length_cons] at hk
  have hlt:i<n:=by omega
  have hrl:=hr r (by simp)
  obtain ⟨c0,c1,c2,c3,rfl⟩:∃ c0 c1 c2 c3,r=[c0,c1,c2,c3]:=by
   match r,hrl with
   | [c0,c1,c2,c3],_=>exact ⟨c0,c1,c2,c3,rfl⟩
  have olt:=(List.getElem?_eq_some_iff.1 ho).1
  have a0:=kE8 (w:=4) (r:=[c0,c1,c2,c3]) ho hi hl'
  have s0:=kDh (j:=0) (v:=iv (k:Int)) ho hi hl' rfl rfl (by simp)
  simp only [List.set_cons_zero,List.set_cons_succ,List.set_set] at s0
  have g0:(h.set o ⟨4,P++[(iv (k:Int)),c1,c2,c3]::S⟩)[o]?=some ⟨4,P++[(iv (k:Int)),c1,c2,c3]::S⟩:=by simp [olt]
  have w0:wr ((k:Int)+1)=((k+1:Nat):Int):=by rw [kC9 (by omega) (by omega)];omega
  have a1:=kE8 (w:=4) (r:=[(iv (k:Int)),c1,c2,c3]) g0 hi hl'
  have s1:=kDh (j:=1) (v:=iv ((k+1:Nat):Int)) g0 hi hl' rfl rfl (by simp)
  simp only [List.set_cons_zero,List.set_cons_succ,List.set_set] at s1
  have g1:(h.set o ⟨4,P++[(iv (k:Int)),(iv ((k+1:Nat):Int)),c2,c3]::S⟩)[o]?=some ⟨4,P++[(iv (k:Int)),(iv ((k+1:Nat):Int)),c2,c3]::S⟩:=by simp [olt]
  have w1:wr (((k+1:Nat):Int)+1)=((k+2:Nat):Int):=by rw [kC9 (by omega) (by omega)];omega
  have a2:=kE8 (w:=4) (r:=[(iv (k:Int)),(iv ((k+1:Nat):Int)),c2,c3]) g1 hi hl'
  have s2:=kDh (j:=2) (v:=sv (kBr (k+2))) g1 hi hl' rfl rfl (by simp)
  simp only [List.set_cons_zero,List.set_cons_succ,List.set_set] at s2
  have g2:(h.set o ⟨4,P++[(iv (k:Int)),(iv ((k+1:Nat):Int)),(sv (kBr (k+2))),c3]::S⟩)[o]?=some ⟨4,P++[(iv (k:Int)),(iv ((k+1:Nat):Int)),(sv (kBr (k+2))),c3]::S⟩:=by simp [olt]
  have w2:wr (((k+2:Nat):Int)+1)=((k+3:Nat):Int):=by rw [kC9 (by omega) (by omega)];omega
  have t2:(0≤((k+2:Nat):Int))=True:=eq_true (by omega)
  have u2:(((k+2:Nat):Int)≤100000000)=True:=eq_true (by omega)
  have q2:∀ h,kB5 (env kDt) [iv ((k+2:Nat):Int)] h=some (sv (kBr (k+2)),h):=fun h=>by
   rw [he]
   simp [-Int.natCast_add,t2,u2]
  have a3:=kE8 (w:=4) (r:=[(iv (k:Int)),(iv ((k+1:Nat):Int)),(sv (kBr (k+2))),c3]) g2 hi hl'
  have s3:=kDh (j:=3) (v:=iv ((k+3:Nat):Int)) g2 hi hl' rfl rfl (by simp)
  simp only [List.set_cons_zero,List.set_cons_succ,List.set_set] at s3
  have g3:(h.set o ⟨4,P++[(iv (k:Int)),(iv ((k+1:Nat):Int)),(sv (kBr (k+2))),(iv ((k+3:Nat):Int))]::S⟩)[o]?=some ⟨4,P++[(iv (k:Int)),(iv ((k+1:Nat):Int)),(sv (kBr (k+2))),(iv ((k+3:Nat):Int))]::S⟩:=by simp [olt]
  have w3:wr (((k+3:Nat):Int)+1)=((k+4:Nat):Int):=by rw [kC9 (by omega) (by omega)];omega
  have wi:wr ((i:Int)+1)=((i+1:Nat):Int):=by rw [kC9 (by omega) (by omega)];omega
  have r:=ih (P++[[(iv (k:Int)),(iv ((k+1:Nat):Int)),(sv (kBr (k+2))),(iv ((k+3:Nat):Int))]]) (k+4) (i+1) (h.set o ⟨4,P++[(iv (k:Int)),(iv ((k+1:Nat):Int)),(sv (kBr (k+2))),(iv ((k+3:Nat):Int))]::S⟩) (by simp [hi]) (by simp;omega) hn (fun r hr'=>hr r (by simp [hr'])) (by omega) (by simp [olt])
  have hlz:((i:Int)<(n:Nat)):=by omega
  rw [kBf.eq_1]
  simp only [e_lb0_q41,aLenK_sl,kA4,kAl,kGu,hlz,decide_true,cond_true,kF5,Nat.zero_add,a0,s0,w0,a1,s1,w1,a2,s2,w2,q2,kBn,a3,s3,w3,wi,kAj,restr,cond_false]
  rw [r]
  simp only [kFc,mrow,List.length_cons,List.set_set,List.append_assoc,List.singleton_append,cond_true,cond_false,Nat.add_assoc]
  congr 3
  ·omega
theorem kK8 (env:Nat→Contract) (he:env kDt=.pure (G1 (fun k:Int=>decide (0≤k) && decide (k≤100000000)) fun k=>sv (kBr k.toNat))) (R:List (List AV)) (o n:Nat) (hn:R.length=n) (hl:n≤4294967296) (hr:∀ r∈R,r.length=4) (k:Nat) (hk:k+4*n≤100000000) (h:kA9) (ho:h[o]?=some ⟨4,R⟩) :
  kAm Tryz.prog env n_q41 [.sl o n 0 n,iv (k:Nat)] h=some (iv ((k+4*n:Nat):Int),h.set o ⟨4,kFc [false,false,true,false] k n⟩):=by
 have L:=fun {y2 y3 y4 y41}=>@lp_q41 env he y2 y3 y4 y41 o n R [] k 0 h rfl (by simpa using hn) hl hr (by rw [hn];exact hk) (by simpa using ho)
 rw [hn] at L
 simp [-Int.natCast_add] at L
 simp [-Int.natCast_add,e_q41,L]
theorem lp_q42 (env:Nat→Contract) (he:env kDt=.pure (G1 (fun k:Int=>decide (0≤k) && decide (k≤100000000)) fun k=>sv (kBr k.toNat))) {y2 y3 y4 y27:AV} (o n:Nat):∀ (S P:List (List AV)) (k i:Nat) (h:kA9),i=P.length→P.length+S.length=n→n≤4294967296→(∀ r∈S,r.length=2)→k+2*S.length≤100000000→h[o]?=some ⟨2,P++S⟩ →
  (kA0 (kBf hm0_q42 xm0_q42 (lb0_q42 env) [.sl o n 0 n,iv (k:Nat),y2,y3,y4,iv (i:Nat),.top,.top,.top,.top,.top,.top,.top,.top,.top,.top,.top,.top,.top,.top,.top,.top,.top,.top,.top,.top,.top,y27] h) fun r=>lk0_q42 env r.1 r.2.1 r.2.2)=some (iv ((k+2*S.length:Nat):Int),h.set o ⟨2,P++kFc [true,false] k S.length⟩):=by
 intro S
 induction S with
 | nil =>
  intro P k i h hi hl hn hr hk ho
  have:¬ i<n:=by simp at hl;omega
  have hs:=set_same ho
  simp at hs
  rw [kBf.eq_1]
  simp [e_lb0_q42,restr,e_lk0x0_q42,this,kFc,hs]
 | cons r S ih =>
  intro P k i h hi hl hn hr hk ho
  have hl':P.length+(S.length+1)=n:=by simpa using hl
  simp only [List.length_cons] at hk
  have hlt:i<n:=by omega
  have hrl:=hr r (by simp)
  obtain ⟨c0,c1,rfl⟩:∃ c0 c1,r=[c0,c1]:=by
   match r,hrl with
   | [c0,c1],_=>exact ⟨c0,c1,rfl⟩
  have olt:=(List.getElem?_eq_some_iff.1 ho).1
  have a0:=kE8 (w:=2) (r:=[c0,c1]) ho hi hl'
  have s0:=kDh (j:=0) (v:=sv (kBr k)) ho hi hl' rfl rfl (by simp)
  simp only [List.set_cons_zero,List.set_cons_succ,List.set_set] at s0
  have g0:(h.set o ⟨2,P++[(sv (kBr k)),c1]::S⟩)[o]?=some ⟨2,P++[(sv (kBr k)),c1]::S⟩:=by simp [olt]
  have w0:wr ((k:Int)+1)=((k+1:Nat):Int):=by rw [kC9 (by omega) (by omega)];omega
  have t0:(0≤(k:Int))=True:=eq_true (by omega)
  have u0:((k:Int)≤100000000)=True:=eq_true (by omega)
  have q0:∀ h,kB5 (env kDt) [iv (k:Int)] h=some (sv (kBr k),h):=fun h=>by
   rw [he]
   simp [-Int.natCast_add,t0,u0]
  have a1:=kE8 (w:=2) (r:=[(sv (kBr k)),c1]) g0 hi hl'
  have s1:=kDh (j:=1) (v:=iv ((k+1:Nat):Int)) g0 hi hl' rfl rfl (by simp)
  simp only [List.set_cons_zero,List.set_cons_succ,List.set_set] at s1
  have g1:(h.set o ⟨2,P++[(sv (kBr k)),(iv ((k+1:Nat):Int))]::S⟩)[o]?=some ⟨2,P++[(sv (kBr k)),(iv ((k+1:Nat):Int))]::S⟩:=by simp [olt]
  have w1:wr (((k+1:Nat):Int)+1)=((k+2:Nat):Int):=by rw [kC9 (by omega) (by omega)];omega
  have wi:wr ((i:Int)+1)=((i+1:Nat):Int):=by rw [kC9 (by omega) (by omega)];omega
  have r:=ih (P++[[(sv (kBr k)),(iv ((k+1:Nat):Int))]]) (k+2) (i+1) (h.set o ⟨2,P++[(sv (kBr k)),(iv ((k+1:Nat):Int))]::S⟩) (by simp [hi]) (by simp;omega) hn (fun r hr'=>hr r (by simp [hr'])) (by omega) (by simp [olt])
  have hlz:((i:Int)<(n:Nat)):=by omega
  rw [kBf.eq_1]
  simp only [e_lb0_q42,aLenK_sl,kA4,kAl,kGu,hlz,decide_true,cond_true,kF5,Nat.zero_add,a0,s0,w0,q0,kBn,a1,s1,w1,wi,kAj,restr,cond_false]
  rw [r]
  simp only [kFc,mrow,List.length_cons,List.set_set,List.append_assoc,List.singleton_append,cond_true,cond_false,Nat.add_assoc]
  congr 3
  ·omega
theorem kJg (env:Nat→Contract) (he:env kDt=.pure (G1 (fun k:Int=>decide (0≤k) && decide (k≤100000000)) fun k=>sv (kBr k.toNat))) (R:List (List AV)) (o n:Nat) (hn:R.length=n) (hl:n≤4294967296) (hr:∀ r∈R,r.length=2) (k:Nat) (hk:k+2*n≤100000000) (h:kA9) (ho:h[o]?=some ⟨2,R⟩) :
  kAm Tryz.prog env n_q42 [.sl o n 0 n,iv (k:Nat)] h=some (iv ((k+2*n:Nat):Int),h.set o ⟨2,kFc [true,false] k n⟩):=by
 have L:=fun {y2 y3 y4 y27}=>@lp_q42 env he y2 y3 y4 y27 o n R [] k 0 h rfl (by simpa using hn) hl hr (by rw [hn];exact hk) (by simpa using ho)
 rw [hn] at L
 simp [-Int.natCast_add] at L
 simp [-Int.natCast_add,e_q42,L]
def mkEd:Nat→Nat→List Edg
 | _,0=>[]
 | k,n+1=>⟨(k:Nat),((k+1:Nat):Int),kBr (k+2),((k+3:Nat):Int)⟩::mkEd (k+4) n
theorem mkEd_len:∀ (n k:Nat),(mkEd k n).length=n
 | 0,_=>rfl
 | n+1,k=>by simp [mkEd,mkEd_len n]
def t_q41 (s:Sl Edg) (k:Int):Option (Int×Sl Edg):=bif decide (0≤k) && decide (k+4*((s.getD []).length:Nat)≤100000000) then some (k+4*((s.getD []).length:Nat),s.map fun l=>mkEd k.toNat l.length) else none
noncomputable def ev_q41:Nat→Contract:=kBx [(kDt,.pure (G1 (fun k:Int=>decide (0≤k) && decide (k≤100000000)) fun k=>sv (kBr k.toNat)))]
theorem eo_laws_markEdgeS:kCg Tryz.prog ev_q41:=kBc kDw E0
theorem mrows_Ed:∀ (n k:Nat),kFc [false,false,true,false] k n=(mkEd k n).map Row.cells
 | 0,_=>rfl
 | n+1,k=>by
  have ih:=mrows_Ed n (k+4)
  show [iv ((k:Nat):Int),iv ((k+1:Nat):Int),sv (kBr (k+1+1)),iv ((k+1+1+1:Nat):Int)]::kFc [false,false,true,false] (k+4) n=[iv ((k:Nat):Int),iv ((k+1:Nat):Int),sv (kBr (k+2)),iv ((k+3:Nat):Int)]::(mkEd (k+4) n).map Row.cells
  rw [ih]
theorem mk_laws_markEdgeS:MarkOK (kAm Tryz.prog ev_q41 n_q41) t_q41:=by
 have he:ev_q41 kDt=.pure (G1 (fun k:Int=>decide (0≤k) && decide (k≤100000000)) fun k=>sv (kBr k.toNat)):=by simp [ev_q41,kBx]
 intro s k r s' h
 unfold t_q41 at h
 cases c:decide (0≤k) && decide (k+4*((s.getD []).length:Nat)≤100000000) with
 | false=>rw [c] at h;cases h
 | true =>
  rw [c] at h
  simp only [cond_true,Option.some.injEq,Prod.mk.injEq] at h
  obtain ⟨rfl,rfl⟩:=h
  simp only [Bool.and_eq_true,decide_eq_true_eq] at c
  obtain ⟨m,rfl⟩:=Int.eq_ofNat_of_zero_le c.1
  cases s with
  | none =>
   refine .inl ⟨rfl,rfl,fun h => ?_⟩
   rw [e_q41,kBf.eq_1]
   simp [e_lb0_q41,e_lk0x0_q41,restr]
  | some l =>
   refine .inr ⟨l,mkEd m l.length,rfl,rfl,mkEd_len _ _,fun o h ho => ?_⟩
   have g:=kK8 ev_q41 he (l.map Row.cells) o l.length (by simp) (by simp only [Option.getD_some] at c;omega) (fun r hr=>by
    obtain ⟨a,_,rfl⟩:=List.mem_map.1 hr
    rfl) m (by simp only [Option.getD_some] at c;omega) h ho
   rw [mrows_Ed] at g
   rw [g]
   simp only [Option.getD_some]
   congr 3
def mkEn:Nat→Nat→List Entry
 | _,0=>[]
 | k,n+1=>⟨kBr k,((k+1:Nat):Int)⟩::mkEn (k+2) n
theorem mkEn_len:∀ (n k:Nat),(mkEn k n).length=n
 | 0,_=>rfl
 | n+1,k=>by simp [mkEn,mkEn_len n]
def t_q42 (s:Sl Entry) (k:Int):Option (Int×Sl Entry):=bif decide (0≤k) && decide (k+2*((s.getD []).length:Nat)≤100000000) then some (k+2*((s.getD []).length:Nat),s.map fun l=>mkEn k.toNat l.length) else none
noncomputable def ev_q42:Nat→Contract:=kBx [(kDt,.pure (G1 (fun k:Int=>decide (0≤k) && decide (k≤100000000)) fun k=>sv (kBr k.toNat)))]
theorem kJw:kCg Tryz.prog ev_q42:=kBc kDw E0
theorem mrows_En:∀ (n k:Nat),kFc [true,false] k n=(mkEn k n).map Row.cells
 | 0,_=>rfl
 | n+1,k=>by
  have ih:=mrows_En n (k+2)
  show [sv (kBr k),iv ((k+1:Nat):Int)]::kFc [true,false] (k+2) n=[sv (kBr k),iv ((k+1:Nat):Int)]::(mkEn (k+2) n).map Row.cells
  rw [ih]
theorem kK6:MarkOK (kAm Tryz.prog ev_q42 n_q42) t_q42:=by
 have he:ev_q42 kDt=.pure (G1 (fun k:Int=>decide (0≤k) && decide (k≤100000000)) fun k=>sv (kBr k.toNat)):=by simp [ev_q42,kBx]
 intro s k r s' h
 unfold t_q42 at h
 cases c:decide (0≤k) && decide (k+2*((s.getD []).length:Nat)≤100000000) with
 | false=>rw [c] at h;cases h
 | true =>
  rw [c] at h
  simp only [cond_true,Option.some.injEq,Prod.mk.injEq] at h
  obtain ⟨rfl,rfl⟩:=h
  simp only [Bool.and_eq_true,decide_eq_true_eq] at c
  obtain ⟨m,rfl⟩:=Int.eq_ofNat_of_zero_le c.1
  cases s with
  | none =>
   refine .inl ⟨rfl,rfl,fun h => ?_⟩
   rw [e_q42,kBf.eq_1]
   simp [e_lb0_q42,e_lk0x0_q42,restr]
  | some l =>
   refine .inr ⟨l,mkEn m l.length,rfl,rfl,mkEn_len _ _,fun o h ho => ?_⟩
   have g:=kJg ev_q42 he (l.map Row.cells) o l.length (by simp) (by simp only [Option.getD_some] at c;omega) (fun r hr=>by
    obtain ⟨a,_,rfl⟩:=List.mem_map.1 hr
    rfl) m (by simp only [Option.getD_some] at c;omega) h ho
   rw [mrows_En] at g
   rw [g]
   simp only [Option.getD_some]
   congr 3
noncomputable def ev_q44:Nat→Contract:=kBx [(n_q42,.gen (kAm Tryz.prog ev_q42 n_q42))]
theorem kJc:kCg Tryz.prog ev_q44:=EconsG (kEn kJw kBd hb_q42) E0
theorem kJa:MarkGOK 1 0 (kAm Tryz.prog ev_q44 n_q44) t_q42 :=
 markG_of (g1:=n_q42) (env:=ev_q44) (by simp [ev_q44,kBx]) kK6 fun cs x1 h=>e_q44 _ _ _ _
def mkLL:List Lattice→Int→Option (Int×List Lattice)
 | [],k=>some (k,[])
 | a::l,k=>kA0 (t_q41 a.edges (wr (k+1))) fun p=>kA0 (mkLL l p.1) fun q=>some (q.1,(⟨k,p.2⟩:Lattice)::q.2)
def t_q43 (s:Sl Lattice) (k:Int):Option (Int×Sl Lattice):=bif decide ((s.getD []).length≤4294967296) then match s with
 | none=>some (k,none)
 | some l=>kA0 (mkLL l k) fun q=>some (q.1,some q.2) else none
noncomputable def ev_q43:Nat→Contract:=kBx [(n_q41,.gen (kAm Tryz.prog ev_q41 n_q41))]
theorem kIm:kCg Tryz.prog ev_q43:=EconsG (kEn eo_laws_markEdgeS kBd hb_q41) E0
theorem lp_q43 {B:Base} {l:List Ent} {x y2 y3 y4 y26:AV}:∀ (n i:Nat) (q:List (Lattice×AV)) (k r:Int) (t:List Lattice) (h:kA9),i+n=q.length→q.length≤4294967296→Hold B h (l++D2 x (some q))→mkLL ((q.drop i).map Prod.fst) k=some (r,t) →
  ∃ h' q',(kA0 (kBf hm0_q43 xm0_q43 (lb0_q43 ev_q43) [x,iv k,y2,y3,y4,iv (i:Nat),.top,.top,.top,.top,.top,.top,.top,.top,.top,.top,.top,.top,.top,.top,.top,.top,.top,.top,.top,.top,y26] h) fun r=>lk0_q43 ev_q43 r.1 r.2.1 r.2.2)=some (iv r,h')∧q'.map Prod.fst=(q.take i).map Prod.fst++t∧Hold B h' (l++D2 x (some q')):=by
 intro n
 induction n with
 | zero =>
  intro i q k r t h hi hq O hm
  have e:q.drop i=[]:=List.drop_eq_nil_of_le (by omega)
  rw [e] at hm
  cases hm
  have hl:kB8 .slice x=some (iv (q.length:Nat)):=by simpa [pj] using D2.len O
  have:¬ i<q.length:=by omega
  refine ⟨h,q,?_,?_,O⟩
  ·rw [kBf.eq_1]
   simp [e_lb0_q43,restr,e_lk0x0_q43,hl,this]
  ·rw [List.take_of_length_le (by omega),List.append_nil]
 | succ n ih =>
  intro i q k r t h hi hq O hm
  have hlt:i<q.length:=by omega
  obtain ⟨⟨a,y⟩,hy⟩:∃ p,q[i]?=some p:=⟨q[i],List.getElem?_eq_getElem hlt⟩
  have hd:q.drop i=(a,y)::q.drop (i+1):=by
   rw [List.drop_eq_getElem_cons hlt]
   rw [List.getElem?_eq_getElem hlt] at hy
   rw [Option.some.inj hy]
  rw [hd] at hm
  change kA0 (t_q41 a.edges (wr (k+1))) (fun p=>kA0 (mkLL ((q.drop (i+1)).map Prod.fst) p.1) fun q=>some (q.1,(⟨k,p.2⟩:Lattice)::q.2))=some (r,t) at hm
  cases e1:t_q41 a.edges (wr (k+1)) with
  | none=>rw [e1] at hm;cases hm
  | some p =>
   obtain ⟨k1,a'⟩:=p
   rw [e1,kA4] at hm
   cases e2:mkLL ((q.drop (i+1)).map Prod.fst) k1 with
   | none=>rw [e2] at hm;cases hm
   | some p2 =>
    obtain ⟨r2,t2⟩:=p2
    rw [e2] at hm
    cases hm
    have hl:kB8 .slice x=some (iv (q.length:Nat)):=by simpa [pj] using D2.len O
    have hy':((some q:PS Lattice).getD [])[i]?=some (a,y):=hy
    obtain ⟨o,hx,ho⟩:=D2.head O
    have hy5:(q.set i ((⟨k,a.edges⟩:Lattice),y))[i]?=some (⟨k,a.edges⟩,y):=List.getElem?_set_self (by simpa using hlt)
    have e3:kA8 2 x (iv ((i:Nat):Int)) h=some (elp x i 0):=by
     subst hx
     simp only [kA8,ho,List.length_map]
     rw [if_pos ⟨trivial,rfl⟩,kHa hlt]
     rfl
    have e6:kA3 0 (elp x i 0)=some (elp x i 0):=D2.fld O hy' 0 0
    obtain ⟨h5,e7,O5⟩:∃ h5,kAv 1 (elp x i 0) (iv k) h=some h5∧Hold B h5 (l++D2 (A:=Lattice) x (some (q.set i (⟨k,a.edges⟩,y)))):=by
     have O':=O.update (i:=l.length) (o:=o) (v':=.sl (Row.w Lattice) ((q.set i ((⟨k,a.edges⟩:Lattice),y)).map fun p=>Inn.row p.1 p.2)) (x:=x) (by simp [D2];rfl) (by rw [hx];rfl) rfl
     refine ⟨h.set o ⟨Row.w Lattice,(q.set i ((⟨k,a.edges⟩:Lattice),y)).map fun p=>Inn.row p.1 p.2⟩,?_,?_⟩
     ·have hyq:q[i]?=some (a,y):=hy
      subst hx
      simp only [elp,kAv,ho,List.length_map,if_true,Nat.zero_add,List.getElem?_map,hyq,Option.map_some]
      simp [Inn.row,kAx,List.map_set]
     ·have e9:(l++D2 (A:=Lattice) x (some q)).set l.length ((EV.sl (Row.w Lattice) ((q.set i ((⟨k,a.edges⟩:Lattice),y)).map fun p=>Inn.row p.1 p.2)).at o,.sl (Row.w Lattice) ((q.set i ((⟨k,a.edges⟩:Lattice),y)).map fun p=>Inn.row p.1 p.2))=l++D2 (A:=Lattice) x (some (q.set i (⟨k,a.edges⟩,y))):=by
       rw [List.set_append_right _ _ (Nat.le_refl _),Nat.sub_self]
       have hr:(q.set i ((⟨k,a.edges⟩:Lattice),y)).map (fun p=>((p.2,obS (Inn.sub p.1)):Ent))=q.map fun p=>(p.2,obS (Inn.sub p.1)):=by
        rw [List.map_set]
        apply List.ext_getElem?
        intro j
        by_cases ej:i=j
        ·subst ej
         rw [List.getElem?_set_self (by simpa using hlt),List.getElem?_map,hy]
         rfl
        ·rw [List.getElem?_set_ne ej]
       simp only [D2,List.set_cons_zero,hr,EV.at,List.length_map,List.length_set,hx]
      rw [← e9]
      exact O'
    have e8:kA8 2 x (iv ((i:Nat):Int)) h5=some (elp x i 0):=by
     obtain ⟨o5,hx5,ho5⟩:=D2.head O5
     rw [List.length_set] at hx5
     subst hx5
     simp only [kA8,ho5,List.length_map,List.length_set]
     rw [if_pos ⟨trivial,rfl⟩,kHa hlt]
     rfl
    have e10:kA3 1 (elp x i 0)=some (elp x i 1):=D2.fld O hy' 0 1
    have e4:kAa false 1 (elp x i 1) h5=some y:=by
     rw [D2.ld O5 hy5 false 1 1]
     simp [Inn.row,cut]
    have hat:(l++D2 (A:=Lattice) x (some (q.set i (⟨k,a.edges⟩,y))))[l.length+1+i]?=some (y,obS a.edges):=D2.at (A:=Lattice) (l:=l) (x:=x) (ps:=some (q.set i (⟨k,a.edges⟩,y))) (a:=⟨k,a.edges⟩) hy5
    obtain ⟨h1,e5,O1⟩:=O5.mark _ hat mk_laws_markEdgeS e1
    have hset:(l++D2 (A:=Lattice) x (some (q.set i (⟨k,a.edges⟩,y)))).set (l.length+1+i) (y,obS a')=l++D2 (A:=Lattice) x (some (q.set i (⟨k,a'⟩,y))):=by
     rw [List.set_append_right _ _ (by omega)]
     have:l.length+1+i - l.length=i+1:=by omega
     rw [this]
     simp only [D2,List.set_cons_succ,List.map_set,List.set_set]
     rfl
    have O2:Hold B h1 (l++D2 (A:=Lattice) x (some (q.set i ((⟨k,a'⟩:Lattice),y)))):=by
     rw [← hset]
     exact O1
    have ec:kB5 (ev_q43 n_q41) [y,iv (wr (k+1))] h5=some (iv k1,h1):=by
     have:ev_q43 n_q41=.gen (kAm Tryz.prog ev_q41 n_q41):=by simp [ev_q43,kBx]
     rw [this]
     exact e5
    have hdrop:(q.set i ((⟨k,a'⟩:Lattice),y)).drop (i+1)=q.drop (i+1):=by
     rw [List.drop_set_of_lt (by omega)]
    obtain ⟨h2,q2,f1,f2,f3⟩:=ih (i+1) (q.set i ((⟨k,a'⟩:Lattice),y)) k1 r2 t2 h1 (by simp;omega) (by simpa using hq) O2 (by rw [hdrop];exact e2)
    refine ⟨h2,q2,?_,?_,f3⟩
    ·rw [kBf.eq_1]
     have hw:wr ((i:Int)+1)=((i+1:Nat):Int):=by rw [kC9 (by omega) (by omega)];omega
     simp [-Int.natCast_add,e_lb0_q43,restr,hl,hlt,e3,e6,e7,e8,e10,e4,ec,hw]
     simpa [-Int.natCast_add] using f1
    ·rw [f2,List.take_add_one,List.map_append]
     have:(q.set i ((⟨k,a'⟩:Lattice),y))[i]?=some (⟨k,a'⟩,y):=List.getElem?_set_self (by simpa using hlt)
     rw [this,List.take_set_of_le (Nat.le_refl _)]
     simp
theorem kIi:MarkDOK (kAm Tryz.prog ev_q43 n_q43) t_q43:=by
 intro B h l x ps k r s' O hm
 unfold t_q43 at hm
 cases c:decide (((pj ps).getD []).length≤4294967296) with
 | false=>rw [c] at hm;cases hm
 | true =>
  rw [c,cond_true] at hm
  have hc:=of_decide_eq_true c
  cases ps with
  | none =>
   cases hm
   have hx:=D2.nil O
   subst hx
   refine ⟨h,none,?_,rfl,O⟩
   rw [e_q43,kBf.eq_1]
   simp [e_lb0_q43,e_lk0x0_q43,restr]
  | some q =>
   change kA0 (mkLL (q.map Prod.fst) k) (fun q=>some (q.1,some q.2))=some (r,s') at hm
   cases e2:mkLL (q.map Prod.fst) k with
   | none=>rw [e2] at hm;cases hm
   | some p2 =>
    obtain ⟨r2,t2⟩:=p2
    rw [e2] at hm
    cases hm
    obtain ⟨h1,q1,f1,f2,f3⟩:=lp_q43 (y2:=und) (y3:=und) (y4:=iv 0) (y26:=und) q.length 0 q k r2 t2 h (by omega) (by simpa [pj] using hc) O e2
    refine ⟨h1,some q1,?_,by simpa [pj] using f2,f3⟩
    rw [e_q43]
    exact f1
def t_q25 (aList_:Sl Lattice) (aX_:Lexicon) (aM_:Model):Option Bool :=
 kA0 (t_q56 aList_ 1048576) fun c9 =>
 bif decide (c9<0) then
  some true
 else
  kA0 (t_q57 aX_ c9) fun c11 =>
  bif decide (c11<0) then
   some true
  else
   kA0 (t_q58 aM_ c11) fun c13 =>
   bif decide (c13<0) then
    some true
   else
    kA0 (t_q66 aList_) fun c15 =>
    kA0 (t_q67 aX_) fun c22 =>
    kA0 (t_q68 aM_) fun c27 =>
    kA0 (t_q72 c15 c22 c27) fun c32 =>
    kA0 (t_q66 aList_) fun c43 =>
    kA0 (t_q67 aX_) fun c50 =>
    kA0 (t_q68 aM_) fun c61 =>
    kA0 (t_q5 c43 c50 c61) fun c72 =>
    kA0 (t_q36 c72.1 c32.1) fun c83 =>
    kA0 (bif !c83 then some false else (some (!decide (c72.2=c32.2)))) fun c85 =>
    bif (bif !c83 then true else c85) then
     some false
    else
     kA0 (t_q66 aList_) fun c87 =>
     kA0 (t_q33 c43 c87) fun c94 =>
     bif !c94 then
      some false
     else
      kA0 (t_q67 aX_) fun c96 =>
      kA0 (t_q34 c50 c96) fun c101 =>
      bif !c101 then
       some false
      else
       kA0 (t_q68 aM_) fun c103 =>
       kA0 (t_q35 c61 c103) fun c108 =>
       bif !c108 then
        some false
       else
        kA0 (t_q43 c43 1) fun (r110,w111) =>
        kA0 (t_q42 c50.entries r110) fun (r116,w117) =>
        kA0 (t_q40 c61.bigrams r116) fun (r120,w121) =>
        kA0 (bif decide (r120<0) then some false else (kA0 (t_q36 c72.1 c32.1) fun c125=>some (!c125))) fun c126 =>
        kA0 (bif (bif decide (r120<0) then true else c126) then some false else (some (!decide (c72.2=c32.2)))) fun c128 =>
        bif (bif (bif decide (r120<0) then true else c126) then true else c128) then
         some false
        else
         kA0 (t_q47 c72.1.words 1) fun (r130,w131) =>
         kA0 (t_q38 (⟨w131,c72.1.cost⟩:Sentence) 1) fun c134 =>
         bif decide (c134<0) then
          some false
         else
          bif !decide (c134=r130) then
           some false
          else
           kA0 (t_q66 aList_) fun c137 =>
           kA0 (t_q67 aX_) fun c144 =>
           kA0 (t_q68 aM_) fun c149 =>
           kA0 (t_q5 c137 c144 c149) fun c154 =>
           kA0 (t_q36 c154.1 c32.1) fun c165 =>
           kA0 (bif !c165 then some false else (some (!decide (c154.2=c32.2)))) fun c167 =>
           bif (bif !c165 then true else c167) then
            some false
           else
            kA0 (t_q38 (⟨w131,c72.1.cost⟩:Sentence) 1) fun c169 =>
            bif decide (c169<0) then
             some false
            else
             bif !decide (c169=r130) then
              some false
             else
              some true
theorem ts_q25 (env:Nat→Contract) (he_q5:env n_q5=.pure (C3 (fun c:Sentence×Int=>AV.tup [AV.agg [rS c.1.words,iv c.1.cost],enc c.2]) t_q5)) (he_q33:env n_q33=.pure (C2 (fun c:Bool=>enc c) t_q33)) (he_q34:env n_q34=.pure (C2 (fun c:Bool=>enc c) t_q34)) (he_q35:env n_q35=.pure (C2 (fun c:Bool=>enc c) t_q35)) (he_q36:env n_q36=.pure (C2 (fun c:Bool=>enc c) t_q36)) (he_q38:env n_q38=.pure (C2 (fun c:Int=>enc c) t_q38)) (he_q43:env n_q43=.gen (kAm Tryz.prog ev_q43 n_q43)) (he_q44:env n_q44=.gen (kAm Tryz.prog ev_q44 n_q44)) (he_q45:env n_q45=.gen (kAm Tryz.prog ev_q45 n_q45)) (he_q46:env n_q46=.gen (kAm Tryz.prog ev_q46 n_q46)) (he_q56:env n_q56=.pure (C2 (fun c:Int=>enc c) t_q56)) (he_q57:env n_q57=.pure (C2 (fun c:Int=>enc c) t_q57)) (he_q58:env n_q58=.pure (C2 (fun c:Int=>enc c) t_q58)) (he_q66:env n_q66=.pure (C1 (fun c:(Sl Lattice)=>rD c) t_q66)) (he_q67:env n_q67=.pure (C1 (fun c:Lexicon=>AV.agg [rS c.entries]) t_q67)) (he_q68:env n_q68=.pure (C1 (fun c:Model=>AV.agg [iv c.default,rS c.bigrams]) t_q68)) (he_q72:env n_q72=.pure (C3 (fun c:Sentence×Int=>AV.tup [AV.agg [rS c.1.words,iv c.1.cost],enc c.2]) t_q72)) (aList_:Sl Lattice) (aX_:Lexicon) (aM_:Model):Sim (kAm Tryz.prog env n_q25 [Sl.enc aList_,AV.agg [Sl.enc aX_.entries],AV.agg [iv aM_.default,Sl.enc aM_.bigrams]] []) (t_q25 aList_ aX_ aM_) fun c p=>release p.2 depth p.1=some ((fun c:Bool=>enc c) c):=by
 have O:=Hold.nil []
 generalize hB:(⟨[],[]⟩:Base)=B at O
 clear hB
 rw [e_q25]
 unfold t_q25
 refine kAs O (cs:=[Sl.enc aX_.entries]) (by first | rfl | simp) (fun o1 h2 O3 => ?_)
 replace O3:Hold B h2 [pZ9 o1 1 [Sl.enc aX_.entries]]:=O3
 refine kAs O3 (cs:=[iv aM_.default,Sl.enc aM_.bigrams]) (by first | rfl | simp) (fun o5 h6 O7 => ?_)
 replace O7:Hold B h6 [pZ9 o1 1 [Sl.enc aX_.entries],pZ9 o5 2 [iv aM_.default,Sl.enc aM_.bigrams]]:=O7
 refine kBo he_q56 (kBp _ _) (kAy _ _) (fun c9 => ?_)
 refine kAq (kAc (by rfl) _ _) ?_
 refine kA1 (kAl _ _) ?_
 refine kAb (fun c10 => ?_) (fun c10 => ?_)
 ·exact kA6 (kA5 (by rfl) _)
 ·refine kA1 (v:=AV.agg [Sl.enc aX_.entries]) (O7.ld 0 rfl true 1 0) ?_
  refine kBo he_q57 (kAz _ aX_ rfl) (kAy _ _) (fun c11 => ?_)
  refine kAq (kAc (by rfl) _ _) ?_
  refine kA1 (kAl _ _) ?_
  refine kAb (fun c12 => ?_) (fun c12 => ?_)
  ·exact kA6 (kA5 (by rfl) _)
  ·refine kA1 (v:=AV.agg [iv aM_.default,Sl.enc aM_.bigrams]) (O7.ld 1 rfl true 2 0) ?_
   refine kBo he_q58 (kAz _ aM_ rfl) (kAy _ _) (fun c13 => ?_)
   refine kAq (kAc (by rfl) _ _) ?_
   refine kA1 (kAl _ _) ?_
   refine kAb (fun c14 => ?_) (fun c14 => ?_)
   ·exact kA6 (kA5 (by rfl) _)
   ·refine kCc he_q66 (kBp _ _) (fun c15 => ?_)
    refine kHy (l:=[pZ9 o1 1 [Sl.enc aX_.entries],pZ9 o5 2 [iv aM_.default,Sl.enc aM_.bigrams]]) (A:=Lattice) O7 (fun x17 ps20 h18 hp21 O19 => ?_)
    refine kA1 (v:=AV.agg [Sl.enc aX_.entries]) (O19.ld 0 rfl true 1 0) ?_
    refine kCc he_q67 (kAz _ aX_ rfl) (fun c22 => ?_)
    refine kDf O19 (c22.entries:Sl Entry) (fun z1=>AV.agg [z1]) (by intro b;simp only [kFf,kEd,kFd,matLc,matLn,kG6,kH9,kHf,kH7,kEf,kGn,List.append_nil,List.nil_append,List.length_nil,Nat.add_zero]) (by simp only [kFg,kEa,kFi,kG5,kHc,kHg,kHe,kEb,kGq,List.all_cons,List.all_nil,Bool.and_self]) (fun x24 h25 O26 => ?_)
    replace O26:Hold B h25 ([pZ9 o1 1 [Sl.enc aX_.entries],pZ9 o5 2 [iv aM_.default,Sl.enc aM_.bigrams],(x24,obS (c22.entries:Sl Entry))]++D2 (A:=Lattice) x17 ps20):=Hold.rot O26
    refine kA1 (v:=AV.agg [iv aM_.default,Sl.enc aM_.bigrams]) (O26.ld 1 rfl true 2 0) ?_
    refine kCc he_q68 (kAz _ aM_ rfl) (fun c27 => ?_)
    refine kDf O26 (c27.bigrams:Sl Bigram) (fun z1=>AV.agg [iv c27.default,z1]) (by intro b;simp only [kFf,kEd,kFd,matLc,matLn,kG6,kH9,kHf,kH7,kEf,kGn,List.append_nil,List.nil_append,List.length_nil,Nat.add_zero]) (by simp only [kFg,kEa,kFi,kG5,kHc,kHg,kHe,kEb,kGq,List.all_cons,List.all_nil,Bool.and_self]) (fun x29 h30 O31 => ?_)
    replace O31:Hold B h30 ([pZ9 o1 1 [Sl.enc aX_.entries],pZ9 o5 2 [iv aM_.default,Sl.enc aM_.bigrams],(x24,obS (c22.entries:Sl Entry)),(x29,obS (c27.bigrams:Sl Bigram))]++D2 (A:=Lattice) x17 ps20):=Hold.rot O31
    refine kGi he_q72 ((D2.snapD (l:=[pZ9 o1 1 [Sl.enc aX_.entries],pZ9 o5 2 [iv aM_.default,Sl.enc aM_.bigrams],(x24,obS (c22.entries:Sl Entry)),(x29,obS (c27.bigrams:Sl Bigram))]) (x:=x17) (ps:=ps20) (A:=Lattice) O31 hp21).2) (kCf h30 c22 rfl (by simp [kBe,O31.snap7 (A:=Entry) (s:=c22.entries) 2 rfl])) (kCf h30 c27 rfl (by simp [kBe,O31.snap7 (A:=Bigram) (s:=c27.bigrams) 3 rfl])) (fun c32 => ?_)
    refine kDf O31 (c32.1.words:Sl ByteArray) (fun z1=>AV.tup [AV.agg [z1,iv c32.1.cost],iv c32.2]) (by intro b;simp only [kFf,kEd,kFd,matLc,matLn,kG6,kH9,kHf,kH7,kEf,kGn,List.append_nil,List.nil_append,List.length_nil,Nat.add_zero]) (by simp only [kFg,kEa,kFi,kG5,kHc,kHg,kHe,kEb,kGq,List.all_cons,List.all_nil,Bool.and_self]) (fun x34 h35 O36 => ?_)
    replace O36:Hold B h35 ([pZ9 o1 1 [Sl.enc aX_.entries],pZ9 o5 2 [iv aM_.default,Sl.enc aM_.bigrams],(x24,obS (c22.entries:Sl Entry)),(x29,obS (c27.bigrams:Sl Bigram)),(x34,obS (c32.1.words:Sl ByteArray))]++D2 (A:=Lattice) x17 ps20):=Hold.rot O36
    refine kA1 (v:=AV.agg [x34,iv c32.1.cost]) rfl ?_
    refine kA1 (v:=iv c32.2) rfl ?_
    refine kAs O36 (cs:=[kB3,iv 0]) (by first | rfl | simp) (fun o37 h38 O39 => ?_)
    replace O39:Hold B h38 ([pZ9 o1 1 [Sl.enc aX_.entries],pZ9 o5 2 [iv aM_.default,Sl.enc aM_.bigrams],(x24,obS (c22.entries:Sl Entry)),(x29,obS (c27.bigrams:Sl Bigram)),(x34,obS (c32.1.words:Sl ByteArray)),pZ9 o37 2 [kB3,iv 0]]++D2 (A:=Lattice) x17 ps20):=Hold.rot O39
    have jZ0:=O39.one (A:=ByteArray) (s:=c32.1.words) 4 rfl
    refine kAw O39 5 (cs':=[x34,iv c32.1.cost]) rfl (by first | rfl | simp [jZ0.1,jZ0.2]) (by simp) (by first | rfl | simp [jZ0.1,jZ0.2]) (by first | rfl | simp [kAx,jZ0.1,jZ0.2]) (fun h41 O42 => ?_)
    replace O42:Hold B h41 ([pZ9 o1 1 [Sl.enc aX_.entries],pZ9 o5 2 [iv aM_.default,Sl.enc aM_.bigrams],(x24,obS (c22.entries:Sl Entry)),(x29,obS (c27.bigrams:Sl Bigram)),(x34,obS (c32.1.words:Sl ByteArray)),pZ9 o37 2 [x34,iv c32.1.cost]]++D2 (A:=Lattice) x17 ps20):=O42
    refine kBz he_q66 (kBp _ _) (fun c43 => ?_)
    refine kHy (l:=([pZ9 o1 1 [Sl.enc aX_.entries],pZ9 o5 2 [iv aM_.default,Sl.enc aM_.bigrams],(x24,obS (c22.entries:Sl Entry)),(x29,obS (c27.bigrams:Sl Bigram)),(x34,obS (c32.1.words:Sl ByteArray)),pZ9 o37 2 [x34,iv c32.1.cost]]++D2 (A:=Lattice) x17 ps20)) (A:=Lattice) O42 (fun x45 ps48 h46 hp49 O47 => ?_)
    refine kA1 (v:=AV.agg [Sl.enc aX_.entries]) (O47.ld 0 rfl true 1 0) ?_
    refine kBz he_q67 (kAz _ aX_ rfl) (fun c50 => ?_)
    refine kDf O47 (c50.entries:Sl Entry) (fun z1=>AV.agg [z1]) (by intro b;simp only [kFf,kEd,kFd,matLc,matLn,kG6,kH9,kHf,kH7,kEf,kGn,List.append_nil,List.nil_append,List.length_nil,Nat.add_zero]) (by simp only [kFg,kEa,kFi,kG5,kHc,kHg,kHe,kEb,kGq,List.all_cons,List.all_nil,Bool.and_self]) (fun x52 h53 O54 => ?_)
    replace O54:Hold B h53 ([pZ9 o1 1 [Sl.enc aX_.entries],pZ9 o5 2 [iv aM_.default,Sl.enc aM_.bigrams],(x24,obS (c22.entries:Sl Entry)),(x29,obS (c27.bigrams:Sl Bigram)),(x34,obS (c32.1.words:Sl ByteArray)),pZ9 o37 2 [x34,iv c32.1.cost],(x52,obS (c50.entries:Sl Entry))]++D2 (A:=Lattice) x17 ps20++D2 (A:=Lattice) x45 ps48):=Hold.rot2 O54
    refine kAs O54 (cs:=[kB3]) (by first | rfl | simp) (fun o55 h56 O57 => ?_)
    replace O57:Hold B h56 ([pZ9 o1 1 [Sl.enc aX_.entries],pZ9 o5 2 [iv aM_.default,Sl.enc aM_.bigrams],(x24,obS (c22.entries:Sl Entry)),(x29,obS (c27.bigrams:Sl Bigram)),(x34,obS (c32.1.words:Sl ByteArray)),pZ9 o37 2 [x34,iv c32.1.cost],(x52,obS (c50.entries:Sl Entry)),pZ9 o55 1 [kB3]]++D2 (A:=Lattice) x17 ps20++D2 (A:=Lattice) x45 ps48):=Hold.rot2 O57
    have jZ0:=O57.one (A:=Entry) (s:=c50.entries) 6 rfl
    refine kAw O57 7 (cs':=[x52]) rfl (by first | rfl | simp [jZ0.1,jZ0.2]) (by simp) (by first | rfl | simp [jZ0.1,jZ0.2]) (by first | rfl | simp [kAx,jZ0.1,jZ0.2]) (fun h59 O60 => ?_)
    replace O60:Hold B h59 ([pZ9 o1 1 [Sl.enc aX_.entries],pZ9 o5 2 [iv aM_.default,Sl.enc aM_.bigrams],(x24,obS (c22.entries:Sl Entry)),(x29,obS (c27.bigrams:Sl Bigram)),(x34,obS (c32.1.words:Sl ByteArray)),pZ9 o37 2 [x34,iv c32.1.cost],(x52,obS (c50.entries:Sl Entry)),pZ9 o55 1 [x52]]++D2 (A:=Lattice) x17 ps20++D2 (A:=Lattice) x45 ps48):=O60
    refine kA1 (v:=AV.agg [iv aM_.default,Sl.enc aM_.bigrams]) (O60.ld 1 rfl true 2 0) ?_
    refine kBz he_q68 (kAz _ aM_ rfl) (fun c61 => ?_)
    refine kDf O60 (c61.bigrams:Sl Bigram) (fun z1=>AV.agg [iv c61.default,z1]) (by intro b;simp only [kFf,kEd,kFd,matLc,matLn,kG6,kH9,kHf,kH7,kEf,kGn,List.append_nil,List.nil_append,List.length_nil,Nat.add_zero]) (by simp only [kFg,kEa,kFi,kG5,kHc,kHg,kHe,kEb,kGq,List.all_cons,List.all_nil,Bool.and_self]) (fun x63 h64 O65 => ?_)
    replace O65:Hold B h64 ([pZ9 o1 1 [Sl.enc aX_.entries],pZ9 o5 2 [iv aM_.default,Sl.enc aM_.bigrams],(x24,obS (c22.entries:Sl Entry)),(x29,obS (c27.bigrams:Sl Bigram)),(x34,obS (c32.1.words:Sl ByteArray)),pZ9 o37 2 [x34,iv c32.1.cost],(x52,obS (c50.entries:Sl Entry)),pZ9 o55 1 [x52],(x63,obS (c61.bigrams:Sl Bigram))]++D2 (A:=Lattice) x17 ps20++D2 (A:=Lattice) x45 ps48):=Hold.rot2 O65
    refine kAs O65 (cs:=[iv 0,kB3]) (by first | rfl | simp) (fun o66 h67 O68 => ?_)
    replace O68:Hold B h67 ([pZ9 o1 1 [Sl.enc aX_.entries],pZ9 o5 2 [iv aM_.default,Sl.enc aM_.bigrams],(x24,obS (c22.entries:Sl Entry)),(x29,obS (c27.bigrams:Sl Bigram)),(x34,obS (c32.1.words:Sl ByteArray)),pZ9 o37 2 [x34,iv c32.1.cost],(x52,obS (c50.entries:Sl Entry)),pZ9 o55 1 [x52],(x63,obS (c61.bigrams:Sl Bigram)),pZ9 o66 2 [iv 0,kB3]]++D2 (A:=Lattice) x17 ps20++D2 (A:=Lattice) x45 ps48):=Hold.rot2 O68
    have jZ0:=O68.one (A:=Bigram) (s:=c61.bigrams) 8 rfl
    refine kAw O68 9 (cs':=[iv c61.default,x63]) rfl (by first | rfl | simp [jZ0.1,jZ0.2]) (by simp) (by first | rfl | simp [jZ0.1,jZ0.2]) (by first | rfl | simp [kAx,jZ0.1,jZ0.2]) (fun h70 O71 => ?_)
    replace O71:Hold B h70 ([pZ9 o1 1 [Sl.enc aX_.entries],pZ9 o5 2 [iv aM_.default,Sl.enc aM_.bigrams],(x24,obS (c22.entries:Sl Entry)),(x29,obS (c27.bigrams:Sl Bigram)),(x34,obS (c32.1.words:Sl ByteArray)),pZ9 o37 2 [x34,iv c32.1.cost],(x52,obS (c50.entries:Sl Entry)),pZ9 o55 1 [x52],(x63,obS (c61.bigrams:Sl Bigram)),pZ9 o66 2 [iv c61.default,x63]]++D2 (A:=Lattice) x17 ps20++D2 (A:=Lattice) x45 ps48):=O71
    refine kA1 (v:=AV.agg [x52]) (O71.ld 7 rfl true 1 0) ?_
    refine kA1 (v:=AV.agg [iv c61.default,x63]) (O71.ld 9 rfl true 2 0) ?_
    refine kGl he_q5 ((D2.snapD (l:=([pZ9 o1 1 [Sl.enc aX_.entries],pZ9 o5 2 [iv aM_.default,Sl.enc aM_.bigrams],(x24,obS (c22.entries:Sl Entry)),(x29,obS (c27.bigrams:Sl Bigram)),(x34,obS (c32.1.words:Sl ByteArray)),pZ9 o37 2 [x34,iv c32.1.cost],(x52,obS (c50.entries:Sl Entry)),pZ9 o55 1 [x52],(x63,obS (c61.bigrams:Sl Bigram)),pZ9 o66 2 [iv c61.default,x63]]++D2 (A:=Lattice) x17 ps20)) (x:=x45) (ps:=ps48) (A:=Lattice) O71 hp49).2) (kCf h70 c50 rfl (by simp [kBe,O71.snap7 (A:=Entry) (s:=c50.entries) 6 rfl])) (kCf h70 c61 rfl (by simp [kBe,O71.snap7 (A:=Bigram) (s:=c61.bigrams) 8 rfl])) (fun c72 => ?_)
    refine kDf O71 (c72.1.words:Sl ByteArray) (fun z1=>AV.tup [AV.agg [z1,iv c72.1.cost],iv c72.2]) (by intro b;simp only [kFf,kEd,kFd,matLc,matLn,kG6,kH9,kHf,kH7,kEf,kGn,List.append_nil,List.nil_append,List.length_nil,Nat.add_zero]) (by simp only [kFg,kEa,kFi,kG5,kHc,kHg,kHe,kEb,kGq,List.all_cons,List.all_nil,Bool.and_self]) (fun x74 h75 O76 => ?_)
    replace O76:Hold B h75 ([pZ9 o1 1 [Sl.enc aX_.entries],pZ9 o5 2 [iv aM_.default,Sl.enc aM_.bigrams],(x24,obS (c22.entries:Sl Entry)),(x29,obS (c27.bigrams:Sl Bigram)),(x34,obS (c32.1.words:Sl ByteArray)),pZ9 o37 2 [x34,iv c32.1.cost],(x52,obS (c50.entries:Sl Entry)),pZ9 o55 1 [x52],(x63,obS (c61.bigrams:Sl Bigram)),pZ9 o66 2 [iv c61.default,x63],(x74,obS (c72.1.words:Sl ByteArray))]++D2 (A:=Lattice) x17 ps20++D2 (A:=Lattice) x45 ps48):=Hold.rot2 O76
    refine kA1 (v:=AV.agg [x74,iv c72.1.cost]) rfl ?_
    refine kA1 (v:=iv c72.2) rfl ?_
    refine kAs O76 (cs:=[kB3,iv 0]) (by first | rfl | simp) (fun o77 h78 O79 => ?_)
    replace O79:Hold B h78 ([pZ9 o1 1 [Sl.enc aX_.entries],pZ9 o5 2 [iv aM_.default,Sl.enc aM_.bigrams],(x24,obS (c22.entries:Sl Entry)),(x29,obS (c27.bigrams:Sl Bigram)),(x34,obS (c32.1.words:Sl ByteArray)),pZ9 o37 2 [x34,iv c32.1.cost],(x52,obS (c50.entries:Sl Entry)),pZ9 o55 1 [x52],(x63,obS (c61.bigrams:Sl Bigram)),pZ9 o66 2 [iv c61.default,x63],(x74,obS (c72.1.words:Sl ByteArray)),pZ9 o77 2 [kB3,iv 0]]++D2 (A:=Lattice) x17 ps20++D2 (A:=Lattice) x45 ps48):=Hold.rot2 O79
    have jZ0:=O79.one (A:=ByteArray) (s:=c72.1.words) 10 rfl
    refine kAw O79 11 (cs':=[x74,iv c72.1.cost]) rfl (by first | rfl | simp [jZ0.1,jZ0.2]) (by simp) (by first | rfl | simp [jZ0.1,jZ0.2]) (by first | rfl | simp [kAx,jZ0.1,jZ0.2]) (fun h81 O82 => ?_)
    replace O82:Hold B h81 ([pZ9 o1 1 [Sl.enc aX_.entries],pZ9 o5 2 [iv aM_.default,Sl.enc aM_.bigrams],(x24,obS (c22.entries:Sl Entry)),(x29,obS (c27.bigrams:Sl Bigram)),(x34,obS (c32.1.words:Sl ByteArray)),pZ9 o37 2 [x34,iv c32.1.cost],(x52,obS (c50.entries:Sl Entry)),pZ9 o55 1 [x52],(x63,obS (c61.bigrams:Sl Bigram)),pZ9 o66 2 [iv c61.default,x63],(x74,obS (c72.1.words:Sl ByteArray)),pZ9 o77 2 [x74,iv c72.1.cost]]++D2 (A:=Lattice) x17 ps20++D2 (A:=Lattice) x45 ps48):=O82
    refine kA1 (v:=AV.agg [x74,iv c72.1.cost]) (O82.ld 11 rfl true 2 0) ?_
    refine kA1 (v:=AV.agg [x34,iv c32.1.cost]) (O82.ld 5 rfl true 2 0) ?_
    refine kBo he_q36 (kCf h81 c72.1 rfl (by simp [kBe,O82.snap7 (A:=ByteArray) (s:=c72.1.words) 10 rfl])) (kCf h81 c32.1 rfl (by simp [kBe,O82.snap7 (A:=ByteArray) (s:=c32.1.words) 4 rfl])) (fun c83 => ?_)
    refine kAq (kAc (by rfl) _ _) ?_
    refine kA1 (v:=bv (!c83)) (kBu _) ?_
    refine kBt (e:=bv) (fun hb84 => ?_) (fun c85 => ?_)
    ·refine kA1 (kCo _ _) ?_
     exact kA6 rfl
    ·refine kA1 (v:=bv (bif !c83 then true else c85)) (kCh _ _ _) ?_
     refine kAb (fun c86 => ?_) (fun c86 => ?_)
     ·exact kA6 (kA5 (by rfl) _)
     ·refine kBz he_q66 (kBp _ _) (fun c87 => ?_)
      refine kHy (l:=([pZ9 o1 1 [Sl.enc aX_.entries],pZ9 o5 2 [iv aM_.default,Sl.enc aM_.bigrams],(x24,obS (c22.entries:Sl Entry)),(x29,obS (c27.bigrams:Sl Bigram)),(x34,obS (c32.1.words:Sl ByteArray)),pZ9 o37 2 [x34,iv c32.1.cost],(x52,obS (c50.entries:Sl Entry)),pZ9 o55 1 [x52],(x63,obS (c61.bigrams:Sl Bigram)),pZ9 o66 2 [iv c61.default,x63],(x74,obS (c72.1.words:Sl ByteArray)),pZ9 o77 2 [x74,iv c72.1.cost]]++D2 (A:=Lattice) x17 ps20++D2 (A:=Lattice) x45 ps48)) (A:=Lattice) O82 (fun x89 ps92 h90 hp93 O91 => ?_)
      refine kBo he_q33 ((D2.snapD (l:=([pZ9 o1 1 [Sl.enc aX_.entries],pZ9 o5 2 [iv aM_.default,Sl.enc aM_.bigrams],(x24,obS (c22.entries:Sl Entry)),(x29,obS (c27.bigrams:Sl Bigram)),(x34,obS (c32.1.words:Sl ByteArray)),pZ9 o37 2 [x34,iv c32.1.cost],(x52,obS (c50.entries:Sl Entry)),pZ9 o55 1 [x52],(x63,obS (c61.bigrams:Sl Bigram)),pZ9 o66 2 [iv c61.default,x63],(x74,obS (c72.1.words:Sl ByteArray)),pZ9 o77 2 [x74,iv c72.1.cost]]++D2 (A:=Lattice) x17 ps20++D2 (A:=Lattice) x89 ps92)) (x:=x45) (ps:=ps48) (A:=Lattice) (Hold.sw31 O91) hp49).2) ((D2.snapD (l:=([pZ9 o1 1 [Sl.enc aX_.entries],pZ9 o5 2 [iv aM_.default,Sl.enc aM_.bigrams],(x24,obS (c22.entries:Sl Entry)),(x29,obS (c27.bigrams:Sl Bigram)),(x34,obS (c32.1.words:Sl ByteArray)),pZ9 o37 2 [x34,iv c32.1.cost],(x52,obS (c50.entries:Sl Entry)),pZ9 o55 1 [x52],(x63,obS (c61.bigrams:Sl Bigram)),pZ9 o66 2 [iv c61.default,x63],(x74,obS (c72.1.words:Sl ByteArray)),pZ9 o77 2 [x74,iv c72.1.cost]]++D2 (A:=Lattice) x17 ps20++D2 (A:=Lattice) x45 ps48)) (x:=x89) (ps:=ps92) (A:=Lattice) O91 hp93).2) (fun c94 => ?_)
      refine kAq (kAc (by rfl) _ _) ?_
      refine kA1 (v:=bv (!c94)) (kBu _) ?_
      refine kAb (fun c95 => ?_) (fun c95 => ?_)
      ·exact kA6 (kA5 (by rfl) _)
      ·refine kA1 (v:=AV.agg [x52]) (O91.ld 7 rfl true 1 0) ?_
       refine kA1 (v:=AV.agg [Sl.enc aX_.entries]) (O91.ld 0 rfl true 1 0) ?_
       refine kCc he_q67 (kAz _ aX_ rfl) (fun c96 => ?_)
       refine kDf O91 (c96.entries:Sl Entry) (fun z1=>AV.agg [z1]) (by intro b;simp only [kFf,kEd,kFd,matLc,matLn,kG6,kH9,kHf,kH7,kEf,kGn,List.append_nil,List.nil_append,List.length_nil,Nat.add_zero]) (by simp only [kFg,kEa,kFi,kG5,kHc,kHg,kHe,kEb,kGq,List.all_cons,List.all_nil,Bool.and_self]) (fun x98 h99 O100 => ?_)
       replace O100:Hold B h99 ([pZ9 o1 1 [Sl.enc aX_.entries],pZ9 o5 2 [iv aM_.default,Sl.enc aM_.bigrams],(x24,obS (c22.entries:Sl Entry)),(x29,obS (c27.bigrams:Sl Bigram)),(x34,obS (c32.1.words:Sl ByteArray)),pZ9 o37 2 [x34,iv c32.1.cost],(x52,obS (c50.entries:Sl Entry)),pZ9 o55 1 [x52],(x63,obS (c61.bigrams:Sl Bigram)),pZ9 o66 2 [iv c61.default,x63],(x74,obS (c72.1.words:Sl ByteArray)),pZ9 o77 2 [x74,iv c72.1.cost],(x98,obS (c96.entries:Sl Entry))]++D2 (A:=Lattice) x17 ps20++D2 (A:=Lattice) x45 ps48++D2 (A:=Lattice) x89 ps92):=Hold.rot3 O100
       refine kCb he_q34 (kCf h99 c50 rfl (by simp [kBe,O100.snap7 (A:=Entry) (s:=c50.entries) 6 rfl])) (kCf h99 c96 rfl (by simp [kBe,O100.snap7 (A:=Entry) (s:=c96.entries) 12 rfl])) (fun c101 => ?_)
       refine kAq (kAc (by rfl) _ _) ?_
       refine kA1 (v:=bv (!c101)) (kBu _) ?_
       refine kAb (fun c102 => ?_) (fun c102 => ?_)
       ·exact kA6 (kA5 (by rfl) _)
       ·refine kA1 (v:=AV.agg [iv c61.default,x63]) (O100.ld 9 rfl true 2 0) ?_
        refine kA1 (v:=AV.agg [iv aM_.default,Sl.enc aM_.bigrams]) (O100.ld 1 rfl true 2 0) ?_
        refine kCc he_q68 (kAz _ aM_ rfl) (fun c103 => ?_)
        refine kDf O100 (c103.bigrams:Sl Bigram) (fun z1=>AV.agg [iv c103.default,z1]) (by intro b;simp only [kFf,kEd,kFd,matLc,matLn,kG6,kH9,kHf,kH7,kEf,kGn,List.append_nil,List.nil_append,List.length_nil,Nat.add_zero]) (by simp only [kFg,kEa,kFi,kG5,kHc,kHg,kHe,kEb,kGq,List.all_cons,List.all_nil,Bool.and_self]) (fun x105 h106 O107 => ?_)
        replace O107:Hold B h106 ([pZ9 o1 1 [Sl.enc aX_.entries],pZ9 o5 2 [iv aM_.default,Sl.enc aM_.bigrams],(x24,obS (c22.entries:Sl Entry)),(x29,obS (c27.bigrams:Sl Bigram)),(x34,obS (c32.1.words:Sl ByteArray)),pZ9 o37 2 [x34,iv c32.1.cost],(x52,obS (c50.entries:Sl Entry)),pZ9 o55 1 [x52],(x63,obS (c61.bigrams:Sl Bigram)),pZ9 o66 2 [iv c61.default,x63],(x74,obS (c72.1.words:Sl ByteArray)),pZ9 o77 2 [x74,iv c72.1.cost],(x98,obS (c96.entries:Sl Entry)),(x105,obS (c103.bigrams:Sl Bigram))]++D2 (A:=Lattice) x17 ps20++D2 (A:=Lattice) x45 ps48++D2 (A:=Lattice) x89 ps92):=Hold.rot3 O107
        refine kCb he_q35 (kCf h106 c61 rfl (by simp [kBe,O107.snap7 (A:=Bigram) (s:=c61.bigrams) 8 rfl])) (kCf h106 c103 rfl (by simp [kBe,O107.snap7 (A:=Bigram) (s:=c103.bigrams) 13 rfl])) (fun c108 => ?_)
        refine kAq (kAc (by rfl) _ _) ?_
        refine kA1 (v:=bv (!c108)) (kBu _) ?_
        refine kAb (fun c109 => ?_) (fun c109 => ?_)
        ·exact kA6 (kA5 (by rfl) _)
        ·refine sim_markD (l:=([pZ9 o1 1 [Sl.enc aX_.entries],pZ9 o5 2 [iv aM_.default,Sl.enc aM_.bigrams],(x24,obS (c22.entries:Sl Entry)),(x29,obS (c27.bigrams:Sl Bigram)),(x34,obS (c32.1.words:Sl ByteArray)),pZ9 o37 2 [x34,iv c32.1.cost],(x52,obS (c50.entries:Sl Entry)),pZ9 o55 1 [x52],(x63,obS (c61.bigrams:Sl Bigram)),pZ9 o66 2 [iv c61.default,x63],(x74,obS (c72.1.words:Sl ByteArray)),pZ9 o77 2 [x74,iv c72.1.cost],(x98,obS (c96.entries:Sl Entry)),(x105,obS (c103.bigrams:Sl Bigram))]++D2 (A:=Lattice) x17 ps20++D2 (A:=Lattice) x89 ps92)) (x:=x45) (ps:=ps48) (A:=Lattice) (Hold.sw31 O107) hp49 he_q43 kIi (fun r110 w111 ps114 h112 hp115 O113 => ?_)
         refine kA1 (v:=AV.agg [x52]) (O113.ld 7 rfl true 1 0) ?_
         refine sim_markG (A:=Entry) (w:=1) (j:=0) O113 6 rfl he_q44 kJa (by simp [(O113.one (A:=Entry) (s:=c50.entries) 6 rfl).2]) rfl rfl (fun r116 w117 h118 O119 => ?_)
         replace O119:Hold B h118 ([pZ9 o1 1 [Sl.enc aX_.entries],pZ9 o5 2 [iv aM_.default,Sl.enc aM_.bigrams],(x24,obS (c22.entries:Sl Entry)),(x29,obS (c27.bigrams:Sl Bigram)),(x34,obS (c32.1.words:Sl ByteArray)),pZ9 o37 2 [x34,iv c32.1.cost],(x52,obS (w117:Sl Entry)),pZ9 o55 1 [x52],(x63,obS (c61.bigrams:Sl Bigram)),pZ9 o66 2 [iv c61.default,x63],(x74,obS (c72.1.words:Sl ByteArray)),pZ9 o77 2 [x74,iv c72.1.cost],(x98,obS (c96.entries:Sl Entry)),(x105,obS (c103.bigrams:Sl Bigram))]++D2 (A:=Lattice) x17 ps20++D2 (A:=Lattice) x89 ps92++D2 (A:=Lattice) x45 ps114):=O119
         refine kA1 (v:=AV.agg [iv c61.default,x63]) (O119.ld 9 rfl true 2 0) ?_
         refine sim_markG (A:=Bigram) (w:=2) (j:=1) O119 8 rfl he_q45 mk_laws_markModel (by simp [(O119.one (A:=Bigram) (s:=c61.bigrams) 8 rfl).2]) rfl rfl (fun r120 w121 h122 O123 => ?_)
         replace O123:Hold B h122 ([pZ9 o1 1 [Sl.enc aX_.entries],pZ9 o5 2 [iv aM_.default,Sl.enc aM_.bigrams],(x24,obS (c22.entries:Sl Entry)),(x29,obS (c27.bigrams:Sl Bigram)),(x34,obS (c32.1.words:Sl ByteArray)),pZ9 o37 2 [x34,iv c32.1.cost],(x52,obS (w117:Sl Entry)),pZ9 o55 1 [x52],(x63,obS (w121:Sl Bigram)),pZ9 o66 2 [iv c61.default,x63],(x74,obS (c72.1.words:Sl ByteArray)),pZ9 o77 2 [x74,iv c72.1.cost],(x98,obS (c96.entries:Sl Entry)),(x105,obS (c103.bigrams:Sl Bigram))]++D2 (A:=Lattice) x17 ps20++D2 (A:=Lattice) x89 ps92++D2 (A:=Lattice) x45 ps114):=O123
         refine kA1 (kAl _ _) ?_
         refine kBt (e:=bv) (fun hb124 => ?_) (fun c126 => ?_)
         ·refine kA1 (v:=AV.agg [x74,iv c72.1.cost]) (O123.ld 11 rfl true 2 0) ?_
          refine kA1 (v:=AV.agg [x34,iv c32.1.cost]) (O123.ld 5 rfl true 2 0) ?_
          refine kBo he_q36 (kCf h122 c72.1 rfl (by simp [kBe,O123.snap7 (A:=ByteArray) (s:=c72.1.words) 10 rfl])) (kCf h122 c32.1 rfl (by simp [kBe,O123.snap7 (A:=ByteArray) (s:=c32.1.words) 4 rfl])) (fun c125 => ?_)
          refine kAq (kAc (by rfl) _ _) ?_
          refine kA1 (v:=bv (!c125)) (kBu _) ?_
          exact kA6 rfl
         ·refine kA1 (v:=bv (bif decide (r120<0) then true else c126)) (kCh _ _ _) ?_
          refine kBt (e:=bv) (fun hb127 => ?_) (fun c128 => ?_)
          ·refine kA1 (kCo _ _) ?_
           exact kA6 rfl
          ·refine kA1 (v:=bv (bif (bif decide (r120<0) then true else c126) then true else c128)) (kCh _ _ _) ?_
           refine kAb (fun c129 => ?_) (fun c129 => ?_)
           ·exact kA6 (kA5 (by rfl) _)
           ·refine kA1 (v:=AV.agg [x74,iv c72.1.cost]) (O123.ld 11 rfl true 2 0) ?_
            refine sim_markG (A:=ByteArray) (w:=2) (j:=0) O123 10 rfl he_q46 kIh (by simp [(O123.one (A:=ByteArray) (s:=c72.1.words) 10 rfl).2]) rfl rfl (fun r130 w131 h132 O133 => ?_)
            replace O133:Hold B h132 ([pZ9 o1 1 [Sl.enc aX_.entries],pZ9 o5 2 [iv aM_.default,Sl.enc aM_.bigrams],(x24,obS (c22.entries:Sl Entry)),(x29,obS (c27.bigrams:Sl Bigram)),(x34,obS (c32.1.words:Sl ByteArray)),pZ9 o37 2 [x34,iv c32.1.cost],(x52,obS (w117:Sl Entry)),pZ9 o55 1 [x52],(x63,obS (w121:Sl Bigram)),pZ9 o66 2 [iv c61.default,x63],(x74,obS (w131:Sl ByteArray)),pZ9 o77 2 [x74,iv c72.1.cost],(x98,obS (c96.entries:Sl Entry)),(x105,obS (c103.bigrams:Sl Bigram))]++D2 (A:=Lattice) x17 ps20++D2 (A:=Lattice) x89 ps92++D2 (A:=Lattice) x45 ps114):=O133
            refine kA1 (v:=AV.agg [x74,iv c72.1.cost]) (O133.ld 11 rfl true 2 0) ?_
            refine kBo he_q38 (kCf h132 (⟨w131,c72.1.cost⟩:Sentence) rfl (by simp [kBe,O133.snap7 (A:=ByteArray) (s:=w131) 10 rfl])) (kAy _ _) (fun c134 => ?_)
            refine kAq (kAc (by rfl) _ _) ?_
            refine kA1 (kAl _ _) ?_
            refine kAb (fun c135 => ?_) (fun c135 => ?_)
            ·exact kA6 (kA5 (by rfl) _)
            ·refine kA1 (kCo _ _) ?_
             refine kAb (fun c136 => ?_) (fun c136 => ?_)
             ·exact kA6 (kA5 (by rfl) _)
             ·refine kCc he_q66 (kBp _ _) (fun c137 => ?_)
              refine kHy (l:=([pZ9 o1 1 [Sl.enc aX_.entries],pZ9 o5 2 [iv aM_.default,Sl.enc aM_.bigrams],(x24,obS (c22.entries:Sl Entry)),(x29,obS (c27.bigrams:Sl Bigram)),(x34,obS (c32.1.words:Sl ByteArray)),pZ9 o37 2 [x34,iv c32.1.cost],(x52,obS (w117:Sl Entry)),pZ9 o55 1 [x52],(x63,obS (w121:Sl Bigram)),pZ9 o66 2 [iv c61.default,x63],(x74,obS (w131:Sl ByteArray)),pZ9 o77 2 [x74,iv c72.1.cost],(x98,obS (c96.entries:Sl Entry)),(x105,obS (c103.bigrams:Sl Bigram))]++D2 (A:=Lattice) x17 ps20++D2 (A:=Lattice) x89 ps92++D2 (A:=Lattice) x45 ps114)) (A:=Lattice) O133 (fun x139 ps142 h140 hp143 O141 => ?_)
              refine kA1 (v:=AV.agg [Sl.enc aX_.entries]) (O141.ld 0 rfl true 1 0) ?_
              refine kCc he_q67 (kAz _ aX_ rfl) (fun c144 => ?_)
              refine kDf O141 (c144.entries:Sl Entry) (fun z1=>AV.agg [z1]) (by intro b;simp only [kFf,kEd,kFd,matLc,matLn,kG6,kH9,kHf,kH7,kEf,kGn,List.append_nil,List.nil_append,List.length_nil,Nat.add_zero]) (by simp only [kFg,kEa,kFi,kG5,kHc,kHg,kHe,kEb,kGq,List.all_cons,List.all_nil,Bool.and_self]) (fun x146 h147 O148 => ?_)
              replace O148:Hold B h147 ([pZ9 o1 1 [Sl.enc aX_.entries],pZ9 o5 2 [iv aM_.default,Sl.enc aM_.bigrams],(x24,obS (c22.entries:Sl Entry)),(x29,obS (c27.bigrams:Sl Bigram)),(x34,obS (c32.1.words:Sl ByteArray)),pZ9 o37 2 [x34,iv c32.1.cost],(x52,obS (w117:Sl Entry)),pZ9 o55 1 [x52],(x63,obS (w121:Sl Bigram)),pZ9 o66 2 [iv c61.default,x63],(x74,obS (w131:Sl ByteArray)),pZ9 o77 2 [x74,iv c72.1.cost],(x98,obS (c96.entries:Sl Entry)),(x105,obS (c103.bigrams:Sl Bigram)),(x146,obS (c144.entries:Sl Entry))]++D2 (A:=Lattice) x17 ps20++D2 (A:=Lattice) x89 ps92++D2 (A:=Lattice) x45 ps114++D2 (A:=Lattice) x139 ps142):=Hold.rot4 O148
              refine kA1 (v:=AV.agg [iv aM_.default,Sl.enc aM_.bigrams]) (O148.ld 1 rfl true 2 0) ?_
              refine kCc he_q68 (kAz _ aM_ rfl) (fun c149 => ?_)
              refine kDf O148 (c149.bigrams:Sl Bigram) (fun z1=>AV.agg [iv c149.default,z1]) (by intro b;simp only [kFf,kEd,kFd,matLc,matLn,kG6,kH9,kHf,kH7,kEf,kGn,List.append_nil,List.nil_append,List.length_nil,Nat.add_zero]) (by simp only [kFg,kEa,kFi,kG5,kHc,kHg,kHe,kEb,kGq,List.all_cons,List.all_nil,Bool.and_self]) (fun x151 h152 O153 => ?_)
              replace O153:Hold B h152 ([pZ9 o1 1 [Sl.enc aX_.entries],pZ9 o5 2 [iv aM_.default,Sl.enc aM_.bigrams],(x24,obS (c22.entries:Sl Entry)),(x29,obS (c27.bigrams:Sl Bigram)),(x34,obS (c32.1.words:Sl ByteArray)),pZ9 o37 2 [x34,iv c32.1.cost],(x52,obS (w117:Sl Entry)),pZ9 o55 1 [x52],(x63,obS (w121:Sl Bigram)),pZ9 o66 2 [iv c61.default,x63],(x74,obS (w131:Sl ByteArray)),pZ9 o77 2 [x74,iv c72.1.cost],(x98,obS (c96.entries:Sl Entry)),(x105,obS (c103.bigrams:Sl Bigram)),(x146,obS (c144.entries:Sl Entry)),(x151,obS (c149.bigrams:Sl Bigram))]++D2 (A:=Lattice) x17 ps20++D2 (A:=Lattice) x89 ps92++D2 (A:=Lattice) x45 ps114++D2 (A:=Lattice) x139 ps142):=Hold.rot4 O153
              refine kGi he_q5 ((D2.snapD (l:=([pZ9 o1 1 [Sl.enc aX_.entries],pZ9 o5 2 [iv aM_.default,Sl.enc aM_.bigrams],(x24,obS (c22.entries:Sl Entry)),(x29,obS (c27.bigrams:Sl Bigram)),(x34,obS (c32.1.words:Sl ByteArray)),pZ9 o37 2 [x34,iv c32.1.cost],(x52,obS (w117:Sl Entry)),pZ9 o55 1 [x52],(x63,obS (w121:Sl Bigram)),pZ9 o66 2 [iv c61.default,x63],(x74,obS (w131:Sl ByteArray)),pZ9 o77 2 [x74,iv c72.1.cost],(x98,obS (c96.entries:Sl Entry)),(x105,obS (c103.bigrams:Sl Bigram)),(x146,obS (c144.entries:Sl Entry)),(x151,obS (c149.bigrams:Sl Bigram))]++D2 (A:=Lattice) x17 ps20++D2 (A:=Lattice) x89 ps92++D2 (A:=Lattice) x45 ps114)) (x:=x139) (ps:=ps142) (A:=Lattice) O153 hp143).2) (kCf h152 c144 rfl (by simp [kBe,O153.snap7 (A:=Entry) (s:=c144.entries) 14 rfl])) (kCf h152 c149 rfl (by simp [kBe,O153.snap7 (A:=Bigram) (s:=c149.bigrams) 15 rfl])) (fun c154 => ?_)
              refine kDf O153 (c154.1.words:Sl ByteArray) (fun z1=>AV.tup [AV.agg [z1,iv c154.1.cost],iv c154.2]) (by intro b;simp only [kFf,kEd,kFd,matLc,matLn,kG6,kH9,kHf,kH7,kEf,kGn,List.append_nil,List.nil_append,List.length_nil,Nat.add_zero]) (by simp only [kFg,kEa,kFi,kG5,kHc,kHg,kHe,kEb,kGq,List.all_cons,List.all_nil,Bool.and_self]) (fun x156 h157 O158 => ?_)
              replace O158:Hold B h157 ([pZ9 o1 1 [Sl.enc aX_.entries],pZ9 o5 2 [iv aM_.default,Sl.enc aM_.bigrams],(x24,obS (c22.entries:Sl Entry)),(x29,obS (c27.bigrams:Sl Bigram)),(x34,obS (c32.1.words:Sl ByteArray)),pZ9 o37 2 [x34,iv c32.1.cost],(x52,obS (w117:Sl Entry)),pZ9 o55 1 [x52],(x63,obS (w121:Sl Bigram)),pZ9 o66 2 [iv c61.default,x63],(x74,obS (w131:Sl ByteArray)),pZ9 o77 2 [x74,iv c72.1.cost],(x98,obS (c96.entries:Sl Entry)),(x105,obS (c103.bigrams:Sl Bigram)),(x146,obS (c144.entries:Sl Entry)),(x151,obS (c149.bigrams:Sl Bigram)),(x156,obS (c154.1.words:Sl ByteArray))]++D2 (A:=Lattice) x17 ps20++D2 (A:=Lattice) x89 ps92++D2 (A:=Lattice) x45 ps114++D2 (A:=Lattice) x139 ps142):=Hold.rot4 O158
              refine kA1 (v:=AV.agg [x156,iv c154.1.cost]) rfl ?_
              refine kA1 (v:=iv c154.2) rfl ?_
              refine kAs O158 (cs:=[kB3,iv 0]) (by first | rfl | simp) (fun o159 h160 O161 => ?_)
              replace O161:Hold B h160 ([pZ9 o1 1 [Sl.enc aX_.entries],pZ9 o5 2 [iv aM_.default,Sl.enc aM_.bigrams],(x24,obS (c22.entries:Sl Entry)),(x29,obS (c27.bigrams:Sl Bigram)),(x34,obS (c32.1.words:Sl ByteArray)),pZ9 o37 2 [x34,iv c32.1.cost],(x52,obS (w117:Sl Entry)),pZ9 o55 1 [x52],(x63,obS (w121:Sl Bigram)),pZ9 o66 2 [iv c61.default,x63],(x74,obS (w131:Sl ByteArray)),pZ9 o77 2 [x74,iv c72.1.cost],(x98,obS (c96.entries:Sl Entry)),(x105,obS (c103.bigrams:Sl Bigram)),(x146,obS (c144.entries:Sl Entry)),(x151,obS (c149.bigrams:Sl Bigram)),(x156,obS (c154.1.words:Sl ByteArray)),pZ9 o159 2 [kB3,iv 0]]++D2 (A:=Lattice) x17 ps20++D2 (A:=Lattice) x89 ps92++D2 (A:=Lattice) x45 ps114++D2 (A:=Lattice) x139 ps142):=Hold.rot4 O161
              have jZ0:=O161.one (A:=ByteArray) (s:=c154.1.words) 16 rfl
              refine kAw O161 17 (cs':=[x156,iv c154.1.cost]) rfl (by first | rfl | simp [jZ0.1,jZ0.2]) (by simp) (by first | rfl | simp [jZ0.1,jZ0.2]) (by first | rfl | simp [kAx,jZ0.1,jZ0.2]) (fun h163 O164 => ?_)
              replace O164:Hold B h163 ([pZ9 o1 1 [Sl.enc aX_.entries],pZ9 o5 2 [iv aM_.default,Sl.enc aM_.bigrams],(x24,obS (c22.entries:Sl Entry)),(x29,obS (c27.bigrams:Sl Bigram)),(x34,obS (c32.1.words:Sl ByteArray)),pZ9 o37 2 [x34,iv c32.1.cost],(x52,obS (w117:Sl Entry)),pZ9 o55 1 [x52],(x63,obS (w121:Sl Bigram)),pZ9 o66 2 [iv c61.default,x63],(x74,obS (w131:Sl ByteArray)),pZ9 o77 2 [x74,iv c72.1.cost],(x98,obS (c96.entries:Sl Entry)),(x105,obS (c103.bigrams:Sl Bigram)),(x146,obS (c144.entries:Sl Entry)),(x151,obS (c149.bigrams:Sl Bigram)),(x156,obS (c154.1.words:Sl ByteArray)),pZ9 o159 2 [x156,iv c154.1.cost]]++D2 (A:=Lattice) x17 ps20++D2 (A:=Lattice) x89 ps92++D2 (A:=Lattice) x45 ps114++D2 (A:=Lattice) x139 ps142):=O164
              refine kA1 (v:=AV.agg [x156,iv c154.1.cost]) (O164.ld 17 rfl true 2 0) ?_
              refine kA1 (v:=AV.agg [x34,iv c32.1.cost]) (O164.ld 5 rfl true 2 0) ?_
              refine kBo he_q36 (kCf h163 c154.1 rfl (by simp [kBe,O164.snap7 (A:=ByteArray) (s:=c154.1.words) 16 rfl])) (kCf h163 c32.1 rfl (by simp [kBe,O164.snap7 (A:=ByteArray) (s:=c32.1.words) 4 rfl])) (fun c165 => ?_)
              refine kAq (kAc (by rfl) _ _) ?_
              refine kA1 (v:=bv (!c165)) (kBu _) ?_
              refine kBt (e:=bv) (fun hb166 => ?_) (fun c167 => ?_)
              ·refine kA1 (kCo _ _) ?_
               exact kA6 rfl
              ·refine kA1 (v:=bv (bif !c165 then true else c167)) (kCh _ _ _) ?_
               refine kAb (fun c168 => ?_) (fun c168 => ?_)
               ·exact kA6 (kA5 (by rfl) _)
               ·refine kA1 (v:=AV.agg [x74,iv c72.1.cost]) (O164.ld 11 rfl true 2 0) ?_
                refine kBo he_q38 (kCf h163 (⟨w131,c72.1.cost⟩:Sentence) rfl (by simp [kBe,O164.snap7 (A:=ByteArray) (s:=w131) 10 rfl])) (kAy _ _) (fun c169 => ?_)
                refine kAq (kAc (by rfl) _ _) ?_
                refine kA1 (kAl _ _) ?_
                refine kAb (fun c170 => ?_) (fun c170 => ?_)
                ·exact kA6 (kA5 (by rfl) _)
                ·refine kA1 (kCo _ _) ?_
                 refine kAb (fun c171 => ?_) (fun c171 => ?_)
                 ·exact kA6 (kA5 (by rfl) _)
                 ·exact kA6 (kA5 (by rfl) _)
theorem tt_q25:kAn Tryz.prog n_q25 (C3 (fun c:Bool=>enc c) t_q25):=kKa (kBc tt_q5 (kBc tt_q33 (kBc tt_q34 (kBc tt_q35 (kBc tt_q36 (kBc tt_q38 (EconsG (kEn kIm kBd hb_q43) (EconsG (kEn kJc kBd hb_q44) (EconsG (kEn eo_laws_markModel kBd hb_q45) (EconsG (kEn kIj kBd hb_q46) (kBc tt_q56 (kBc tt_q57 (kBc tt_q58 (kBc tt_q66 (kBc tt_q67 (kBc tt_q68 (kBc tt_q72 E0))))))))))))))))) kBd hb_q25 fun aList_ aX_ aM_=>ts_q25 _ (by simp [kBx]) (by simp [kBx]) (by simp [kBx]) (by simp [kBx]) (by simp [kBx]) (by simp [kBx]) (by simp [kBx]) (by simp [kBx]) (by simp [kBx]) (by simp [kBx]) (by simp [kBx]) (by simp [kBx]) (by simp [kBx]) (by simp [kBx]) (by simp [kBx]) (by simp [kBx]) (by simp [kBx]) aList_ aX_ aM_
structure SK (s:l00Src) (k:Int):Prop where
 lo:0≤s.pos
 hi:s.pos≤k
theorem SK.mono {s:l00Src} {k k':Int} (h:SK s k) (hk:k≤k'):SK s k':=⟨h.lo,by have:=h.hi;omega⟩
def stepOK (p q:Pair):Prop:=(q.i=p.i∨q.i=p.i+1)∧(q.j=p.j∨q.j=p.j+1)∧q≠p
def chain:List Pair→Prop
 | p::q::r=>stepOK p q∧chain (q::r)
 | _=>True
structure PathOK (l:List Pair) (n m:Int):Prop where
 first:l.head?=some ⟨0,0⟩
 last:l.getLast?=some ⟨n - 1,m - 1⟩
 steps:chain l
theorem pair_ne {a b c d:Int} (h:a≠c∨b≠d):(⟨a,b⟩:Pair)≠⟨c,d⟩:=by
 intro e
 simp only [Pair.mk.injEq] at e
 rcases h with h | h
 ·exact h e.1
 ·exact h e.2
theorem chain_app {l:List Pair} {p q:Pair} (h:chain l) (hl:l.getLast?=some p) (hs:stepOK p q):chain (l++[q]):=by
 induction l with
 | nil=>simp at hl
 | cons a l ih =>
  cases l with
  | nil =>
   simp at hl
   subst hl
   exact ⟨hs,trivial⟩
  | cons b l=>exact ⟨h.1,ih h.2 (by simpa [List.getLast?_cons_cons] using hl)⟩
theorem kBw {k n:Nat} (h:k<n) (hn:n≤4294967296):wr ((k:Int)+1)=((k+1:Nat):Int):=by
 rw [kC9 (by omega) (by omega)]
 omega
theorem kCv {A:Type} {l:List A} {k:Nat} {a:A} (h:l[k]?=some a):k<l.length:=(List.getElem?_eq_some_iff.1 h).1
structure PtV (p:Point):Prop where
 x0:0≤p.x
 x1:p.x≤4095
 y0:0≤p.y
 y1:p.y≤4095
 t0:0≤p.t
 t1:p.t≤3600000
structure StV (l:List Point):Prop where
 pts:∀ p∈l,PtV p
 inc:∀ (k:Nat) p q,l[k]?=some p→l[k+1]?=some q→p.t<q.t
 n1:1≤l.length
 n2:l.length≤60
structure PtB (p:Point):Prop where
 x0:-10000000≤p.x
 x1:p.x≤10000000
 y0:-10000000≤p.y
 y1:p.y≤10000000
 t0:-10000000≤p.t
 t1:p.t≤10000000
structure StB (s:Stroke):Prop where
 n:(s.points.getD []).length≤100
 pts:∀ p∈s.points.getD [],PtB p
theorem PtV.b {p:Point} (h:PtV p):PtB p:=by
 obtain ⟨h1,h2,h3,h4,h5,h6⟩:=h
 exact ⟨by omega,by omega,by omega,by omega,by omega,by omega⟩
theorem StV.b {l:List Point} (h:StV l):StB ⟨some l⟩:=⟨Nat.le_trans h.n2 (by omega),fun p hp=>(h.pts p hp).b⟩
structure InkV (L:List Stroke):Prop where
 st:∀ s∈L,∃ l,s=⟨some l⟩∧StV l
 inc:∀ (k:Nat) l l',L[k]?=some ⟨some l⟩→L[k+1]?=some ⟨some l'⟩→∀ p∈l,∀ q∈l',p.t<q.t
 n:L.length≤16
theorem InkV.b {L:List Stroke} (h:InkV L):∀ x∈L,StB x:=fun x hx=>by
 obtain ⟨l,rfl,hl⟩:=h.st x hx
 exact hl.b
theorem firstL_no {A R:Type} {f:Nat→A→Option R}:∀ {l:List A} {k:Nat},kEu f l k=none→∀ i a,l[i]?=some a→f (k+i) a=none
 | [],_,_,i,a,ha=>by simp at ha
 | b::l,k,h,i,a,ha=>by
  unfold kEu at h
  cases e:f k b with
  | some r=>rw [e] at h;cases h
  | none =>
   rw [e] at h
   cases i with
   | zero =>
    simp only [List.getElem?_cons_zero,Option.some.injEq] at ha
    subst ha
    exact e
   | succ i =>
    have:=firstL_no h i a (by simpa using ha)
    rw [← this]
    congr 1
    omega
theorem firstL_so {A R:Type} {f:Nat→A→Option R}:∀ {l:List A} {k:Nat} {r:R},kEu f l k=some r→∃ i a,f i a=some r
 | [],_,_,h=>by cases h
 | b::l,k,r,h=>by
  unfold kEu at h
  cases e:f k b with
  | some r'=>rw [e] at h;cases h;exact ⟨k,b,e⟩
  | none=>rw [e] at h;exact firstL_so h
def pt (l:List Point) (i:Nat):Point:=l.getD i ⟨0,0,0⟩
def Pre (p q i j:Nat):Prop:=(i=p+1∧j=q+1)∨(i=p+1∧j=q)∨(i=p∧j=q+1)
inductive Pth (C:Nat→Nat→Int) (R:Nat→Nat→Prop):Nat→Nat→Int→Prop
 | start:R 0 0→Pth C R 0 0 (C 0 0)
 | step {p q i j:Nat} {c:Int}:Pth C R p q c→Pre p q i j→R i j→Pth C R i j (c+C i j)
theorem Pth.bound {C:Nat→Nat→Int} {R:Nat→Nat→Prop} {K:Int} (hC:∀ i j,0≤C i j∧C i j≤K) {i j:Nat} {c:Int} (h:Pth C R i j c):0≤c∧c≤K*((i+j+1:Nat):Int):=by
 have hK:0≤K:=Int.le_trans (hC 0 0).1 (hC 0 0).2
 induction h with
 | start h=>have:=hC 0 0;simp;omega
 | @step p q i j c h1 h2 h3 ih =>
  have:=hC i j
  have e:K*((p+q+1:Nat):Int)+K≤K*((i+j+1:Nat):Int):=by
   have e1:K*((p+q+1:Nat):Int)+K=K*((p+q+2:Nat):Int):=by
    have e2:((p+q+2:Nat):Int)=((p+q+1:Nat):Int)+1:=by omega
    rw [e2,Int.mul_add,Int.mul_one]
   rw [e1]
   apply Int.mul_le_mul_of_nonneg_left _ hK
   rcases h2 with h2 | h2 | h2 <;> omega
  omega
def Opt (B:Int) (C:Nat→Nat→Int) (R:Nat→Nat→Prop) (i j:Nat) (v:Int):Prop :=
 (v=B∧∀ c,¬ Pth C R i j c)∨(v<B∧Pth C R i j v∧∀ c,Pth C R i j c→v≤c)
theorem Opt.path {B:Int} {C:Nat→Nat→Int} {R:Nat→Nat→Prop} {i j:Nat} {v:Int} (h:Opt B C R i j v) (hv:v<B):Pth C R i j v:=by
 rcases h with ⟨h,_⟩ | ⟨_,h,_⟩
 ·omega
 ·exact h
theorem Pth.mono {C D:Nat→Nat→Int} {R S:Nat→Nat→Prop} {i j:Nat} {c:Int} (h:Pth C R i j c) (hR:∀ p q,p≤i→q≤j→R p q→S p q) (hC:∀ p q,p≤i→q≤j→C p q=D p q):Pth D S i j c:=by
 induction h with
 | start h =>
  rw [hC 0 0 (Nat.le_refl _) (Nat.le_refl _)]
  exact .start (hR 0 0 (Nat.le_refl _) (Nat.le_refl _) h)
 | @step p q i j c h1 h2 h3 ih =>
  have hle:p≤i∧q≤j:=by rcases h2 with h | h | h <;> omega
  rw [hC i j (Nat.le_refl _) (Nat.le_refl _)]
  exact .step (ih (fun a b h4 h5=>hR a b (by omega) (by omega)) (fun a b h4 h5=>hC a b (by omega) (by omega))) h2 (hR i j (Nat.le_refl _) (Nat.le_refl _) h3)
def Val (T:List (Sl Int)) (p q:Nat) (v:Int):Prop:=∃ row,T[p]?=some (some row)∧row[q]?=some v
theorem Val.set {T:List (Sl Int)} {i j p q:Nat} {row:List Int} {v w:Int} (hr:T[i]?=some (some row)) (hj:j<row.length) :
  Val (T.set i (some (row.set j w))) p q v↔(p=i∧q=j∧v=w)∨(¬ (p=i∧q=j)∧Val T p q v):=by
 have hi:=kCv hr
 unfold Val
 constructor
 ·rintro ⟨r,h1,h2⟩
  by_cases c:i=p
  ·subst c
   rw [List.getElem?_set_self hi] at h1
   cases h1
   by_cases d:j=q
   ·subst d
    rw [List.getElem?_set_self hj] at h2
    cases h2
    exact .inl ⟨rfl,rfl,rfl⟩
   ·rw [List.getElem?_set_ne d] at h2
    exact .inr ⟨fun h=>d h.2.symm,row,hr,h2⟩
  ·rw [List.getElem?_set_ne c] at h1
   exact .inr ⟨fun h=>c h.1.symm,r,h1,h2⟩
 ·rintro (⟨rfl,rfl,rfl⟩ | ⟨hne,r,h1,h2⟩)
  ·exact ⟨_,List.getElem?_set_self hi,List.getElem?_set_self hj⟩
  ·by_cases c:i=p
   ·subst c
    rw [hr] at h1
    cases h1
    have d:j≠q:=fun h=>hne ⟨rfl,h.symm⟩
    exact ⟨_,List.getElem?_set_self hi,by rw [List.getElem?_set_ne d];exact h2⟩
   ·exact ⟨r,by rw [List.getElem?_set_ne c];exact h1,h2⟩
inductive Tr (C:Nat→Nat→Int) (R:Nat→Nat→Prop):Nat→Nat→Int→List Pair→Prop
 | start:R 0 0→Tr C R 0 0 (C 0 0) [⟨0,0⟩]
 | step {p q i j:Nat} {c:Int} {L:List Pair}:Tr C R p q c L→Pre p q i j→R i j→Tr C R i j (c+C i j) (⟨(i:Int),(j:Int)⟩::L)
def csum (C:Nat→Nat→Int):List Pair→Int
 | []=>0
 | p::l=>C p.i.toNat p.j.toNat+csum C l
theorem csum_app (C:Nat→Nat→Int) (l r:List Pair):csum C (l++r)=csum C l+csum C r:=by
 induction l with
 | nil=>simp [csum]
 | cons p l ih =>
  show C p.i.toNat p.j.toNat+csum C (l++r)=C p.i.toNat p.j.toNat+csum C l+csum C r
  rw [ih]
  omega
theorem Tr.head {C:Nat→Nat→Int} {R:Nat→Nat→Prop} {i j:Nat} {c:Int} {L:List Pair} (h:Tr C R i j c L):∃ L',L=⟨(i:Int),(j:Int)⟩::L':=by
 cases h with
 | start h=>exact ⟨[],rfl⟩
 | step h1 h2 h3=>exact ⟨_,rfl⟩
theorem Tr.path {C:Nat→Nat→Int} {R:Nat→Nat→Prop} {i j:Nat} {c:Int} {L:List Pair} (h:Tr C R i j c L) :
  PathOK L.reverse ((i:Int)+1) ((j:Int)+1)∧csum C L.reverse=c∧L.length≤i+j+1∧∀ p∈L,R p.i.toNat p.j.toNat:=by
 induction h with
 | start h =>
  refine ⟨⟨rfl,rfl,trivial⟩,?_,by simp,?_⟩
  ·simp [csum]
  ·intro p hp
   simp only [List.mem_singleton] at hp
   subst hp
   exact h
 | @step p q i j c L h1 h2 h3 ih =>
  obtain ⟨⟨i1,i2,i3⟩,i4,i5,i6⟩:=ih
  obtain ⟨L',rfl⟩:=h1.head
  have hs:stepOK ⟨(p:Int),(q:Int)⟩ ⟨(i:Int),(j:Int)⟩:=by
   unfold Pre at h2
   refine ⟨by simp only;omega,by simp only;omega,pair_ne (by omega)⟩
  rw [List.reverse_cons]
  refine ⟨⟨?_,?_,?_⟩,?_,?_,?_⟩
  ·rw [List.head?_append,i1]
   rfl
  ·rw [List.getLast?_append]
   simp
  ·refine chain_app i3 ?_ hs
   rw [List.getLast?_reverse]
   rfl
  ·rw [csum_app,i4]
   simp [csum]
  ·unfold Pre at h2
   simp only [List.length_cons] at *
   omega
  ·intro x hx
   rcases List.mem_cons.1 hx with rfl | hx
   ·simpa using h3
   ·exact i6 x hx
def PF (C:Nat→Nat→Int) (f i j:Nat) (c:Int):Prop:=f≤j∧Pth (fun p q=>C p (q+f)) (fun _ _=>True) i (j - f) c
theorem PF.start {C:Nat→Nat→Int} (j:Nat):PF C j 0 j (C 0 j):=by
 refine ⟨Nat.le_refl _,?_⟩
 have h:=Pth.start (C:=fun p q=>C p (q+j)) (R:=fun _ _=>True) trivial
 simp only [Nat.zero_add] at h
 rw [Nat.sub_self]
 exact h
theorem PF.bound {C:Nat→Nat→Int} {K:Int} (hC:∀ i j,0≤C i j∧C i j≤K) {f i j:Nat} {c:Int} (h:PF C f i j c) (hi:i≤72) (hj:j≤72):0≤c∧c≤K*145:=by
 obtain ⟨h1,h2⟩:=h
 have b:=h2.bound (K:=K) (fun p q=>hC p (q+f))
 have hK:0≤K:=Int.le_trans (hC 0 0).1 (hC 0 0).2
 have m:K*((i+(j - f)+1:Nat):Int)≤K*145:=Int.mul_le_mul_of_nonneg_left (by omega) hK
 omega
def PVal (T:List (Sl Part)) (p q:Nat) (v:Part):Prop:=∃ row,T[p]?=some (some row)∧row[q]?=some v
theorem PVal.set {T:List (Sl Part)} {i j p q:Nat} {row:List Part} {v w:Part} (hr:T[i]?=some (some row)) (hj:j<row.length) :
  PVal (T.set i (some (row.set j w))) p q v↔(p=i∧q=j∧v=w)∨(¬ (p=i∧q=j)∧PVal T p q v):=by
 have hi:=kCv hr
 unfold PVal
 constructor
 ·rintro ⟨r,h1,h2⟩
  by_cases c:i=p
  ·subst c
   rw [List.getElem?_set_self hi] at h1
   cases h1
   by_cases d:j=q
   ·subst d
    rw [List.getElem?_set_self hj] at h2
    cases h2
    exact .inl ⟨rfl,rfl,rfl⟩
   ·rw [List.getElem?_set_ne d] at h2
    exact .inr ⟨fun h=>d h.2.symm,row,hr,h2⟩
  ·rw [List.getElem?_set_ne c] at h1
   exact .inr ⟨fun h=>c h.1.symm,r,h1,h2⟩
 ·rintro (⟨rfl,rfl,rfl⟩ | ⟨hne,r,h1,h2⟩)
  ·exact ⟨_,List.getElem?_set_self hi,List.getElem?_set_self hj⟩
  ·by_cases c:i=p
   ·subst c
    rw [hr] at h1
    cases h1
    have d:j≠q:=fun h=>hne ⟨rfl,h.symm⟩
    exact ⟨_,List.getElem?_set_self hi,by rw [List.getElem?_set_ne d];exact h2⟩
   ·exact ⟨r,by rw [List.getElem?_set_ne c];exact h1,h2⟩
def bnd (p c:Int):Int:=Int.tmod (c - p+8+3) 8 - 3
def d2 (a b:Point):Int:=(a.x - b.x)*(a.x - b.x)+(a.y - b.y)*(a.y - b.y)
def pbox (p:Point):Box:=⟨p.x,p.y,p.x,p.y⟩
structure InB (a b:Box):Prop where
 x1:b.x1≤a.x1
 y1:b.y1≤a.y1
 x2:a.x2≤b.x2
 y2:a.y2≤b.y2
theorem InB.trans {a b c:Box} (h:InB a b) (g:InB b c):InB a c:=⟨Int.le_trans g.x1 h.x1,Int.le_trans g.y1 h.y1,Int.le_trans h.x2 g.x2,Int.le_trans h.y2 g.y2⟩
theorem PtV.box {p:Point} (h:PtV p):InB (pbox p) ⟨0,0,4095,4095⟩:=⟨h.x0,h.y0,h.x1,h.y1⟩
def nearQ (n d:Int):Int:=(2*n+d) / (2*d)
def nrm1 (w S u:Int):Int:=(255 - w*255 / S) / 2+nearQ (u*255) S
def side (b:Box):Int:=max (max (b.x2 - b.x1) (b.y2 - b.y1)) 1
def nrm (b:Box) (p:Spot):Spot:=⟨nrm1 (b.x2 - b.x1) (side b) (p.x - b.x1),nrm1 (b.y2 - b.y1) (side b) (p.y - b.y1)⟩
def inQ (b:Box) (p:Spot):Bool:=kBb p.x b.x1 b.x2 && kBb p.y b.y1 b.y2
def NR (L:List Spot) (b:Box) (q:Sl Spot) (n:Int):Prop:=(n=0∧validBox b=true∧(∀ p∈L,inQ b p=true)∧q.getD []=L.map (nrm b))∨(q=none∧((n=1∧validBox b=false)∨(n=2∧validBox b=true∧∃ p∈L,inQ b p=false)))
theorem NR.same {L:List Spot} {b:Box} {q q':Sl Spot} {n n':Int} (h:NR L b q n) (h':NR L b q' n'):n=n'∧q.getD []=q'.getD []:=by
 rcases h with ⟨rfl,h1,h2,h3⟩ | ⟨rfl,⟨rfl,h1⟩ | ⟨rfl,h1,p,h2,h3⟩⟩ <;> rcases h' with ⟨rfl,g1,g2,g3⟩ | ⟨rfl,⟨rfl,g1⟩ | ⟨rfl,g1,p',g2,g3⟩⟩
 ·exact ⟨rfl,by rw [h3,g3]⟩
 ·rw [h1] at g1;cases g1
 ·rw [h2 _ g2] at g3;cases g3
 ·rw [h1] at g1;cases g1
 ·exact ⟨rfl,rfl⟩
 ·rw [h1] at g1;cases g1
 ·rw [g2 _ h2] at h3;cases h3
 ·rw [h1] at g1;cases g1
 ·exact ⟨rfl,rfl⟩
theorem mapLoop {A B:Type} (d:B) (f:A→B) (l:List A) (hl:l.length≤4294967296) (step:((Sl B)×Int)→Option (Sum ((Sl B)×Int) (Sl B)))
  (next:∀ (M:List B) (k:Nat) (a:A),M.length=l.length→l[k]?=some a→step (some M,(k:Int))=some (.inl (some (M.set k (f a)),wr ((k:Int)+1))))
  (fin:∀ w:Sl B,step (w,((l.length:Nat):Int))=some (.inr w)):kBg step (some (List.replicate l.length d),0)=some (some (l.map f)):=by
 obtain ⟨r,h1,h2⟩:=kCt (step:=step) (fun k t=>∃ M,t=(some M,(k:Int))∧M.length=l.length∧∀ j,j<k→M[j]?=(l.map f)[j]?) l.length (fun r=>r=some (l.map f))
  (fun k t hk ht=>by
   obtain ⟨M,rfl,m1,m2⟩:=ht
   obtain ⟨a,ha⟩:∃ a,l[k]?=some a:=⟨l[k],List.getElem?_eq_getElem hk⟩
   have e:=next M k a m1 ha
   rw [kBw hk hl] at e
   refine .inl ⟨_,e,_,rfl,by rw [List.length_set,m1],fun j hj => ?_⟩
   by_cases c:j=k
   ·subst c
    rw [List.getElem?_set_self (by omega),List.getElem?_map,ha]
    rfl
   ·rw [List.getElem?_set_ne (fun h=>c h.symm)]
    exact m2 j (by omega))
  (fun t ht=>by
   obtain ⟨M,rfl,m1,m2⟩:=ht
   refine ⟨_,fin _,?_⟩
   congr 1
   apply List.ext_getElem?
   intro j
   by_cases c:j<l.length
   ·exact m2 j c
   ·rw [List.getElem?_eq_none (by omega),List.getElem?_eq_none (by simp;omega)])
  (s:=(some (List.replicate l.length d),0)) ⟨_,rfl,by simp,fun j hj=>by omega⟩
 rw [h1,h2]
theorem kH2 {A:Type} (d:A) {n:Nat} (h:n≤4294967296):kJb d ((n:Nat):Int)=some (List.replicate n d):=by
 unfold kJb
 rw [if_pos ⟨by omega,by omega⟩,Int.toNat_natCast]
theorem eqLoop {step:Int→Option (Sum Int (Sum Unit Bool))} (n:Nat) (hn:n≤4294967296) (next:∀ k:Nat,k<n→step (k:Int)=some (.inl (wr ((k:Int)+1)))) (fin:step ((n:Nat):Int)=some (.inr (.inl ()))):kBg step 0=some (.inl ()):=by
 obtain ⟨r,h1,h2⟩:=kCt (step:=step) (fun k t=>t=(k:Int)) n (fun r=>r=.inl ())
  (fun k t hk ht=>by
   subst ht
   have e:=next k hk
   rw [kBw hk hn] at e
   exact .inl ⟨_,e,rfl⟩)
  (fun t ht=>by
   subst ht
   exact ⟨_,fin,rfl⟩) (s:=0) rfl
 rw [h1,h2]
theorem szLoop {A:Type} (wt:A→Nat) (l:List A) (hl:l.length≤1048576) (step:(Int×Int)→Option (Sum (Int×Int) (Sum Int Int)))
  (next:∀ (w:Int) (k:Nat) (a:A),0≤w→w≤1048576→l[k]?=some a→step (w,(k:Int))=some (.inr (.inr (-1)))∨((wt a:Nat):Int)≤w∧step (w,(k:Int))=some (.inl (w - ((wt a:Nat):Int),wr ((k:Int)+1))))
  (fin:∀ w,step (w,((l.length:Nat):Int))=some (.inr (.inl w))) {w0:Int} (h0:0≤w0) (h1:w0≤1048576) :
  kBg step (w0,0)=some (.inr (-1))∨∃ r,kBg step (w0,0)=some (.inl r)∧0≤r∧r=w0 - (((l.map wt).sum:Nat):Int):=by
 obtain ⟨r,e,h⟩:=kCt (step:=step) (fun k t=>∃ w,t=(w,(k:Int))∧0≤w∧w=w0 - ((((l.take k).map wt).sum:Nat):Int)) l.length (fun r=>r=.inr (-1)∨∃ w,r=.inl w∧0≤w∧w=w0 - (((l.map wt).sum:Nat):Int))
  (fun k t hk ⟨w,ht,w1,w2⟩=>by
   subst ht
   obtain ⟨a,ha⟩:∃ a,l[k]?=some a:=⟨l[k],List.getElem?_eq_getElem hk⟩
   rcases next w k a w1 (by omega) ha with h | ⟨h2,h⟩
   ·exact .inr ⟨_,h,.inl rfl⟩
   ·rw [kBw hk (show l.length≤4294967296 by omega)] at h
    refine .inl ⟨_,h,_,rfl,by omega,?_⟩
    have e1:l.take (k+1)=l.take k++[a]:=by
     rw [List.take_succ_eq_append_getElem hk]
     rw [List.getElem?_eq_getElem hk] at ha
     rw [Option.some.inj ha]
    rw [e1,List.map_append,List.sum_append,List.map_cons,List.map_nil,List.sum_cons,List.sum_nil]
    omega)
  (fun t ⟨w,ht,w1,w2⟩=>by
   subst ht
   rw [List.take_length] at w2
   exact ⟨_,fin w,.inr ⟨w,rfl,w1,w2⟩⟩)
  (s:=(w0,0)) ⟨w0,rfl,h0,by simp⟩
 rcases h with rfl | ⟨w,rfl,w1,w2⟩
 ·exact .inl e
 ·exact .inr ⟨w,e,w1,w2⟩
def SzOK {A:Type} (t:A→Int→Option Int) (wt:A→Nat) (a:A):Prop:=∀ k:Int,0≤k→k≤1048576→t a k=some (-1)∨((wt a:Nat):Int)≤k∧t a k=some (k - ((wt a:Nat):Int))
def wtS {A:Type} (wt:A→Nat) (s:Sl A):Nat:=(s.getD []).length+((s.getD []).map wt).sum
theorem wt_mem {A:Type} {wt:A→Nat} {s:Sl A} {a:A} (h:a∈s.getD []):wt a≤wtS wt s:=by
 have:∀ l:List A,a∈l→wt a≤(l.map wt).sum:=by
  intro l
  induction l with
  | nil=>intro h;cases h
  | cons b l ih =>
   intro h
   rw [List.map_cons,List.sum_cons]
   rcases List.mem_cons.1 h with rfl | h
   ·omega
   ·have:=ih h
    omega
 have:=this _ h
 unfold wtS
 omega
theorem szS_ok {A:Type} {wt:A→Nat} {te:A→Int→Option Int} {s:Sl A} (hb:(s.getD []).length≤maxLen) (he:∀ a∈s.getD [],SzOK te wt a) {t:Sl A→Int→Option Int} {step:(Int×Int)→Option (Sum (Int×Int) (Sum Int Int))}
  (ht:∀ k,t s k=bif decide ((wr (k - (((s.getD []).length:Nat):Int)))<0) then some (-1) else kA0 (kBg step (wr (k - (((s.getD []).length:Nat):Int)),0)) fun q=>match q with | .inl q=>some q | .inr q=>some q)
  (hs:∀ (w:Int) (i:Nat) (a:A),(s.getD [])[i]?=some a→step (w,(i:Int))=kA0 (te a w) fun c=>bif decide (c<0) then some (.inr (.inr (-1))) else some (.inl (c,wr ((i:Int)+1))))
  (hf:∀ w,step (w,(((s.getD []).length:Nat):Int))=some (.inr (.inl w))):SzOK t (wtS wt) s:=by
 intro k h0 h1
 rw [kKc] at hb
 have ws:wr (k - (((s.getD []).length:Nat):Int))=k - (((s.getD []).length:Nat):Int):=kC9 (by omega) (by omega)
 rw [ht,ws]
 by_cases c:k - (((s.getD []).length:Nat):Int)<0
 ·left
  rw [decide_eq_true c,cond_true]
 ·rw [decide_eq_false c,cond_false]
  rcases szLoop wt (s.getD []) (by omega) step (fun w i a w0 w1 ha=>by
   rw [hs w i a ha]
   rcases he a (List.mem_of_getElem? ha) w w0 w1 with h | ⟨h2,h⟩
   ·left
    rw [h]
    rfl
   ·right
    refine ⟨h2,?_⟩
    rw [h,kA4,decide_eq_false (show ¬ w - ((wt a:Nat):Int)<0 by omega),cond_false]) hf (w0:=k - (((s.getD []).length:Nat):Int)) (by omega) (by omega) with h | ⟨r,h,h2,h3⟩
  ·left
   rw [h]
   rfl
  ·right
   rw [h]
   have hw:((wtS wt s:Nat):Int)=(((s.getD []).length:Nat):Int)+((((s.getD []).map wt).sum:Nat):Int):=by unfold wtS;omega
   refine ⟨by omega,?_⟩
   rw [kA4]
   refine congrArg some ?_
   omega
theorem sz_str {n:Nat} {k:Int} (hn:n≤maxLen) (h1:k≤1048576) (h0:0≤k):wr (k - (n:Int))=k - (n:Int):=by
 rw [kKc] at hn
 exact kC9 (by omega) (by omega)
theorem toEntryS_ok (a:Sl Entry) (hl:(a.getD []).length≤4294967296):t_q64 a=some (some ((a.getD []).map (fun x:Entry=>x))):=by
 have lp:=mapLoop (⟨⟨#[]⟩,0⟩:Entry) (fun x:Entry=>x) (a.getD []) hl (s0_q64 a) (fun M k x hM hx=>by
  have hk:=kCv hx
  have c:(k:Int)<(((a.getD []).length:Nat):Int):=by omega
  obtain ⟨y,hy⟩:∃ y,M[k]?=some y:=⟨M[k]'(by omega),List.getElem?_eq_getElem _⟩
  unfold s0_q64
  simp only [c,decide_true,cond_true,kAi hx,kA4,Option.getD_some,kAi hy,kFe,Option.map_some,Int.toNat_natCast,t_q63]) (fun w=>by
  unfold s0_q64
  simp only [Int.lt_irrefl,decide_false,cond_false])
 unfold t_q64
 rw [kH2 _ hl,kA4,lp,kA4]
theorem toBigramS_ok (a:Sl Bigram) (hl:(a.getD []).length≤4294967296):t_q60 a=some (some ((a.getD []).map (fun x:Bigram=>x))):=by
 have lp:=mapLoop (⟨⟨#[]⟩,⟨#[]⟩,0⟩:Bigram) (fun x:Bigram=>x) (a.getD []) hl (s0_q60 a) (fun M k x hM hx=>by
  have hk:=kCv hx
  have c:(k:Int)<(((a.getD []).length:Nat):Int):=by omega
  obtain ⟨y,hy⟩:∃ y,M[k]?=some y:=⟨M[k]'(by omega),List.getElem?_eq_getElem _⟩
  unfold s0_q60
  simp only [c,decide_true,cond_true,kAi hx,kA4,Option.getD_some,kAi hy,kFe,Option.map_some,Int.toNat_natCast]) (fun w=>by
  unfold s0_q60
  simp only [Int.lt_irrefl,decide_false,cond_false])
 unfold t_q60
 rw [kH2 _ hl,kA4,lp,kA4]
theorem toEdgeS_ok (a:Sl Edg) (hl:(a.getD []).length≤4294967296):t_q62 a=some (some ((a.getD []).map (fun x:Edg=>x))):=by
 have lp:=mapLoop (⟨0,0,⟨#[]⟩,0⟩:Edg) (fun x:Edg=>x) (a.getD []) hl (s0_q62 a) (fun M k x hM hx=>by
  have hk:=kCv hx
  have c:(k:Int)<(((a.getD []).length:Nat):Int):=by omega
  obtain ⟨y,hy⟩:∃ y,M[k]?=some y:=⟨M[k]'(by omega),List.getElem?_eq_getElem _⟩
  unfold s0_q62
  simp only [c,decide_true,cond_true,kAi hx,kA4,Option.getD_some,kAi hy,kFe,Option.map_some,Int.toNat_natCast,t_q61]) (fun w=>by
  unfold s0_q62
  simp only [Int.lt_irrefl,decide_false,cond_false])
 unfold t_q62
 rw [kH2 _ hl,kA4,lp,kA4]
theorem eqStringS_ok {a b:Sl ByteArray} (h:a.getD []=b.getD []) (hl:(a.getD []).length≤4294967296):t_q37 a b=some true:=by
 have lp:=eqLoop (step:=s0_q37 a b) (a.getD []).length hl (fun k hk=>by
   have c:(k:Int)<((a.getD []).length:Nat):=by omega
   obtain ⟨x,hx⟩:∃ x,(a.getD [])[k]?=some x:=⟨_,List.getElem?_eq_getElem hk⟩
   unfold s0_q37
   simp only [c,decide_true,cond_true,kAi hx,← h,kA4,Bool.not_true,cond_false])
  (by
   unfold s0_q37
   simp only [Int.lt_irrefl,decide_false,cond_false])
 unfold t_q37
 rw [lp,← h]
 simp
theorem eqEntryS_ok {a b:Sl Entry} (h:a.getD []=b.getD []) (hl:(a.getD []).length≤4294967296):t_q31 a b=some true:=by
 have lp:=eqLoop (step:=s0_q31 a b) (a.getD []).length hl (fun k hk=>by
   have c:(k:Int)<((a.getD []).length:Nat):=by omega
   obtain ⟨x,hx⟩:∃ x,(a.getD [])[k]?=some x:=⟨_,List.getElem?_eq_getElem hk⟩
   unfold s0_q31
   simp only [c,decide_true,cond_true,kAi hx,← h,kA4,Bool.not_true,cond_false,t_q30])
  (by
   unfold s0_q31
   simp only [Int.lt_irrefl,decide_false,cond_false])
 unfold t_q31
 rw [lp,← h]
 simp
theorem eqBigramS_ok {a b:Sl Bigram} (h:a.getD []=b.getD []) (hl:(a.getD []).length≤4294967296):t_q27 a b=some true:=by
 have lp:=eqLoop (step:=s0_q27 a b) (a.getD []).length hl (fun k hk=>by
   have c:(k:Int)<((a.getD []).length:Nat):=by omega
   obtain ⟨x,hx⟩:∃ x,(a.getD [])[k]?=some x:=⟨_,List.getElem?_eq_getElem hk⟩
   unfold s0_q27
   simp only [c,decide_true,cond_true,kAi hx,← h,kA4,Bool.not_true,cond_false])
  (by
   unfold s0_q27
   simp only [Int.lt_irrefl,decide_false,cond_false])
 unfold t_q27
 rw [lp,← h]
 simp
theorem eqEdgeS_ok {a b:Sl Edg} (h:a.getD []=b.getD []) (hl:(a.getD []).length≤4294967296):t_q29 a b=some true:=by
 have lp:=eqLoop (step:=s0_q29 a b) (a.getD []).length hl (fun k hk=>by
   have c:(k:Int)<((a.getD []).length:Nat):=by omega
   obtain ⟨x,hx⟩:∃ x,(a.getD [])[k]?=some x:=⟨_,List.getElem?_eq_getElem hk⟩
   unfold s0_q29
   simp only [c,decide_true,cond_true,kAi hx,← h,kA4,Bool.not_true,cond_false,t_q28])
  (by
   unfold s0_q29
   simp only [Int.lt_irrefl,decide_false,cond_false])
 unfold t_q29
 rw [lp,← h]
 simp
def szStr (s:ByteArray) (k:Int):Option Int:=bif decide (wr (k - (s.size:Int))<0) then some (-1) else some (wr (k - (s.size:Int)))
theorem szStr_ok {s:ByteArray} (h:s.size≤maxLen):SzOK szStr (fun s=>s.size) s:=fun k h0 h1=>by
 unfold szStr
 rw [sz_str h h1 h0]
 by_cases c:k - (s.size:Int)<0
 ·left
  rw [decide_eq_true c,cond_true]
 ·right
  rw [decide_eq_false c,cond_false]
  exact ⟨by show (s.size:Int)≤k;omega,rfl⟩
theorem szEntry_ok {e:Entry} (h:e.word.size≤maxLen):SzOK t_q53 (fun e=>e.word.size) e:=fun k h0 h1=>szStr_ok h k h0 h1
theorem szEdge_ok {e:Edg} (h:e.label.size≤maxLen):SzOK t_q51 (fun e=>e.label.size) e:=fun k h0 h1=>szStr_ok h k h0 h1
theorem szBigram_ok {e:Bigram} (h:e.first.size≤maxLen) (h2:e.second.size≤maxLen):SzOK t_q49 (fun e=>e.first.size+e.second.size) e:=fun k h0 h1=>by
 unfold t_q49
 rw [sz_str h h1 h0]
 by_cases c:k - (e.first.size:Int)<0
 ·left
  rw [decide_eq_true c,cond_true]
 ·rw [decide_eq_false c,cond_false,sz_str h2 (by omega) (by omega)]
  by_cases c2:k - (e.first.size:Int) - (e.second.size:Int)<0
  ·left
   rw [decide_eq_true c2,cond_true]
  ·right
   rw [decide_eq_false c2,cond_false]
   exact ⟨by show ((e.first.size+e.second.size:Nat):Int)≤k;omega,congrArg some (by show k - (e.first.size:Int) - (e.second.size:Int)=k - ((e.first.size+e.second.size:Nat):Int);omega)⟩
theorem szEntryS_ok {s:Sl Entry} (hb:(s.getD []).length≤maxLen) (he:∀ a∈s.getD [],a.word.size≤maxLen):SzOK t_q54 (wtS (fun e=>e.word.size)) s :=
 szS_ok (te:=t_q53) hb (fun a ha=>szEntry_ok (he a ha)) (step:=s0_q54 s) (fun k=>rfl) (fun w i a ha=>by
  have hk:=kCv ha
  have c:(i:Int)<(((s.getD []).length:Nat):Int):=by omega
  unfold s0_q54
  simp only [c,decide_true,cond_true,kAi ha,kA4]) (fun w=>by
  unfold s0_q54
  simp only [Int.lt_irrefl,decide_false,cond_false])
theorem szEdgeS_ok {s:Sl Edg} (hb:(s.getD []).length≤maxLen) (he:∀ a∈s.getD [],a.label.size≤maxLen):SzOK t_q52 (wtS (fun e=>e.label.size)) s :=
 szS_ok (te:=t_q51) hb (fun a ha=>szEdge_ok (he a ha)) (step:=s0_q52 s) (fun k=>rfl) (fun w i a ha=>by
  have hk:=kCv ha
  have c:(i:Int)<(((s.getD []).length:Nat):Int):=by omega
  unfold s0_q52
  simp only [c,decide_true,cond_true,kAi ha,kA4]) (fun w=>by
  unfold s0_q52
  simp only [Int.lt_irrefl,decide_false,cond_false])
theorem szBigramS_ok {s:Sl Bigram} (hb:(s.getD []).length≤maxLen) (he:∀ a∈s.getD [],a.first.size≤maxLen∧a.second.size≤maxLen):SzOK t_q50 (wtS (fun e=>e.first.size+e.second.size)) s :=
 szS_ok (te:=t_q49) hb (fun a ha=>szBigram_ok (he a ha).1 (he a ha).2) (step:=s0_q50 s) (fun k=>rfl) (fun w i a ha=>by
  have hk:=kCv ha
  have c:(i:Int)<(((s.getD []).length:Nat):Int):=by omega
  unfold s0_q50
  simp only [c,decide_true,cond_true,kAi ha,kA4]) (fun w=>by
  unfold s0_q50
  simp only [Int.lt_irrefl,decide_false,cond_false])
theorem sz_wrap {A B:Type} {t:B→Int→Option Int} {wt:B→Nat} {f:A→B} {a:A} (h:SzOK t wt (f a)) {t':A→Int→Option Int} (ht:∀ k,t' a k=kA0 (t (f a) k) fun c=>bif decide (c<0) then some (-1) else some c):SzOK t' (fun a=>wt (f a)) a:=fun k h0 h1=>by
 rw [ht]
 rcases h k h0 h1 with e | ⟨h2,e⟩
 ·left
  rw [e]
  rfl
 ·right
  rw [e,kA4,decide_eq_false (show ¬ k - ((wt (f a):Nat):Int)<0 by omega)]
  exact ⟨h2,rfl⟩
def wtLat (l:Lattice):Nat:=wtS (fun e:Edg=>e.label.size) l.edges
theorem szLattice_ok {l:Lattice} (hb:(l.edges.getD []).length≤maxLen) (he:∀ a∈l.edges.getD [],a.label.size≤maxLen):SzOK t_q55 wtLat l:=sz_wrap (f:=Lattice.edges) (szEdgeS_ok hb he) fun k=>rfl
def wtLex (l:Lexicon):Nat:=wtS (fun e:Entry=>e.word.size) l.entries
theorem szLexicon_ok {l:Lexicon} (hb:(l.entries.getD []).length≤maxLen) (he:∀ a∈l.entries.getD [],a.word.size≤maxLen):SzOK t_q57 wtLex l:=sz_wrap (f:=Lexicon.entries) (szEntryS_ok hb he) fun k=>rfl
def wtMod (l:Model):Nat:=wtS (fun e:Bigram=>e.first.size+e.second.size) l.bigrams
theorem szModel_ok {l:Model} (hb:(l.bigrams.getD []).length≤maxLen) (he:∀ a∈l.bigrams.getD [],a.first.size≤maxLen∧a.second.size≤maxLen):SzOK t_q58 wtMod l:=sz_wrap (f:=Model.bigrams) (szBigramS_ok hb he) fun k=>rfl
theorem szLatticeS_ok {s:Sl Lattice} (hb:(s.getD []).length≤maxLen) (he:∀ l∈s.getD [],(l.edges.getD []).length≤maxLen∧∀ a∈l.edges.getD [],a.label.size≤maxLen):SzOK t_q56 (wtS wtLat) s :=
 szS_ok (te:=t_q55) hb (fun a ha=>szLattice_ok (he a ha).1 (he a ha).2) (step:=s0_q56 s) (fun k=>rfl) (fun w i a ha=>by
  have hk:=kCv ha
  have c:(i:Int)<(((s.getD []).length:Nat):Int):=by omega
  unfold s0_q56
  simp only [c,decide_true,cond_true,kAi ha,kA4]) (fun w=>by
  unfold s0_q56
  simp only [Int.lt_irrefl,decide_false,cond_false])
def kEx (l:Lattice):Lattice:=⟨l.nodes,some (l.edges.getD [])⟩
theorem toLattice_ok (l:Lattice) (h:(l.edges.getD []).length≤4294967296):t_q65 l=some (kEx l):=by
 unfold t_q65
 rw [toEdgeS_ok _ h,kA4,List.map_id']
 rfl
theorem toLatticeS_ok (a:Sl Lattice) (hl:(a.getD []).length≤4294967296) (he:∀ l∈a.getD [],(l.edges.getD []).length≤4294967296):t_q66 a=some (some ((a.getD []).map kEx)):=by
 have lp:=mapLoop (⟨0,none⟩:Lattice) kEx (a.getD []) hl (s0_q66 a) (fun M k x hM hx=>by
  have hk:=kCv hx
  have c:(k:Int)<(((a.getD []).length:Nat):Int):=by omega
  obtain ⟨y,hy⟩:∃ y,M[k]?=some y:=⟨M[k]'(by omega),List.getElem?_eq_getElem _⟩
  unfold s0_q66
  simp only [c,decide_true,cond_true,kAi hx,kA4,Option.getD_some,kAi hy,kFe,Option.map_some,Int.toNat_natCast,toLattice_ok x (he x (List.mem_of_getElem? hx))]) (fun w=>by
  unfold s0_q66
  simp only [Int.lt_irrefl,decide_false,cond_false])
 unfold t_q66
 rw [kH2 _ hl,kA4,lp,kA4]
theorem eqLattice_ok (l:Lattice) (h:(l.edges.getD []).length≤4294967296):t_q32 l l=some true:=by
 unfold t_q32
 rw [eqEdgeS_ok rfl h]
 simp
theorem eqLatticeS_ok {a b:Sl Lattice} (h:a.getD []=b.getD []) (hl:(a.getD []).length≤4294967296) (he:∀ l∈a.getD [],(l.edges.getD []).length≤4294967296):t_q33 a b=some true:=by
 have lp:=eqLoop (step:=s0_q33 a b) (a.getD []).length hl (fun k hk=>by
   have c:(k:Int)<((a.getD []).length:Nat):=by omega
   obtain ⟨x,hx⟩:∃ x,(a.getD [])[k]?=some x:=⟨_,List.getElem?_eq_getElem hk⟩
   unfold s0_q33
   simp only [c,decide_true,cond_true,kAi hx,← h,kA4,Bool.not_true,cond_false,eqLattice_ok x (he x (List.mem_of_getElem? hx))])
  (by
   unfold s0_q33
   simp only [Int.lt_irrefl,decide_false,cond_false])
 unfold t_q33
 rw [lp,← h]
 simp
theorem toModel_ok (m:Model) (h:(m.bigrams.getD []).length≤4294967296):t_q68 m=some ⟨m.default,some (m.bigrams.getD [])⟩:=by
 unfold t_q68
 rw [toBigramS_ok _ h,kA4,List.map_id']
theorem toLexicon_ok (m:Lexicon) (h:(m.entries.getD []).length≤4294967296):t_q67 m=some ⟨some (m.entries.getD [])⟩:=by
 unfold t_q67
 rw [toEntryS_ok _ h,kA4,List.map_id']
theorem eqModel_ok (m:Model) (h:(m.bigrams.getD []).length≤4294967296):t_q35 m m=some true:=by
 unfold t_q35
 rw [eqBigramS_ok rfl h]
 simp
theorem eqLexicon_ok (m:Lexicon) (h:(m.entries.getD []).length≤4294967296):t_q34 m m=some true:=by
 unfold t_q34
 rw [eqEntryS_ok rfl h]
 simp
theorem bytesO_some {s:ByteArray} (h:s.size≤4294967296):bytesO s=some (bl s):=by
 unfold bytesO
 rw [if_pos h]
theorem getB_bl {s:ByteArray} {k:Nat} {b:UInt8} (h:(bl s)[k]?=some b):getB s (k:Int)=some b:=kAi h
def fLow (_:Nat) (b:UInt8):Option Bool:=bif !kFh b then some false else none
theorem fLow_all:∀ (l:List UInt8) (k:Nat),kEu fLow l k=bif l.all kFh then none else some false
 | [],_=>rfl
 | b::l,k=>by
  unfold kEu fLow
  rw [List.all_cons]
  cases e:kFh b with
  | false=>rfl
  | true =>
   have:=fLow_all l (k+1)
   unfold fLow at this
   simpa using this
theorem kJ5 {s:ByteArray} (h:s.size≤4294967296):t_q7 s=some (kG7 s):=by
 have hl:(bl s).length≤4294967296:=by rw [bl_len];exact h
 have lp:=kFv (step:=s0_q7 (bl s)) (bl s) fLow (.inl ()) .inr
  (fun k a ha=>by
   have hk:=kCv ha
   have c:(k:Int)<(((bl s).length:Nat):Int):=by omega
   unfold s0_q7 fLow
   simp only [Option.getD_some,c,decide_true,cond_true,kAi ha,kA4,kBw hk hl]
   cases kFh a <;> rfl)
  (by
   unfold s0_q7
   simp only [Option.getD_some,Int.lt_irrefl,decide_false,cond_false])
 rw [fLow_all] at lp
 unfold t_q7 kG7
 rw [bytesO_some h,kA4,lp]
 have d1:decide (1≤(s.size:Int))=decide (1≤s.size):=decide_eq_decide.2 (by omega)
 have d2:decide ((s.size:Int)≤10)=decide (s.size≤10):=decide_eq_decide.2 (by omega)
 rw [d1,d2]
 cases (bl s).all kFh with
 | false=>rfl
 | true=>cases decide (1≤s.size) <;> rfl
theorem kIw {s:ByteArray} (h:s.size≤4294967296):t_q74 s=some (kG7 s):=by
 have hl:(bl s).length≤4294967296:=by rw [bl_len];exact h
 have lp:=kFv (step:=s0_q74 s) (bl s) fLow (.inl ()) .inr
  (fun k a ha=>by
   have hk:=kCv ha
   have c:(k:Int)<(s.size:Int):=by rw [bl_len] at hk;omega
   unfold s0_q74 fLow
   simp only [c,decide_true,cond_true,getB_bl ha,kA4,kBw hk hl]
   cases kFh a <;> rfl)
  (by
   unfold s0_q74
   rw [bl_len]
   simp only [Int.lt_irrefl,decide_false,cond_false])
 rw [fLow_all] at lp
 unfold t_q74 kG7
 rw [lp]
 have d1:kBb (s.size:Int) 1 10=(decide (1≤s.size) && decide (s.size≤10)):=by
  unfold kBb
  congr 1 <;> exact decide_eq_decide.2 (by omega)
 rw [d1]
 cases (bl s).all kFh with
 | false=>rfl
 | true=>rfl
def fAdj {A:Type} (ok:A→Bool) (lt:A→A→Bool) (l:List A) (k:Nat) (a:A):Option Bool :=
 bif ok a && (decide (k=0) || (match l[k - 1]? with | some b=>lt b a | none=>true)) then none else some false
def adj {A:Type} (ok:A→Bool) (lt:A→A→Bool) (l:List A):Bool:=match kEu (fAdj ok lt l) l 0 with
 | none=>true
 | some r=>r
theorem firstL_false {A:Type} {f:Nat→A→Option Bool} (hf:∀ k a r,f k a=some r→r=false) {l:List A} {k:Nat} {r:Bool} (h:kEu f l k=some r):r=false:=by
 obtain ⟨i,a,e⟩:=firstL_so h
 exact hf _ _ _ e
theorem fAdj_false {A:Type} {ok:A→Bool} {lt:A→A→Bool} {l:List A} {k:Nat} {a:A} {r:Bool} (h:fAdj ok lt l k a=some r):r=false:=by
 unfold fAdj at h
 split at h <;> (cases h':(ok a && _) <;> rw [h'] at h <;> cases h;rfl)
theorem adjLoop {A:Type} (ok:A→Bool) (lt:A→A→Bool) (l:List A) (hl:l.length≤4294967296) {step:Int→Option (Sum Int (Sum Unit Bool))}
  (next:∀ (k:Nat) a,l[k]?=some a→(∀ b,0<k→l[k - 1]?=some b→True)→step (k:Int)=some (bif ok a && (decide (k=0) || (match l[k - 1]? with | some b=>lt b a | none=>true)) then .inl (wr ((k:Int)+1)) else .inr (.inr false)))
  (fin:step ((l.length:Nat):Int)=some (.inr (.inl ()))):kBg step 0=some (bif adj ok lt l then .inl () else .inr false):=by
 have lp:=kFv (step:=step) l (fAdj ok lt l) (.inl ()) .inr
  (fun k a ha=>by
   have hk:=kCv ha
   have e:=next k a ha fun _ _ _=>trivial
   rw [kBw hk hl] at e
   rw [e]
   unfold fAdj
   cases (ok a && (decide (k=0) || (match l[k - 1]? with | some b=>lt b a | none=>true))) <;> rfl) fin
 rw [lp]
 unfold adj
 cases e:kEu (fAdj ok lt l) l 0 with
 | none=>rfl
 | some r =>
  have:=firstL_false (fun k a r=>fAdj_false) e
  subst this
  rfl
theorem kJm {A:Type} {ok:A→Bool} {lt:A→A→Bool} {l:List A} (h:adj ok lt l=true):(∀ a∈l,ok a=true)∧∀ (k:Nat) a b,l[k]?=some a→l[k+1]?=some b→lt a b=true:=by
 have hn:kEu (fAdj ok lt l) l 0=none:=by
  unfold adj at h
  cases e:kEu (fAdj ok lt l) l 0 with
  | none=>rfl
  | some r =>
   rw [e] at h
   have:=firstL_false (fun k a r=>fAdj_false) e
   subst this
   cases h
 have key:=firstL_no hn
 have k2:∀ (i:Nat) a,l[i]?=some a→(ok a && (decide (i=0) || (match l[i - 1]? with | some b=>lt b a | none=>true)))=true:=fun i a ha=>by
  have:=key i a ha
  rw [Nat.zero_add] at this
  unfold fAdj at this
  cases e:(ok a && (decide (i=0) || (match l[i - 1]? with | some b=>lt b a | none=>true))) with
  | true=>rfl
  | false=>rw [e] at this;cases this
 refine ⟨fun a ha => ?_,fun k a b ha hb => ?_⟩
 ·obtain ⟨i,hi⟩:=List.mem_iff_getElem?.1 ha
  have:=k2 i a hi
  rw [Bool.and_eq_true] at this
  exact this.1
 ·have:=k2 (k+1) b hb
  rw [Nat.add_sub_cancel,ha] at this
  simp at this
  exact this.2
theorem adj_lt {A:Type} {ok:A→Bool} {lt:A→A→Bool} (ht:∀ a b c,lt a b=true→lt b c=true→lt a c=true) {l:List A} (h:adj ok lt l=true):∀ (d i:Nat) a b,l[i]?=some a→l[i+d+1]?=some b→lt a b=true
 | 0,i,a,b,ha,hb=>(kJm h).2 i a b ha hb
 | d+1,i,a,b,ha,hb=>by
  have hlt:=(List.getElem?_eq_some_iff.1 hb).1
  obtain ⟨c,hc⟩:∃ c,l[i+d+1]?=some c:=⟨_,List.getElem?_eq_getElem (by omega)⟩
  exact ht a c b (adj_lt ht h d i a c ha hc) ((kJm h).2 (i+d+1) c b hc hb)
end Go.Proofs.YtccoloclaocinaaGreat
