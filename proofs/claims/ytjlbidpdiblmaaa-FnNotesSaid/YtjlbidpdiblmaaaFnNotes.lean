import Derived.Test.YtjlbidpdiblmaaaFnNotesPartC
import Derived.Test.YtjlbidpdiblmaaaRows
namespace Go.Proofs.Ytjlbidpdiblmaaa
open Go Go.Eng Go.Eng.Cod
set_option maxRecDepth 100000
set_option linter.unusedVariables false
set_option linter.unusedSimpArgs false
theorem ts_q0 (env:Nat→Contract) (he_q1:env n_q1=.pure (C1 (fun c:Bool=>enc c) t_q1)) (he_q3:env n_q3=.pure (C1 (fun c:Bool=>enc c) t_q3)) (he_q4:env n_q4=.pure (C1 (fun c:File=>AV.agg [rS c.channels,rT c.strokes,rS c.notes]) t_q4)) (he_q8:env n_q8=.pure (C2 (fun c:Bool=>enc c) t_q8)) (f_:File) (n_:Note):Sim (kAf Try.prog env n_q0 [AV.agg [Sl.enc f_.channels,Sl.enc f_.strokes,Sl.enc f_.notes],AV.agg [iv n_.frm,iv n_.upto,sv n_.text]] []) (t_q0 f_ n_) fun c p=>release p.2 depth p.1=some ((fun c:File×Int=>AV.tup [AV.agg [rS c.1.channels,rT c.1.strokes,rS c.1.notes],enc c.2]) c):=by
 have O:=Hold.nil []
 generalize hB:(⟨[],[]⟩:Base)=B at O
 clear hB
 rw [e_q0]
 unfold t_q0
 refine kBt O (cs:=[Sl.enc f_.channels,Sl.enc f_.strokes,Sl.enc f_.notes]) (by first | rfl | simp) (fun o1 h2 O3 => ?_)
 replace O3:Hold B h2 [pZ9 o1 3 [Sl.enc f_.channels,Sl.enc f_.strokes,Sl.enc f_.notes]]:=O3
 refine kBt O3 (cs:=[iv n_.frm,iv n_.upto,sv n_.text]) (by first | rfl | simp) (fun o5 h6 O7 => ?_)
 replace O7:Hold B h6 [pZ9 o1 3 [Sl.enc f_.channels,Sl.enc f_.strokes,Sl.enc f_.notes],pZ9 o5 3 [iv n_.frm,iv n_.upto,sv n_.text]]:=O7
 refine kBt O7 (cs:=[kA3,kA3,kA3]) (by first | rfl | simp) (fun o9 h10 O11 => ?_)
 replace O11:Hold B h10 [pZ9 o1 3 [Sl.enc f_.channels,Sl.enc f_.strokes,Sl.enc f_.notes],pZ9 o5 3 [iv n_.frm,iv n_.upto,sv n_.text],pZ9 o9 3 [kA3,kA3,kA3]]:=O11
 refine kA1 (v:=AV.agg [Sl.enc f_.channels,Sl.enc f_.strokes,Sl.enc f_.notes]) (O11.ld 0 rfl true 3 0) ?_
 refine kCx he_q3 (kDw _ f_ rfl) (fun c13 => ?_)
 refine kBr (kAh (by rfl) _ _) ?_
 refine kA1 (v:=bv (!c13)) (kC3 _) ?_
 refine kAa (fun c14 => ?_) (fun c14 => ?_)
 ·refine kA1 (v:=AV.agg [kA3,kA3,kA3]) (by first | rfl | simp [kBs,kEq,kAo]) ?_
  refine kAj O11 2 (cs':=[kA3,kA3,kA3]) rfl (by first | rfl | simp) (by simp) (by first | rfl | simp) (by first | rfl | simp [kAo]) (fun h15 O16 => ?_)
  replace O16:Hold B h15 [pZ9 o1 3 [Sl.enc f_.channels,Sl.enc f_.strokes,Sl.enc f_.notes],pZ9 o5 3 [iv n_.frm,iv n_.upto,sv n_.text],pZ9 o9 3 [kA3,kA3,kA3]]:=O16
  refine kDx (kG1 (v:=AV.agg [kA3,kA3,kA3]) (O16.ld 2 rfl true 3 0) (resL_v (v:=iv 1) (kDy _))) ?_
  dsimp only [pack]
  exact kA6 (kA8 (by rfl) _)
 ·refine kA1 (v:=AV.agg [Sl.enc f_.channels,Sl.enc f_.strokes,Sl.enc f_.notes]) (O11.ld 0 rfl true 3 0) ?_
  refine kA1 (v:=AV.agg [iv n_.frm,iv n_.upto,sv n_.text]) (O11.ld 1 rfl true 3 0) ?_
  refine kCv he_q8 (kDw _ f_ rfl) (kDw _ n_ rfl) (fun c17 => ?_)
  refine kBr (kAh (by rfl) _ _) ?_
  refine kA1 (v:=bv (!c17)) (kC3 _) ?_
  refine kAa (fun c18 => ?_) (fun c18 => ?_)
  ·refine kA1 (v:=AV.agg [kA3,kA3,kA3]) (by first | rfl | simp [kBs,kEq,kAo]) ?_
   refine kAj O11 2 (cs':=[kA3,kA3,kA3]) rfl (by first | rfl | simp) (by simp) (by first | rfl | simp) (by first | rfl | simp [kAo]) (fun h19 O20 => ?_)
   replace O20:Hold B h19 [pZ9 o1 3 [Sl.enc f_.channels,Sl.enc f_.strokes,Sl.enc f_.notes],pZ9 o5 3 [iv n_.frm,iv n_.upto,sv n_.text],pZ9 o9 3 [kA3,kA3,kA3]]:=O20
   refine kDx (kG1 (v:=AV.agg [kA3,kA3,kA3]) (O20.ld 2 rfl true 3 0) (resL_v (v:=iv 2) (kDy _))) ?_
   dsimp only [pack]
   exact kA6 (kA8 (by rfl) _)
  ·refine kA1 (v:=AV.ptr o5 1 0 2) rfl ?_
   refine kA1 (v:=sv n_.text) (O11.ld 1 rfl false 1 2) ?_
   refine kCx he_q1 (kDu _ _) (fun c21 => ?_)
   refine kBr (kAh (by rfl) _ _) ?_
   refine kA1 (v:=bv (!c21)) (kC3 _) ?_
   refine kAa (fun c22 => ?_) (fun c22 => ?_)
   ·refine kA1 (v:=AV.agg [kA3,kA3,kA3]) (by first | rfl | simp [kBs,kEq,kAo]) ?_
    refine kAj O11 2 (cs':=[kA3,kA3,kA3]) rfl (by first | rfl | simp) (by simp) (by first | rfl | simp) (by first | rfl | simp [kAo]) (fun h23 O24 => ?_)
    replace O24:Hold B h23 [pZ9 o1 3 [Sl.enc f_.channels,Sl.enc f_.strokes,Sl.enc f_.notes],pZ9 o5 3 [iv n_.frm,iv n_.upto,sv n_.text],pZ9 o9 3 [kA3,kA3,kA3]]:=O24
    refine kDx (kG1 (v:=AV.agg [kA3,kA3,kA3]) (O24.ld 2 rfl true 3 0) (resL_v (v:=iv 7) (kDy _))) ?_
    dsimp only [pack]
    exact kA6 (kA8 (by rfl) _)
   ·refine kA1 (v:=AV.ptr o1 1 0 2) rfl ?_
    refine kA1 (v:=Sl.enc f_.notes) (O11.ld 0 rfl false 1 2) ?_
    refine kA1 (Tab.enc h10 f_.notes).len ?_
    refine kA1 (kF6 _ _) ?_
    refine kAa (fun c25 => ?_) (fun c25 => ?_)
    ·refine kA1 (v:=AV.agg [kA3,kA3,kA3]) (by first | rfl | simp [kBs,kEq,kAo]) ?_
     refine kAj O11 2 (cs':=[kA3,kA3,kA3]) rfl (by first | rfl | simp) (by simp) (by first | rfl | simp) (by first | rfl | simp [kAo]) (fun h26 O27 => ?_)
     replace O27:Hold B h26 [pZ9 o1 3 [Sl.enc f_.channels,Sl.enc f_.strokes,Sl.enc f_.notes],pZ9 o5 3 [iv n_.frm,iv n_.upto,sv n_.text],pZ9 o9 3 [kA3,kA3,kA3]]:=O27
     refine kDx (kG1 (v:=AV.agg [kA3,kA3,kA3]) (O27.ld 2 rfl true 3 0) (resL_v (v:=iv 5) (kDy _))) ?_
     dsimp only [pack]
     exact kA6 (kA8 (by rfl) _)
    ·refine kA1 (v:=AV.agg [Sl.enc f_.channels,Sl.enc f_.strokes,Sl.enc f_.notes]) (O11.ld 0 rfl true 3 0) ?_
     refine kCx he_q4 (kDw _ f_ rfl) (fun c28 => ?_)
     refine sim_handF1 O11 c28 (fun x29 x30 x31 B h32 hT34 O33 => ?_)
     replace O33:Hold B h32 [pZ9 o1 3 [Sl.enc f_.channels,Sl.enc f_.strokes,Sl.enc f_.notes],pZ9 o5 3 [iv n_.frm,iv n_.upto,sv n_.text],pZ9 o9 3 [kA3,kA3,kA3],(x29,obS (c28.channels:Sl Channel)),(x31,obS (c28.notes:Sl Note))]:=O33
     have hR35:RdT B x30 c28.strokes:=kAy hT34
     refine kBt O33 (cs:=[kA3,kA3,kA3]) (by first | rfl | simp) (fun o39 h40 O41 => ?_)
     replace O41:Hold B h40 [pZ9 o1 3 [Sl.enc f_.channels,Sl.enc f_.strokes,Sl.enc f_.notes],pZ9 o5 3 [iv n_.frm,iv n_.upto,sv n_.text],pZ9 o9 3 [kA3,kA3,kA3],(x29,obS (c28.channels:Sl Channel)),(x31,obS (c28.notes:Sl Note)),pZ9 o39 3 [kA3,kA3,kA3]]:=O41
     have jZ0:=O41.one (A:=Channel) (s:=c28.channels) 3 rfl
     have jZ1:=O41.one (A:=Note) (s:=c28.notes) 4 rfl
     refine kAj O41 5 (cs':=[x29,x30,x31]) rfl (by first | rfl | simp [(hR35.one O41).1,(hR35.one O41).2,jZ0.1,jZ0.2,jZ1.1,jZ1.2]) (by simp) (by first | rfl | simp [(hR35.one O41).1,(hR35.one O41).2,jZ0.1,jZ0.2,jZ1.1,jZ1.2]) (by first | rfl | simp [kAo,(hR35.one O41).1,(hR35.one O41).2,jZ0.1,jZ0.2,jZ1.1,jZ1.2]) (fun h43 O44 => ?_)
     replace O44:Hold B h43 [pZ9 o1 3 [Sl.enc f_.channels,Sl.enc f_.strokes,Sl.enc f_.notes],pZ9 o5 3 [iv n_.frm,iv n_.upto,sv n_.text],pZ9 o9 3 [kA3,kA3,kA3],(x29,obS (c28.channels:Sl Channel)),(x31,obS (c28.notes:Sl Note)),pZ9 o39 3 [x29,x30,x31]]:=O44
     refine kA1 (v:=AV.ptr o39 1 0 2) rfl ?_
     refine kA1 (v:=x31) (O44.ld 5 rfl false 1 2) ?_
     refine kA1 (v:=AV.agg [iv n_.frm,iv n_.upto,sv n_.text]) (O44.ld 1 rfl true 3 0) ?_
     refine kB7 (A:=Note) O44 ([n_]:List Note) rfl (by first | rfl | simp [kAk,kBz]) rfl (fun x45 h46 O47 => ?_)
     replace O47:Hold B h46 [pZ9 o1 3 [Sl.enc f_.channels,Sl.enc f_.strokes,Sl.enc f_.notes],pZ9 o5 3 [iv n_.frm,iv n_.upto,sv n_.text],pZ9 o9 3 [kA3,kA3,kA3],(x29,obS (c28.channels:Sl Channel)),(x31,obS (c28.notes:Sl Note)),pZ9 o39 3 [x29,x30,x31],(x45,obS ((some ([n_]:List Note)):Sl Note))]:=O47
     refine kBw (A:=Note) (s:=c28.notes) O47 4 ([n_]:List Note) rfl (O47.src (A:=Note) (s:=(some ([n_]:List Note))) 6 rfl) (by decide) (fun x50 h51 O52 => ?_)
     replace O52:Hold B h51 [pZ9 o1 3 [Sl.enc f_.channels,Sl.enc f_.strokes,Sl.enc f_.notes],pZ9 o5 3 [iv n_.frm,iv n_.upto,sv n_.text],pZ9 o9 3 [kA3,kA3,kA3],(x29,obS (c28.channels:Sl Channel)),(x50,obS ((kB3 c28.notes ([n_]:List Note)):Sl Note)),pZ9 o39 3 [x29,x30,x31],(x45,obS ((some ([n_]:List Note)):Sl Note))]:=O52
     have O54:Hold B h51 [pZ9 o1 3 [Sl.enc f_.channels,Sl.enc f_.strokes,Sl.enc f_.notes],pZ9 o5 3 [iv n_.frm,iv n_.upto,sv n_.text],pZ9 o9 3 [kA3,kA3,kA3],(x29,obS (c28.channels:Sl Channel)),(x50,obS ((kB3 c28.notes ([n_]:List Note)):Sl Note)),pZ9 o39 3 [x29,x30,x31]]:=O52.sel [0,1,2,3,4,5] (by decide) rfl
     refine kA1 (v:=AV.ptr o39 1 0 2) rfl ?_
     have jZ0:=O54.one (A:=Note) (s:=(kB3 c28.notes ([n_]:List Note))) 4 rfl
     refine kAj O54 5 (cs':=[x29,x30,x50]) rfl (by first | rfl | simp [jZ0.1,jZ0.2]) (by simp) (by first | rfl | simp [jZ0.1,jZ0.2]) (by first | rfl | simp [kAo,jZ0.1,jZ0.2]) (fun h55 O56 => ?_)
     replace O56:Hold B h55 [pZ9 o1 3 [Sl.enc f_.channels,Sl.enc f_.strokes,Sl.enc f_.notes],pZ9 o5 3 [iv n_.frm,iv n_.upto,sv n_.text],pZ9 o9 3 [kA3,kA3,kA3],(x29,obS (c28.channels:Sl Channel)),(x50,obS ((kB3 c28.notes ([n_]:List Note)):Sl Note)),pZ9 o39 3 [x29,x30,x50]]:=O56
     refine kA1 (v:=AV.agg [x29,x30,x50]) (O56.ld 5 rfl true 3 0) ?_
     have jZ0:=O56.one (A:=Note) (s:=(kB3 c28.notes ([n_]:List Note))) 4 rfl
     have jZ1:=O56.one (A:=Channel) (s:=c28.channels) 3 rfl
     refine kAj O56 2 (cs':=[x29,x30,x50]) rfl (by first | rfl | simp [(hR35.one O56).1,(hR35.one O56).2,jZ1.1,jZ1.2,jZ0.1,jZ0.2]) (by simp) (by first | rfl | simp [(hR35.one O56).1,(hR35.one O56).2,jZ1.1,jZ1.2,jZ0.1,jZ0.2]) (by first | rfl | simp [kAo,(hR35.one O56).1,(hR35.one O56).2,jZ1.1,jZ1.2,jZ0.1,jZ0.2]) (fun h57 O58 => ?_)
     replace O58:Hold B h57 [pZ9 o1 3 [Sl.enc f_.channels,Sl.enc f_.strokes,Sl.enc f_.notes],pZ9 o5 3 [iv n_.frm,iv n_.upto,sv n_.text],pZ9 o9 3 [x29,x30,x50],(x29,obS (c28.channels:Sl Channel)),(x50,obS ((kB3 c28.notes ([n_]:List Note)):Sl Note)),pZ9 o39 3 [x29,x30,x50]]:=O58
     refine kDx (kG1 (v:=AV.agg [x29,x30,x50]) (O58.ld 2 rfl true 3 0) (resL_v (v:=iv 0) (kDy _))) ?_
     dsimp only [pack]
     have O59:Hold B h57 [(x29,obS (c28.channels:Sl Channel)),(x50,obS ((kB3 c28.notes ([n_]:List Note)):Sl Note))]:=O58.sel [3,4] (by decide) rfl
     exact kA6 (releaseFT (c:=(⟨c28.channels,c28.strokes,(kB3 c28.notes ([n_]:List Note))⟩:File)) hT34 O59)
theorem tt_q0:kB6 Try.prog n_q0 (C2 (fun c:File×Int=>AV.tup [AV.agg [rS c.1.channels,rT c.1.strokes,rS c.1.notes],enc c.2]) t_q0):=kFk (kCl tt_q1 (kCl tt_q3 (kCl tt_q4 (kCl tt_q8 E0)))) kCm hb_q0 fun f_ n_=>ts_q0 _ (by simp [kD7]) (by simp [kD7]) (by simp [kD7]) (by simp [kD7]) f_ n_
def s0_q12 (c3:File) (c20:Int) (c21:Int) (c22:File×Int):Int→Option (Sum Int (Sum Unit Bool)):=fun w46 =>
 bif decide (w46<(((c3.strokes.getD []).length:Nat):Int)) then
  kA0 (t_q21 c3 w46) fun c66 =>
  kA0 (t_q2 c22.1 w46) fun c71 =>
  kA0 (bif decide (c20≤w46) then (some (decide (w46<(wr (c20+c21))))) else some false) fun c77 =>
  bif (bif decide (c20≤w46) then c77 else false) then
   kA0 (bif !decide (c66.2=0) then some false else (some (!decide (c71.2=0)))) fun c80 =>
   kA0 (bif (bif !decide (c66.2=0) then true else c80) then some false else (some (!decide ((((c71.1.getD []).length:Nat):Int)=wr ((((c66.1.getD []).length:Nat):Int)+1))))) fun c82 =>
   kA0 (bif (bif (bif !decide (c66.2=0) then true else c80) then true else c82) then some false else (some (decide ((((c66.1.getD []).length:Nat):Int)<(wr ((((c66.1.getD []).length:Nat):Int)+1)))))) fun c84 =>
   kA0 (bif (!(bif (bif !decide (c66.2=0) then true else c80) then true else c82) && c84) then (kA0 (kF8 (c71.1.getD []) (wr ((wr ((((c66.1.getD []).length:Nat):Int)+1)) - 1))) fun a86=>some (!decide (a86=(⟨#[109,97,114,107]⟩:ByteArray)))) else some false) fun c90 =>
   kA0 (bif (bif (bif !decide (c66.2=0) then true else c80) then true else c82) then some false else (some (bif c84 then c90 else false))) fun c92 =>
   bif (bif (bif (bif !decide (c66.2=0) then true else c80) then true else c82) then true else c92) then
    some (.inr (.inr false))
   else
    some (.inl (wr (w46+1)))
  else
   kA0 (bif !decide (c66.2=0) then some false else (some (!decide (c71.2=0)))) fun c97 =>
   kA0 (bif (bif !decide (c66.2=0) then true else c97) then some false else (some (!decide ((((c71.1.getD []).length:Nat):Int)=(((c66.1.getD []).length:Nat):Int))))) fun c99 =>
   kA0 (bif (bif (bif !decide (c66.2=0) then true else c97) then true else c99) then some false else (some (decide ((((c66.1.getD []).length:Nat):Int)<(((c66.1.getD []).length:Nat):Int))))) fun c101 =>
   kA0 (bif (!(bif (bif !decide (c66.2=0) then true else c97) then true else c99) && c101) then (kA0 (kF8 (c71.1.getD []) (wr ((((c66.1.getD []).length:Nat):Int) - 1))) fun a103=>some (!decide (a103=(⟨#[109,97,114,107]⟩:ByteArray)))) else some false) fun c107 =>
   kA0 (bif (bif (bif !decide (c66.2=0) then true else c97) then true else c99) then some false else (some (bif c101 then c107 else false))) fun c109 =>
   bif (bif (bif (bif !decide (c66.2=0) then true else c97) then true else c99) then true else c109) then
    some (.inr (.inr false))
   else
    some (.inl (wr (w46+1)))
 else
  some (.inr (.inl ()))
def t_q12 (code_:Sl UInt8) (more_:Sl UInt8):Option Bool :=
 kA0 (t_q14 code_ more_) fun c1 =>
 bif c1 then
  some true
 else
  kA0 (t_q19 code_) fun c3 =>
  kA0 (t_q13 more_ 0 (wr ((((c3.strokes.getD []).length:Nat):Int)+1))) fun c20 =>
  kA0 (t_q13 more_ 1 4) fun c21 =>
  kA0 (t_q0 c3 (⟨c20,wr (c20+c21),(⟨#[109,97,114,107]⟩:ByteArray)⟩:Note)) fun c22 =>
  kA0 (bif decide ((wr (c20+c21))≤c20) then some false else (some (decide ((((c3.strokes.getD []).length:Nat):Int)<(wr (c20+c21)))))) fun c41 =>
  bif (bif decide ((wr (c20+c21))≤c20) then true else c41) then
   some (decide (c22.2=2))
  else
   bif !decide (c22.2=0) then
    some (decide (c22.2=5))
   else
    kA0 (kBo (s0_q12 c3 c20 c21 c22) 0) fun qq115=>match qq115 with
    | (.inl _) =>
      some true
    | (.inr q58) =>
      some q58
theorem tl0_q12 (env:Nat→Contract) {B:Base} (he_q0:env n_q0=.pure (C2 (fun c:File×Int=>AV.tup [AV.agg [rS c.1.channels,rT c.1.strokes,rS c.1.notes],enc c.2]) t_q0)) (he_q2:env n_q2=.pure (C2 (fun c:(Sl ByteArray)×Int=>AV.tup [rS c.1,enc c.2]) t_q2)) (he_q13:env n_q13=.pure (C3 (fun c:Int=>enc c) t_q13)) (he_q14:env n_q14=.pure (C2 (fun c:Bool=>enc c) t_q14)) (he_q19:env n_q19=.pure (C1 (fun c:File=>AV.agg [rS c.channels,rT c.strokes,rS c.notes]) t_q19)) (he_q21:env n_q21=.pure (C2 (fun c:(Sl ByteArray)×Int=>AV.tup [rS c.1,enc c.2]) t_q21)) (code_:Sl UInt8) (more_:Sl UInt8) (c1:Bool) (c3:File) (x4:AV) (x5:AV) (x6:AV) (o14:Nat) (c20:Int) (c21:Int) (c22:File×Int) (x23:AV) (x24:AV) (x25:AV) (hR29:RdT B x24 c22.1.strokes) (hR32:RdT B x5 c3.strokes) (o34:Nat) (c41:Bool) :kGr (fun (st:Int) tm h44=>match st with | w46=>tm=((Sl.enc code_)::(Sl.enc more_)::und::und::.top::(AV.ptr o14 1 0 0)::(iv (((c3.strokes.getD []).length:Nat):Int))::(iv c20)::(iv (wr (c20+c21)))::(AV.ptr o34 1 0 0)::(iv c22.2)::(iv w46)::tZ9 5 ((Sl.enc code_)::(Sl.enc more_)::(bv c1)::(Sl.enc code_)::(AV.agg [x4,x5,x6])::(AV.ptr o14 1 0 1)::x5::(iv (((c3.strokes.getD []).length:Nat):Int))::(Sl.enc more_)::(iv (((c3.strokes.getD []).length:Nat):Int))::(iv (wr ((((c3.strokes.getD []).length:Nat):Int)+1)))::(iv c20)::(iv c20)::(Sl.enc more_)::(iv c21)::(iv (wr (c20+c21)))::(AV.tup [AV.agg [x23,x24,x25],iv c22.2])::(AV.agg [x4,x5,x6])::(iv c20)::(iv (wr (c20+c21)))::(AV.agg [iv c20,iv (wr (c20+c21)),sv (⟨#[109,97,114,107]⟩:ByteArray)])::(AV.tup [AV.agg [x23,x24,x25],iv c22.2])::(AV.agg [x23,x24,x25])::(iv c22.2)::(iv c20)::(iv (wr (c20+c21)))::(bv (decide ((wr (c20+c21))≤c20)))::(bv (decide ((wr (c20+c21))≤c20)))::.top::.top::(cond (decide ((wr (c20+c21))≤c20)) und (bv c41))::(bv (bif decide ((wr (c20+c21))≤c20) then true else c41))::und::und::(iv c22.2)::(bv (!decide (c22.2=0)))::und::und::tZ9 55 []))∧Hold B h44 [(x4,obS (c3.channels:Sl Channel)),(x6,obS (c3.notes:Sl Note)),pZ9 o14 3 [x4,x5,x6],(x23,obS (c22.1.channels:Sl Channel)),(x25,obS (c22.1.notes:Sl Note)),pZ9 o34 3 [x23,x24,x25]]) hm0_q12 xm0_q12 (lb0_q12 env) (s0_q12 c3 c20 c21 c22) (fun (q:Sum Unit Bool) (r:Res)=>match q with | .inl _=>∃ (q50:Int) (z49:AV) (z51:AV) (z52:AV) (z53:AV) (z54:AV) (z55:AV) (h47:kA7),r=(.exit 0,((Sl.enc code_)::(Sl.enc more_)::und::und::z49::(AV.ptr o14 1 0 0)::(iv (((c3.strokes.getD []).length:Nat):Int))::(iv c20)::(iv (wr (c20+c21)))::(AV.ptr o34 1 0 0)::(iv c22.2)::(iv q50)::z51::z52::z53::z54::z55::(Sl.enc code_)::(Sl.enc more_)::(bv c1)::(Sl.enc code_)::(AV.agg [x4,x5,x6])::(AV.ptr o14 1 0 1)::x5::(iv (((c3.strokes.getD []).length:Nat):Int))::(Sl.enc more_)::(iv (((c3.strokes.getD []).length:Nat):Int))::(iv (wr ((((c3.strokes.getD []).length:Nat):Int)+1)))::(iv c20)::(iv c20)::(Sl.enc more_)::(iv c21)::(iv (wr (c20+c21)))::(AV.tup [AV.agg [x23,x24,x25],iv c22.2])::(AV.agg [x4,x5,x6])::(iv c20)::(iv (wr (c20+c21)))::(AV.agg [iv c20,iv (wr (c20+c21)),sv (⟨#[109,97,114,107]⟩:ByteArray)])::(AV.tup [AV.agg [x23,x24,x25],iv c22.2])::(AV.agg [x23,x24,x25])::(iv c22.2)::(iv c20)::(iv (wr (c20+c21)))::(bv (decide ((wr (c20+c21))≤c20)))::(bv (decide ((wr (c20+c21))≤c20)))::.top::.top::(cond (decide ((wr (c20+c21))≤c20)) und (bv c41))::(bv (bif decide ((wr (c20+c21))≤c20) then true else c41))::und::und::(iv c22.2)::(bv (!decide (c22.2=0)))::und::und::tZ9 55 []),h47)∧Hold B h47 [(x4,obS (c3.channels:Sl Channel)),(x6,obS (c3.notes:Sl Note)),pZ9 o14 3 [x4,x5,x6],(x23,obS (c22.1.channels:Sl Channel)),(x25,obS (c22.1.notes:Sl Note)),pZ9 o34 3 [x23,x24,x25]] | .inr q58=>∃ (q59:Int) (q61:Int) (q63:Int) (q64:Int) (z60:AV) (z62:AV) (h56:kA7),r=(.ret,((Sl.enc code_)::(Sl.enc more_)::und::und::(bv q58)::(AV.ptr o14 1 0 0)::(iv (((c3.strokes.getD []).length:Nat):Int))::(iv c20)::(iv (wr (c20+c21)))::(AV.ptr o34 1 0 0)::(iv c22.2)::(iv q59)::z60::(iv q61)::z62::(iv q63)::(iv q64)::(Sl.enc code_)::(Sl.enc more_)::(bv c1)::(Sl.enc code_)::(AV.agg [x4,x5,x6])::(AV.ptr o14 1 0 1)::x5::(iv (((c3.strokes.getD []).length:Nat):Int))::(Sl.enc more_)::(iv (((c3.strokes.getD []).length:Nat):Int))::(iv (wr ((((c3.strokes.getD []).length:Nat):Int)+1)))::(iv c20)::(iv c20)::(Sl.enc more_)::(iv c21)::(iv (wr (c20+c21)))::(AV.tup [AV.agg [x23,x24,x25],iv c22.2])::(AV.agg [x4,x5,x6])::(iv c20)::(iv (wr (c20+c21)))::(AV.agg [iv c20,iv (wr (c20+c21)),sv (⟨#[109,97,114,107]⟩:ByteArray)])::(AV.tup [AV.agg [x23,x24,x25],iv c22.2])::(AV.agg [x23,x24,x25])::(iv c22.2)::(iv c20)::(iv (wr (c20+c21)))::(bv (decide ((wr (c20+c21))≤c20)))::(bv (decide ((wr (c20+c21))≤c20)))::.top::.top::(cond (decide ((wr (c20+c21))≤c20)) und (bv c41))::(bv (bif decide ((wr (c20+c21))≤c20) then true else c41))::und::und::(iv c22.2)::(bv (!decide (c22.2=0)))::und::und::tZ9 55 []),h56)∧Hold B h56 [(x4,obS (c3.channels:Sl Channel)),(x6,obS (c3.notes:Sl Note)),pZ9 o14 3 [x4,x5,x6],(x23,obS (c22.1.channels:Sl Channel)),(x25,obS (c22.1.notes:Sl Note)),pZ9 o34 3 [x23,x24,x25]]):=by
 refine @kH3 _ _ _ _ _ _ _ _ (fun w46 tm h44 R => ?_)
 obtain ⟨rfl,O45⟩:=R
 rw [e_lb0_q12]
 unfold s0_q12
 dsimp only
 refine kA1 (kBi _ _) ?_
 refine kAa (fun c65 => ?_) (fun c65 => ?_)
 ·refine kA1 (v:=AV.agg [x4,x5,x6]) (O45.ld 2 rfl true 3 0) ?_
  refine kCv he_q21 (snapD_own h44 c3 rfl (by simp [kB9,O45.snap7 (A:=Channel) (s:=c3.channels) 0 rfl,hR32.snap7 O45,O45.snap7 (A:=Note) (s:=c3.notes) 1 rfl])) (kAe _ _) (fun c66 => ?_)
  refine sim_hand1 O45 (c66.1:Sl ByteArray) (fun z1=>AV.tup [z1,iv c66.2]) (by intro b;simp only [mat_tup,mat_aggD,mat_agg,matLc,matLn,mat_iv,mat_bv,mat_sv,mat_bt,mat_nilS,mat_rS,List.append_nil,List.nil_append,List.length_nil,Nat.add_zero]) (by simp only [noF_tup,noF_aggD,noF_agg,noF_iv,noF_bv,noF_sv,noF_bt,noF_nilS,noF_rS,List.all_cons,List.all_nil,Bool.and_self]) (fun x68 h69 O70 => ?_)
  replace O70:Hold B h69 [(x4,obS (c3.channels:Sl Channel)),(x6,obS (c3.notes:Sl Note)),pZ9 o14 3 [x4,x5,x6],(x23,obS (c22.1.channels:Sl Channel)),(x25,obS (c22.1.notes:Sl Note)),pZ9 o34 3 [x23,x24,x25],(x68,obS (c66.1:Sl ByteArray))]:=O70
  refine kA1 (v:=x68) rfl ?_
  refine kA1 (v:=iv c66.2) rfl ?_
  refine kA1 (v:=AV.agg [x23,x24,x25]) (O70.ld 5 rfl true 3 0) ?_
  refine kCv he_q2 (snapD_own h69 c22.1 rfl (by simp [kB9,O70.snap7 (A:=Channel) (s:=c22.1.channels) 3 rfl,hR29.snap7 O70,O70.snap7 (A:=Note) (s:=c22.1.notes) 4 rfl])) (kAe _ _) (fun c71 => ?_)
  refine sim_hand1 O70 (c71.1:Sl ByteArray) (fun z1=>AV.tup [z1,iv c71.2]) (by intro b;simp only [mat_tup,mat_aggD,mat_agg,matLc,matLn,mat_iv,mat_bv,mat_sv,mat_bt,mat_nilS,mat_rS,List.append_nil,List.nil_append,List.length_nil,Nat.add_zero]) (by simp only [noF_tup,noF_aggD,noF_agg,noF_iv,noF_bv,noF_sv,noF_bt,noF_nilS,noF_rS,List.all_cons,List.all_nil,Bool.and_self]) (fun x73 h74 O75 => ?_)
  replace O75:Hold B h74 [(x4,obS (c3.channels:Sl Channel)),(x6,obS (c3.notes:Sl Note)),pZ9 o14 3 [x4,x5,x6],(x23,obS (c22.1.channels:Sl Channel)),(x25,obS (c22.1.notes:Sl Note)),pZ9 o34 3 [x23,x24,x25],(x68,obS (c66.1:Sl ByteArray)),(x73,obS (c71.1:Sl ByteArray))]:=O75
  refine kA1 (v:=x73) rfl ?_
  refine kA1 (v:=iv c71.2) rfl ?_
  refine kA1 (v:=iv (((c66.1.getD []).length:Nat):Int)) (O75.tab (A:=ByteArray) (s:=c66.1) 6 rfl).len ?_
  refine kA1 (kF6 _ _) ?_
  refine kBa (e:=bv) (fun hb76 => ?_) (fun c77 => ?_)
  ·refine kA1 (kBi _ _) ?_
   exact kA6 rfl
  ·refine kA1 (v:=bv (bif decide (c20≤w46) then c77 else false)) (kCh _ _ _) ?_
   refine kAa (fun c78 => ?_) (fun c78 => ?_)
   ·refine kA1 (kAg _ _) ?_
    refine kA1 (kF0 _ _) ?_
    refine kBc (e:=bv) (fun hb79 => ?_) (fun c80 => ?_)
    ·refine kA1 (kF0 _ _) ?_
     exact kA6 rfl
    ·refine kA1 (v:=bv (bif !decide (c66.2=0) then true else c80)) (kCn _ _ _) ?_
     refine kBc (e:=bv) (fun hb81 => ?_) (fun c82 => ?_)
     ·refine kA1 (v:=iv (((c71.1.getD []).length:Nat):Int)) (O75.tab (A:=ByteArray) (s:=c71.1) 7 rfl).len ?_
      refine kA1 (kF0 _ _) ?_
      exact kA6 rfl
     ·refine kA1 (v:=bv (bif (bif !decide (c66.2=0) then true else c80) then true else c82)) (kCn _ _ _) ?_
      refine kBc (e:=bv) (fun hb83 => ?_) (fun c84 => ?_)
      ·refine kA1 (v:=iv (((c66.1.getD []).length:Nat):Int)) (O75.tab (A:=ByteArray) (s:=c66.1) 6 rfl).len ?_
       refine kA1 (kBd _ _) ?_
       exact kA6 rfl
      ·simp only [gv_FT]
       refine kBa (e:=bv) (fun hb85 => ?_) (fun c90 => ?_)
       ·refine kA1 (kAt _ _) ?_
        refine kBm (O75.tab (A:=ByteArray) (s:=c71.1) 7 rfl) (fun m87 a86 hi88 hm89 => ?_)
        refine kA1 (v:=sv a86) ((O75.tab (A:=ByteArray) (s:=c71.1) 7 rfl).ld hm89 false 1 0) ?_
        refine kA1 (aCmp_neS _ _) ?_
        exact kA6 rfl
       ·refine kBc (e:=bv) (fun hb91 => ?_) (fun c92 => ?_)
        ·simp only [hb91,cond_true,cond_false,Bool.not_true,Bool.not_false,Bool.true_and,Bool.and_true,Bool.false_and,Bool.not_not]
         refine kA1 (v:=bv (bif c84 then c90 else false)) (kCh _ _ _) ?_
         exact kA6 rfl
        ·refine kA1 (v:=bv (bif (bif (bif !decide (c66.2=0) then true else c80) then true else c82) then true else c92)) (kCn _ _ _) ?_
         refine kAa (fun c93 => ?_) (fun c93 => ?_)
         ·have O94:Hold B h74 [(x4,obS (c3.channels:Sl Channel)),(x6,obS (c3.notes:Sl Note)),pZ9 o14 3 [x4,x5,x6],(x23,obS (c22.1.channels:Sl Channel)),(x25,obS (c22.1.notes:Sl Note)),pZ9 o34 3 [x23,x24,x25]]:=O75.sel [0,1,2,3,4,5] (by decide) rfl
          exact kA6 ⟨nofun,_,_,_,_,_,_,_,rfl,O94⟩
         ·refine kA1 (kAg _ _) ?_
          have O95:Hold B h74 [(x4,obS (c3.channels:Sl Channel)),(x6,obS (c3.notes:Sl Note)),pZ9 o14 3 [x4,x5,x6],(x23,obS (c22.1.channels:Sl Channel)),(x25,obS (c22.1.notes:Sl Note)),pZ9 o34 3 [x23,x24,x25]]:=O75.sel [0,1,2,3,4,5] (by decide) rfl
          exact kA6 ⟨rfl,rfl,O95⟩
   ·refine kA1 (kF0 _ _) ?_
    refine kBc (e:=bv) (fun hb96 => ?_) (fun c97 => ?_)
    ·refine kA1 (kF0 _ _) ?_
     exact kA6 rfl
    ·refine kA1 (v:=bv (bif !decide (c66.2=0) then true else c97)) (kCn _ _ _) ?_
     refine kBc (e:=bv) (fun hb98 => ?_) (fun c99 => ?_)
     ·refine kA1 (v:=iv (((c71.1.getD []).length:Nat):Int)) (O75.tab (A:=ByteArray) (s:=c71.1) 7 rfl).len ?_
      refine kA1 (kF0 _ _) ?_
      exact kA6 rfl
     ·refine kA1 (v:=bv (bif (bif !decide (c66.2=0) then true else c97) then true else c99)) (kCn _ _ _) ?_
      refine kBc (e:=bv) (fun hb100 => ?_) (fun c101 => ?_)
      ·refine kA1 (v:=iv (((c66.1.getD []).length:Nat):Int)) (O75.tab (A:=ByteArray) (s:=c66.1) 6 rfl).len ?_
       refine kA1 (kBd _ _) ?_
       exact kA6 rfl
      ·simp only [gv_FT]
       refine kBa (e:=bv) (fun hb102 => ?_) (fun c107 => ?_)
       ·refine kA1 (kAt _ _) ?_
        refine kBm (O75.tab (A:=ByteArray) (s:=c71.1) 7 rfl) (fun m104 a103 hi105 hm106 => ?_)
        refine kA1 (v:=sv a103) ((O75.tab (A:=ByteArray) (s:=c71.1) 7 rfl).ld hm106 false 1 0) ?_
        refine kA1 (aCmp_neS _ _) ?_
        exact kA6 rfl
       ·refine kBc (e:=bv) (fun hb108 => ?_) (fun c109 => ?_)
        ·simp only [hb108,cond_true,cond_false,Bool.not_true,Bool.not_false,Bool.true_and,Bool.and_true,Bool.false_and,Bool.not_not]
         refine kA1 (v:=bv (bif c101 then c107 else false)) (kCh _ _ _) ?_
         exact kA6 rfl
        ·refine kA1 (v:=bv (bif (bif (bif !decide (c66.2=0) then true else c97) then true else c99) then true else c109)) (kCn _ _ _) ?_
         refine kAa (fun c110 => ?_) (fun c110 => ?_)
         ·have O111:Hold B h74 [(x4,obS (c3.channels:Sl Channel)),(x6,obS (c3.notes:Sl Note)),pZ9 o14 3 [x4,x5,x6],(x23,obS (c22.1.channels:Sl Channel)),(x25,obS (c22.1.notes:Sl Note)),pZ9 o34 3 [x23,x24,x25]]:=O75.sel [0,1,2,3,4,5] (by decide) rfl
          exact kA6 ⟨nofun,_,_,_,_,_,_,_,rfl,O111⟩
         ·refine kA1 (kAg _ _) ?_
          have O112:Hold B h74 [(x4,obS (c3.channels:Sl Channel)),(x6,obS (c3.notes:Sl Note)),pZ9 o14 3 [x4,x5,x6],(x23,obS (c22.1.channels:Sl Channel)),(x25,obS (c22.1.notes:Sl Note)),pZ9 o34 3 [x23,x24,x25]]:=O75.sel [0,1,2,3,4,5] (by decide) rfl
          exact kA6 ⟨rfl,rfl,O112⟩
 ·exact kA6 ⟨nofun,_,_,_,_,_,_,_,_,rfl,O45⟩
theorem ts_q12 (env:Nat→Contract) (he_q0:env n_q0=.pure (C2 (fun c:File×Int=>AV.tup [AV.agg [rS c.1.channels,rT c.1.strokes,rS c.1.notes],enc c.2]) t_q0)) (he_q2:env n_q2=.pure (C2 (fun c:(Sl ByteArray)×Int=>AV.tup [rS c.1,enc c.2]) t_q2)) (he_q13:env n_q13=.pure (C3 (fun c:Int=>enc c) t_q13)) (he_q14:env n_q14=.pure (C2 (fun c:Bool=>enc c) t_q14)) (he_q19:env n_q19=.pure (C1 (fun c:File=>AV.agg [rS c.channels,rT c.strokes,rS c.notes]) t_q19)) (he_q21:env n_q21=.pure (C2 (fun c:(Sl ByteArray)×Int=>AV.tup [rS c.1,enc c.2]) t_q21)) (code_:Sl UInt8) (more_:Sl UInt8):Sim (kAf Try.prog env n_q12 [Sl.enc code_,Sl.enc more_] []) (t_q12 code_ more_) fun c p=>release p.2 depth p.1=some ((fun c:Bool=>enc c) c):=by
 have O:=Hold.nil []
 generalize hB:(⟨[],[]⟩:Base)=B at O
 clear hB
 rw [e_q12]
 unfold t_q12
 refine kCv he_q14 (kCp _ _) (kCp _ _) (fun c1 => ?_)
 refine kBr (kAh (by rfl) _ _) ?_
 refine kAa (fun c2 => ?_) (fun c2 => ?_)
 ·exact kA6 (kA8 (by rfl) _)
 ·refine kCx he_q19 (kCp _ _) (fun c3 => ?_)
  refine sim_handF1 O c3 (fun x4 x5 x6 B h7 hT9 O8 => ?_)
  replace O8:Hold B h7 [(x4,obS (c3.channels:Sl Channel)),(x6,obS (c3.notes:Sl Note))]:=O8
  have hR10:RdT B x5 c3.strokes:=kAy hT9
  refine kBt O8 (cs:=[kA3,kA3,kA3]) (by first | rfl | simp) (fun o14 h15 O16 => ?_)
  replace O16:Hold B h15 [(x4,obS (c3.channels:Sl Channel)),(x6,obS (c3.notes:Sl Note)),pZ9 o14 3 [kA3,kA3,kA3]]:=O16
  have jZ0:=O16.one (A:=Channel) (s:=c3.channels) 0 rfl
  have jZ1:=O16.one (A:=Note) (s:=c3.notes) 1 rfl
  refine kAj O16 2 (cs':=[x4,x5,x6]) rfl (by first | rfl | simp [(hR10.one O16).1,(hR10.one O16).2,jZ0.1,jZ0.2,jZ1.1,jZ1.2]) (by simp) (by first | rfl | simp [(hR10.one O16).1,(hR10.one O16).2,jZ0.1,jZ0.2,jZ1.1,jZ1.2]) (by first | rfl | simp [kAo,(hR10.one O16).1,(hR10.one O16).2,jZ0.1,jZ0.2,jZ1.1,jZ1.2]) (fun h18 O19 => ?_)
  replace O19:Hold B h18 [(x4,obS (c3.channels:Sl Channel)),(x6,obS (c3.notes:Sl Note)),pZ9 o14 3 [x4,x5,x6]]:=O19
  refine kA1 (v:=AV.ptr o14 1 0 1) rfl ?_
  refine kA1 (v:=x5) (O19.ld 2 rfl false 1 1) ?_
  refine kA1 (v:=iv (((c3.strokes.getD []).length:Nat):Int)) (hR10.len O19) ?_
  refine kA1 (kAg _ _) ?_
  refine sim_call3 he_q13 (kCp _ _) (kAe _ _) (kAe _ _) (fun c20 => ?_)
  refine kBr (kAh (by rfl) _ _) ?_
  refine sim_call3 he_q13 (kCp _ _) (kAe _ _) (kAe _ _) (fun c21 => ?_)
  refine kBr (kAh (by rfl) _ _) ?_
  refine kA1 (kAg _ _) ?_
  refine kA1 (v:=AV.agg [x4,x5,x6]) (O19.ld 2 rfl true 3 0) ?_
  refine kA1 (v:=AV.agg [iv c20,iv (wr (c20+c21)),sv (⟨#[109,97,114,107]⟩:ByteArray)]) (by first | rfl | simp [kBs,kEq,kAo]) ?_
  refine kCv he_q0 (snapD_own h18 c3 rfl (by simp [kB9,O19.snap7 (A:=Channel) (s:=c3.channels) 0 rfl,hR10.snap7 O19,O19.snap7 (A:=Note) (s:=c3.notes) 1 rfl])) (kDw _ (⟨c20,wr (c20+c21),(⟨#[109,97,114,107]⟩:ByteArray)⟩:Note) rfl) (fun c22 => ?_)
  refine sim_handF2 O19 c22.1 c22.2 (fun x23 x24 x25 B h26 hT28 O27 => ?_)
  replace O27:Hold B h26 [(x4,obS (c3.channels:Sl Channel)),(x6,obS (c3.notes:Sl Note)),pZ9 o14 3 [x4,x5,x6],(x23,obS (c22.1.channels:Sl Channel)),(x25,obS (c22.1.notes:Sl Note))]:=O27
  have hR29:RdT B x24 c22.1.strokes:=kAy hT28
  have hR32:RdT B x5 c3.strokes:=rd_out hR10 hT28
  refine kA1 (v:=AV.agg [x23,x24,x25]) rfl ?_
  refine kA1 (v:=iv c22.2) rfl ?_
  refine kBt O27 (cs:=[kA3,kA3,kA3]) (by first | rfl | simp) (fun o34 h35 O36 => ?_)
  replace O36:Hold B h35 [(x4,obS (c3.channels:Sl Channel)),(x6,obS (c3.notes:Sl Note)),pZ9 o14 3 [x4,x5,x6],(x23,obS (c22.1.channels:Sl Channel)),(x25,obS (c22.1.notes:Sl Note)),pZ9 o34 3 [kA3,kA3,kA3]]:=O36
  have jZ0:=O36.one (A:=Channel) (s:=c22.1.channels) 3 rfl
  have jZ1:=O36.one (A:=Note) (s:=c22.1.notes) 4 rfl
  refine kAj O36 5 (cs':=[x23,x24,x25]) rfl (by first | rfl | simp [(hR29.one O36).1,(hR29.one O36).2,jZ0.1,jZ0.2,jZ1.1,jZ1.2]) (by simp) (by first | rfl | simp [(hR29.one O36).1,(hR29.one O36).2,jZ0.1,jZ0.2,jZ1.1,jZ1.2]) (by first | rfl | simp [kAo,(hR29.one O36).1,(hR29.one O36).2,jZ0.1,jZ0.2,jZ1.1,jZ1.2]) (fun h38 O39 => ?_)
  replace O39:Hold B h38 [(x4,obS (c3.channels:Sl Channel)),(x6,obS (c3.notes:Sl Note)),pZ9 o14 3 [x4,x5,x6],(x23,obS (c22.1.channels:Sl Channel)),(x25,obS (c22.1.notes:Sl Note)),pZ9 o34 3 [x23,x24,x25]]:=O39
  refine kA1 (kF6 _ _) ?_
  refine kBc (e:=bv) (fun hb40 => ?_) (fun c41 => ?_)
  ·refine kA1 (kBd _ _) ?_
   exact kA6 rfl
  ·refine kA1 (v:=bv (bif decide ((wr (c20+c21))≤c20) then true else c41)) (kCn _ _ _) ?_
   refine kAa (fun c42 => ?_) (fun c42 => ?_)
   ·refine kA1 (aCmp_eq _ _) ?_
    exact kA6 (kA8 (by rfl) _)
   ·refine kA1 (kF0 _ _) ?_
    refine kAa (fun c43 => ?_) (fun c43 => ?_)
    ·refine kA1 (aCmp_eq _ _) ?_
     exact kA6 (kA8 (by rfl) _)
    ·refine kBe ((tl0_q12 env he_q0 he_q2 he_q13 he_q14 he_q19 he_q21 code_ more_ c1 c3 x4 x5 x6 o14 c20 c21 c22 x23 x24 x25 hR29 hR32 o34 c41) ⟨rfl,O39⟩) (fun qq115 r hq => ?_)
     rcases qq115 with _ | q58
     ·obtain ⟨q50,z49,z51,z52,z53,z54,z55,h47,rfl,O48⟩:=hq
      rw [e_lk0x0_q12]
      exact kA6 (kA8 (by rfl) _)
     ·obtain ⟨q59,q61,q63,q64,z60,z62,h56,rfl,O57⟩:=hq
      rw [e_lk0r_q12]
      exact kA6 (kA8 (by rfl) _)
theorem tt_q12:kB6 Try.prog n_q12 (C2 (fun c:Bool=>enc c) t_q12):=kFk (kCl tt_q0 (kCl tt_q2 (kCl tt_q13 (kCl tt_q14 (kCl tt_q19 (kCl tt_q21 E0)))))) kCm hb_q12 fun code_ more_=>ts_q12 _ (by simp [kD7]) (by simp [kD7]) (by simp [kD7]) (by simp [kD7]) (by simp [kD7]) (by simp [kD7]) code_ more_
structure SK (s:l00Src) (k:Int):Prop where
 lo:0≤s.pos
 hi:s.pos≤k
theorem SK.mono {s:l00Src} {k k':Int} (h:SK s k) (hk:k≤k'):SK s k':=⟨h.lo,by have:=h.hi;omega⟩
theorem and255 (a:Int):0≤wr (IntKind.u64.wrap ((BitVec.ofInt 64 a &&& BitVec.ofInt 64 255).toNat:Nat))∧wr (IntKind.u64.wrap ((BitVec.ofInt 64 a &&& BitVec.ofInt 64 255).toNat:Nat))≤255:=by
 have h1:(BitVec.ofInt 64 a &&& BitVec.ofInt 64 255).toNat≤255:=by
  rw [BitVec.toNat_and]
  have:(BitVec.ofInt 64 255).toNat=255:=by decide
  rw [this]
  exact Nat.and_le_right
 generalize (BitVec.ofInt 64 a &&& BitVec.ofInt 64 255).toNat=r at h1
 have h2:IntKind.u64.wrap (r:Int)=r:=by
  simp only [IntKind.wrap,IntKind.bits,IntKind.signed]
  simp only [Bool.false_and,Bool.false_eq_true,if_false]
  omega
 rw [h2,kE8 (by omega) (by omega)]
 omega
theorem getI_in {A:Type} {l:List A} {i:Int} (h0:0≤i) (h1:i<(l.length:Nat)):∃ a,kF8 l i=some a∧l[i.toNat]?=some a:=by
 obtain ⟨m,rfl⟩:=Int.eq_ofNat_of_zero_le h0
 have h2:m<l.length:=by omega
 exact ⟨l[m],kBl (List.getElem?_eq_getElem h2),by simp [h2]⟩
theorem remI_pos {a b:Int} (ha:0≤a) (hb:0<b):∃ r,remI a b=some r∧0≤r∧r<b:=by
 refine ⟨a.tmod b,?_,Int.tmod_nonneg b ha,Int.tmod_lt_of_pos a hb⟩
 have:¬ b=0:=by omega
 simp [remI,this]
theorem dr_next {s:l00Src} {k:Int} (h:SK s k) (hk:k≤1000000000000):∃ r s',t_q26 s=some (r,s')∧SK s' (k+1)∧0≤r∧r≤255:=by
 obtain ⟨h1,h2⟩:=h
 have w:wr (s.pos+1)=s.pos+1:=kE8 (by omega) (by omega)
 have b1:=fun a=>(and255 a).1
 have b2:=fun a=>(and255 a).2
 unfold t_q26
 rw [w]
 by_cases c:s.pos<((s.code.getD []).length:Nat)
 ·obtain ⟨a,ha,_⟩:=getI_in h1 c
  have c2:s.pos+1≤((s.code.getD []).length:Nat):=by omega
  have:=a.toNat_lt
  simp only [c,decide_true,cond_true,ha,kA5,c2]
  exact ⟨_,_,rfl,⟨by simp only;omega,by simp only;omega⟩,by omega,by omega⟩
 ·have c2:¬ s.pos+1≤((s.code.getD []).length:Nat):=by omega
  simp only [c,decide_false,cond_false,c2]
  exact ⟨_,_,rfl,⟨by simp only;omega,by simp only;omega⟩,b1 _,b2 _⟩
theorem kDm {s:l00Src} {k:Int} (h:SK s k) (hk:k≤100000000000) {n:Int} (hn:n≤60000):∃ r s',kBp s n=some (r,s')∧SK s' (k+2)∧0≤r∧(1≤n→r<n)∧(n≤1→r=0):=by
 unfold kBp
 by_cases c:n≤1
 ·simp only [c,decide_true,cond_true]
  exact ⟨0,_,rfl,⟨h.lo,by have:=h.hi;simp only;omega⟩,by omega,fun _=>by omega,fun _=>rfl⟩
 ·obtain ⟨r1,s1,e1,k1,p1,q1⟩:=dr_next h (by omega)
  simp only [c,decide_false,cond_false]
  have e1':t_q26 ⟨s.code,s.pos,s.seed⟩=some (r1,s1):=e1
  rw [e1',kA5]
  by_cases c2:200<n
  ·obtain ⟨r2,s2,e2,k2,p2,q2⟩:=dr_next k1 (by omega)
   have e2':t_q26 ⟨s1.code,s1.pos,s1.seed⟩=some (r2,s2):=e2
   have w1:wr (r1*256)=r1*256:=kE8 (by omega) (by omega)
   have w2:wr (r1*256+r2)=r1*256+r2:=kE8 (by omega) (by omega)
   obtain ⟨q,e3,p3,q3⟩:=remI_pos (a:=r1*256+r2) (b:=n) (by omega) (by omega)
   simp only [c2,decide_true,cond_true,e2',kA5,w1,w2,e3]
   exact ⟨_,_,rfl,⟨k2.lo,by have:=k2.hi;simp only;omega⟩,p3,fun _=>q3,fun h=>False.elim h⟩
  ·obtain ⟨q,e3,p3,q3⟩:=remI_pos (a:=r1) (b:=n) (by omega) (by omega)
   simp only [c2,decide_false,cond_false,e3,kA5]
   exact ⟨_,_,rfl,⟨k1.lo,by have:=k1.hi;simp only;omega⟩,p3,fun _=>q3,fun h=>False.elim h⟩
theorem dr_one {s:l00Src} {k:Int} (h:SK s k) (hk:k≤100000000000) {n:Int} (hn:n≤60000):∃ b s',kG5 s n=some (b,s')∧SK s' (k+2):=by
 obtain ⟨r,s',e,k',_⟩:=kDm h hk hn
 have e':kBp ⟨s.code,s.pos,s.seed⟩ n=some (r,s'):=e
 unfold kG5
 simp only [e',kA5]
 exact ⟨_,_,rfl,k'⟩
theorem dr_among {s:l00Src} {k:Int} (h:SK s k) (hk:k≤100000000000) {l:List Int} (h0:l≠[]) (hl:l.length≤60000):∃ r s',t_q25 s (some l)=some (r,s')∧SK s' (k+2)∧r∈l:=by
 have hp:0<l.length:=List.length_pos_iff.2 h0
 obtain ⟨r,s',e,k',p,q,_⟩:=kDm h hk (n:=(l.length:Nat)) (by omega)
 have e':kBp ⟨s.code,s.pos,s.seed⟩ (l.length:Nat)=some (r,s'):=e
 obtain ⟨a,ha,ha2⟩:=getI_in (l:=l) p (q (by omega))
 unfold t_q25
 simp only [Option.getD_some,e',kA5,ha]
 exact ⟨_,_,rfl,k',List.mem_of_getElem? ha2⟩
theorem kCt {k n:Nat} (h:k<n) (hn:n≤4294967296):wr ((k:Int)+1)=((k+1:Nat):Int):=by
 rw [kE8 (by omega) (by omega)]
 omega
theorem kEk {A:Type} {l:List A} {k:Nat} {a:A} (h:l[k]?=some a):k<l.length:=(List.getElem?_eq_some_iff.1 h).1
structure PtV (p:Point):Prop where
 x0:0≤p.x
 x1:p.x≤4095
 y0:0≤p.y
 y1:p.y≤4095
 t0:0≤p.t
 t1:p.t≤3600000
structure StV (l:List Point):Prop where
 pts:∀ p∈l,PtV p
 inc:∀ (k:Nat) p q,l[k]?=some p→l[k+1]?=some q→p.t<q.t
 n1:1≤l.length
 n2:l.length≤60
structure PtB (p:Point):Prop where
 x0:-10000000≤p.x
 x1:p.x≤10000000
 y0:-10000000≤p.y
 y1:p.y≤10000000
 t0:-10000000≤p.t
 t1:p.t≤10000000
structure StB (s:Stroke):Prop where
 n:(s.points.getD []).length≤100
 pts:∀ p∈s.points.getD [],PtB p
theorem PtV.b {p:Point} (h:PtV p):PtB p:=by
 obtain ⟨h1,h2,h3,h4,h5,h6⟩:=h
 exact ⟨by omega,by omega,by omega,by omega,by omega,by omega⟩
theorem StV.b {l:List Point} (h:StV l):StB ⟨some l⟩:=⟨Nat.le_trans h.n2 (by omega),fun p hp=>(h.pts p hp).b⟩
theorem kHx {A:Type} (s:Sl A) (a:A) (l:List A):kB3 s (a::l)=some (s.getD []++a::l):=by cases s <;> rfl
theorem kGk {A:Type} (s:Sl A) (a:A) (h:(s.getD []).length≤1000000):kF9 s [a]=some (some (s.getD []++[a])):=by
 rw [kDs (by simp;omega),kHx]
structure InkV (L:List Stroke):Prop where
 st:∀ s∈L,∃ l,s=⟨some l⟩∧StV l
 inc:∀ (k:Nat) l l',L[k]?=some ⟨some l⟩→L[k+1]?=some ⟨some l'⟩→∀ p∈l,∀ q∈l',p.t<q.t
 n:L.length≤16
theorem InkV.b {L:List Stroke} (h:InkV L):∀ x∈L,StB x:=fun x hx=>by
 obtain ⟨l,rfl,hl⟩:=h.st x hx
 exact hl.b
def pt (l:List Point) (i:Nat):Point:=l.getD i ⟨0,0,0⟩
def Pre (p q i j:Nat):Prop:=(i=p+1∧j=q+1)∨(i=p+1∧j=q)∨(i=p∧j=q+1)
inductive Pth (C:Nat→Nat→Int) (R:Nat→Nat→Prop):Nat→Nat→Int→Prop
 | start:R 0 0→Pth C R 0 0 (C 0 0)
 | step {p q i j:Nat} {c:Int}:Pth C R p q c→Pre p q i j→R i j→Pth C R i j (c+C i j)
theorem Pth.mono {C D:Nat→Nat→Int} {R S:Nat→Nat→Prop} {i j:Nat} {c:Int} (h:Pth C R i j c) (hR:∀ p q,p≤i→q≤j→R p q→S p q) (hC:∀ p q,p≤i→q≤j→C p q=D p q):Pth D S i j c:=by
 induction h with
 | start h =>
  rw [hC 0 0 (Nat.le_refl _) (Nat.le_refl _)]
  exact .start (hR 0 0 (Nat.le_refl _) (Nat.le_refl _) h)
 | @step p q i j c h1 h2 h3 ih =>
  have hle:p≤i∧q≤j:=by rcases h2 with h | h | h <;> omega
  rw [hC i j (Nat.le_refl _) (Nat.le_refl _)]
  exact .step (ih (fun a b h4 h5=>hR a b (by omega) (by omega)) (fun a b h4 h5=>hC a b (by omega) (by omega))) h2 (hR i j (Nat.le_refl _) (Nat.le_refl _) h3)
theorem Pth.swap {C:Nat→Nat→Int} {R:Nat→Nat→Prop} {i j:Nat} {c:Int} (h:Pth C R i j c):Pth (fun a b=>C b a) (fun a b=>R b a) j i c:=by
 induction h with
 | start h=>exact .start (C:=fun a b=>C b a) (R:=fun a b=>R b a) h
 | @step p q i j c h1 h2 h3 ih =>
  exact .step (C:=fun a b=>C b a) (R:=fun a b=>R b a) (i:=j) (j:=i) ih (by unfold Pre at *;omega) h3
def Val (T:List (Sl Int)) (p q:Nat) (v:Int):Prop:=∃ row,T[p]?=some (some row)∧row[q]?=some v
theorem Val.set {T:List (Sl Int)} {i j p q:Nat} {row:List Int} {v w:Int} (hr:T[i]?=some (some row)) (hj:j<row.length) :
  Val (T.set i (some (row.set j w))) p q v↔(p=i∧q=j∧v=w)∨(¬ (p=i∧q=j)∧Val T p q v):=by
 have hi:=kEk hr
 unfold Val
 constructor
 ·rintro ⟨r,h1,h2⟩
  by_cases c:i=p
  ·subst c
   rw [List.getElem?_set_self hi] at h1
   cases h1
   by_cases d:j=q
   ·subst d
    rw [List.getElem?_set_self hj] at h2
    cases h2
    exact .inl ⟨rfl,rfl,rfl⟩
   ·rw [List.getElem?_set_ne d] at h2
    exact .inr ⟨fun h=>d h.2.symm,row,hr,h2⟩
  ·rw [List.getElem?_set_ne c] at h1
   exact .inr ⟨fun h=>c h.1.symm,r,h1,h2⟩
 ·rintro (⟨rfl,rfl,rfl⟩ | ⟨hne,r,h1,h2⟩)
  ·exact ⟨_,List.getElem?_set_self hi,List.getElem?_set_self hj⟩
  ·by_cases c:i=p
   ·subst c
    rw [hr] at h1
    cases h1
    have d:j≠q:=fun h=>hne ⟨rfl,h.symm⟩
    exact ⟨_,List.getElem?_set_self hi,by rw [List.getElem?_set_ne d];exact h2⟩
   ·exact ⟨r,by rw [List.getElem?_set_ne c];exact h1,h2⟩
inductive Tr (C:Nat→Nat→Int) (R:Nat→Nat→Prop):Nat→Nat→Int→List Pair→Prop
 | start:R 0 0→Tr C R 0 0 (C 0 0) [⟨0,0⟩]
 | step {p q i j:Nat} {c:Int} {L:List Pair}:Tr C R p q c L→Pre p q i j→R i j→Tr C R i j (c+C i j) (⟨(i:Int),(j:Int)⟩::L)
theorem Tr.head {C:Nat→Nat→Int} {R:Nat→Nat→Prop} {i j:Nat} {c:Int} {L:List Pair} (h:Tr C R i j c L):∃ L',L=⟨(i:Int),(j:Int)⟩::L':=by
 cases h with
 | start h=>exact ⟨[],rfl⟩
 | step h1 h2 h3=>exact ⟨_,rfl⟩
def PF (C:Nat→Nat→Int) (f i j:Nat) (c:Int):Prop:=f≤j∧Pth (fun p q=>C p (q+f)) (fun _ _=>True) i (j - f) c
theorem PF.start {C:Nat→Nat→Int} (j:Nat):PF C j 0 j (C 0 j):=by
 refine ⟨Nat.le_refl _,?_⟩
 have h:=Pth.start (C:=fun p q=>C p (q+j)) (R:=fun _ _=>True) trivial
 simp only [Nat.zero_add] at h
 rw [Nat.sub_self]
 exact h
def PVal (T:List (Sl Part)) (p q:Nat) (v:Part):Prop:=∃ row,T[p]?=some (some row)∧row[q]?=some v
theorem PVal.set {T:List (Sl Part)} {i j p q:Nat} {row:List Part} {v w:Part} (hr:T[i]?=some (some row)) (hj:j<row.length) :
  PVal (T.set i (some (row.set j w))) p q v↔(p=i∧q=j∧v=w)∨(¬ (p=i∧q=j)∧PVal T p q v):=by
 have hi:=kEk hr
 unfold PVal
 constructor
 ·rintro ⟨r,h1,h2⟩
  by_cases c:i=p
  ·subst c
   rw [List.getElem?_set_self hi] at h1
   cases h1
   by_cases d:j=q
   ·subst d
    rw [List.getElem?_set_self hj] at h2
    cases h2
    exact .inl ⟨rfl,rfl,rfl⟩
   ·rw [List.getElem?_set_ne d] at h2
    exact .inr ⟨fun h=>d h.2.symm,row,hr,h2⟩
  ·rw [List.getElem?_set_ne c] at h1
   exact .inr ⟨fun h=>c h.1.symm,r,h1,h2⟩
 ·rintro (⟨rfl,rfl,rfl⟩ | ⟨hne,r,h1,h2⟩)
  ·exact ⟨_,List.getElem?_set_self hi,List.getElem?_set_self hj⟩
  ·by_cases c:i=p
   ·subst c
    rw [hr] at h1
    cases h1
    have d:j≠q:=fun h=>hne ⟨rfl,h.symm⟩
    exact ⟨_,List.getElem?_set_self hi,by rw [List.getElem?_set_ne d];exact h2⟩
   ·exact ⟨r,by rw [List.getElem?_set_ne c];exact h1,h2⟩
def d2 (a b:Point):Int:=(a.x - b.x)*(a.x - b.x)+(a.y - b.y)*(a.y - b.y)
def pbox (p:Point):Box:=⟨p.x,p.y,p.x,p.y⟩
structure InB (a b:Box):Prop where
 x1:b.x1≤a.x1
 y1:b.y1≤a.y1
 x2:a.x2≤b.x2
 y2:a.y2≤b.y2
theorem InB.trans {a b c:Box} (h:InB a b) (g:InB b c):InB a c:=⟨Int.le_trans g.x1 h.x1,Int.le_trans g.y1 h.y1,Int.le_trans h.x2 g.x2,Int.le_trans h.y2 g.y2⟩
theorem PtV.box {p:Point} (h:PtV p):InB (pbox p) ⟨0,0,4095,4095⟩:=⟨h.x0,h.y0,h.x1,h.y1⟩
def sq:Box:=⟨0,0,4095,4095⟩
inductive Wy (E:List Edg) (lab:Nat→ByteArray):Nat→Nat→Int→Prop
 | start:Wy E lab 0 0 0
 | step {k u v:Nat} {c:Int} {i:Nat} {e:Edg}:Wy E lab k u c→E[i]?=some e→e.frm=(u:Int)→e.upto=(v:Int)→e.label=lab k→Wy E lab (k+1) v (c+e.cost)
theorem set_upd {L:List Int} {v:Nat} {x y:Int} (h:L[v]?=some x) (i:Nat):(L.set v y)[i]?=if i=v then some y else L[i]?:=by
 by_cases e:i=v
 ·subst e
  rw [if_pos rfl,List.getElem?_set_self (kEk h)]
 ·rw [if_neg e,List.getElem?_set_ne (fun k=>e k.symm)]
def Nxt (E:List Edg) (lab:Nat→ByteArray) (k j:Nat) (v:Nat) (c:Int):Prop:=∃ i e u c',i<j∧E[i]?=some e∧e.frm=((u:Nat):Int)∧e.upto=(v:Int)∧e.label=lab k∧Wy E lab k u c'∧c=c'+e.cost
theorem Nxt.all {E:List Edg} {lab:Nat→ByteArray} {k v:Nat} {c:Int}:Nxt E lab k E.length v c↔Wy E lab (k+1) v c:=by
 constructor
 ·rintro ⟨i,e,u,c',_,he,hf,hu,hl,hw,rfl⟩
  exact .step hw he hf hu hl
 ·intro h
  cases h with
  | step hw he hf hu hl=>exact ⟨_,_,_,_,kEk he,he,hf,hu,hl,hw,rfl⟩
def Cap (n:Nat) (L:List Int) (v k:Nat) (c:Int):Prop:=∃ x,L[v*(n+1)+k]?=some x∧0≤x∧x≤c
theorem Cap.mono {n:Nat} {L:List Int} {v k m:Nat} {c x y:Int} (h:Cap n L v k c) (hx:L[m]?=some x) (hy:x<0∨y<x) (h0:0≤y):Cap n (L.set m y) v k c:=by
 obtain ⟨z,h1,h2,h3⟩:=h
 unfold Cap
 rw [set_upd hx]
 by_cases e:v*(n+1)+k=m
 ·rw [if_pos e]
  rw [e,hx] at h1
  cases h1
  exact ⟨y,rfl,h0,by omega⟩
 ·rw [if_neg e]
  exact ⟨z,h1,h2,h3⟩
theorem wr_shift (x q:Int):wr (x+18446744073709551616*q)=wr x:=by
 simp only [wr,IntKind.wrap,IntKind.bits,IntKind.signed]
 first | omega | (simp;done)
theorem wr_mod (x:Int):∃ q,wr x=x+18446744073709551616*q:=by
 have h:∃ q,wr x=x - 18446744073709551616*q:=by
  simp only [wr,IntKind.wrap,IntKind.bits,IntKind.signed]
  by_cases h:x % 18446744073709551616 ≥ 9223372036854775808
  ·exact ⟨x / 18446744073709551616+1,by simp [h];omega⟩
  ·exact ⟨x / 18446744073709551616,by simp [h];omega⟩
 obtain ⟨q,hq⟩:=h
 exact ⟨-q,by rw [hq];omega⟩
theorem wr_add_l (x y:Int):wr (wr x+y)=wr (x+y):=by
 obtain ⟨q,h⟩:=wr_mod x
 rw [h,show x+18446744073709551616*q+y=x+y+18446744073709551616*q by omega,wr_shift]
def upd (base:Nat→Int) (S:Nat) (x:Int) (v:Nat):Int:=if v=S then x else base v
theorem upd_self (base:Nat→Int) (S:Nat) (x:Int):upd base S x S=x:=if_pos rfl
theorem upd_ne {base:Nat→Int} {S v:Nat} (x:Int) (h:v≠S):upd base S x v=base v:=if_neg h
structure PI (l:Sl Symbol) (n:Nat) (bx:Nat→Box) (c:Nat→Int) (p:Parser):Prop where
 list:p.list=l
 boxes:∀ v,v<n→(p.boxes.getD [])[v]?=some (bx v)
 best:(p.best.getD []).length=n
 clen:(p.count.getD []).length=n
 count:∀ v,v<n→(p.count.getD [])[v]?=some (c v)
structure CI (l:Sl Symbol) (n:Nat) (bx:Nat→Box) (c:Nat→Int) (p:Chart21):Prop where
 list:p.list=l
 len:(p.cells.getD []).length=n
 cells:∀ v,v<n→∃ x,(p.cells.getD [])[v]?=some x∧x.box=bx v∧x.ways=c v
theorem kHt {A:Type} {s:Sl A} {v:Nat} {x y:A} (h:(s.getD [])[v]?=some x) (i:Nat):((setS s (v:Int) y).getD [])[i]?=if i=v then some y else (s.getD [])[i]?:=by
 cases s with
 | none=>simp at h
 | some l =>
  show (l.set ((v:Int).toNat) y)[i]?=if i=v then some y else l[i]?
  rw [Int.toNat_natCast]
  have h':l[v]?=some x:=h
  by_cases e:i=v
  ·subst e
   rw [if_pos rfl,List.getElem?_set_self (kEk h')]
  ·rw [if_neg e,List.getElem?_set_ne (fun k=>e k.symm)]
theorem PI.add {l:Sl Symbol} {n:Nat} {bx:Nat→Box} {base:Nat→Int} {S:Nat} {X Y:Int} {p:Parser} (h:PI l n bx (upd base S (wr X)) p) (hS:S<n) (q:Sl Choice) (hq:(q.getD []).length=n):PI l n bx (upd base S (wr (X+Y))) ⟨p.list,p.boxes,q,setS p.count (S:Int) (wr (wr X+Y))⟩:=by
 have hs:=h.count S hS
 refine ⟨h.list,h.boxes,hq,by show ((setS p.count (S:Int) _).getD []).length=n;rw [setS_len];exact h.clen,fun v hv => ?_⟩
 show ((setS p.count (S:Int) _).getD [])[v]?=_
 rw [kHt hs]
 by_cases e:v=S
 ·subst e
  rw [if_pos rfl,upd_self,wr_add_l]
 ·rw [if_neg e,upd_ne _ e,h.count v hv,upd_ne _ e]
theorem CI.add {l:Sl Symbol} {n:Nat} {bx:Nat→Box} {base:Nat→Int} {S:Nat} {X Y Z:Int} {p:Chart21} (h:CI l n bx (upd base S (wr X)) p) (hS:S<n) (y:Cell21) (hb:y.box=bx S) (hw:y.ways=wr (wr X+Y)) (hZ:wr (X+Y)=wr (X+Z)):CI l n bx (upd base S (wr (X+Z))) ⟨p.list,setS p.cells (S:Int) y⟩:=by
 obtain ⟨x,hx,_⟩:=h.cells S hS
 refine ⟨h.list,by show ((setS p.cells (S:Int) _).getD []).length=n;rw [setS_len];exact h.len,fun v hv => ?_⟩
 show ∃ x,((setS p.cells (S:Int) _).getD [])[v]?=some x∧_
 rw [kHt hx]
 by_cases e:v=S
 ·subst e
  rw [if_pos rfl]
  exact ⟨y,rfl,hb,by rw [upd_self,hw,wr_add_l,hZ]⟩
 ·rw [if_neg e]
  obtain ⟨z,h1,h2,h3⟩:=h.cells v hv
  exact ⟨z,h1,h2,by rw [h3,upd_ne _ e,upd_ne _ e]⟩
def shrQ (S i:Nat):Int:=Int.fdiv (S:Int) (2 ^ (min (i:Int).toNat 64))
def outQ (S i:Nat):Bool:=decide (andI (shrQ S i) 1=0)
structure Way where
 kind:Int
 sign:Int
 a:Nat
 b:Nat
 cost:Int
 ways:Int
 deriving DecidableEq
abbrev posLt (x y:Way):Prop:=x.kind<y.kind∨(x.kind=y.kind∧(x.sign<y.sign∨(x.sign=y.sign∧x.a<y.a)))
abbrev lexLt (x y:Way):Prop:=x.cost<y.cost∨(x.cost=y.cost∧posLt x y)
def stepI (o:Option Way) (t:Way):Option Way:=if t.ways=0 then o else match o with
 | none=>some t
 | some x=>if lexLt t x then some t else some x
def chOf (t:Way):Choice:=⟨t.kind,t.sign,(t.a:Int),(t.b:Int),t.cost⟩
structure PB (l:Sl Symbol) (n:Nat) (bx:Nat→Box) (base:Nat→Int) (bc:Nat→Choice) (S:Nat) (X:Int) (o:Option Way) (p:Parser):Prop where
 pi:PI l n bx (upd base S (wr X)) p
 bst:∀ v,v<n→v≠S→(p.best.getD [])[v]?=some (bc v)
 own:∀ t,o=some t→(p.best.getD [])[S]?=some (chOf t)
 zero:o=none↔X=0
 pos:0≤X
theorem PB.take {l:Sl Symbol} {n:Nat} {bx:Nat→Box} {base:Nat→Int} {bc:Nat→Choice} {S:Nat} {X:Int} {o:Option Way} {p:Parser} (h:PB l n bx base bc S X o p) (hS:S<n) {t:Way} (hp:0<t.ways) (hs:stepI o t=some t):PB l n bx base bc S (X+t.ways) (stepI o t) ⟨p.list,p.boxes,setS p.best (S:Int) (chOf t),setS p.count (S:Int) (wr (wr X+t.ways))⟩:=by
 obtain ⟨y,hy⟩:∃ y,(p.best.getD [])[S]?=some y:=⟨_,List.getElem?_eq_getElem (by have:=h.pi.best;omega)⟩
 have pos:=h.pos
 refine ⟨h.pi.add hS _ (by rw [setS_len];exact h.pi.best),fun v hv hn => ?_,fun u hu => ?_,?_,by omega⟩
 ·show ((setS p.best (S:Int) _).getD [])[v]?=_
  rw [kHt hy,if_neg hn]
  exact h.bst v hv hn
 ·show ((setS p.best (S:Int) _).getD [])[S]?=_
  rw [hs] at hu
  cases hu
  rw [kHt hy,if_pos rfl]
 ·rw [hs]
  exact ⟨fun e=>(by cases e),fun e=>by omega⟩
def lastIx (S:Nat):Nat→Nat
 | 0=>0
 | i+1=>bif outQ S i then lastIx S i else i
def Lnk (N:Nat) (base:Nat→Int) (v:Nat) (x y:Choice):Prop :=
 (v &&& (v - 1)=0∧y=⟨0,(lastIx v N:Int),0,0,0⟩)∨(v &&& (v - 1)≠0∧∃ t:Way,x=chOf t∧y=chOf t∧t.kind≠0∧0<t.a∧t.a<v∧t.b<v∧base t.a≠0∧(t.b=0∨base t.b≠0)∧t.a+t.b≤v)
theorem Lnk.mono {N v S:Nat} {base:Nat→Int} {x y:Choice} {u:Int} (h:Lnk N base v x y) (hv:v≤S) (hu:base S=0):Lnk N (upd base S u) v x y:=by
 rcases h with h | ⟨h1,t,h2,h3,h4,h5,h6,h7,h8,h9,h10⟩
 ·exact .inl h
 ·refine .inr ⟨h1,t,h2,h3,h4,h5,h6,h7,?_,?_,h10⟩
  ·rw [upd_ne _ (by omega)]
   exact h8
  ·rw [upd_ne _ (by omega)]
   exact h9
abbrev CandL:=List (ByteArray×Int)
inductive SPth (pc:ByteArray→ByteArray→Int):List CandL→ByteArray→List ByteArray→Int→Prop
 | nil {a:ByteArray}:SPth pc [] a [] 0
 | cons {C:CandL} {Cs:List CandL} {a w:ByteArray} {c r:Int} {ws:List ByteArray} (hw:(w,c)∈C) (h:SPth pc Cs w ws r):SPth pc (C::Cs) a (w::ws) (pc a w+(c+r))
theorem SPth.len {pc:ByteArray→ByteArray→Int} {Cs:List CandL} {a:ByteArray} {ws:List ByteArray} {c:Int} (h:SPth pc Cs a ws c):ws.length=Cs.length:=by
 induction h with
 | nil=>rfl
 | cons hw h ih=>simp [ih]
def nameB (b:UInt8):Bool:=kF3 b || ((decide (48≤(b.toNat:Int)) && decide ((b.toNat:Int)≤57)) || decide ((b.toNat:Int)=45))
def kDb (l:List UInt8):Bool:=match l with
 | []=>false
 | b::r=>kF3 b && (decide ((b::r).length≤12) && (b::r).all nameB)
theorem isDig_eq (b:UInt8):isDig b=(decide (48≤(b.toNat:Int)) && decide ((b.toNat:Int)≤57)):=rfl
theorem nameImpl {s:ByteArray} (h:kDb (bl s)=true):t_q1 s=some true:=by
 obtain ⟨b,r,hb⟩:∃ b r,bl s=b::r:=by
  cases e:bl s with
  | nil=>rw [e] at h;cases h
  | cons b r=>exact ⟨b,r,rfl⟩
 rw [hb] at h
 have hh:(kF3 b && (decide ((b::r).length≤12) && (b::r).all nameB))=true:=h
 rw [Bool.and_eq_true,Bool.and_eq_true,decide_eq_true_eq] at hh
 obtain ⟨h1,h2,h3⟩:=hh
 have hl:=bl_len s
 rw [hb] at hl
 have hs1:1≤s.size:=by rw [← hl];simp
 have hs2:s.size≤12:=by omega
 have g0:getB s 0=some b:=by
  have:getB s ((0:Nat):Int)=some b:=by
   unfold getB
   rw [hb]
   exact kBl rfl
  exact this
 have d1:decide ((s.size:Int)<1)=false:=decide_eq_false (by omega)
 have d2:decide (12<(s.size:Int))=false:=decide_eq_false (by omega)
 have lp:kBo (s0_q1 (bl s)) 0=some (.inl ()):=by
  have:=loopT_at (step:=s0_q1 (bl s)) (bl s).length (fun k=>(k:Int)) (.inl ())
   (fun k hk=>by
    obtain ⟨x,hx⟩:∃ x,(bl s)[k]?=some x:=⟨_,List.getElem?_eq_getElem hk⟩
    have hn:nameB x=true:=by
     have hm:=List.mem_of_getElem? hx
     rw [hb] at hm
     exact List.all_eq_true.1 h3 x hm
    have c:decide ((k:Int)<(((bl s).length:Nat):Int))=true:=decide_eq_true (by omega)
    have ws:=kCt hk (by rw [hb];omega)
    unfold s0_q1
    simp only [Option.getD_some,c,cond_true,kBl hx,kA5]
    unfold nameB at hn
    cases q1:kF3 x <;> cases q2:decide (48≤(x.toNat:Int)) <;> cases q3:decide ((x.toNat:Int)≤57) <;> cases q4:decide ((x.toNat:Int)=45) <;> rw [q1,q2,q3,q4] at hn <;> first | (simp only [cond_true,cond_false,kA5,Bool.not_true,Bool.not_false,Bool.and_true,Bool.and_false,Bool.false_and,Bool.true_and,ws];done) | (cases hn;done))
   (by
    unfold s0_q1
    simp only [Option.getD_some,Int.lt_irrefl,decide_false,cond_false]) 0 (by omega)
  exact this
 have hbO:bytesO s=some (bl s):=by unfold bytesO;rw [if_pos (by omega)]
 unfold t_q1
 simp only [d1,d2,cond_false,kA5,g0,h1,Bool.not_true,hbO,lp]
theorem nameSpec {s:ByteArray} (h:kDb (bl s)=true):kHl s=some true:=by
 obtain ⟨b,r,hb⟩:∃ b r,bl s=b::r:=by
  cases e:bl s with
  | nil=>rw [e] at h;cases h
  | cons b r=>exact ⟨b,r,rfl⟩
 rw [hb] at h
 have hh:(kF3 b && (decide ((b::r).length≤12) && (b::r).all nameB))=true:=h
 rw [Bool.and_eq_true,Bool.and_eq_true,decide_eq_true_eq] at hh
 obtain ⟨h1,h2,h3⟩:=hh
 have hl:=bl_len s
 rw [hb] at hl
 have hs1:1≤s.size:=by rw [← hl];simp
 have g0:getB s 0=some b:=by
  have:getB s ((0:Nat):Int)=some b:=by
   unfold getB
   rw [hb]
   exact kBl rfl
  exact this
 have d1:decide (s=(⟨#[]⟩:ByteArray))=false:=decide_eq_false (fun e=>by rw [e] at hs1;exact absurd hs1 (by decide))
 have d2:decide (12<(s.size:Int))=false:=decide_eq_false (by omega)
 have lp:kBo (s0_q20 s) 0=some (.inl ()):=by
  have:=loopT_at (step:=s0_q20 s) (bl s).length (fun k=>(k:Int)) (.inl ())
   (fun k hk=>by
    obtain ⟨x,hx⟩:∃ x,(bl s)[k]?=some x:=⟨_,List.getElem?_eq_getElem hk⟩
    have hn:nameB x=true:=by
     have hm:=List.mem_of_getElem? hx
     rw [hb] at hm
     exact List.all_eq_true.1 h3 x hm
    have hkl:k<s.size:=by rw [← hl,← hb];exact hk
    have c:decide ((k:Int)<(s.size:Int))=true:=decide_eq_true (by omega)
    have ws:=kCt hkl (by omega)
    have gx:getB s (k:Int)=some x:=by
     unfold getB
     exact kBl hx
    unfold s0_q20
    simp only [c,cond_true,gx,kA5]
    unfold nameB at hn
    rw [← isDig_eq] at hn
    cases q1:kF3 x <;> cases q2:isDig x <;> cases q4:decide ((x.toNat:Int)=45) <;> rw [q1,q2,q4] at hn <;> first | (simp only [cond_true,cond_false,kA5,Bool.not_true,Bool.not_false,ws];done) | (cases hn;done))
   (by
    have c:decide (((bl s).length:Int)<(s.size:Int))=false:=decide_eq_false (by rw [bl_len];omega)
    unfold s0_q20
    simp only [c,cond_false]) 0 (by omega)
  exact this
 unfold kHl
 simp only [d1,d2,cond_false,kA5,g0,h1,Bool.not_true,lp]
def fitR:List Channel→List Int→Prop
 | [],[]=>True
 | c::cs,v::vs=>(c.low≤v∧v≤c.high)∧fitR cs vs
 | _,_=>False
theorem kHh:∀ {cs:List Channel} {vs:List Int},fitR cs vs→vs.length=cs.length
 | [],[],_=>rfl
 | c::cs,v::vs,h=>by
  rw [List.length_cons,List.length_cons,kHh h.2]
 | [],_::_,h=>h.elim
 | _::_,[],h=>h.elim
theorem fitR_at:∀ {cs:List Channel} {vs:List Int},fitR cs vs→∀ {k:Nat} {v:Int},vs[k]?=some v→∃ c,cs[k]?=some c∧kBh v c.low c.high=true
 | [],[],_,k,v,hv=>by simp at hv
 | c::cs,v0::vs,h,0,v,hv=>by
  simp only [List.getElem?_cons_zero,Option.some.injEq] at hv
  subst hv
  exact ⟨c,rfl,by unfold kBh;rw [decide_eq_true h.1.1,decide_eq_true h.1.2];rfl⟩
 | c::cs,v0::vs,h,k+1,v,hv=>fitR_at h.2 (k:=k) (by simpa using hv)
 | [],_::_,h,_,_,_=>h.elim
 | _::_,[],h,_,_,_=>h.elim
def kG7 (c:Channel):Prop:=kDb (bl c.name)=true∧kDb (bl c.unit)=true∧(-1000000000≤c.low∧c.low≤1000000000)∧(-1000000000≤c.high∧c.high≤1000000000)∧c.low<c.high
structure FileOK (f:File):Prop where
 c1:1≤(f.channels.getD []).length
 c6:(f.channels.getD []).length≤6
 ch:∀ c∈f.channels.getD [],kG7 c
 nd:((f.channels.getD []).map Channel.name).Nodup
 st:(f.strokes.getD []).length≤16
 rw1:∀ r∈f.strokes.getD [],1≤(r.values.getD []).length∧(r.values.getD []).length≤60
 rw2:∀ r∈f.strokes.getD [],∀ w∈r.values.getD [],fitR (f.channels.getD []) (w.getD [])
 nt:(f.notes.getD []).length≤12
 n1:∀ n∈f.notes.getD [],0≤n.frm∧n.frm<n.upto∧n.upto≤(((f.strokes.getD []).length:Nat):Int)
 n2:∀ n∈f.notes.getD [],kDb (bl n.text)=true
theorem firstAt {A R:Type} {f:Nat→A→Option R} {r:R}:∀ {l:List A} {k i:Nat} {a:A},l[i]?=some a→f (k+i) a=some r→(∀ j b,j<i→l[j]?=some b→f (k+j) b=none)→kHd f l k=some r
 | [],_,_,_,h,_,_=>by simp at h
 | x::l,k,0,a,h,h1,_=>by
  simp only [List.getElem?_cons_zero,Option.some.injEq] at h
  subst h
  unfold kHd
  rw [show f k x=some r from h1]
 | x::l,k,i+1,a,h,h1,h2=>by
  unfold kHd
  have h0:f k x=none:=h2 0 x (by omega) rfl
  rw [h0]
  refine firstAt (l:=l) (k:=k+1) (i:=i) (a:=a) (by simpa using h) (by rw [← h1];congr 1;omega) fun j b hj hb => ?_
  have:=h2 (j+1) b (by omega) (by simpa using hb)
  rw [← this]
  congr 1
  omega
theorem names_ne {l:List Channel} (h:(l.map Channel.name).Nodup) {i j:Nat} {a b:Channel} (hi:l[i]?=some a) (hj:l[j]?=some b) (hne:j≠i):b.name≠a.name:=by
 intro e
 have h1:(l.map Channel.name)[i]?=some a.name:=by rw [List.getElem?_map,hi];rfl
 have h2:(l.map Channel.name)[j]?=some a.name:=by rw [List.getElem?_map,hj,← e];rfl
 exact hne ((List.getElem?_inj (List.getElem?_eq_some_iff.1 h2).1 h).1 (h2.trans h1.symm))
theorem findSpec {f:File} (h:((f.channels.getD []).map Channel.name).Nodup) (hl:(f.channels.getD []).length≤6) {k:Nat} {a:Channel} (hk:(f.channels.getD [])[k]?=some a):t_q34 f a.name=some (k:Int):=by
 have lp:=loopT_first (step:=s0_q34 f a.name) (f.channels.getD []) (fun i c=>bif decide (c.name=a.name) then some ((i:Nat):Int) else none) (.inl ()) .inr
  (fun i c hc=>by
   have hi:=kEk hc
   have cc:decide ((i:Int)<(((f.channels.getD []).length:Nat):Int))=true:=decide_eq_true (by omega)
   unfold s0_q34
   simp only [cc,cond_true,kBl hc,kA5,kCt hi (by omega:(f.channels.getD []).length≤4294967296)]
   cases decide (c.name=a.name) <;> rfl)
  (by
   unfold s0_q34
   simp only [Int.lt_irrefl,decide_false,cond_false])
 have hf:kHd (fun (i:Nat) (c:Channel)=>bif decide (c.name=a.name) then some ((i:Nat):Int) else none) (f.channels.getD []) 0=some (k:Int):=firstAt hk (by simp) (fun j b hj hb=>by
  have:=names_ne h hk hb (by omega)
  simp [this])
 rw [hf] at lp
 unfold t_q34
 rw [lp,kA5]
theorem findImpl {s:Sl Channel} (h:((s.getD []).map Channel.name).Nodup) (hl:(s.getD []).length≤6) {k:Nat} {a:Channel} (hk:(s.getD [])[k]?=some a):t_q5 s a.name=some (k:Int):=by
 have lp:=loopT_first (step:=s0_q18 (fun c=>t_q6 c a.name) s) (s.getD []) (fun i c=>bif decide (c.name=a.name) then some ((i:Nat):Int) else none) (.inl ()) .inr
  (fun i c hc=>by
   have hi:=kEk hc
   have cc:decide ((i:Int)<(((s.getD []).length:Nat):Int))=true:=decide_eq_true (by omega)
   unfold s0_q18 t_q6
   simp only [cc,cond_true,kBl hc,kA5,kCt hi (by omega:(s.getD []).length≤4294967296)]
   cases decide (c.name=a.name) <;> rfl)
  (by
   unfold s0_q18
   simp only [Int.lt_irrefl,decide_false,cond_false])
 have hf:kHd (fun (i:Nat) (c:Channel)=>bif decide (c.name=a.name) then some ((i:Nat):Int) else none) (s.getD []) 0=some (k:Int):=firstAt hk (by simp) (fun j b hj hb=>by
  have:=names_ne h hk hb (by omega)
  simp [this])
 rw [hf] at lp
 unfold t_q5 t_q18
 rw [lp,kA5,kA5]
theorem kEj {a b c:Int} (h:b≤a∧a≤c):kBh a b c=true:=by
 unfold kBh
 rw [decide_eq_true h.1,decide_eq_true h.2]
 rfl
theorem chanImpl {c:Channel} (h:kG7 c):t_q9 c=some true:=by
 obtain ⟨h1,h2,h3,h4,h5⟩:=h
 unfold t_q9
 simp only [nameImpl h1,nameImpl h2,kEj h3,kEj h4,decide_eq_true h5,kA5,cond_true]
theorem chanSpec {c:Channel} (h:kG7 c):t_q32 c=some true:=by
 obtain ⟨h1,h2,h3,h4,h5⟩:=h
 unfold t_q32 t_q38
 simp only [nameSpec h1,nameSpec h2,kEj h3,kEj h4,decide_eq_true h5,kA5,cond_true]
theorem notedImpl {f:File} {n:Note} (h:0≤n.frm∧n.frm<n.upto∧n.upto≤(((f.strokes.getD []).length:Nat):Int)):t_q8 f n=some true:=by
 unfold t_q8
 simp only [decide_eq_true h.1,decide_eq_true h.2.1,decide_eq_true h.2.2,kA5,cond_true]
theorem placeSpec {f:File} {n:Note} (h:0≤n.frm∧n.frm<n.upto∧n.upto≤(((f.strokes.getD []).length:Nat):Int)):t_q36 f n=some true:=by
 unfold t_q36
 simp only [decide_eq_true h.1,decide_eq_true h.2.1,decide_eq_true h.2.2,kA5,cond_true]
theorem allT {A:Type} {step:Int→Option (Sum Int (Sum Unit Bool))} (l:List A) (hl:l.length≤4294967296) (next:∀ (k:Nat) a,l[k]?=some a→step (k:Int)=some (.inl ((k+1:Nat):Int))) (fin:step ((l.length:Nat):Int)=some (.inr (.inl ()))):kBo step 0=some (.inl ()):=by
 have:=loopT_at (step:=step) l.length (fun k=>(k:Int)) (.inl ()) (fun k hk=>by
  obtain ⟨a,ha⟩:∃ a,l[k]?=some a:=⟨_,List.getElem?_eq_getElem hk⟩
  exact next k a ha) fin 0 (by omega)
 exact this
theorem rowImpl {C:Sl Channel} {w:Sl Int} (h:fitR (C.getD []) (w.getD [])) (hl:(C.getD []).length≤6):kBo (s1_q10 C w) 0=some (.inl ()):=by
 have hw:=kHh h
 refine allT (w.getD []) (by omega) (fun k a ha => ?_) ?_
 ·have hk:=kEk ha
  obtain ⟨c,hc,hb⟩:=fitR_at h ha
  have cc:decide ((k:Int)<(((w.getD []).length:Nat):Int))=true:=decide_eq_true (by omega)
  unfold s1_q10
  simp only [cc,cond_true,kBl ha,kBl hc,kA5,hb,Bool.not_true,cond_false,kCt hk (by omega:(w.getD []).length≤4294967296)]
 ·unfold s1_q10
  simp only [Int.lt_irrefl,decide_false,cond_false]
theorem rowSpec {f:File} {w:Sl Int} (h:fitR (f.channels.getD []) (w.getD [])) (hl:(f.channels.getD []).length≤6):t_q37 f w=some true:=by
 have hw:=kHh h
 have lp:kBo (s0_q37 f w) 0=some (.inl ()):=by
  refine allT (w.getD []) (by omega) (fun k a ha => ?_) ?_
  ·have hk:=kEk ha
   obtain ⟨c,hc,hb⟩:=fitR_at h ha
   have cc:decide ((k:Int)<(((w.getD []).length:Nat):Int))=true:=decide_eq_true (by omega)
   unfold s0_q37
   simp only [cc,cond_true,kBl ha,kBl hc,kA5,hb,Bool.not_true,cond_false,kCt hk (by omega:(w.getD []).length≤4294967296)]
  ·unfold s0_q37
   simp only [Int.lt_irrefl,decide_false,cond_false]
 have d:decide ((((w.getD []).length:Nat):Int)=(((f.channels.getD []).length:Nat):Int))=true:=decide_eq_true (by rw [hw])
 unfold t_q37
 simp only [d,Bool.not_true,cond_false,lp,kA5]
theorem rowsImpl {C:Sl Channel} {r:FRows} (h1:1≤(r.values.getD []).length∧(r.values.getD []).length≤60) (h2:∀ w∈r.values.getD [],fitR (C.getD []) (w.getD [])) (hl:(C.getD []).length≤6):t_q10 r C=some true:=by
 have lp:kBo (s0_q10 r C) 0=some (.inl ()):=by
  refine allT (r.values.getD []) (by omega) (fun k a ha => ?_) ?_
  ·have hk:=kEk ha
   have hf:=h2 a (List.mem_of_getElem? ha)
   have hw:=kHh hf
   have cc:decide ((k:Int)<(((r.values.getD []).length:Nat):Int))=true:=decide_eq_true (by omega)
   have d:decide ((((a.getD []).length:Nat):Int)=(((C.getD []).length:Nat):Int))=true:=decide_eq_true (by rw [hw])
   unfold s0_q10
   simp only [cc,cond_true,kBl ha,kA5,d,Bool.not_true,cond_false,rowImpl hf hl,kCt hk (by omega:(r.values.getD []).length≤4294967296)]
  ·unfold s0_q10
   simp only [Int.lt_irrefl,decide_false,cond_false]
 have d1:decide (1≤(((r.values.getD []).length:Nat):Int))=true:=decide_eq_true (by omega)
 have d2:decide ((((r.values.getD []).length:Nat):Int)≤60)=true:=decide_eq_true (by omega)
 unfold t_q10
 simp only [lp,kA5,d1,d2,cond_true]
theorem fileImpl {f:File} (h:FileOK f):t_q3 f=some true:=by
 have l0:kBo (s0_q3 f) 0=some (.inl ()):=by
  refine allT (f.channels.getD []) (by have:=h.c6;omega) (fun k a ha => ?_) ?_
  ·have hk:=kEk ha
   have cc:decide ((k:Int)<(((f.channels.getD []).length:Nat):Int))=true:=decide_eq_true (by omega)
   unfold s0_q3
   simp only [cc,cond_true,kBl ha,kA5,chanImpl (h.ch a (List.mem_of_getElem? ha)),Bool.not_true,cond_false,findImpl h.nd h.c6 ha,decide_true,kCt hk (by have:=h.c6;omega:(f.channels.getD []).length≤4294967296)]
  ·unfold s0_q3
   simp only [Int.lt_irrefl,decide_false,cond_false]
 have l1:kBo (s1_q3 f) 0=some (.inl ()):=by
  refine allT (f.strokes.getD []) (by have:=h.st;omega) (fun k a ha => ?_) ?_
  ·have hk:=kEk ha
   have cc:decide ((k:Int)<(((f.strokes.getD []).length:Nat):Int))=true:=decide_eq_true (by omega)
   have hm:=List.mem_of_getElem? ha
   unfold s1_q3
   simp only [cc,cond_true,kBl ha,kA5,rowsImpl (h.rw1 a hm) (h.rw2 a hm) h.c6,Bool.not_true,cond_false,kCt hk (by have:=h.st;omega:(f.strokes.getD []).length≤4294967296)]
  ·unfold s1_q3
   simp only [Int.lt_irrefl,decide_false,cond_false]
 have l2:kBo (s2_q3 f) 0=some (.inl ()):=by
  refine allT (f.notes.getD []) (by have:=h.nt;omega) (fun k a ha => ?_) ?_
  ·have hk:=kEk ha
   have cc:decide ((k:Int)<(((f.notes.getD []).length:Nat):Int))=true:=decide_eq_true (by omega)
   have hm:=List.mem_of_getElem? ha
   unfold s2_q3
   simp only [cc,cond_true,kBl ha,kA5,notedImpl (h.n1 a hm),nameImpl (h.n2 a hm),Bool.not_true,cond_false,kCt hk (by have:=h.nt;omega:(f.notes.getD []).length≤4294967296)]
  ·unfold s2_q3
   simp only [Int.lt_irrefl,decide_false,cond_false]
 have d1:decide ((((f.channels.getD []).length:Nat):Int)<1)=false:=decide_eq_false (by have:=h.c1;omega)
 have d2:decide (6<(((f.channels.getD []).length:Nat):Int))=false:=decide_eq_false (by have:=h.c6;omega)
 have d3:decide (16<(((f.strokes.getD []).length:Nat):Int))=false:=decide_eq_false (by have:=h.st;omega)
 have d4:decide (12<(((f.notes.getD []).length:Nat):Int))=false:=decide_eq_false (by have:=h.nt;omega)
 unfold t_q3
 simp only [d1,d2,d3,d4,cond_false,kA5,l0,l1,l2]
theorem fileSpec {f:File} (h:FileOK f):t_q35 f=some true:=by
 have l0:kBo (s0_q35 f) 0=some (.inl ()):=by
  refine allT (f.channels.getD []) (by have:=h.c6;omega) (fun k a ha => ?_) ?_
  ·have hk:=kEk ha
   have cc:decide ((k:Int)<(((f.channels.getD []).length:Nat):Int))=true:=decide_eq_true (by omega)
   unfold s0_q35
   simp only [cc,cond_true,kBl ha,kA5,chanSpec (h.ch a (List.mem_of_getElem? ha)),Bool.not_true,cond_false,findSpec h.nd h.c6 ha,decide_true,kCt hk (by have:=h.c6;omega:(f.channels.getD []).length≤4294967296)]
  ·unfold s0_q35
   simp only [Int.lt_irrefl,decide_false,cond_false]
 have l1:kBo (s1_q35 f) 0=some (.inl ()):=by
  refine allT (f.strokes.getD []) (by have:=h.st;omega) (fun k a ha => ?_) ?_
  ·have hk:=kEk ha
   have cc:decide ((k:Int)<(((f.strokes.getD []).length:Nat):Int))=true:=decide_eq_true (by omega)
   have hm:=List.mem_of_getElem? ha
   have h1:=h.rw1 a hm
   have l2:kBo (s2_q35 f a) 0=some (.inl ()):=by
    refine allT (a.values.getD []) (by omega) (fun j w hw => ?_) ?_
    ·have hj:=kEk hw
     have c2:decide ((j:Int)<(((a.values.getD []).length:Nat):Int))=true:=decide_eq_true (by omega)
     unfold s2_q35
     simp only [c2,cond_true,kBl hw,kA5,rowSpec (h.rw2 a hm w (List.mem_of_getElem? hw)) h.c6,Bool.not_true,cond_false,kCt hj (by omega:(a.values.getD []).length≤4294967296)]
    ·unfold s2_q35
     simp only [Int.lt_irrefl,decide_false,cond_false]
   have wi:kBh (((a.values.getD []).length:Nat):Int) 1 60=true:=kEj (by omega)
   unfold s1_q35
   simp only [cc,cond_true,kBl ha,kA5,l2,wi,Bool.not_true,cond_false,kCt hk (by have:=h.st;omega:(f.strokes.getD []).length≤4294967296)]
  ·unfold s1_q35
   simp only [Int.lt_irrefl,decide_false,cond_false]
 have l3:kBo (s3_q35 f) 0=some (.inl ()):=by
  refine allT (f.notes.getD []) (by have:=h.nt;omega) (fun k a ha => ?_) ?_
  ·have hk:=kEk ha
   have cc:decide ((k:Int)<(((f.notes.getD []).length:Nat):Int))=true:=decide_eq_true (by omega)
   have hm:=List.mem_of_getElem? ha
   unfold s3_q35
   simp only [cc,cond_true,kBl ha,kA5,placeSpec (h.n1 a hm),nameSpec (h.n2 a hm),Bool.not_true,cond_false,kCt hk (by have:=h.nt;omega:(f.notes.getD []).length≤4294967296)]
  ·unfold s3_q35
   simp only [Int.lt_irrefl,decide_false,cond_false]
 have w6:kBh (((f.channels.getD []).length:Nat):Int) 1 6=true:=kEj (by have:=h.c1;have:=h.c6;omega)
 have d3:decide ((((f.strokes.getD []).length:Nat):Int)≤16)=true:=decide_eq_true (by have:=h.st;omega)
 have d4:decide ((((f.notes.getD []).length:Nat):Int)≤12)=true:=decide_eq_true (by have:=h.nt;omega)
 unfold t_q35
 simp only [l0,l1,l3,kA5,w6,d3,d4,cond_true]
def onK (k:Int) (n:Note):Bool:=decide (n.frm≤k) && decide (k<n.upto)
def txtK (k:Int) (l:List Note):List ByteArray:=(l.filter (onK k)).map Note.text
theorem kGe (k:Int) (l:List Note) (n:Note):txtK k (l++[n])=txtK k l++(bif onK k n then [n.text] else []):=by
 unfold txtK
 rw [List.filter_append,List.map_append]
 congr 1
 cases h:onK k n with
 | true=>rw [List.filter_cons_of_pos h];rfl
 | false=>rw [List.filter_cons_of_neg (by rw [h];exact Bool.false_ne_true)];rfl
theorem txtK_len (k:Int) (l:List Note):(txtK k l).length≤l.length:=by
 unfold txtK
 rw [List.length_map]
 exact List.length_filter_le _ _
theorem notesImpl {f:File} (h:FileOK f) {k:Int} (h0:0≤k) (h1:k<(((f.strokes.getD []).length:Nat):Int)):∃ r,t_q2 f k=some (r,0)∧r.getD []=txtK k (f.notes.getD []):=by
 have hst:=h.st
 have hnt:=h.nt
 have w1:wr ((((f.strokes.getD []).length:Nat):Int) - 1)=(((f.strokes.getD []).length:Nat):Int) - 1:=kE8 (by omega) (by omega)
 have wi:kBh k 0 (wr ((((f.strokes.getD []).length:Nat):Int) - 1))=true:=by rw [w1];exact kEj ⟨h0,by omega⟩
 obtain ⟨r,lp,hr⟩:=kFs (step:=s0_q2 f k) (fun i (st:Sl ByteArray×Int)=>∃ g:Sl ByteArray,st=(g,(i:Int))∧g.getD []=txtK k ((f.notes.getD []).take i)) (f.notes.getD []).length
  (fun r=>r.getD []=txtK k (f.notes.getD []))
  (fun i st hi hst=>by
   obtain ⟨g,rfl,hg⟩:=hst
   obtain ⟨n,hn⟩:∃ n,(f.notes.getD [])[i]?=some n:=⟨_,List.getElem?_eq_getElem hi⟩
   have cc:decide ((i:Int)<(((f.notes.getD []).length:Nat):Int))=true:=decide_eq_true (by omega)
   have ws:=kCt hi (by omega:(f.notes.getD []).length≤4294967296)
   have tk:(f.notes.getD []).take (i+1)=(f.notes.getD []).take i++[n]:=by rw [List.take_add_one,hn];rfl
   have hgl:(g.getD []).length≤12:=by
    rw [hg]
    have:=txtK_len k ((f.notes.getD []).take i)
    rw [List.length_take] at this
    omega
   left
   cases ho:onK k n with
   | true =>
    have ho2:=ho
    unfold onK at ho2
    rw [Bool.and_eq_true] at ho2
    have ap:=kDs (s:=g) (l:=[n.text]) (by simp;omega)
    refine ⟨(kB3 g [n.text],((i+1:Nat):Int)),?_,_,rfl,?_⟩
    ·unfold s0_q2
     dsimp only
     simp only [cc,cond_true,kBl hn,kA5,ho2.1,ho2.2,ap,ws]
    ·rw [tk,kGe,ho,← hg]
     cases g <;> rfl
   | false =>
    refine ⟨(g,((i+1:Nat):Int)),?_,_,rfl,?_⟩
    ·have ho2:=ho
     unfold onK at ho2
     unfold s0_q2
     dsimp only
     simp only [cc,cond_true,kBl hn,kA5]
     cases q1:decide (n.frm≤k) with
     | false=>simp only [cond_false,kA5,ws]
     | true =>
      rw [q1,Bool.true_and] at ho2
      simp only [cond_true,ho2,kA5,cond_false,ws]
    ·rw [tk,kGe,ho,← hg]
     simp)
  (fun st hst=>by
   obtain ⟨g,rfl,hg⟩:=hst
   refine ⟨g,?_,by rw [hg,List.take_length]⟩
   unfold s0_q2
   simp only [Int.lt_irrefl,decide_false,cond_false]) (s:=((none:Sl ByteArray),0)) ⟨none,rfl,rfl⟩
 refine ⟨r,?_,hr⟩
 unfold t_q2
 simp only [fileImpl h,kA5,Bool.not_true,cond_false,wi,lp]
theorem notesSpec {f:File} (h:FileOK f) {k:Int} (h0:0≤k) (h1:k<(((f.strokes.getD []).length:Nat):Int)):∃ r,t_q21 f k=some (r,0)∧r.getD []=txtK k (f.notes.getD []):=by
 have hst:=h.st
 have hnt:=h.nt
 have w1:wr ((((f.strokes.getD []).length:Nat):Int) - 1)=(((f.strokes.getD []).length:Nat):Int) - 1:=kE8 (by omega) (by omega)
 have wi:kBh k 0 (wr ((((f.strokes.getD []).length:Nat):Int) - 1))=true:=by rw [w1];exact kEj ⟨h0,by omega⟩
 obtain ⟨r,lp,hr⟩:=kFs (step:=s0_q21 f k) (fun i (st:Sl ByteArray×Int)=>∃ g:Sl ByteArray,st=(g,(i:Int))∧g.getD []=txtK k ((f.notes.getD []).take i)) (f.notes.getD []).length
  (fun r=>r.getD []=txtK k (f.notes.getD []))
  (fun i st hi hst=>by
   obtain ⟨g,rfl,hg⟩:=hst
   obtain ⟨n,hn⟩:∃ n,(f.notes.getD [])[i]?=some n:=⟨_,List.getElem?_eq_getElem hi⟩
   have cc:decide ((i:Int)<(((f.notes.getD []).length:Nat):Int))=true:=decide_eq_true (by omega)
   have ws:=kCt hi (by omega:(f.notes.getD []).length≤4294967296)
   have tk:(f.notes.getD []).take (i+1)=(f.notes.getD []).take i++[n]:=by rw [List.take_add_one,hn];rfl
   have hgl:(g.getD []).length≤12:=by
    rw [hg]
    have:=txtK_len k ((f.notes.getD []).take i)
    rw [List.length_take] at this
    omega
   have hn1:=h.n1 n (List.mem_of_getElem? hn)
   have wn:wr (n.upto - 1)=n.upto - 1:=kE8 (by omega) (by omega)
   have wo:kBh k n.frm (wr (n.upto - 1))=onK k n:=by
    rw [wn]
    unfold kBh onK
    congr 1
    exact decide_eq_decide.2 (by omega)
   left
   cases ho:onK k n with
   | true =>
    have ap:=kDs (s:=g) (l:=[n.text]) (by simp;omega)
    refine ⟨(kB3 g [n.text],((i+1:Nat):Int)),?_,_,rfl,?_⟩
    ·unfold s0_q21
     dsimp only
     simp only [cc,cond_true,kBl hn,kA5,wo,ho,ap,ws]
    ·rw [tk,kGe,ho,← hg]
     cases g <;> rfl
   | false =>
    refine ⟨(g,((i+1:Nat):Int)),?_,_,rfl,?_⟩
    ·unfold s0_q21
     dsimp only
     simp only [cc,cond_true,kBl hn,kA5,wo,ho,cond_false,ws]
    ·rw [tk,kGe,ho,← hg]
     simp)
  (fun st hst=>by
   obtain ⟨g,rfl,hg⟩:=hst
   refine ⟨g,?_,by rw [hg,List.take_length]⟩
   unfold s0_q21
   simp only [Int.lt_irrefl,decide_false,cond_false]) (s:=((some ([]:List ByteArray)),0)) ⟨some [],rfl,rfl⟩
 refine ⟨r,?_,hr⟩
 unfold t_q21
 simp only [fileSpec h,kA5,Bool.not_true,cond_false,wi,lp]
theorem cloneN_ok (s:Sl Note) (hl:(s.getD []).length≤4294967296):∃ c:Sl Note,t_q16 s=some c∧c.getD []=s.getD []:=by
 unfold t_q16
 cases s with
 | none=>exact ⟨none,rfl,rfl⟩
 | some l =>
  have ap:=kDs (s:=some ([]:List Note)) (l:=l) (by simpa using hl)
  simp only [Option.isNone_some,cond_false,Option.getD_some,ap,kA5]
  exact ⟨_,rfl,rfl⟩
theorem cloneC_ok (s:Sl Channel) (hl:(s.getD []).length≤4294967296):∃ c:Sl Channel,t_q15 s=some c∧c.getD []=s.getD []:=by
 unfold t_q15
 cases s with
 | none=>exact ⟨none,rfl,rfl⟩
 | some l =>
  have ap:=kDs (s:=some ([]:List Channel)) (l:=l) (by simpa using hl)
  simp only [Option.isNone_some,cond_false,Option.getD_some,ap,kA5]
  exact ⟨_,rfl,rfl⟩
theorem cloneI_ok (s:Sl Int) (hl:(s.getD []).length≤4294967296):∃ c:Sl Int,t_q17 s=some c∧c.getD []=s.getD []:=by
 unfold t_q17
 cases s with
 | none=>exact ⟨none,rfl,rfl⟩
 | some l =>
  have ap:=kDs (s:=some ([]:List Int)) (l:=l) (by simpa using hl)
  simp only [Option.isNone_some,cond_false,Option.getD_some,ap,kA5]
  exact ⟨_,rfl,rfl⟩
def kC1 (s:Sl (Sl Int)):List (List Int):=(s.getD []).map fun w=>w.getD []
theorem copyRows (r:FRows) (h1:(r.values.getD []).length≤60) (h2:∀ w∈r.values.getD [],(w.getD []).length≤6):∃ v:Sl (Sl Int),kBo (s1_q4 r) ((none:Sl (Sl Int)),0)=some v∧kC1 v=kC1 r.values:=by
 obtain ⟨v,lp,hv⟩:=kFs (step:=s1_q4 r) (fun i (st:Sl (Sl Int)×Int)=>∃ g:Sl (Sl Int),st=(g,(i:Int))∧kC1 g=((r.values.getD []).take i).map fun w=>w.getD []) (r.values.getD []).length
  (fun v=>kC1 v=kC1 r.values)
  (fun i st hi hst=>by
   obtain ⟨g,rfl,hg⟩:=hst
   obtain ⟨w,hw⟩:∃ w,(r.values.getD [])[i]?=some w:=⟨_,List.getElem?_eq_getElem hi⟩
   obtain ⟨c,e1,e2⟩:=cloneI_ok w (by have:=h2 w (List.mem_of_getElem? hw);omega)
   have cc:decide ((i:Int)<(((r.values.getD []).length:Nat):Int))=true:=decide_eq_true (by omega)
   have ws:=kCt hi (by omega:(r.values.getD []).length≤4294967296)
   have hgl:(g.getD []).length≤60:=by
    have:=congrArg List.length hg
    unfold kC1 at this
    rw [List.length_map,List.length_map,List.length_take] at this
    omega
   have ap:=kDs (s:=g) (l:=[c]) (by simp;omega)
   left
   refine ⟨(kB3 g [c],((i+1:Nat):Int)),?_,_,rfl,?_⟩
   ·unfold s1_q4
    dsimp only
    simp only [cc,cond_true,kBl hw,kA5,e1,ap,ws]
   ·rw [List.take_add_one,hw,List.map_append,← hg]
    have:kC1 (kB3 g [c])=kC1 g++[c.getD []]:=by cases g <;> simp [kC1,kB3]
    rw [this,e2]
    rfl)
  (fun st hst=>by
   obtain ⟨g,rfl,hg⟩:=hst
   refine ⟨g,?_,by rw [hg,List.take_length];rfl⟩
   unfold s1_q4
   simp only [Int.lt_irrefl,decide_false,cond_false]) (s:=((none:Sl (Sl Int)),0)) ⟨none,rfl,rfl⟩
 exact ⟨v,lp,hv⟩
theorem intRows_all {v u:Sl (Sl Int)} (h:kC1 v=kC1 u) {p:List Int→Prop} (hu:∀ w∈u.getD [],p (w.getD [])):∀ w∈v.getD [],p (w.getD []):=fun w hw=>by
 have hm:w.getD []∈kC1 v:=List.mem_map.2 ⟨w,hw,rfl⟩
 rw [h] at hm
 obtain ⟨w',hw',e⟩:=List.mem_map.1 hm
 rw [← e]
 exact hu w' hw'
theorem intRows_len {v u:Sl (Sl Int)} (h:kC1 v=kC1 u):(v.getD []).length=(u.getD []).length:=by
 have:=congrArg List.length h
 unfold kC1 at this
 rwa [List.length_map,List.length_map] at this
theorem copyFile_ok {f:File} (h:FileOK f):∃ c,t_q4 f=some c∧c.channels.getD []=f.channels.getD []∧c.notes.getD []=f.notes.getD []∧(c.strokes.getD []).map (fun r=>kC1 r.values)=(f.strokes.getD []).map fun r=>kC1 r.values:=by
 have hst:=h.st
 have hnt:=h.nt
 have hc6:=h.c6
 obtain ⟨cc,e1,e2⟩:=cloneC_ok f.channels (by omega)
 obtain ⟨cn,e3,e4⟩:=cloneN_ok f.notes (by omega)
 obtain ⟨⟨q1,q2,q3⟩,lp,p1,p2,p3⟩:=kFs (step:=s0_q4 f) (fun i (st:Sl Channel×Sl Note×Sl FRows×Int)=>∃ g:Sl FRows,st=(cc,cn,g,(i:Int))∧(g.getD []).map (fun r=>kC1 r.values)=((f.strokes.getD []).take i).map fun r=>kC1 r.values) (f.strokes.getD []).length
  (fun r=>r.1=cc∧r.2.1=cn∧(r.2.2.getD []).map (fun r=>kC1 r.values)=(f.strokes.getD []).map fun r=>kC1 r.values)
  (fun i st hi hst=>by
   obtain ⟨g,rfl,hg⟩:=hst
   obtain ⟨r,hr⟩:∃ r,(f.strokes.getD [])[i]?=some r:=⟨_,List.getElem?_eq_getElem hi⟩
   have hm:=List.mem_of_getElem? hr
   obtain ⟨v,f1,f2⟩:=copyRows r (h.rw1 r hm).2 (fun w hw=>by have:=kHh (h.rw2 r hm w hw);omega)
   have cc':decide ((i:Int)<(((f.strokes.getD []).length:Nat):Int))=true:=decide_eq_true (by omega)
   have ws:=kCt hi (by omega:(f.strokes.getD []).length≤4294967296)
   have hgl:(g.getD []).length≤16:=by
    have:=congrArg List.length hg
    rw [List.length_map,List.length_map,List.length_take] at this
    omega
   have ap:=kDs (s:=g) (l:=[(⟨v⟩:FRows)]) (by simp;omega)
   left
   refine ⟨(cc,cn,kB3 g [(⟨v⟩:FRows)],((i+1:Nat):Int)),?_,_,rfl,?_⟩
   ·unfold s0_q4
    dsimp only
    simp only [cc',cond_true,kBl hr,kA5,f1,ap,ws]
   ·rw [List.take_add_one,hr,List.map_append,← hg]
    have:((kB3 g [(⟨v⟩:FRows)]).getD [])=g.getD []++[⟨v⟩]:=by cases g <;> rfl
    rw [this,List.map_append]
    congr 1
    simp only [List.map_cons,List.map_nil,f2]
    rfl)
  (fun st hst=>by
   obtain ⟨g,rfl,hg⟩:=hst
   refine ⟨(cc,cn,g),?_,rfl,rfl,by rw [hg,List.take_length]⟩
   unfold s0_q4
   simp only [Int.lt_irrefl,decide_false,cond_false]) (s:=(cc,cn,(none:Sl FRows),0)) ⟨none,rfl,rfl⟩
 dsimp only at p1 p2 p3
 subst p1 p2
 refine ⟨⟨q1,q3,q2⟩,?_,e2,e4,p3⟩
 unfold t_q4
 simp only [e1,e3,kA5,lp]
theorem addNote_ok {f:File} (h:FileOK f) {n:Note} (h1:0≤n.frm∧n.frm<n.upto∧n.upto≤(((f.strokes.getD []).length:Nat):Int)) (h2:kDb (bl n.text)=true) (h3:(f.notes.getD []).length≤11) :
  ∃ g,t_q0 f n=some (g,0)∧FileOK g∧g.notes.getD []=f.notes.getD []++[n]∧(g.strokes.getD []).length=(f.strokes.getD []).length:=by
 obtain ⟨c,e1,e2,e3,e4⟩:=copyFile_ok h
 have el:(c.strokes.getD []).length=(f.strokes.getD []).length:=by
  have:=congrArg List.length e4
  rwa [List.length_map,List.length_map] at this
 have hrow:∀ r∈c.strokes.getD [],∃ r'∈f.strokes.getD [],kC1 r.values=kC1 r'.values:=fun r hr=>by
  have hm:kC1 r.values∈(c.strokes.getD []).map (fun r=>kC1 r.values):=List.mem_map.2 ⟨r,hr,rfl⟩
  rw [e4] at hm
  obtain ⟨r',h5,h6⟩:=List.mem_map.1 hm
  exact ⟨r',h5,h6.symm⟩
 have ap:=kDs (s:=c.notes) (l:=[n]) (by rw [e3];simp;omega)
 have en:(kB3 c.notes [n]).getD []=f.notes.getD []++[n]:=by
  rw [← e3]
  cases c.notes <;> rfl
 have d:decide (12≤(((f.notes.getD []).length:Nat):Int))=false:=decide_eq_false (by omega)
 refine ⟨⟨c.channels,c.strokes,kB3 c.notes [n]⟩,?_,⟨?_,?_,?_,?_,?_,fun r hr => ?_,fun r hr => ?_,?_,fun m hm => ?_,fun m hm => ?_⟩,en,el⟩
 ·unfold t_q0
  simp only [fileImpl h,kA5,Bool.not_true,cond_false,notedImpl h1,nameImpl h2,d,e1,ap]
 ·show 1≤(c.channels.getD []).length
  rw [e2];exact h.c1
 ·show (c.channels.getD []).length≤6
  rw [e2];exact h.c6
 ·show ∀ x∈c.channels.getD [],kG7 x
  rw [e2];exact h.ch
 ·show ((c.channels.getD []).map Channel.name).Nodup
  rw [e2];exact h.nd
 ·show (c.strokes.getD []).length≤16
  rw [el];exact h.st
 ·obtain ⟨r',h5,h6⟩:=hrow r hr
  rw [intRows_len h6]
  exact h.rw1 r' h5
 ·obtain ⟨r',h5,h6⟩:=hrow r hr
  show ∀ w∈r.values.getD [],fitR (c.channels.getD []) (w.getD [])
  rw [e2]
  exact intRows_all h6 (p:=fun w=>fitR (f.channels.getD []) w) (h.rw2 r' h5)
 ·show ((kB3 c.notes [n]).getD []).length≤12
  rw [en]
  simp
  omega
 ·have hm':m∈(kB3 c.notes [n]).getD []:=hm
  rw [en] at hm'
  show 0≤m.frm∧m.frm<m.upto∧m.upto≤(((c.strokes.getD []).length:Nat):Int)
  rw [el]
  rcases List.mem_append.1 hm' with h7 | h7
  ·exact h.n1 m h7
  ·rw [List.mem_singleton.1 h7];exact h1
 ·have hm':m∈(kB3 c.notes [n]).getD []:=hm
  rw [en] at hm'
  rcases List.mem_append.1 hm' with h7 | h7
  ·exact h.n2 m h7
  ·rw [List.mem_singleton.1 h7];exact h2
theorem addNote_no {f:File} (h:FileOK f) {n:Note} (h1:¬ (0≤n.frm∧n.frm<n.upto∧n.upto≤(((f.strokes.getD []).length:Nat):Int))):∃ g,t_q0 f n=some (g,2):=by
 have hn:t_q8 f n=some false:=by
  unfold t_q8
  cases q1:decide (0≤n.frm) with
  | false=>rfl
  | true =>
   cases q2:decide (n.frm<n.upto) with
   | false=>rfl
   | true =>
    have q3:decide (n.upto≤(((f.strokes.getD []).length:Nat):Int))=false:=decide_eq_false fun q=>h1 ⟨of_decide_eq_true q1,of_decide_eq_true q2,q⟩
    simp only [cond_true,kA5,q3]
 unfold t_q0
 simp only [fileImpl h,kA5,Bool.not_true,cond_false,hn,Bool.not_false,cond_true]
 exact ⟨_,rfl⟩
theorem dr_text {s:l00Src} {k:Int} (h:SK s k) (hk:k≤100000000000) {l:List ByteArray} (h0:l≠[]) (hl:l.length≤60000):∃ r s',t_q29 s (some l)=some (r,s')∧SK s' (k+2)∧r∈l:=by
 have hp:0<l.length:=List.length_pos_iff.2 h0
 obtain ⟨r,s',e,k',p,q,_⟩:=kDm h hk (n:=(l.length:Nat)) (by omega)
 have e':kBp ⟨s.code,s.pos,s.seed⟩ (l.length:Nat)=some (r,s'):=e
 obtain ⟨a,ha,ha2⟩:=getI_in (l:=l) p (q (by omega))
 unfold t_q29
 simp only [Option.getD_some,e',kA5,ha]
 exact ⟨_,_,rfl,k',List.mem_of_getElem? ha2⟩
def kHc (a b c:Channel):Prop:=(a.low≤5∧84≤a.high)∧(b.low≤-40∧79≤b.high)∧(c.low≤0∧900≤c.high)
def drawnCh (C:Sl Channel):Prop:=(∃ a b c,C.getD []=[a,b,c]∧kHc a b c)∨∃ a b c d,C.getD []=[a,b,c,d]∧kHc a b c∧d.low≤0∧255≤d.high
theorem drawRows {C:Sl Channel} (hC:drawnCh C) {s:l00Src} {k:Int} (h:SK s k) (hk:k≤1000000) {T:Int} (t0:0≤T) (t1:T≤500) (N:Nat) (hN:N≤5) :
  ∃ (s':l00Src) (v:Sl (Sl Int)) (t:Int),kBo (s4_q33 C) (s.code,s.pos,s.seed,(none:Sl (Sl Int)),T,(N:Int))=some (s'.code,s'.pos,s'.seed,v,t)∧SK s' (k+10*N)∧(v.getD []).length=N∧(∀ w∈v.getD [],fitR (C.getD []) (w.getD []))∧0≤t∧t≤T+9*N:=by
 obtain ⟨r,lp,s',v,t,hr,q⟩:=kFs (step:=s4_q33 C)
  (fun i (st:Sl UInt8×Int×Int×Sl (Sl Int)×Int×Int)=>∃ (s1:l00Src) (v:Sl (Sl Int)) (t:Int),st=(s1.code,s1.pos,s1.seed,v,t,(N:Int) - i)∧SK s1 (k+10*i)∧(v.getD []).length=i∧(∀ w∈v.getD [],fitR (C.getD []) (w.getD []))∧0≤t∧t≤T+9*i) N
  (fun r=>∃ (s':l00Src) (v:Sl (Sl Int)) (t:Int),r=(s'.code,s'.pos,s'.seed,v,t)∧SK s' (k+10*N)∧(v.getD []).length=N∧(∀ w∈v.getD [],fitR (C.getD []) (w.getD []))∧0≤t∧t≤T+9*N)
  (fun i st hi hst=>by
   obtain ⟨s1,v,t,rfl,g1,g2,g3,g4,g5⟩:=hst
   obtain ⟨r1,s2,e1,k1,p1,q1,_⟩:=kDm g1 (by omega) (n:=80) (by omega)
   obtain ⟨r2,s3,e2,k2,p2,q2,_⟩:=kDm k1 (by omega) (n:=120) (by omega)
   have q1':=q1 (by omega)
   have q2':=q2 (by omega)
   have e1':kBp ⟨s1.code,s1.pos,s1.seed⟩ 80=some (r1,s2):=e1
   have c:decide ((0:Int)<(N:Int) - i)=true:=decide_eq_true (by omega)
   have w1:wr (5+r1)=5+r1:=kE8 (by omega) (by omega)
   have w2:wr (r2 - 40)=r2 - 40:=kE8 (by omega) (by omega)
   have w6:wr ((N:Int) - i - 1)=(N:Int) - ((i+1:Nat):Int):=by rw [kE8 (by omega) (by omega)];omega
   have gap:∀ w:Sl Int,kF9 v [w]=some (some (v.getD []++[w])):=fun w=>kGk v w (by omega)
   have gas:∀ w:Sl Int,kB3 v [w]=some (v.getD []++[w]):=fun w=>kHx _ _ _
   left
   have fin:∀ (w:Sl Int) (s4:l00Src) (k4:Int),SK s4 k4→k4≤k+10*i+6→fitR (C.getD []) (w.getD []) →
     ∃ s',(kA0 (kF9 v [w]) fun _=>kA0 (kBp s4 9) fun c316=>kA0 (kG5 c316.2 30) fun c322 =>
      bif c322.1 then
       kA0 (some ((fun a b:Int=>max a b) 0 (wr ((wr (t+(wr (1+c316.1)))) - 20)))) fun c329 =>
       some (Sum.inl (c322.2.code,c322.2.pos,c322.2.seed,kB3 v [w],c329,wr ((N:Int) - i - 1)))
      else some (Sum.inl (c322.2.code,c322.2.pos,c322.2.seed,kB3 v [w],wr (t+(wr (1+c316.1))),wr ((N:Int) - i - 1))))=some (Sum.inl s':Sum (Sl UInt8×Int×Int×Sl (Sl Int)×Int×Int) (Sl UInt8×Int×Int×Sl (Sl Int)×Int)) ∧
      ∃ (s1:l00Src) (v:Sl (Sl Int)) (t:Int),s'=(s1.code,s1.pos,s1.seed,v,t,(N:Int) - ((i+1:Nat):Int))∧SK s1 (k+10*((i+1:Nat):Int))∧(v.getD []).length=i+1∧(∀ w∈v.getD [],fitR (C.getD []) (w.getD []))∧0≤t∧t≤T+9*((i+1:Nat):Int):=by
    intro w s4 k4 hs4 hk4 hw
    obtain ⟨r4,s5,e4,k5,p4,q4,_⟩:=kDm hs4 (by omega) (n:=9) (by omega)
    obtain ⟨b5,s6,e5,k6⟩:=dr_one k5 (by omega) (n:=30) (by omega)
    have q4':=q4 (by omega)
    have w3:wr (1+r4)=1+r4:=kE8 (by omega) (by omega)
    have w4:wr (t+(1+r4))=t+(1+r4):=kE8 (by omega) (by omega)
    have w5:wr (t+(1+r4) - 20)=t+(1+r4) - 20:=kE8 (by omega) (by omega)
    have hrow:∀ x∈((some (v.getD []++[w]):Sl (Sl Int)).getD []),fitR (C.getD []) (x.getD []):=fun x hx=>by
     rcases List.mem_append.1 hx with hx | hx
     ·exact g3 x hx
     ·rw [List.mem_singleton.1 hx];exact hw
    have hlen:((some (v.getD []++[w]):Sl (Sl Int)).getD []).length=i+1:=by
     show (v.getD []++[w]).length=_
     rw [List.length_append,g2]
     rfl
    cases b5 with
    | true =>
     refine ⟨(s6.code,s6.pos,s6.seed,some (v.getD []++[w]),max 0 (t+(1+r4) - 20),(N:Int) - ((i+1:Nat):Int)),?_,s6,_,_,rfl,k6.mono (by omega),hlen,hrow,by omega,by omega⟩
     simp only [gap,gas,kA5,e4,e5,cond_true,w3,w4,w5,w6]
    | false =>
     refine ⟨(s6.code,s6.pos,s6.seed,some (v.getD []++[w]),t+(1+r4),(N:Int) - ((i+1:Nat):Int)),?_,s6,_,_,rfl,k6.mono (by omega),hlen,hrow,by omega,by omega⟩
     simp only [gap,gas,kA5,e4,e5,cond_false,w3,w4,w6]
   rcases hC with ⟨ca,cb,cc,hc,h3⟩ | ⟨ca,cb,cc,cd,hc,h3,h4,h5⟩
   ·obtain ⟨⟨a1,a2⟩,⟨b1,b2⟩,c1,c2⟩:=h3
    have d3:decide (3<(((C.getD []).length:Nat):Int))=false:=decide_eq_false (by rw [hc];simp)
    obtain ⟨s',f1,f2⟩:=fin (some [5+r1,r2 - 40,t]) s3 _ k2 (by omega) (by
     rw [hc]
     exact ⟨⟨by omega,by omega⟩,⟨by omega,by omega⟩,⟨by omega,by omega⟩,trivial⟩)
    refine ⟨s',?_,f2⟩
    rw [← f1]
    unfold s4_q33
    simp only [c,cond_true,e1',kA5,e2,d3,cond_false,w1,w2]
   ·obtain ⟨⟨a1,a2⟩,⟨b1,b2⟩,c1,c2⟩:=h3
    have d3:decide (3<(((C.getD []).length:Nat):Int))=true:=decide_eq_true (by rw [hc];simp)
    obtain ⟨r3,s4,e3,k3,p3,q3,_⟩:=kDm k2 (by omega) (n:=256) (by omega)
    have q3':=q3 (by omega)
    have ar:kF9 (some ([5+r1,r2 - 40,t]:List Int)) [r3]=some (some [5+r1,r2 - 40,t,r3]):=kGk _ _ (by simp)
    have apS:kB3 (some ([5+r1,r2 - 40,t]:List Int)) [r3]=some [5+r1,r2 - 40,t,r3]:=rfl
    obtain ⟨s',f1,f2⟩:=fin (some [5+r1,r2 - 40,t,r3]) s4 _ k3 (by omega) (by
     rw [hc]
     exact ⟨⟨by omega,by omega⟩,⟨by omega,by omega⟩,⟨by omega,by omega⟩,⟨by omega,by omega⟩,trivial⟩)
    refine ⟨s',?_,f2⟩
    rw [← f1]
    unfold s4_q33
    simp only [c,cond_true,e1',kA5,e2,d3,e3,w1,w2,ar,apS])
  (fun st hst=>by
   obtain ⟨s1,v,t,rfl,g1,g2,g3,g4,g5⟩:=hst
   refine ⟨(s1.code,s1.pos,s1.seed,v,t),?_,s1,v,t,rfl,g1,g2,g3,g4,g5⟩
   unfold s4_q33
   have c:decide ((0:Int)<(N:Int) - (N:Nat))=false:=decide_eq_false (by omega)
   simp only [c,cond_false]) (s:=(s.code,s.pos,s.seed,(none:Sl (Sl Int)),T,(N:Int))) ⟨s,none,T,by simp,h.mono (by omega),rfl,(fun w hw=>by cases hw),t0,by omega⟩
 exact ⟨s',v,t,by rw [lp,hr],q⟩
theorem drawStrokes {C:Sl Channel} (hC:drawnCh C) {s:l00Src} {k:Int} (h:SK s k) (hk:k≤100000) {T:Int} (t0:0≤T) (t1:T≤20) (N:Nat) (hN:N≤3) :
  ∃ (s':l00Src) (S:Sl FRows),kBo s0_q33 (s.code,s.pos,s.seed,C,(none:Sl FRows),(none:Sl Note),T,(N:Int))=some (s'.code,s'.pos,s'.seed,C,S,(none:Sl Note))∧SK s' (k+52*N)∧(S.getD []).length=N∧(∀ r∈S.getD [],(1≤(r.values.getD []).length∧(r.values.getD []).length≤60)∧∀ w∈r.values.getD [],fitR (C.getD []) (w.getD [])):=by
 obtain ⟨r,lp,s',S,hr,q⟩:=kFs (step:=s0_q33)
  (fun i (st:Sl UInt8×Int×Int×Sl Channel×Sl FRows×Sl Note×Int×Int)=>∃ (s1:l00Src) (S:Sl FRows) (t:Int),st=(s1.code,s1.pos,s1.seed,C,S,none,t,(N:Int) - i)∧SK s1 (k+52*i)∧(S.getD []).length=i∧(∀ r∈S.getD [],(1≤(r.values.getD []).length∧(r.values.getD []).length≤60)∧∀ w∈r.values.getD [],fitR (C.getD []) (w.getD []))∧0≤t∧t≤T+45*i) N
  (fun r=>∃ (s':l00Src) (S:Sl FRows),r=(s'.code,s'.pos,s'.seed,C,S,none)∧SK s' (k+52*N)∧(S.getD []).length=N∧(∀ r∈S.getD [],(1≤(r.values.getD []).length∧(r.values.getD []).length≤60)∧∀ w∈r.values.getD [],fitR (C.getD []) (w.getD [])))
  (fun i st hi hst=>by
   obtain ⟨s1,S,t,rfl,g1,g2,g3,g4,g5⟩:=hst
   obtain ⟨r1,s2,e1,k1,p1,q1,_⟩:=kDm g1 (by omega) (n:=5) (by omega)
   have q1':=q1 (by omega)
   have e1':kBp ⟨s1.code,s1.pos,s1.seed⟩ 5=some (r1,s2):=e1
   have c:decide ((0:Int)<(N:Int) - i)=true:=decide_eq_true (by omega)
   have w1:wr (1+r1)=(((1+r1).toNat:Nat):Int):=by rw [kE8 (by omega) (by omega)];omega
   have w6:wr ((N:Int) - i - 1)=(N:Int) - ((i+1:Nat):Int):=by rw [kE8 (by omega) (by omega)];omega
   obtain ⟨s3,v,t',f1,f2,f3,f4,f5,f6⟩:=drawRows hC k1 (by omega) g4 (by omega) (1+r1).toNat (by omega)
   have ap:=kGk S (⟨v⟩:FRows) (by omega)
   have apS:kB3 S [(⟨v⟩:FRows)]=some (S.getD []++[⟨v⟩]):=kHx _ _ _
   left
   refine ⟨(s3.code,s3.pos,s3.seed,C,some (S.getD []++[⟨v⟩]),none,t',(N:Int) - ((i+1:Nat):Int)),?_,s3,_,t',rfl,f2.mono (by omega),?_,fun r hr => ?_,f5,by omega⟩
   ·unfold s0_q33
    simp only [c,cond_true,e1',kA5,w1,f1,ap,apS,w6]
   ·show (S.getD []++[(⟨v⟩:FRows)]).length=_
    rw [List.length_append,g2]
    rfl
   ·rcases List.mem_append.1 hr with hr | hr
    ·exact g3 r hr
    ·rw [List.mem_singleton.1 hr]
     exact ⟨⟨by show 1≤(v.getD []).length;omega,by show (v.getD []).length≤60;omega⟩,f4⟩)
  (fun st hst=>by
   obtain ⟨s1,S,t,rfl,g1,g2,g3,g4,g5⟩:=hst
   refine ⟨(s1.code,s1.pos,s1.seed,C,S,none),?_,s1,S,rfl,g1,g2,g3⟩
   unfold s0_q33
   have c:decide ((0:Int)<(N:Int) - (N:Nat))=false:=decide_eq_false (by omega)
   simp only [c,cond_false]) (s:=(s.code,s.pos,s.seed,C,(none:Sl FRows),(none:Sl Note),T,(N:Int))) ⟨s,none,T,by simp,h.mono (by omega),rfl,(fun w hw=>by cases hw),t0,by omega⟩
 exact ⟨s',S,by rw [lp,hr],q⟩
theorem drawNotes {C:Sl Channel} {S:Sl FRows} (hS:(S.getD []).length≤3) {s:l00Src} {k:Int} (h:SK s k) (hk:k≤100000) (N:Nat) (hN:N≤2) :
  ∃ (s':l00Src) (M:Sl Note),kBo (kHy S) (s.code,s.pos,s.seed,C,(none:Sl Note),(N:Int))=some (s'.code,s'.pos,s'.seed,C,M)∧(M.getD []).length≤2∧∀ n∈M.getD [],(0≤n.frm∧n.frm<n.upto∧n.upto≤(((S.getD []).length:Nat):Int))∧kDb (bl n.text)=true:=by
 obtain ⟨r,lp,s',M,hr,q⟩:=kFs (step:=kHy S)
  (fun i (st:Sl UInt8×Int×Int×Sl Channel×Sl Note×Int)=>∃ (s1:l00Src) (M:Sl Note),st=(s1.code,s1.pos,s1.seed,C,M,(N:Int) - i)∧SK s1 (k+6*i)∧(M.getD []).length=i∧∀ n∈M.getD [],(0≤n.frm∧n.frm<n.upto∧n.upto≤(((S.getD []).length:Nat):Int))∧kDb (bl n.text)=true) N
  (fun r=>∃ (s':l00Src) (M:Sl Note),r=(s'.code,s'.pos,s'.seed,C,M)∧(M.getD []).length≤2∧∀ n∈M.getD [],(0≤n.frm∧n.frm<n.upto∧n.upto≤(((S.getD []).length:Nat):Int))∧kDb (bl n.text)=true)
  (fun i st hi hst=>by
   obtain ⟨s1,M,rfl,g1,g2,g3⟩:=hst
   have c:decide ((0:Int)<(N:Int) - i)=true:=decide_eq_true (by omega)
   have w6:wr ((N:Int) - i - 1)=(N:Int) - ((i+1:Nat):Int):=by rw [kE8 (by omega) (by omega)];omega
   by_cases c2:(0:Int)<(((S.getD []).length:Nat):Int)
   ·left
    have d2:=decide_eq_true c2
    obtain ⟨r1,s2,e1,k1,p1,q1,_⟩:=kDm g1 (by omega) (n:=(((S.getD []).length:Nat):Int)) (by omega)
    have e1':kBp ⟨s1.code,s1.pos,s1.seed⟩ (((S.getD []).length:Nat):Int)=some (r1,s2):=e1
    have q1':=q1 (by omega)
    have w1:wr ((((S.getD []).length:Nat):Int) - r1)=(((S.getD []).length:Nat):Int) - r1:=kE8 (by omega) (by omega)
    obtain ⟨r2,s3,e2,k2,p2,q2,_⟩:=kDm k1 (by omega) (n:=(((S.getD []).length:Nat):Int) - r1) (by omega)
    have q2':=q2 (by omega)
    obtain ⟨x,s4,e3,k3,hx⟩:=dr_text k2 (by omega) (l:=[(⟨#[119,111,114,100]⟩:ByteArray),(⟨#[97]⟩:ByteArray),(⟨#[120,45,50]⟩:ByteArray)]) (by simp) (by simp)
    have w2:wr (r1+1)=r1+1:=kE8 (by omega) (by omega)
    have w3:wr (r1+1+r2)=r1+1+r2:=kE8 (by omega) (by omega)
    have ap:=kGk M (⟨r1,r1+1+r2,x⟩:Note) (by omega)
    have apS:kB3 M [(⟨r1,r1+1+r2,x⟩:Note)]=some (M.getD []++[⟨r1,r1+1+r2,x⟩]):=kHx _ _ _
    refine ⟨(s4.code,s4.pos,s4.seed,C,some (M.getD []++[⟨r1,r1+1+r2,x⟩]),(N:Int) - ((i+1:Nat):Int)),?_,s4,_,rfl,k3.mono (by omega),?_,fun n hn => ?_⟩
    ·unfold kHy
     simp only [c,cond_true,kA5,d2,e1',w1,e2,e3,w2,w3,ap,apS,w6]
    ·show (M.getD []++[(⟨r1,r1+1+r2,x⟩:Note)]).length=_
     rw [List.length_append,g2]
     rfl
    ·rcases List.mem_append.1 hn with hn | hn
     ·exact g3 n hn
     ·rw [List.mem_singleton.1 hn]
      refine ⟨⟨p1,by show r1<r1+1+r2;omega,by show r1+1+r2≤_;omega⟩,?_⟩
      show kDb (bl x)=true
      simp only [List.mem_cons,List.not_mem_nil,or_false] at hx
      rcases hx with rfl | rfl | rfl <;> decide
   ·right
    have d2:=decide_eq_false c2
    refine ⟨(s1.code,s1.pos,s1.seed,C,M),?_,s1,M,rfl,by omega,g3⟩
    unfold kHy
    simp only [c,cond_true,kA5,d2,cond_false])
  (fun st hst=>by
   obtain ⟨s1,M,rfl,g1,g2,g3⟩:=hst
   refine ⟨(s1.code,s1.pos,s1.seed,C,M),?_,s1,M,rfl,by omega,g3⟩
   unfold kHy
   have c:decide ((0:Int)<(N:Int) - (N:Nat))=false:=decide_eq_false (by omega)
   simp only [c,cond_false,kA5]) (s:=(s.code,s.pos,s.seed,C,(none:Sl Note),(N:Int))) ⟨s,none,by simp,h.mono (by omega),rfl,fun w hw=>by cases hw⟩
 exact ⟨s',M,by rw [lp,hr],q⟩
def fileTail (C:Sl Channel) (s:l00Src):Option (File×l00Src) :=
 kA0 (kBp s 20) fun c91 =>
 kA0 (kBp c91.2 4) fun c97 =>
 kA0 (kBo s0_q33 (c97.2.code,c97.2.pos,c97.2.seed,C,(none:Sl FRows),(none:Sl Note),c91.1,c97.1)) fun (q125,q126,q127,q129,q131,q135) =>
 kA0 (kBp (⟨q125,q126,q127⟩:l00Src) 3) fun c141 =>
 kA0 (kBo (kHy q131) (c141.2.code,c141.2.pos,c141.2.seed,q129,q135,c141.1)) fun (q159,q160,q161,q163,q165) =>
 some ((⟨q163,q131,q165⟩:File),(⟨q159,q160,q161⟩:l00Src))
theorem fileTail_ex {C:Sl Channel} (hC:drawnCh C) {s:l00Src} {k:Int} (h:SK s k) (hk:k≤1000):∃ f s',fileTail C s=some (f,s')∧f.channels=C∧(f.strokes.getD []).length≤3∧(∀ r∈f.strokes.getD [],(1≤(r.values.getD []).length∧(r.values.getD []).length≤60)∧∀ w∈r.values.getD [],fitR (C.getD []) (w.getD [])) ∧
  (f.notes.getD []).length≤2∧∀ n∈f.notes.getD [],(0≤n.frm∧n.frm<n.upto∧n.upto≤(((f.strokes.getD []).length:Nat):Int))∧kDb (bl n.text)=true:=by
 obtain ⟨r1,s1,e1,k1,p1,q1,_⟩:=kDm h (by omega) (n:=20) (by omega)
 obtain ⟨r2,s2,e2,k2,p2,q2,_⟩:=kDm k1 (by omega) (n:=4) (by omega)
 have q1':=q1 (by omega)
 have q2':=q2 (by omega)
 obtain ⟨N,rfl⟩:=Int.eq_ofNat_of_zero_le p2
 obtain ⟨s3,S,f1,f2,f3,f4⟩:=drawStrokes hC k2 (by omega) p1 (by omega) N (by omega)
 obtain ⟨r4,s4,e4,k4,p4,q4,_⟩:=kDm f2 (by omega) (n:=3) (by omega)
 have q4':=q4 (by omega)
 obtain ⟨M,rfl⟩:=Int.eq_ofNat_of_zero_le p4
 obtain ⟨s5,L,h1,h2,h3⟩:=drawNotes (C:=C) (S:=S) (by omega) k4 (by omega) M (by omega)
 have e4':kBp ⟨s3.code,s3.pos,s3.seed⟩ 3=some ((M:Int),s4):=e4
 refine ⟨⟨C,S,L⟩,⟨s5.code,s5.pos,s5.seed⟩,?_,rfl,by show (S.getD []).length≤3;omega,f4,h2,h3⟩
 unfold fileTail
 simp only [e1,e2,kA5,f1,e4',h1]
theorem drawnFile {C:Sl Channel} (hC:drawnCh C) (hc:∀ c∈C.getD [],kG7 c) (hnd:((C.getD []).map Channel.name).Nodup) {s:l00Src} {k:Int} (h:SK s k) (hk:k≤1000):∃ f s',fileTail C s=some (f,s')∧FileOK f∧(f.notes.getD []).length≤2∧(f.strokes.getD []).length≤3:=by
 obtain ⟨f,s',e,h1,h2,h3,h4,h5⟩:=fileTail_ex hC h hk
 subst h1
 have hl:1≤(f.channels.getD []).length∧(f.channels.getD []).length≤6:=by
  rcases hC with ⟨a,b,c,h6,_⟩ | ⟨a,b,c,d,h6,_⟩ <;> rw [h6] <;> simp
 exact ⟨f,s',e,⟨hl.1,hl.2,hc,hnd,by omega,fun r hr=>(h3 r hr).1,fun r hr=>(h3 r hr).2,by omega,fun n hn=>(h5 n hn).1,fun n hn=>(h5 n hn).2⟩,h4,h2⟩
theorem drawFile_ex (code:Sl UInt8):∃ f,t_q19 code=some f∧FileOK f∧(f.notes.getD []).length≤2∧(f.strokes.getD []).length≤3:=by
 have h0:SK ⟨code,0,0⟩ 0:=⟨Int.le_refl _,Int.le_refl _⟩
 obtain ⟨r1,s1,e1,k1,p1,q1,_⟩:=kDm h0 (by omega) (n:=9) (by omega)
 obtain ⟨r2,s2,e2,k2,p2,q2,_⟩:=kDm k1 (by omega) (n:=300) (by omega)
 have q1':=q1 (by omega)
 have q2':=q2 (by omega)
 obtain ⟨u,s3,e3,k3,hu⟩:=dr_text k2 (by omega) (l:=[(⟨#[109,115]⟩:ByteArray),(⟨#[109,115]⟩:ByteArray),(⟨#[99,115]⟩:ByteArray),(⟨#[115]⟩:ByteArray),(⟨#[104,111,117,114]⟩:ByteArray)]) (by simp) (by simp)
 obtain ⟨m,s4,e4,k4,hm⟩:=dr_among k3 (by omega) (l:=[900,3600,3600000]) (by simp) (by simp)
 obtain ⟨b5,s5,e5,k5⟩:=dr_one k4 (by omega) (n:=3) (by omega)
 obtain ⟨b6,s6,e6,k6⟩:=dr_one k5 (by omega) (n:=6) (by omega)
 have w1:wr (r1 - 4)=r1 - 4:=kE8 (by omega) (by omega)
 have w2:wr (100+r2)=100+r2:=kE8 (by omega) (by omega)
 have hm':900≤m∧m≤3600000:=by
  simp only [List.mem_cons,List.not_mem_nil,or_false] at hm
  omega
 have hu':kDb (bl u)=true:=by
  simp only [List.mem_cons,List.not_mem_nil,or_false] at hu
  rcases hu with rfl | rfl | rfl | rfl | rfl <;> decide
 obtain ⟨c0,hc0⟩:∃ c0,c0=(⟨(⟨#[120]⟩:ByteArray),(⟨#[109,109]⟩:ByteArray),r1 - 4,100+r2⟩:Channel):=⟨_,rfl⟩
 obtain ⟨cq,hcq⟩:∃ cq,cq=(⟨(⟨#[113]⟩:ByteArray),(⟨#[109,109]⟩:ByteArray),r1 - 4,100+r2⟩:Channel):=⟨_,rfl⟩
 obtain ⟨c1,hc1⟩:∃ c1,c1=(⟨(⟨#[121]⟩:ByteArray),(⟨#[109,109]⟩:ByteArray),(-50),90⟩:Channel):=⟨_,rfl⟩
 obtain ⟨c2,hc2⟩:∃ c2,c2=(⟨(⟨#[116]⟩:ByteArray),u,0,m⟩:Channel):=⟨_,rfl⟩
 obtain ⟨c3,hc3⟩:∃ c3,c3=(⟨(⟨#[112]⟩:ByteArray),(⟨#[111,110,101]⟩:ByteArray),0,255⟩:Channel):=⟨_,rfl⟩
 have k0:kG7 c0:=by rw [hc0];exact ⟨by show kDb (bl (⟨#[120]⟩:ByteArray))=true;decide,by show kDb (bl (⟨#[109,109]⟩:ByteArray))=true;decide,⟨by show -1000000000≤r1 - 4;omega,by show r1 - 4≤1000000000;omega⟩,⟨by show -1000000000≤100+r2;omega,by show 100+r2≤1000000000;omega⟩,by show r1 - 4<100+r2;omega⟩
 have kq:kG7 cq:=by rw [hcq];exact ⟨by show kDb (bl (⟨#[113]⟩:ByteArray))=true;decide,by show kDb (bl (⟨#[109,109]⟩:ByteArray))=true;decide,⟨by show -1000000000≤r1 - 4;omega,by show r1 - 4≤1000000000;omega⟩,⟨by show -1000000000≤100+r2;omega,by show 100+r2≤1000000000;omega⟩,by show r1 - 4<100+r2;omega⟩
 have kc1:kG7 c1:=by rw [hc1];exact ⟨by show kDb (bl (⟨#[121]⟩:ByteArray))=true;decide,by show kDb (bl (⟨#[109,109]⟩:ByteArray))=true;decide,⟨by decide,by decide⟩,⟨by decide,by decide⟩,by decide⟩
 have kc2:kG7 c2:=by rw [hc2];exact ⟨by show kDb (bl (⟨#[116]⟩:ByteArray))=true;decide,hu',⟨by show (-1000000000:Int)≤0;decide,by show (0:Int)≤1000000000;decide⟩,⟨by show -1000000000≤m;omega,by show m≤1000000000;omega⟩,by show 0<m;omega⟩
 have kc3:kG7 c3:=by rw [hc3];exact ⟨by show kDb (bl (⟨#[112]⟩:ByteArray))=true;decide,by show kDb (bl (⟨#[111,110,101]⟩:ByteArray))=true;decide,⟨by decide,by decide⟩,⟨by decide,by decide⟩,by decide⟩
 have t0:kHc c0 c1 c2:=by rw [hc0,hc1,hc2];exact ⟨⟨by show r1 - 4≤5;omega,by show 84≤100+r2;omega⟩,⟨by decide,by decide⟩,⟨by show (0:Int)≤0;decide,by show 900≤m;omega⟩⟩
 have tq:kHc cq c1 c2:=by rw [hcq,hc1,hc2];exact ⟨⟨by show r1 - 4≤5;omega,by show 84≤100+r2;omega⟩,⟨by decide,by decide⟩,⟨by show (0:Int)≤0;decide,by show 900≤m;omega⟩⟩
 have d3:c3.low≤0∧255≤c3.high:=by rw [hc3];exact ⟨by decide,by decide⟩
 have a3:kF9 (some [c0,c1]) [c2]=some (some [c0,c1,c2]):=kGk _ _ (by simp)
 have s3':kB3 (some [c0,c1]) [c2]=some [c0,c1,c2]:=rfl
 have a4:kF9 (some [c0,c1,c2]) [c3]=some (some [c0,c1,c2,c3]):=kGk _ _ (by simp)
 have s4':kB3 (some [c0,c1,c2]) [c3]=some [c0,c1,c2,c3]:=rfl
 have gq:∀ l:List Channel,kF8 (c0::l) 0=some c0:=fun l=>kBl (m:=0) rfl
 have nq:(⟨(⟨#[113]⟩:ByteArray),c0.unit,c0.low,c0.high⟩:Channel)=cq:=by rw [hc0,hcq]
 have sq:∀ l:List Channel,setS (some (c0::l)) 0 cq=some (cq::l):=fun l=>rfl
 have fin:∀ {C:Sl Channel},drawnCh C→(∀ c∈C.getD [],kG7 c)→((C.getD []).map Channel.name).Nodup→(∀ f s',fileTail C s6=some (f,s')→t_q33 ⟨code,0,0⟩=some (f,s'))→∃ f,t_q19 code=some f∧FileOK f∧(f.notes.getD []).length≤2∧(f.strokes.getD []).length≤3:=by
  intro C h1 h2 h3 h4
  obtain ⟨f,s',e,h5,h6⟩:=drawnFile h1 h2 h3 k6 (by omega)
  refine ⟨f,?_,h5,h6⟩
  unfold t_q19
  rw [h4 f s' e,kA5]
 cases b5 with
 | true =>
  cases b6 with
  | true =>
   refine fin (C:=some [cq,c1,c2,c3]) (.inr ⟨cq,c1,c2,c3,rfl,tq,d3⟩) (fun c hc => ?_) ?_ fun f s' e => ?_
   ·simp only [Option.getD_some,List.mem_cons,List.not_mem_nil,or_false] at hc
    rcases hc with rfl | rfl | rfl | rfl <;> assumption
   ·rw [hcq,hc1,hc2,hc3]
    show [(⟨#[113]⟩:ByteArray),(⟨#[121]⟩:ByteArray),(⟨#[116]⟩:ByteArray),(⟨#[112]⟩:ByteArray)].Nodup
    decide
   ·unfold t_q33
    simp only [e1,e2,e3,e4,kA5,w1,w2,← hc0,← hc1,← hc2,← hc3,a3,s3',e5,cond_true,a4,s4',e6,Option.getD_some,gq,nq,sq]
    exact e
  | false =>
   refine fin (C:=some [c0,c1,c2,c3]) (.inr ⟨c0,c1,c2,c3,rfl,t0,d3⟩) (fun c hc => ?_) ?_ fun f s' e => ?_
   ·simp only [Option.getD_some,List.mem_cons,List.not_mem_nil,or_false] at hc
    rcases hc with rfl | rfl | rfl | rfl <;> assumption
   ·rw [hc0,hc1,hc2,hc3]
    show [(⟨#[120]⟩:ByteArray),(⟨#[121]⟩:ByteArray),(⟨#[116]⟩:ByteArray),(⟨#[112]⟩:ByteArray)].Nodup
    decide
   ·unfold t_q33
    simp only [e1,e2,e3,e4,kA5,w1,w2,← hc0,← hc1,← hc2,← hc3,a3,s3',e5,cond_true,a4,s4',e6,cond_false]
    exact e
 | false =>
  cases b6 with
  | true =>
   refine fin (C:=some [cq,c1,c2]) (.inl ⟨cq,c1,c2,rfl,tq⟩) (fun c hc => ?_) ?_ fun f s' e => ?_
   ·simp only [Option.getD_some,List.mem_cons,List.not_mem_nil,or_false] at hc
    rcases hc with rfl | rfl | rfl <;> assumption
   ·rw [hcq,hc1,hc2]
    show [(⟨#[113]⟩:ByteArray),(⟨#[121]⟩:ByteArray),(⟨#[116]⟩:ByteArray)].Nodup
    decide
   ·unfold t_q33
    simp only [e1,e2,e3,e4,kA5,w1,w2,← hc0,← hc1,← hc2,a3,s3',e5,cond_true,e6,cond_false,Option.getD_some,gq,nq,sq]
    exact e
  | false =>
   refine fin (C:=some [c0,c1,c2]) (.inl ⟨c0,c1,c2,rfl,t0⟩) (fun c hc => ?_) ?_ fun f s' e => ?_
   ·simp only [Option.getD_some,List.mem_cons,List.not_mem_nil,or_false] at hc
    rcases hc with rfl | rfl | rfl <;> assumption
   ·rw [hc0,hc1,hc2]
    show [(⟨#[120]⟩:ByteArray),(⟨#[121]⟩:ByteArray),(⟨#[116]⟩:ByteArray)].Nodup
    decide
   ·unfold t_q33
    simp only [e1,e2,e3,e4,kA5,w1,w2,← hc0,← hc1,← hc2,a3,s3',e5,e6,cond_false]
    exact e
theorem a2At_ok (l:Sl UInt8) {i n:Int} (hi:0≤i) (hn:1≤n):∃ r,t_q13 l i n=some r∧0≤r∧r<n:=by
 unfold t_q13
 by_cases c:(((l.getD []).length:Nat):Int)≤i
 ·rw [decide_eq_true c]
  exact ⟨0,rfl,by omega,by omega⟩
 ·have d:decide (n<1)=false:=decide_eq_false (by omega)
  obtain ⟨a,ha,_⟩:=getI_in (l:=l.getD []) hi (by omega)
  obtain ⟨r,e,h1,h2⟩:=remI_pos (a:=(a.toNat:Int)) (b:=n) (by omega) (by omega)
  rw [decide_eq_false c]
  simp only [cond_false,kA5,d,ha,e]
  exact ⟨r,rfl,h1,h2⟩
theorem notesLoop {f g:File} {a b:Int} {m:Note} (hf:FileOK f) (hg:FileOK g) (hs:(g.strokes.getD []).length=(f.strokes.getD []).length) (hm:m=⟨a,wr (a+b),⟨#[109,97,114,107]⟩⟩) (hn:g.notes.getD []=f.notes.getD []++[m]) (c:Int):kBo (s0_q12 f a b (g,c)) 0=some (.inl ()):=by
 have hst:=hf.st
 have hnt:=hf.nt
 have lp:=loopT_at (step:=s0_q12 f a b (g,c)) (f.strokes.getD []).length (fun k=>(k:Int)) (.inl ())
  (fun k hk=>by
   have cc:decide ((k:Int)<(((f.strokes.getD []).length:Nat):Int))=true:=decide_eq_true (by omega)
   obtain ⟨x,e1,e2⟩:=notesSpec hf (k:=(k:Int)) (by omega) (by omega)
   obtain ⟨y,e3,e4⟩:=notesImpl hg (k:=(k:Int)) (by omega) (by omega)
   have ws:=kCt hk (by omega:(f.strokes.getD []).length≤4294967296)
   rw [hn,kGe,← e2] at e4
   have hxl:(x.getD []).length≤12:=by
    rw [e2]
    have:=txtK_len (k:Int) (f.notes.getD [])
    omega
   have wl:wr ((((x.getD []).length:Nat):Int)+1)=(((x.getD []).length:Nat):Int)+1:=kE8 (by omega) (by omega)
   have wl2:wr ((((x.getD []).length:Nat):Int)+1 - 1)=(((x.getD []).length:Nat):Int):=by rw [kE8 (by omega) (by omega)];omega
   have ho:onK (k:Int) m=(decide (a≤(k:Int)) && decide ((k:Int)<wr (a+b))):=by rw [hm];rfl
   have ht:m.text=(⟨#[109,97,114,107]⟩:ByteArray):=by rw [hm]
   unfold s0_q12
   simp only [cc,cond_true,e1,e3,kA5]
   cases q1:decide (a≤(k:Int)) with
   | true =>
    cases q2:decide ((k:Int)<wr (a+b)) with
    | true =>
     rw [q1,q2] at ho
     rw [ho] at e4
     have e5:y.getD []=x.getD []++[m.text]:=e4
     have d1:decide ((((y.getD []).length:Nat):Int)=(((x.getD []).length:Nat):Int)+1)=true:=decide_eq_true (by rw [e5,List.length_append];simp)
     have d2:decide ((((x.getD []).length:Nat):Int)<(((x.getD []).length:Nat):Int)+1)=true:=decide_eq_true (by omega)
     have gy:kF8 (y.getD []) (((x.getD []).length:Nat):Int)=some m.text:=by
      rw [e5]
      exact kBl (by rw [List.getElem?_append_right (Nat.le_refl _),Nat.sub_self];rfl)
     have d3:decide (m.text=(⟨#[109,97,114,107]⟩:ByteArray))=true:=decide_eq_true ht
     simp only [cond_true,cond_false,kA5,decide_true,Bool.not_true,wl,d1,d2,Bool.not_false,Bool.true_and,wl2,gy,d3,ws]
    | false =>
     rw [q1,q2] at ho
     rw [ho] at e4
     have e5:y.getD []=x.getD []:=by rw [e4];exact List.append_nil _
     have d1:decide ((((y.getD []).length:Nat):Int)=(((x.getD []).length:Nat):Int))=true:=decide_eq_true (by rw [e5])
     have d2:decide ((((x.getD []).length:Nat):Int)<(((x.getD []).length:Nat):Int))=false:=decide_eq_false (by omega)
     simp only [cond_true,cond_false,kA5,decide_true,Bool.not_true,d1,d2,Bool.not_false,Bool.and_false,ws]
   | false =>
    rw [q1,Bool.false_and] at ho
    rw [ho] at e4
    have e5:y.getD []=x.getD []:=by rw [e4];exact List.append_nil _
    have d1:decide ((((y.getD []).length:Nat):Int)=(((x.getD []).length:Nat):Int))=true:=decide_eq_true (by rw [e5])
    have d2:decide ((((x.getD []).length:Nat):Int)<(((x.getD []).length:Nat):Int))=false:=decide_eq_false (by omega)
    simp only [cond_true,cond_false,kA5,decide_true,Bool.not_true,d1,d2,Bool.not_false,Bool.and_false,ws])
  (by
   unfold s0_q12
   simp only [Int.lt_irrefl,decide_false,cond_false]) 0 (by omega)
 exact lp
theorem true_FnNotes (code more:Sl UInt8):t_q12 code more=some true:=by
 unfold t_q12
 obtain ⟨b0,hb0⟩:∃ b,t_q14 code more=some b:=by
  unfold t_q14
  cases decide (3000<(((code.getD []).length:Nat):Int)) <;> exact ⟨_,rfl⟩
 rw [hb0,kA5]
 cases b0 with
 | true=>rfl
 | false =>
  rw [cond_false]
  obtain ⟨f,e1,hf,hn,hs⟩:=drawFile_ex code
  have w1:wr ((((f.strokes.getD []).length:Nat):Int)+1)=(((f.strokes.getD []).length:Nat):Int)+1:=kE8 (by omega) (by omega)
  obtain ⟨a,e2,a1,a2⟩:=a2At_ok more (i:=0) (n:=(((f.strokes.getD []).length:Nat):Int)+1) (by omega) (by omega)
  obtain ⟨b,e3,b1,b2⟩:=a2At_ok more (i:=1) (n:=4) (by omega) (by omega)
  have w2:wr (a+b)=a+b:=kE8 (by omega) (by omega)
  simp only [e1,kA5,w1,e2,e3]
  by_cases c:0≤a∧a<wr (a+b)∧wr (a+b)≤(((f.strokes.getD []).length:Nat):Int)
  ·obtain ⟨g,f1,hg,f2,f3⟩:=addNote_ok (n:=⟨a,wr (a+b),⟨#[109,97,114,107]⟩⟩) hf c (by show kDb (bl (⟨#[109,97,114,107]⟩:ByteArray))=true;decide) (by omega)
   have lp:=notesLoop (a:=a) (b:=b) hf hg f3 rfl f2 0
   have d1:decide (wr (a+b)≤a)=false:=decide_eq_false (by omega)
   have d2:decide ((((f.strokes.getD []).length:Nat):Int)<wr (a+b))=false:=decide_eq_false (by omega)
   simp only [f1,kA5,d1,d2,cond_false,decide_true,Bool.not_true,lp]
  ·obtain ⟨g,f1⟩:=addNote_no (n:=⟨a,wr (a+b),⟨#[109,97,114,107]⟩⟩) hf c
   simp only [f1,kA5]
   cases d1:decide (wr (a+b)≤a) with
   | true=>simp only [cond_true,kA5,decide_true]
   | false =>
    have d2:decide ((((f.strokes.getD []).length:Nat):Int)<wr (a+b))=true:=decide_eq_true (by
     have:=of_decide_eq_false d1
     omega)
    simp only [cond_false,kA5,d2,cond_true,decide_true]
theorem ok_q12:kB6 Try.prog n_q12 (G2 (fun _ _:Sl UInt8=>true) fun _ _=>bv true):=lawC2 tt_q12 fun a b _=>true_FnNotes a b
theorem law_FnNotes (a b:Sl UInt8) (_:Row.fine a) (_:Row.fine b):G2 (fun _ _:Sl UInt8=>true) (fun _ _=>bv true) [enc a,enc b]=some (bv true):=G2_enc _ _ a b rfl
structure Mv (l l':List Int) (a b:Nat):Prop where
 perm:l'.Perm l
 out:∀ p,p<a∨b≤p→l'[p]?=l[p]?
 inn:∀ p,a≤p→p<b→∃ q,a≤q∧q<b∧l'[p]?=l[q]?
theorem Mv.len {l l':List Int} {a b:Nat} (h:Mv l l' a b):l'.length=l.length:=h.perm.length_eq
theorem Mv.trans {l l' l'':List Int} {a b:Nat} (h:Mv l l' a b) (g:Mv l' l'' a b):Mv l l'' a b :=
 ⟨g.perm.trans h.perm,fun p hp=>(g.out p hp).trans (h.out p hp),fun p h1 h2=>by
  obtain ⟨q,q1,q2,q3⟩:=g.inn p h1 h2
  obtain ⟨r,r1,r2,r3⟩:=h.inn q q1 q2
  exact ⟨r,r1,r2,q3.trans r3⟩⟩
def atL (l:List Int) (p:Nat):Int:=(l[p]?).getD 0
def SrtT (T:Int→Int→Prop) (l:List Int) (x y:Nat):Prop:=∀ p q,x≤p→p<q→q<y→T (atL l p) (atL l q)
theorem atL_of {l l':List Int} {p q:Nat} (h:l'[p]?=l[q]?):atL l' p=atL l q:=by
 unfold atL
 rw [h]
theorem SrtT.out {T:Int→Int→Prop} {l l':List Int} {a b x y:Nat} (h:SrtT T l x y) (hm:Mv l l' a b) (ho:y≤a∨b≤x):SrtT T l' x y:=fun p q h1 h2 h3=>by
 rw [atL_of (hm.out p (by omega)),atL_of (hm.out q (by omega))]
 exact h p q h1 h2 h3
theorem isC_5 {cs:List AV} (h:IsC Try.prog 5 cs):∃ x:UInt8,cs=Row.cells x∧Row.fine x:=by
 obtain ⟨n,rfl,hn⟩:=IsC.intE Try.underlying5 h
 exact byte_of hn
theorem isC_22 {cs:List AV} (h:IsC Try.prog 22 cs):∃ x:(Sl UInt8),cs=Row.cells x∧Row.fine x:=by
 rcases IsC.sliceE Try.underlying22 h with rfl | ⟨rows,rfl,h1,h2⟩
 ·exact ⟨none,rfl,Sl.fineNil⟩
 ·exact Sl.isC (by kernel_rfl) h1 fun row hr=>isC_5 (h2 row hr)
theorem own:ownKnob Try.prog.godebug=none:=by kernel_rfl
theorem laidOut:laidOutB Try.prog=true:=by kernel_rfl
set_option maxRecDepth 100000 in
theorem holds:Rows.FnNotesSaid :=
 OpenClaim.holds_of_wide 3 Try.f3 rfl rfl rfl rfl rfl rfl rfl ⟨rfl,rfl,rfl,rfl,rfl⟩ rfl rfl rfl rfl rfl (by kernel_rfl) Try.func3 (by kernel_rfl)
  (of_decide_eq_true (by kernel_rfl)) (by unfold Func.isWrapper;rw [if_neg (by decide +kernel)];exact ⟨rfl,rfl⟩)
  (fun os started H enc _=>law_lifted (C:=Try.checked) (s:=Rows.fnNotesSpec) own started (by kernel_rfl) Try.func3
   (ChangeSpec.witness6 (enc:=enc) (C:=Try.checked) false ⟨#[],#[.slice none 0 0,.slice none 0 0],[]⟩ 8 (by kernel_rfl) (by kernel_rfl) (by kernel_rfl) (by kernel_rfl))
   laidOut rfl (tb:=4) rfl Try.underlying4 (ts:=[22,5]) (by kernel_rfl)
   (fun ds h=>by match ds,h with | [d0,d1],_=>rfl)
   hb_q12 ok_q12 (by
  intro l h
  obtain ⟨a0,l0,rfl,g0,k0⟩:=h
  obtain ⟨a1,l1,rfl,g1,k1⟩:=k0
  cases k1
  obtain ⟨b0,e0,w0⟩:=isC_22 (isV_one (by kernel_rfl) g0)
  obtain rfl:=one_enc e0
  obtain ⟨b1,e1,w1⟩:=isC_22 (isV_one (by kernel_rfl) g1)
  obtain rfl:=one_enc e1
  exact law_FnNotes b0 b1 w0 w1) (by kernel_rfl))
#print axioms holds
end Go.Proofs.Ytjlbidpdiblmaaa
