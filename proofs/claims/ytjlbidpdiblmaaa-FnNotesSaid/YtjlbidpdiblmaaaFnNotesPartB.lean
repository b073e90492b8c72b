import Derived.Test.YtjlbidpdiblmaaaFnNotesPartA
namespace Go.Proofs.Ytjlbidpdiblmaaa
open Go Go.Eng Go.Eng.Cod
set_option maxRecDepth 100000
set_option linter.unusedVariables false
set_option linter.unusedSimpArgs false
theorem tl0_q2 (env:Nat→Contract) {B:Base} (he_q3:env n_q3=.pure (C1 (fun c:Bool=>enc c) t_q3)) (he_q11:env n_q11=.pure (T3 kBh)) (f_:File) (stroke_:Int) (o1:Nat) (c5:Bool) (c7:Bool) :kGr (fun (st:(Sl ByteArray)×Int) tm h13=>match st with | (w12,w15)=>∃ z11,tm=((AV.agg [Sl.enc f_.channels,Sl.enc f_.strokes,Sl.enc f_.notes])::(iv stroke_)::(AV.ptr o1 1 0 0)::und::kA3::(iv 0)::z11::und::.top::(AV.agg [Sl.enc f_.channels,Sl.enc f_.strokes,Sl.enc f_.notes])::(bv c5)::(bv (!c5))::(iv stroke_)::(AV.ptr o1 1 0 1)::(Sl.enc f_.strokes)::(iv (((f_.strokes.getD []).length:Nat):Int))::(iv (wr ((((f_.strokes.getD []).length:Nat):Int) - 1)))::(bv c7)::(bv (!c7))::(AV.ptr o1 1 0 2)::(Sl.enc f_.notes)::(iv (((f_.notes.getD []).length:Nat):Int))::(iv w15)::tZ9 19 [und])∧Hold B h13 [pZ9 o1 3 [Sl.enc f_.channels,Sl.enc f_.strokes,Sl.enc f_.notes],(z11,obS (w12:Sl ByteArray))]) hm0_q2 xm0_q2 (lb0_q2 env) (s0_q2 f_ stroke_) (fun (q:Sl ByteArray) (r:Res)=>match q with | q19=>∃ (z18:AV) (z20:AV) (h16:kA7),r=(.exit 0,((AV.agg [Sl.enc f_.channels,Sl.enc f_.strokes,Sl.enc f_.notes])::(iv stroke_)::(AV.ptr o1 1 0 0)::und::kA3::(iv 0)::z18::und::z20::(AV.agg [Sl.enc f_.channels,Sl.enc f_.strokes,Sl.enc f_.notes])::(bv c5)::(bv (!c5))::(iv stroke_)::(AV.ptr o1 1 0 1)::(Sl.enc f_.strokes)::(iv (((f_.strokes.getD []).length:Nat):Int))::(iv (wr ((((f_.strokes.getD []).length:Nat):Int) - 1)))::(bv c7)::(bv (!c7))::(AV.ptr o1 1 0 2)::(Sl.enc f_.notes)::(iv (((f_.notes.getD []).length:Nat):Int))::tZ9 20 [und]),h16)∧Hold B h16 [pZ9 o1 3 [Sl.enc f_.channels,Sl.enc f_.strokes,Sl.enc f_.notes],(z18,obS (q19:Sl ByteArray))]):=by
 refine @kH3 _ _ _ _ _ _ _ _ (fun st tm h13 R => ?_)
 obtain ⟨w12,w15⟩:=st
 obtain ⟨z11,rfl,O14⟩:=R
 rw [e_lb0_q2]
 unfold s0_q2
 dsimp only
 refine kA1 (kBi _ _) ?_
 refine kAa (fun c22 => ?_) (fun c22 => ?_)
 ·refine kBm (Tab.enc h13 f_.notes) (fun m24 a23 hi25 hm26 => ?_)
  refine kA1 (v:=AV.agg [iv a23.frm,iv a23.upto,sv a23.text]) ((Tab.enc h13 f_.notes).ld hm26 true 3 0) ?_
  refine kBt O14 (cs:=[iv 0,iv 0,sv (⟨#[]⟩:ByteArray)]) (by first | rfl | simp) (fun o27 h28 O29 => ?_)
  replace O29:Hold B h28 [pZ9 o1 3 [Sl.enc f_.channels,Sl.enc f_.strokes,Sl.enc f_.notes],(z11,obS (w12:Sl ByteArray)),pZ9 o27 3 [iv 0,iv 0,sv (⟨#[]⟩:ByteArray)]]:=O29
  refine kAj O29 2 (cs':=[iv a23.frm,iv a23.upto,sv a23.text]) rfl (by first | rfl | simp) (by simp) (by first | rfl | simp) (by first | rfl | simp [kAo]) (fun h31 O32 => ?_)
  replace O32:Hold B h31 [pZ9 o1 3 [Sl.enc f_.channels,Sl.enc f_.strokes,Sl.enc f_.notes],(z11,obS (w12:Sl ByteArray)),pZ9 o27 3 [iv a23.frm,iv a23.upto,sv a23.text]]:=O32
  refine kA1 (v:=AV.ptr o27 1 0 0) rfl ?_
  refine kA1 (v:=iv a23.frm) (O32.ld 2 rfl false 1 0) ?_
  refine kA1 (kF6 _ _) ?_
  refine kBa (e:=bv) (fun hb33 => ?_) (fun c34 => ?_)
  ·refine kA1 (v:=AV.ptr o27 1 0 1) rfl ?_
   refine kA1 (v:=iv a23.upto) (O32.ld 2 rfl false 1 1) ?_
   refine kA1 (kBi _ _) ?_
   exact kA6 rfl
  ·refine kA1 (v:=bv (bif decide (a23.frm≤stroke_) then c34 else false)) (kCh _ _ _) ?_
   refine kAa (fun c35 => ?_) (fun c35 => ?_)
   ·refine kA1 (v:=AV.ptr o27 1 0 2) rfl ?_
    refine kA1 (v:=sv a23.text) (O32.ld 2 rfl false 1 2) ?_
    refine kB7 (A:=ByteArray) O32 ([a23.text]:List ByteArray) rfl (by first | rfl | simp [kAk,kBz]) rfl (fun x36 h37 O38 => ?_)
    replace O38:Hold B h37 [pZ9 o1 3 [Sl.enc f_.channels,Sl.enc f_.strokes,Sl.enc f_.notes],(z11,obS (w12:Sl ByteArray)),pZ9 o27 3 [iv a23.frm,iv a23.upto,sv a23.text],(x36,obS ((some ([a23.text]:List ByteArray)):Sl ByteArray))]:=O38
    refine kBw (A:=ByteArray) (s:=w12) O38 1 ([a23.text]:List ByteArray) rfl (O38.src (A:=ByteArray) (s:=(some ([a23.text]:List ByteArray))) 3 rfl) (by decide) (fun x41 h42 O43 => ?_)
    replace O43:Hold B h42 [pZ9 o1 3 [Sl.enc f_.channels,Sl.enc f_.strokes,Sl.enc f_.notes],(x41,obS ((kB3 w12 ([a23.text]:List ByteArray)):Sl ByteArray)),pZ9 o27 3 [iv a23.frm,iv a23.upto,sv a23.text],(x36,obS ((some ([a23.text]:List ByteArray)):Sl ByteArray))]:=O43
    have O45:Hold B h42 [pZ9 o1 3 [Sl.enc f_.channels,Sl.enc f_.strokes,Sl.enc f_.notes],(x41,obS ((kB3 w12 ([a23.text]:List ByteArray)):Sl ByteArray)),pZ9 o27 3 [iv a23.frm,iv a23.upto,sv a23.text]]:=O43.sel [0,1,2] (by decide) rfl
    refine kA1 (kAg _ _) ?_
    have O46:Hold B h42 [pZ9 o1 3 [Sl.enc f_.channels,Sl.enc f_.strokes,Sl.enc f_.notes],(x41,obS ((kB3 w12 ([a23.text]:List ByteArray)):Sl ByteArray))]:=O45.sel [0,1] (by decide) rfl
    exact kA6 ⟨rfl,_,rfl,O46⟩
   ·refine kA1 (kAg _ _) ?_
    have O47:Hold B h31 [pZ9 o1 3 [Sl.enc f_.channels,Sl.enc f_.strokes,Sl.enc f_.notes],(z11,obS (w12:Sl ByteArray))]:=O32.sel [0,1] (by decide) rfl
    exact kA6 ⟨rfl,_,rfl,O47⟩
 ·exact kA6 ⟨nofun,_,_,_,rfl,O14⟩
theorem ts_q2 (env:Nat→Contract) (he_q3:env n_q3=.pure (C1 (fun c:Bool=>enc c) t_q3)) (he_q11:env n_q11=.pure (T3 kBh)) (f_:File) (stroke_:Int):Sim (kAf Try.prog env n_q2 [AV.agg [Sl.enc f_.channels,Sl.enc f_.strokes,Sl.enc f_.notes],iv stroke_] []) (t_q2 f_ stroke_) fun c p=>release p.2 depth p.1=some ((fun c:(Sl ByteArray)×Int=>AV.tup [rS c.1,enc c.2]) c):=by
 have O:=Hold.nil []
 generalize hB:(⟨[],[]⟩:Base)=B at O
 clear hB
 rw [e_q2]
 unfold t_q2
 refine kBt O (cs:=[Sl.enc f_.channels,Sl.enc f_.strokes,Sl.enc f_.notes]) (by first | rfl | simp) (fun o1 h2 O3 => ?_)
 replace O3:Hold B h2 [pZ9 o1 3 [Sl.enc f_.channels,Sl.enc f_.strokes,Sl.enc f_.notes]]:=O3
 refine kA1 (v:=AV.agg [Sl.enc f_.channels,Sl.enc f_.strokes,Sl.enc f_.notes]) (O3.ld 0 rfl true 3 0) ?_
 refine kCx he_q3 (kDw _ f_ rfl) (fun c5 => ?_)
 refine kBr (kAh (by rfl) _ _) ?_
 refine kA1 (v:=bv (!c5)) (kC3 _) ?_
 refine kAa (fun c6 => ?_) (fun c6 => ?_)
 ·exact kA6 (kA8 (by rfl) _)
 ·refine kA1 (v:=AV.ptr o1 1 0 1) rfl ?_
  refine kA1 (v:=Sl.enc f_.strokes) (O3.ld 0 rfl false 1 1) ?_
  refine kA1 (Tab.enc h2 f_.strokes).len ?_
  refine kA1 (kAt _ _) ?_
  refine kEd (t:=kBh) he_q11 (kAe _ _) (kAe _ _) (kAe _ _) (fun c7 => ?_)
  refine kA1 (v:=bv (!c7)) (kC3 _) ?_
  refine kAa (fun c8 => ?_) (fun c8 => ?_)
  ·exact kA6 (kA8 (by rfl) _)
  ·refine kA1 (v:=AV.ptr o1 1 0 2) rfl ?_
   refine kA1 (v:=Sl.enc f_.notes) (O3.ld 0 rfl false 1 2) ?_
   refine kA1 (Tab.enc h2 f_.notes).len ?_
   have O9:Hold B h2 [pZ9 o1 3 [Sl.enc f_.channels,Sl.enc f_.strokes,Sl.enc f_.notes],(kA3,obS ((none:Sl ByteArray):Sl ByteArray))]:=O3.addnil
   refine kBe ((tl0_q2 env he_q3 he_q11 f_ stroke_ o1 c5 c7) ⟨_,rfl,O9⟩) (fun qq50 r hq => ?_)
   revert hq
   revert qq50
   intro q19 hq
   obtain ⟨z18,z20,h16,rfl,O17⟩:=hq
   rw [e_lk0x0_q2]
   have O21:Hold B h16 [(z18,obS (q19:Sl ByteArray))]:=O17.sel [1] (by decide) rfl
   exact kA6 (kGi (by simp only [ids_tup,ids_aggD,ids_agg,ids_iv,ids_bv,ids_sv,ids_bt,ids_nilS,ids_enc,O21.idsD (A:=ByteArray) (s:=q19) 0 rfl,List.map_append,List.map_nil,List.flatMap_cons,List.flatMap_nil,List.append_nil,List.nil_append];simpa only [List.flatMap_cons,List.flatMap_nil,List.append_nil,List.nil_append] using O21.nd2) (by simp only [rel_tup,rel_aggD,rel_agg,rel_iv,rel_bv,rel_sv,rel_bt,rel_nilS,rel_enc,O21.relD (A:=ByteArray) (s:=q19) 0 rfl,omapc,omapn,kA5] <;> rfl))
theorem tt_q2:kB6 Try.prog n_q2 (C2 (fun c:(Sl ByteArray)×Int=>AV.tup [rS c.1,enc c.2]) t_q2):=kFk (kCl tt_q3 (kCl ok_q11 E0)) kCm hb_q2 fun f_ stroke_=>ts_q2 _ (by simp [kD7]) (by simp [kD7]) f_ stroke_
def ExtH (φ:kA7→Option (AV×kA7)):Prop:=∀ h v h',φ h=some (v,h')→h'.length=h.length∧∀ t,φ (h++t)=some (v,h'++t)
theorem ext_ret (v:AV):ExtH fun h=>some (v,h):=fun h v' h' e=>by
 cases e
 exact ⟨rfl,fun _=>rfl⟩
theorem ext_pure {x:Option AV} {F:AV→kA7→Option (AV×kA7)} (K:∀ v,ExtH (F v)):ExtH fun h=>kA0 x fun v=>F v h:=fun h v h' e=>by
 obtain ⟨a,rfl,e2⟩:=kAm e
 exact K a h v h' e2
theorem ext_load {g:Bool} {s:Nat} {a:AV} {F:AV→kA7→Option (AV×kA7)} (K:∀ v,ExtH (F v)):ExtH fun h=>kA0 (kAb g s a h) fun v=>F v h:=fun h v h' e=>by
 obtain ⟨b,e1,e2⟩:=kAm e
 obtain ⟨k1,k2⟩:=K b h v h' e2
 exact ⟨k1,fun t=>by show kA0 _ _=_;rw [Wm.load_ext t e1];exact k2 t⟩
theorem ext_idx {s:Nat} {a i:AV} {F:AV→kA7→Option (AV×kA7)} (K:∀ v,ExtH (F v)):ExtH fun h=>kA0 (kAd s a i h) fun v=>F v h:=fun h v h' e=>by
 obtain ⟨b,e1,e2⟩:=kAm e
 obtain ⟨k1,k2⟩:=K b h v h' e2
 exact ⟨k1,fun t=>by show kA0 _ _=_;rw [Wm.indexAddr_ext t e1];exact k2 t⟩
theorem ext_store {s:Nat} {x y:AV} {F:kA7→Option (AV×kA7)} (K:ExtH F):ExtH fun h=>kA0 (kB0 s x y h) fun h'=>F h':=fun h v h' e=>by
 obtain ⟨b,e1,e2⟩:=kAm e
 obtain ⟨k1,k2⟩:=K b v h' e2
 exact ⟨by rw [k1,kI0 e1],fun t=>by show kA0 _ _=_;rw [Wm.store_ext t e1];exact k2 t⟩
theorem ext_cond {c:AV} {F G:kA7→Option (AV×kA7)} (K1:ExtH F) (K2:ExtH G):ExtH fun h=>kB2 c (F h) (G h):=fun h v h' e=>by
 replace e:kB2 c (F h) (G h)=some (v,h'):=e
 show _∧∀ t,kB2 c (F (h++t)) (G (h++t))=_
 unfold kB2 at e ⊢
 split at e
 ·rename_i b
  cases b with
  | true=>exact K1 h v h' e
  | false=>exact K2 h v h' e
 ·cases e
theorem ext_call {env:Nat→Contract} {g:Nat} {f:List AV→kA7→Option (AV×kA7)} {args:List AV} {F:AV→kA7→Option (AV×kA7)} (he:env g=.gen f) (X:ExtH (f args)) (K:∀ v,ExtH (F v)):ExtH fun h=>kA2 (kAn (env g) args h) fun v h=>F v h:=fun h v h' e=>by
 replace e:kA2 (kAn (env g) args h) (fun v h=>F v h)=some (v,h'):=e
 rw [he] at e
 obtain ⟨a,h1,e1,e2⟩:=kAx e
 obtain ⟨x1,x2⟩:=X h a h1 e1
 obtain ⟨k1,k2⟩:=K a h1 v h' e2
 refine ⟨by rw [k1,x1],fun t => ?_⟩
 show kA2 _ _=_
 rw [he]
 show kA2 (f args (h++t)) _=_
 rw [x2 t]
 exact k2 t
theorem kFa {β γ δ:Type} {env:Nat→Contract} {g:Nat} {f:List AV→kA7→Option (AV×kA7)} {args:List AV} {h:kA7} {Y:Option β} {R:β→AV×kA7→Prop} {F:AV→kA7→Option γ} {G:β→Option δ} {Q:δ→γ→Prop} (he:env g=.gen f) (X:ExtH (f args)) (S:Sim (f args h) Y R)
  (K:∀ c a h',R c (a,h')→(h'.length=h.length∧∀ t:kA7,kA2 (kAn (env g) args (h++t)) (fun v h=>some (v,h))=some (a,h'++t))→Sim (F a h') (G c) Q):Sim (kA2 (kAn (env g) args h) F) (kA0 Y G) Q:=by
 refine kAq he (R:=fun c p=>R c p∧f args h=some p) (fun y hy => ?_) fun c a h' hr => ?_
 ·obtain ⟨x,h1,h2⟩:=S y hy
  exact ⟨x,h1,h2,h1⟩
 ·obtain ⟨x1,x2⟩:=X h a h' hr.2
  refine K c a h' hr.1 ⟨x1,fun t => ?_⟩
  rw [he]
  show kA2 (f args (h++t)) _=_
  rw [x2 t]
  rfl
theorem kGy (env:Nat→Contract) (x0:AV):ExtH (kAf Try.prog env kHb [x0]):=by
 rw [show kAf Try.prog env kHb [x0]=_ from funext fun h=>e_q26 env x0 h]
 repeat (first | exact ext_ret _ | refine ext_pure fun _ => ?_ | refine ext_load fun _ => ?_ | refine ext_idx fun _ => ?_ | refine ext_store ?_ | refine ext_cond ?_ ?_)
theorem kC6 (x0 x1:AV):ExtH (kAf Try.prog kC8 kB1 [x0,x1]):=by
 rw [show kAf Try.prog kC8 kB1 [x0,x1]=_ from funext fun h=>e_q28 kC8 x0 x1 h]
 have he:kC8 kHb=.gen (kAf Try.prog ev_q26 kHb):=by simp [kC8,kD7]
 repeat (first | exact ext_ret _ | refine ext_pure fun _ => ?_ | refine ext_cond ?_ ?_ | refine ext_call he (kGy _ _) fun _ => ?_)
theorem kCs (x0 x1:AV):ExtH (kAf Try.prog kCz kCd [x0,x1]):=by
 rw [show kAf Try.prog kCz kCd [x0,x1]=_ from funext fun h=>e_q29 kCz x0 x1 h]
 have he:kCz kB1=.gen (kAf Try.prog kC8 kB1):=by simp [kCz,kD7]
 repeat (first | exact ext_ret _ | refine ext_pure fun _ => ?_ | refine ext_load fun _ => ?_ | refine ext_idx fun _ => ?_ | refine ext_call he (kC6 _ _) fun _ => ?_)
def kHy (q131:Sl FRows):((Sl UInt8)×Int×Int×(Sl Channel)×(Sl Note)×Int)→Option (Sum ((Sl UInt8)×Int×Int×(Sl Channel)×(Sl Note)×Int) ((Sl UInt8)×Int×Int×(Sl Channel)×(Sl Note))):=fun (w147,w148,w149,w151,w153,w156) =>
 kA0 (bif decide (0<w156) then (some (decide (0<(((q131.getD []).length:Nat):Int)))) else some false) fun c175 =>
 bif (bif decide (0<w156) then c175 else false) then
  kA0 (kBp (⟨w147,w148,w149⟩:l00Src) (((q131.getD []).length:Nat):Int)) fun c177 =>
  kA0 (kBp c177.2 (wr ((((q131.getD []).length:Nat):Int) - c177.1))) fun c183 =>
  kA0 (t_q29 c183.2 (some ([(⟨#[119,111,114,100]⟩:ByteArray),(⟨#[97]⟩:ByteArray),(⟨#[120,45,50]⟩:ByteArray)]:List ByteArray))) fun c194 =>
  kA0 (kF9 w153 ([(⟨c177.1,wr ((wr (c177.1+1))+c183.1),c194.1⟩:Note)]:List Note)) fun _ =>
  some (.inl (c194.2.code,c194.2.pos,c194.2.seed,w151,(kB3 w153 ([(⟨c177.1,wr ((wr (c177.1+1))+c183.1),c194.1⟩:Note)]:List Note)),wr (w156 - 1)))
 else
  some (.inr (w147,w148,w149,w151,w153))
def s4_q33 (w111:Sl Channel):((Sl UInt8)×Int×Int×(Sl (Sl Int))×Int×Int)→Option (Sum ((Sl UInt8)×Int×Int×(Sl (Sl Int))×Int×Int) ((Sl UInt8)×Int×Int×(Sl (Sl Int))×Int)):=fun (w232,w233,w234,w236,w241,w242) =>
 bif decide (0<w242) then
  kA0 (kBp (⟨w232,w233,w234⟩:l00Src) 80) fun c269 =>
  kA0 (kBp c269.2 120) fun c275 =>
  bif decide (3<(((w111.getD []).length:Nat):Int)) then
   kA0 (kBp c275.2 256) fun c286 =>
   kA0 (kF9 (some ([wr (5+c269.1),wr (c275.1 - 40),w241]:List Int)) ([c286.1]:List Int)) fun _ =>
   kA0 (kF9 w236 ([(kB3 (some ([wr (5+c269.1),wr (c275.1 - 40),w241]:List Int)) ([c286.1]:List Int))]:List (Sl Int))) fun _ =>
   kA0 (kBp c286.2 9) fun c316 =>
   kA0 (kG5 c316.2 30) fun c322 =>
   bif c322.1 then
    kA0 (some ((fun a b:Int=>max a b) 0 (wr ((wr (w241+(wr (1+c316.1)))) - 20)))) fun c329 =>
    some (.inl (c322.2.code,c322.2.pos,c322.2.seed,(kB3 w236 ([(kB3 (some ([wr (5+c269.1),wr (c275.1 - 40),w241]:List Int)) ([c286.1]:List Int))]:List (Sl Int))),c329,wr (w242 - 1)))
   else
    some (.inl (c322.2.code,c322.2.pos,c322.2.seed,(kB3 w236 ([(kB3 (some ([wr (5+c269.1),wr (c275.1 - 40),w241]:List Int)) ([c286.1]:List Int))]:List (Sl Int))),wr (w241+(wr (1+c316.1))),wr (w242 - 1)))
  else
   kA0 (kF9 w236 ([(some ([wr (5+c269.1),wr (c275.1 - 40),w241]:List Int))]:List (Sl Int))) fun _ =>
   kA0 (kBp c275.2 9) fun c346 =>
   kA0 (kG5 c346.2 30) fun c352 =>
   bif c352.1 then
    kA0 (some ((fun a b:Int=>max a b) 0 (wr ((wr (w241+(wr (1+c346.1)))) - 20)))) fun c359 =>
    some (.inl (c352.2.code,c352.2.pos,c352.2.seed,(kB3 w236 ([(some ([wr (5+c269.1),wr (c275.1 - 40),w241]:List Int))]:List (Sl Int))),c359,wr (w242 - 1)))
   else
    some (.inl (c352.2.code,c352.2.pos,c352.2.seed,(kB3 w236 ([(some ([wr (5+c269.1),wr (c275.1 - 40),w241]:List Int))]:List (Sl Int))),wr (w241+(wr (1+c346.1))),wr (w242 - 1)))
 else
  some (.inr (w232,w233,w234,w236,w241))
def s0_q33:((Sl UInt8)×Int×Int×(Sl Channel)×(Sl FRows)×(Sl Note)×Int×Int)→Option (Sum ((Sl UInt8)×Int×Int×(Sl Channel)×(Sl FRows)×(Sl Note)×Int×Int) ((Sl UInt8)×Int×Int×(Sl Channel)×(Sl FRows)×(Sl Note))):=fun (w107,w108,w109,w111,w113,w117,w120,w121) =>
 bif decide (0<w121) then
  kA0 (kBp (⟨w107,w108,w109⟩:l00Src) 5) fun c224 =>
  kA0 (kBo (s4_q33 w111) (c224.2.code,c224.2.pos,c224.2.seed,(none:Sl (Sl Int)),w120,wr (1+c224.1))) fun (q245,q246,q247,q249,q252) =>
  kA0 (kF9 w113 ([(⟨q249⟩:FRows)]:List FRows)) fun _ =>
  some (.inl (q245,q246,q247,w111,(kB3 w113 ([(⟨q249⟩:FRows)]:List FRows)),w117,q252,wr (w121 - 1)))
 else
  some (.inr (w107,w108,w109,w111,w113,w117))
def s7_q33 (q408:Sl FRows):((Sl UInt8)×Int×Int×(Sl Channel)×(Sl Note)×Int)→Option (Sum ((Sl UInt8)×Int×Int×(Sl Channel)×(Sl Note)×Int) ((Sl UInt8)×Int×Int×(Sl Channel)×(Sl Note))):=fun (w424,w425,w426,w428,w430,w433) =>
 kA0 (bif decide (0<w433) then (some (decide (0<(((q408.getD []).length:Nat):Int)))) else some false) fun c452 =>
 bif (bif decide (0<w433) then c452 else false) then
  kA0 (kBp (⟨w424,w425,w426⟩:l00Src) (((q408.getD []).length:Nat):Int)) fun c454 =>
  kA0 (kBp c454.2 (wr ((((q408.getD []).length:Nat):Int) - c454.1))) fun c460 =>
  kA0 (t_q29 c460.2 (some ([(⟨#[119,111,114,100]⟩:ByteArray),(⟨#[97]⟩:ByteArray),(⟨#[120,45,50]⟩:ByteArray)]:List ByteArray))) fun c471 =>
  kA0 (kF9 w430 ([(⟨c454.1,wr ((wr (c454.1+1))+c460.1),c471.1⟩:Note)]:List Note)) fun _ =>
  some (.inl (c471.2.code,c471.2.pos,c471.2.seed,w428,(kB3 w430 ([(⟨c454.1,wr ((wr (c454.1+1))+c460.1),c471.1⟩:Note)]:List Note)),wr (w433 - 1)))
 else
  some (.inr (w424,w425,w426,w428,w430))
def s6_q33 (w388:Sl Channel):((Sl UInt8)×Int×Int×(Sl (Sl Int))×Int×Int)→Option (Sum ((Sl UInt8)×Int×Int×(Sl (Sl Int))×Int×Int) ((Sl UInt8)×Int×Int×(Sl (Sl Int))×Int)):=fun (w509,w510,w511,w513,w518,w519) =>
 bif decide (0<w519) then
  kA0 (kBp (⟨w509,w510,w511⟩:l00Src) 80) fun c546 =>
  kA0 (kBp c546.2 120) fun c552 =>
  bif decide (3<(((w388.getD []).length:Nat):Int)) then
   kA0 (kBp c552.2 256) fun c563 =>
   kA0 (kF9 (some ([wr (5+c546.1),wr (c552.1 - 40),w518]:List Int)) ([c563.1]:List Int)) fun _ =>
   kA0 (kF9 w513 ([(kB3 (some ([wr (5+c546.1),wr (c552.1 - 40),w518]:List Int)) ([c563.1]:List Int))]:List (Sl Int))) fun _ =>
   kA0 (kBp c563.2 9) fun c593 =>
   kA0 (kG5 c593.2 30) fun c599 =>
   bif c599.1 then
    kA0 (some ((fun a b:Int=>max a b) 0 (wr ((wr (w518+(wr (1+c593.1)))) - 20)))) fun c606 =>
    some (.inl (c599.2.code,c599.2.pos,c599.2.seed,(kB3 w513 ([(kB3 (some ([wr (5+c546.1),wr (c552.1 - 40),w518]:List Int)) ([c563.1]:List Int))]:List (Sl Int))),c606,wr (w519 - 1)))
   else
    some (.inl (c599.2.code,c599.2.pos,c599.2.seed,(kB3 w513 ([(kB3 (some ([wr (5+c546.1),wr (c552.1 - 40),w518]:List Int)) ([c563.1]:List Int))]:List (Sl Int))),wr (w518+(wr (1+c593.1))),wr (w519 - 1)))
  else
   kA0 (kF9 w513 ([(some ([wr (5+c546.1),wr (c552.1 - 40),w518]:List Int))]:List (Sl Int))) fun _ =>
   kA0 (kBp c552.2 9) fun c623 =>
   kA0 (kG5 c623.2 30) fun c629 =>
   bif c629.1 then
    kA0 (some ((fun a b:Int=>max a b) 0 (wr ((wr (w518+(wr (1+c623.1)))) - 20)))) fun c636 =>
    some (.inl (c629.2.code,c629.2.pos,c629.2.seed,(kB3 w513 ([(some ([wr (5+c546.1),wr (c552.1 - 40),w518]:List Int))]:List (Sl Int))),c636,wr (w519 - 1)))
   else
    some (.inl (c629.2.code,c629.2.pos,c629.2.seed,(kB3 w513 ([(some ([wr (5+c546.1),wr (c552.1 - 40),w518]:List Int))]:List (Sl Int))),wr (w518+(wr (1+c623.1))),wr (w519 - 1)))
 else
  some (.inr (w509,w510,w511,w513,w518))
def s1_q33:((Sl UInt8)×Int×Int×(Sl Channel)×(Sl FRows)×(Sl Note)×Int×Int)→Option (Sum ((Sl UInt8)×Int×Int×(Sl Channel)×(Sl FRows)×(Sl Note)×Int×Int) ((Sl UInt8)×Int×Int×(Sl Channel)×(Sl FRows)×(Sl Note))):=fun (w384,w385,w386,w388,w390,w394,w397,w398) =>
 bif decide (0<w398) then
  kA0 (kBp (⟨w384,w385,w386⟩:l00Src) 5) fun c501 =>
  kA0 (kBo (s6_q33 w388) (c501.2.code,c501.2.pos,c501.2.seed,(none:Sl (Sl Int)),w397,wr (1+c501.1))) fun (q522,q523,q524,q526,q529) =>
  kA0 (kF9 w390 ([(⟨q526⟩:FRows)]:List FRows)) fun _ =>
  some (.inl (q522,q523,q524,w388,(kB3 w390 ([(⟨q526⟩:FRows)]:List FRows)),w394,q529,wr (w398 - 1)))
 else
  some (.inr (w384,w385,w386,w388,w390,w394))
def s9_q33 (q698:Sl FRows):((Sl UInt8)×Int×Int×(Sl Channel)×(Sl Note)×Int)→Option (Sum ((Sl UInt8)×Int×Int×(Sl Channel)×(Sl Note)×Int) ((Sl UInt8)×Int×Int×(Sl Channel)×(Sl Note))):=fun (w714,w715,w716,w718,w720,w723) =>
 kA0 (bif decide (0<w723) then (some (decide (0<(((q698.getD []).length:Nat):Int)))) else some false) fun c742 =>
 bif (bif decide (0<w723) then c742 else false) then
  kA0 (kBp (⟨w714,w715,w716⟩:l00Src) (((q698.getD []).length:Nat):Int)) fun c744 =>
  kA0 (kBp c744.2 (wr ((((q698.getD []).length:Nat):Int) - c744.1))) fun c750 =>
  kA0 (t_q29 c750.2 (some ([(⟨#[119,111,114,100]⟩:ByteArray),(⟨#[97]⟩:ByteArray),(⟨#[120,45,50]⟩:ByteArray)]:List ByteArray))) fun c761 =>
  kA0 (kF9 w720 ([(⟨c744.1,wr ((wr (c744.1+1))+c750.1),c761.1⟩:Note)]:List Note)) fun _ =>
  some (.inl (c761.2.code,c761.2.pos,c761.2.seed,w718,(kB3 w720 ([(⟨c744.1,wr ((wr (c744.1+1))+c750.1),c761.1⟩:Note)]:List Note)),wr (w723 - 1)))
 else
  some (.inr (w714,w715,w716,w718,w720))
def s8_q33 (w678:Sl Channel):((Sl UInt8)×Int×Int×(Sl (Sl Int))×Int×Int)→Option (Sum ((Sl UInt8)×Int×Int×(Sl (Sl Int))×Int×Int) ((Sl UInt8)×Int×Int×(Sl (Sl Int))×Int)):=fun (w799,w800,w801,w803,w808,w809) =>
 bif decide (0<w809) then
  kA0 (kBp (⟨w799,w800,w801⟩:l00Src) 80) fun c836 =>
  kA0 (kBp c836.2 120) fun c842 =>
  bif decide (3<(((w678.getD []).length:Nat):Int)) then
   kA0 (kBp c842.2 256) fun c853 =>
   kA0 (kF9 (some ([wr (5+c836.1),wr (c842.1 - 40),w808]:List Int)) ([c853.1]:List Int)) fun _ =>
   kA0 (kF9 w803 ([(kB3 (some ([wr (5+c836.1),wr (c842.1 - 40),w808]:List Int)) ([c853.1]:List Int))]:List (Sl Int))) fun _ =>
   kA0 (kBp c853.2 9) fun c883 =>
   kA0 (kG5 c883.2 30) fun c889 =>
   bif c889.1 then
    kA0 (some ((fun a b:Int=>max a b) 0 (wr ((wr (w808+(wr (1+c883.1)))) - 20)))) fun c896 =>
    some (.inl (c889.2.code,c889.2.pos,c889.2.seed,(kB3 w803 ([(kB3 (some ([wr (5+c836.1),wr (c842.1 - 40),w808]:List Int)) ([c853.1]:List Int))]:List (Sl Int))),c896,wr (w809 - 1)))
   else
    some (.inl (c889.2.code,c889.2.pos,c889.2.seed,(kB3 w803 ([(kB3 (some ([wr (5+c836.1),wr (c842.1 - 40),w808]:List Int)) ([c853.1]:List Int))]:List (Sl Int))),wr (w808+(wr (1+c883.1))),wr (w809 - 1)))
  else
   kA0 (kF9 w803 ([(some ([wr (5+c836.1),wr (c842.1 - 40),w808]:List Int))]:List (Sl Int))) fun _ =>
   kA0 (kBp c842.2 9) fun c913 =>
   kA0 (kG5 c913.2 30) fun c919 =>
   bif c919.1 then
    kA0 (some ((fun a b:Int=>max a b) 0 (wr ((wr (w808+(wr (1+c913.1)))) - 20)))) fun c926 =>
    some (.inl (c919.2.code,c919.2.pos,c919.2.seed,(kB3 w803 ([(some ([wr (5+c836.1),wr (c842.1 - 40),w808]:List Int))]:List (Sl Int))),c926,wr (w809 - 1)))
   else
    some (.inl (c919.2.code,c919.2.pos,c919.2.seed,(kB3 w803 ([(some ([wr (5+c836.1),wr (c842.1 - 40),w808]:List Int))]:List (Sl Int))),wr (w808+(wr (1+c913.1))),wr (w809 - 1)))
 else
  some (.inr (w799,w800,w801,w803,w808))
def s2_q33:((Sl UInt8)×Int×Int×(Sl Channel)×(Sl FRows)×(Sl Note)×Int×Int)→Option (Sum ((Sl UInt8)×Int×Int×(Sl Channel)×(Sl FRows)×(Sl Note)×Int×Int) ((Sl UInt8)×Int×Int×(Sl Channel)×(Sl FRows)×(Sl Note))):=fun (w674,w675,w676,w678,w680,w684,w687,w688) =>
 bif decide (0<w688) then
  kA0 (kBp (⟨w674,w675,w676⟩:l00Src) 5) fun c791 =>
  kA0 (kBo (s8_q33 w678) (c791.2.code,c791.2.pos,c791.2.seed,(none:Sl (Sl Int)),w687,wr (1+c791.1))) fun (q812,q813,q814,q816,q819) =>
  kA0 (kF9 w680 ([(⟨q816⟩:FRows)]:List FRows)) fun _ =>
  some (.inl (q812,q813,q814,w678,(kB3 w680 ([(⟨q816⟩:FRows)]:List FRows)),w684,q819,wr (w688 - 1)))
 else
  some (.inr (w674,w675,w676,w678,w680,w684))
def s11_q33 (q975:Sl FRows):((Sl UInt8)×Int×Int×(Sl Channel)×(Sl Note)×Int)→Option (Sum ((Sl UInt8)×Int×Int×(Sl Channel)×(Sl Note)×Int) ((Sl UInt8)×Int×Int×(Sl Channel)×(Sl Note))):=fun (w991,w992,w993,w995,w997,w1000) =>
 kA0 (bif decide (0<w1000) then (some (decide (0<(((q975.getD []).length:Nat):Int)))) else some false) fun c1019 =>
 bif (bif decide (0<w1000) then c1019 else false) then
  kA0 (kBp (⟨w991,w992,w993⟩:l00Src) (((q975.getD []).length:Nat):Int)) fun c1021 =>
  kA0 (kBp c1021.2 (wr ((((q975.getD []).length:Nat):Int) - c1021.1))) fun c1027 =>
  kA0 (t_q29 c1027.2 (some ([(⟨#[119,111,114,100]⟩:ByteArray),(⟨#[97]⟩:ByteArray),(⟨#[120,45,50]⟩:ByteArray)]:List ByteArray))) fun c1038 =>
  kA0 (kF9 w997 ([(⟨c1021.1,wr ((wr (c1021.1+1))+c1027.1),c1038.1⟩:Note)]:List Note)) fun _ =>
  some (.inl (c1038.2.code,c1038.2.pos,c1038.2.seed,w995,(kB3 w997 ([(⟨c1021.1,wr ((wr (c1021.1+1))+c1027.1),c1038.1⟩:Note)]:List Note)),wr (w1000 - 1)))
 else
  some (.inr (w991,w992,w993,w995,w997))
def s10_q33 (w955:Sl Channel):((Sl UInt8)×Int×Int×(Sl (Sl Int))×Int×Int)→Option (Sum ((Sl UInt8)×Int×Int×(Sl (Sl Int))×Int×Int) ((Sl UInt8)×Int×Int×(Sl (Sl Int))×Int)):=fun (w1076,w1077,w1078,w1080,w1085,w1086) =>
 bif decide (0<w1086) then
  kA0 (kBp (⟨w1076,w1077,w1078⟩:l00Src) 80) fun c1113 =>
  kA0 (kBp c1113.2 120) fun c1119 =>
  bif decide (3<(((w955.getD []).length:Nat):Int)) then
   kA0 (kBp c1119.2 256) fun c1130 =>
   kA0 (kF9 (some ([wr (5+c1113.1),wr (c1119.1 - 40),w1085]:List Int)) ([c1130.1]:List Int)) fun _ =>
   kA0 (kF9 w1080 ([(kB3 (some ([wr (5+c1113.1),wr (c1119.1 - 40),w1085]:List Int)) ([c1130.1]:List Int))]:List (Sl Int))) fun _ =>
   kA0 (kBp c1130.2 9) fun c1160 =>
   kA0 (kG5 c1160.2 30) fun c1166 =>
   bif c1166.1 then
    kA0 (some ((fun a b:Int=>max a b) 0 (wr ((wr (w1085+(wr (1+c1160.1)))) - 20)))) fun c1173 =>
    some (.inl (c1166.2.code,c1166.2.pos,c1166.2.seed,(kB3 w1080 ([(kB3 (some ([wr (5+c1113.1),wr (c1119.1 - 40),w1085]:List Int)) ([c1130.1]:List Int))]:List (Sl Int))),c1173,wr (w1086 - 1)))
   else
    some (.inl (c1166.2.code,c1166.2.pos,c1166.2.seed,(kB3 w1080 ([(kB3 (some ([wr (5+c1113.1),wr (c1119.1 - 40),w1085]:List Int)) ([c1130.1]:List Int))]:List (Sl Int))),wr (w1085+(wr (1+c1160.1))),wr (w1086 - 1)))
  else
   kA0 (kF9 w1080 ([(some ([wr (5+c1113.1),wr (c1119.1 - 40),w1085]:List Int))]:List (Sl Int))) fun _ =>
   kA0 (kBp c1119.2 9) fun c1190 =>
   kA0 (kG5 c1190.2 30) fun c1196 =>
   bif c1196.1 then
    kA0 (some ((fun a b:Int=>max a b) 0 (wr ((wr (w1085+(wr (1+c1190.1)))) - 20)))) fun c1203 =>
    some (.inl (c1196.2.code,c1196.2.pos,c1196.2.seed,(kB3 w1080 ([(some ([wr (5+c1113.1),wr (c1119.1 - 40),w1085]:List Int))]:List (Sl Int))),c1203,wr (w1086 - 1)))
   else
    some (.inl (c1196.2.code,c1196.2.pos,c1196.2.seed,(kB3 w1080 ([(some ([wr (5+c1113.1),wr (c1119.1 - 40),w1085]:List Int))]:List (Sl Int))),wr (w1085+(wr (1+c1190.1))),wr (w1086 - 1)))
 else
  some (.inr (w1076,w1077,w1078,w1080,w1085))
def s3_q33:((Sl UInt8)×Int×Int×(Sl Channel)×(Sl FRows)×(Sl Note)×Int×Int)→Option (Sum ((Sl UInt8)×Int×Int×(Sl Channel)×(Sl FRows)×(Sl Note)×Int×Int) ((Sl UInt8)×Int×Int×(Sl Channel)×(Sl FRows)×(Sl Note))):=fun (w951,w952,w953,w955,w957,w961,w964,w965) =>
 bif decide (0<w965) then
  kA0 (kBp (⟨w951,w952,w953⟩:l00Src) 5) fun c1068 =>
  kA0 (kBo (s10_q33 w955) (c1068.2.code,c1068.2.pos,c1068.2.seed,(none:Sl (Sl Int)),w964,wr (1+c1068.1))) fun (q1089,q1090,q1091,q1093,q1096) =>
  kA0 (kF9 w957 ([(⟨q1093⟩:FRows)]:List FRows)) fun _ =>
  some (.inl (q1089,q1090,q1091,w955,(kB3 w957 ([(⟨q1093⟩:FRows)]:List FRows)),w961,q1096,wr (w965 - 1)))
 else
  some (.inr (w951,w952,w953,w955,w957,w961))
def t_q33 (s_:l00Src):Option (File×l00Src) :=
 kA0 (kBp s_ 9) fun c5 =>
 kA0 (kBp c5.2 300) fun c11 =>
 kA0 (t_q29 c11.2 (some ([(⟨#[109,115]⟩:ByteArray),(⟨#[109,115]⟩:ByteArray),(⟨#[99,115]⟩:ByteArray),(⟨#[115]⟩:ByteArray),(⟨#[104,111,117,114]⟩:ByteArray)]:List ByteArray))) fun c31 =>
 kA0 (t_q25 c31.2 (some ([900,3600,3600000]:List Int))) fun c41 =>
 kA0 (kF9 (some ([(⟨(⟨#[120]⟩:ByteArray),(⟨#[109,109]⟩:ByteArray),wr (c5.1 - 4),wr (100+c11.1)⟩:Channel),(⟨(⟨#[121]⟩:ByteArray),(⟨#[109,109]⟩:ByteArray),(-50),90⟩:Channel)]:List Channel)) ([(⟨(⟨#[116]⟩:ByteArray),c31.1,0,c41.1⟩:Channel)]:List Channel)) fun _ =>
 kA0 (kG5 c41.2 3) fun c59 =>
 bif c59.1 then
  kA0 (kF9 (kB3 (some ([(⟨(⟨#[120]⟩:ByteArray),(⟨#[109,109]⟩:ByteArray),wr (c5.1 - 4),wr (100+c11.1)⟩:Channel),(⟨(⟨#[121]⟩:ByteArray),(⟨#[109,109]⟩:ByteArray),(-50),90⟩:Channel)]:List Channel)) ([(⟨(⟨#[116]⟩:ByteArray),c31.1,0,c41.1⟩:Channel)]:List Channel)) ([(⟨(⟨#[112]⟩:ByteArray),(⟨#[111,110,101]⟩:ByteArray),0,255⟩:Channel)]:List Channel)) fun _ =>
  kA0 (kG5 c59.2 6) fun c78 =>
  bif c78.1 then
   kA0 (kF8 ((kB3 (kB3 (some ([(⟨(⟨#[120]⟩:ByteArray),(⟨#[109,109]⟩:ByteArray),wr (c5.1 - 4),wr (100+c11.1)⟩:Channel),(⟨(⟨#[121]⟩:ByteArray),(⟨#[109,109]⟩:ByteArray),(-50),90⟩:Channel)]:List Channel)) ([(⟨(⟨#[116]⟩:ByteArray),c31.1,0,c41.1⟩:Channel)]:List Channel)) ([(⟨(⟨#[112]⟩:ByteArray),(⟨#[111,110,101]⟩:ByteArray),0,255⟩:Channel)]:List Channel)).getD []) 0) fun a85 =>
   kA0 (kBp c78.2 20) fun c91 =>
   kA0 (kBp c91.2 4) fun c97 =>
   kA0 (kBo s0_q33 (c97.2.code,c97.2.pos,c97.2.seed,(setS (kB3 (kB3 (some ([(⟨(⟨#[120]⟩:ByteArray),(⟨#[109,109]⟩:ByteArray),wr (c5.1 - 4),wr (100+c11.1)⟩:Channel),(⟨(⟨#[121]⟩:ByteArray),(⟨#[109,109]⟩:ByteArray),(-50),90⟩:Channel)]:List Channel)) ([(⟨(⟨#[116]⟩:ByteArray),c31.1,0,c41.1⟩:Channel)]:List Channel)) ([(⟨(⟨#[112]⟩:ByteArray),(⟨#[111,110,101]⟩:ByteArray),0,255⟩:Channel)]:List Channel)) 0 (⟨(⟨#[113]⟩:ByteArray),a85.unit,a85.low,a85.high⟩:Channel)),(none:Sl FRows),(none:Sl Note),c91.1,c97.1)) fun (q125,q126,q127,q129,q131,q135) =>
   kA0 (kBp (⟨q125,q126,q127⟩:l00Src) 3) fun c141 =>
   kA0 (kBo (kHy q131) (c141.2.code,c141.2.pos,c141.2.seed,q129,q135,c141.1)) fun (q159,q160,q161,q163,q165) =>
   some ((⟨q163,q131,q165⟩:File),(⟨q159,q160,q161⟩:l00Src))
  else
   kA0 (kBp c78.2 20) fun c368 =>
   kA0 (kBp c368.2 4) fun c374 =>
   kA0 (kBo s1_q33 (c374.2.code,c374.2.pos,c374.2.seed,(kB3 (kB3 (some ([(⟨(⟨#[120]⟩:ByteArray),(⟨#[109,109]⟩:ByteArray),wr (c5.1 - 4),wr (100+c11.1)⟩:Channel),(⟨(⟨#[121]⟩:ByteArray),(⟨#[109,109]⟩:ByteArray),(-50),90⟩:Channel)]:List Channel)) ([(⟨(⟨#[116]⟩:ByteArray),c31.1,0,c41.1⟩:Channel)]:List Channel)) ([(⟨(⟨#[112]⟩:ByteArray),(⟨#[111,110,101]⟩:ByteArray),0,255⟩:Channel)]:List Channel)),(none:Sl FRows),(none:Sl Note),c368.1,c374.1)) fun (q402,q403,q404,q406,q408,q412) =>
   kA0 (kBp (⟨q402,q403,q404⟩:l00Src) 3) fun c418 =>
   kA0 (kBo (s7_q33 q408) (c418.2.code,c418.2.pos,c418.2.seed,q406,q412,c418.1)) fun (q436,q437,q438,q440,q442) =>
   some ((⟨q440,q408,q442⟩:File),(⟨q436,q437,q438⟩:l00Src))
 else
  kA0 (kG5 c59.2 6) fun c645 =>
  bif c645.1 then
   kA0 (kF8 ((kB3 (some ([(⟨(⟨#[120]⟩:ByteArray),(⟨#[109,109]⟩:ByteArray),wr (c5.1 - 4),wr (100+c11.1)⟩:Channel),(⟨(⟨#[121]⟩:ByteArray),(⟨#[109,109]⟩:ByteArray),(-50),90⟩:Channel)]:List Channel)) ([(⟨(⟨#[116]⟩:ByteArray),c31.1,0,c41.1⟩:Channel)]:List Channel)).getD []) 0) fun a652 =>
   kA0 (kBp c645.2 20) fun c658 =>
   kA0 (kBp c658.2 4) fun c664 =>
   kA0 (kBo s2_q33 (c664.2.code,c664.2.pos,c664.2.seed,(setS (kB3 (some ([(⟨(⟨#[120]⟩:ByteArray),(⟨#[109,109]⟩:ByteArray),wr (c5.1 - 4),wr (100+c11.1)⟩:Channel),(⟨(⟨#[121]⟩:ByteArray),(⟨#[109,109]⟩:ByteArray),(-50),90⟩:Channel)]:List Channel)) ([(⟨(⟨#[116]⟩:ByteArray),c31.1,0,c41.1⟩:Channel)]:List Channel)) 0 (⟨(⟨#[113]⟩:ByteArray),a652.unit,a652.low,a652.high⟩:Channel)),(none:Sl FRows),(none:Sl Note),c658.1,c664.1)) fun (q692,q693,q694,q696,q698,q702) =>
   kA0 (kBp (⟨q692,q693,q694⟩:l00Src) 3) fun c708 =>
   kA0 (kBo (s9_q33 q698) (c708.2.code,c708.2.pos,c708.2.seed,q696,q702,c708.1)) fun (q726,q727,q728,q730,q732) =>
   some ((⟨q730,q698,q732⟩:File),(⟨q726,q727,q728⟩:l00Src))
  else
   kA0 (kBp c645.2 20) fun c935 =>
   kA0 (kBp c935.2 4) fun c941 =>
   kA0 (kBo s3_q33 (c941.2.code,c941.2.pos,c941.2.seed,(kB3 (some ([(⟨(⟨#[120]⟩:ByteArray),(⟨#[109,109]⟩:ByteArray),wr (c5.1 - 4),wr (100+c11.1)⟩:Channel),(⟨(⟨#[121]⟩:ByteArray),(⟨#[109,109]⟩:ByteArray),(-50),90⟩:Channel)]:List Channel)) ([(⟨(⟨#[116]⟩:ByteArray),c31.1,0,c41.1⟩:Channel)]:List Channel)),(none:Sl FRows),(none:Sl Note),c935.1,c941.1)) fun (q969,q970,q971,q973,q975,q979) =>
   kA0 (kBp (⟨q969,q970,q971⟩:l00Src) 3) fun c985 =>
   kA0 (kBo (s11_q33 q975) (c985.2.code,c985.2.pos,c985.2.seed,q973,q979,c985.1)) fun (q1003,q1004,q1005,q1007,q1009) =>
   some ((⟨q1007,q975,q1009⟩:File),(⟨q1003,q1004,q1005⟩:l00Src))
theorem tl5_q33 (env:Nat→Contract) {B:Base} (he_q24:env kEl=.pure (T2 (fun a b:Int=>max a b))) (he_q25:env kDd=.gen (kAf Try.prog kE5 kDd)) (he_q27:env kCf=.gen (kAf Try.prog kE7 kCf)) (he_q28:env kB1=.gen (kAf Try.prog kC8 kB1)) (he_q29:env kCd=.gen (kAf Try.prog kCz kCd)) (o_:Nat) (o1:Nat) (c5:Int×l00Src) (c11:Int×l00Src) (x17:AV) (o21:Nat) (x27:AV) (c31:ByteArray×l00Src) (x37:AV) (c41:Int×l00Src) (x47:AV) (x52:AV) (c59:Bool×l00Src) (x66:AV) (x71:AV) (c78:Bool×l00Src) (m86:Nat) (c91:Int×l00Src) (c97:Int×l00Src) (z130:AV) (q131:Sl FRows) (q136:Int) (q137:Int) (z138:AV) (z139:AV) (z140:AV) (c141:Int×l00Src) :kGr (fun (st:(Sl UInt8)×Int×Int×(Sl Channel)×(Sl Note)×Int) tm h154=>match st with | (w147,w148,w149,w151,w153,w156)=>∃ z150 z152,tm=((AV.ptr o_ 1 0 0)::und::(AV.ptr o1 1 0 0)::(AV.ptr o21 1 0 0)::(sv c31.1)::(iv q136)::(iv q137)::z138::z139::z140::(iv (((q131.getD []).length:Nat):Int))::(iv w156)::.top::(AV.ptr o_ 1 0 0)::(iv c5.1)::(iv (wr (c5.1 - 4)))::(AV.ptr o_ 1 0 0)::(iv c11.1)::(iv (wr (100+c11.1)))::(AV.agg [sv (⟨#[120]⟩:ByteArray),sv (⟨#[109,109]⟩:ByteArray),iv (wr (c5.1 - 4)),iv (wr (100+c11.1))])::(AV.agg [sv (⟨#[121]⟩:ByteArray),sv (⟨#[109,109]⟩:ByteArray),iv (-50),iv 90])::x17::(AV.agg [x17,kA3,kA3])::(AV.ptr o_ 1 0 0)::x27::(sv c31.1)::(AV.ptr o21 1 0 0)::x17::(sv c31.1)::(AV.ptr o_ 1 0 0)::x37::(iv c41.1)::(AV.agg [sv (⟨#[116]⟩:ByteArray),sv c31.1,iv 0,iv c41.1])::x47::x52::(AV.ptr o21 1 0 0)::(AV.ptr o_ 1 0 0)::(bv c59.1)::(AV.ptr o21 1 0 0)::x52::(AV.agg [sv (⟨#[112]⟩:ByteArray),sv (⟨#[111,110,101]⟩:ByteArray),iv 0,iv 255])::x66::x71::(AV.ptr o21 1 0 0)::(AV.ptr o_ 1 0 0)::(bv c78.1)::(AV.ptr o21 1 0 0)::x71::(elp x71 m86 0)::(elp x71 m86 0)::(AV.ptr o_ 1 0 0)::(iv c91.1)::(AV.ptr o_ 1 0 0)::(iv c97.1)::.top::.top::.top::.top::.top::.top::.top::.top::.top::.top::.top::.top::.top::.top::.top::.top::.top::.top::.top::.top::.top::.top::.top::.top::.top::.top::.top::.top::.top::.top::.top::.top::.top::.top::.top::.top::.top::.top::.top::.top::.top::.top::.top::.top::.top::.top::.top::.top::.top::.top::.top::(AV.ptr o21 1 0 1)::z130::(iv (((q131.getD []).length:Nat):Int))::(AV.ptr o_ 1 0 0)::(iv c141.1)::tZ9 29 [und])∧Hold B h154 [pZ9 o_ 3 [Sl.enc w147,iv w148,AV.sc (.int .u64 w149)],pZ9 o1 3 [kA3,kA3,kA3],(z150,obS (w151:Sl Channel)),pZ9 o21 3 [z150,z130,z152],(x27,obS ((some ([(⟨#[109,115]⟩:ByteArray),(⟨#[109,115]⟩:ByteArray),(⟨#[99,115]⟩:ByteArray),(⟨#[115]⟩:ByteArray),(⟨#[104,111,117,114]⟩:ByteArray)]:List ByteArray)):Sl ByteArray)),(x37,obS ((some ([900,3600,3600000]:List Int)):Sl Int)),(z152,obS (w153:Sl Note))]) hm5_q33 xm5_q33 (lb5_q33 env) (kHy q131) (fun (q:(Sl UInt8)×Int×Int×(Sl Channel)×(Sl Note)) (r:Res)=>match q with | (q159,q160,q161,q163,q165)=>∃ (q166:Int) (z162:AV) (z164:AV) (z167:AV) (h157:kA7),r=(.exit 4,((AV.ptr o_ 1 0 0)::und::(AV.ptr o1 1 0 0)::(AV.ptr o21 1 0 0)::(sv c31.1)::(iv q136)::(iv q137)::z138::z139::z140::(iv (((q131.getD []).length:Nat):Int))::(iv q166)::z167::(AV.ptr o_ 1 0 0)::(iv c5.1)::(iv (wr (c5.1 - 4)))::(AV.ptr o_ 1 0 0)::(iv c11.1)::(iv (wr (100+c11.1)))::(AV.agg [sv (⟨#[120]⟩:ByteArray),sv (⟨#[109,109]⟩:ByteArray),iv (wr (c5.1 - 4)),iv (wr (100+c11.1))])::(AV.agg [sv (⟨#[121]⟩:ByteArray),sv (⟨#[109,109]⟩:ByteArray),iv (-50),iv 90])::x17::(AV.agg [x17,kA3,kA3])::(AV.ptr o_ 1 0 0)::x27::(sv c31.1)::(AV.ptr o21 1 0 0)::x17::(sv c31.1)::(AV.ptr o_ 1 0 0)::x37::(iv c41.1)::(AV.agg [sv (⟨#[116]⟩:ByteArray),sv c31.1,iv 0,iv c41.1])::x47::x52::(AV.ptr o21 1 0 0)::(AV.ptr o_ 1 0 0)::(bv c59.1)::(AV.ptr o21 1 0 0)::x52::(AV.agg [sv (⟨#[112]⟩:ByteArray),sv (⟨#[111,110,101]⟩:ByteArray),iv 0,iv 255])::x66::x71::(AV.ptr o21 1 0 0)::(AV.ptr o_ 1 0 0)::(bv c78.1)::(AV.ptr o21 1 0 0)::x71::(elp x71 m86 0)::(elp x71 m86 0)::(AV.ptr o_ 1 0 0)::(iv c91.1)::(AV.ptr o_ 1 0 0)::(iv c97.1)::.top::.top::.top::.top::.top::.top::.top::.top::.top::.top::.top::.top::.top::.top::.top::.top::.top::.top::.top::.top::.top::.top::.top::.top::.top::.top::.top::.top::.top::.top::.top::.top::.top::.top::.top::.top::.top::.top::.top::.top::.top::.top::.top::.top::.top::.top::.top::.top::.top::.top::.top::(AV.ptr o21 1 0 1)::z130::(iv (((q131.getD []).length:Nat):Int))::(AV.ptr o_ 1 0 0)::(iv c141.1)::tZ9 29 [und]),h157)∧Hold B h157 [pZ9 o_ 3 [Sl.enc q159,iv q160,AV.sc (.int .u64 q161)],pZ9 o1 3 [kA3,kA3,kA3],(z162,obS (q163:Sl Channel)),pZ9 o21 3 [z162,z130,z164],(x27,obS ((some ([(⟨#[109,115]⟩:ByteArray),(⟨#[109,115]⟩:ByteArray),(⟨#[99,115]⟩:ByteArray),(⟨#[115]⟩:ByteArray),(⟨#[104,111,117,114]⟩:ByteArray)]:List ByteArray)):Sl ByteArray)),(x37,obS ((some ([900,3600,3600000]:List Int)):Sl Int)),(z164,obS (q165:Sl Note))]):=by
 refine @kH3 _ _ _ _ _ _ _ _ (fun st tm h154 R => ?_)
 obtain ⟨w147,w148,w149,w151,w153,w156⟩:=st
 obtain ⟨z150,z152,rfl,O155⟩:=R
 rw [e_lb5_q33]
 unfold kHy
 dsimp only
 refine kA1 (kBd _ _) ?_
 refine kBa (e:=bv) (fun hb174 => ?_) (fun c175 => ?_)
 ·refine kA1 (kBd _ _) ?_
  exact kA6 rfl
 ·refine kA1 (v:=bv (bif decide (0<w156) then c175 else false)) (kCh _ _ _) ?_
  refine kAa (fun c176 => ?_) (fun c176 => ?_)
  ·refine kAq he_q28 (kBj (⟨w147,w148,w149⟩:l00Src) (((q131.getD []).length:Nat):Int) (O155.start (i:=0) rfl rfl)) (fun c177 v178 h179 hq180 => ?_)
   obtain ⟨e_v178,O181⟩:=hq180
   dsimp only at e_v178
   subst v178
   have O182:Hold B h179 [pZ9 o_ 3 [Sl.enc c177.2.code,iv c177.2.pos,AV.sc (.int .u64 c177.2.seed)],pZ9 o1 3 [kA3,kA3,kA3],(z150,obS (w151:Sl Channel)),pZ9 o21 3 [z150,z130,z152],(x27,obS ((some ([(⟨#[109,115]⟩:ByteArray),(⟨#[109,115]⟩:ByteArray),(⟨#[99,115]⟩:ByteArray),(⟨#[115]⟩:ByteArray),(⟨#[104,111,117,114]⟩:ByteArray)]:List ByteArray)):Sl ByteArray)),(x37,obS ((some ([900,3600,3600000]:List Int)):Sl Int)),(z152,obS (w153:Sl Note))]:=O155.merge (i:=0) rfl rfl O181
   refine kA1 (v:=AV.ptr o21 1 0 2) rfl ?_
   refine kA1 (v:=z152) (O182.ld 3 rfl false 1 2) ?_
   refine kA1 (kAg _ _) ?_
   refine kA1 (kAt _ _) ?_
   refine kFa he_q28 (kC6 _ _) (kBj c177.2 (wr ((((q131.getD []).length:Nat):Int) - c177.1)) (O182.start (i:=0) rfl rfl)) (fun c183 v184 h185 hq186 hx189 => ?_)
   obtain ⟨e_v184,O187⟩:=hq186
   dsimp only at e_v184
   subst v184
   have O188:Hold B h185 [pZ9 o_ 3 [Sl.enc c183.2.code,iv c183.2.pos,AV.sc (.int .u64 c183.2.seed)],pZ9 o1 3 [kA3,kA3,kA3],(z150,obS (w151:Sl Channel)),pZ9 o21 3 [z150,z130,z152],(x27,obS ((some ([(⟨#[109,115]⟩:ByteArray),(⟨#[109,115]⟩:ByteArray),(⟨#[99,115]⟩:ByteArray),(⟨#[115]⟩:ByteArray),(⟨#[104,111,117,114]⟩:ByteArray)]:List ByteArray)):Sl ByteArray)),(x37,obS ((some ([900,3600,3600000]:List Int)):Sl Int)),(z152,obS (w153:Sl Note))]:=O182.merge (i:=0) rfl rfl O187
   refine kBk hx189 ?_
   refine kA1 (kAg _ _) ?_
   refine kB7 (A:=ByteArray) O188 ([(⟨#[119,111,114,100]⟩:ByteArray),(⟨#[97]⟩:ByteArray),(⟨#[120,45,50]⟩:ByteArray)]:List ByteArray) rfl (by first | rfl | simp [kAk,kBz]) rfl (fun x190 h191 O192 => ?_)
   replace O192:Hold B h191 [pZ9 o_ 3 [Sl.enc c183.2.code,iv c183.2.pos,AV.sc (.int .u64 c183.2.seed)],pZ9 o1 3 [kA3,kA3,kA3],(z150,obS (w151:Sl Channel)),pZ9 o21 3 [z150,z130,z152],(x27,obS ((some ([(⟨#[109,115]⟩:ByteArray),(⟨#[109,115]⟩:ByteArray),(⟨#[99,115]⟩:ByteArray),(⟨#[115]⟩:ByteArray),(⟨#[104,111,117,114]⟩:ByteArray)]:List ByteArray)):Sl ByteArray)),(x37,obS ((some ([900,3600,3600000]:List Int)):Sl Int)),(z152,obS (w153:Sl Note)),(x190,obS ((some ([(⟨#[119,111,114,100]⟩:ByteArray),(⟨#[97]⟩:ByteArray),(⟨#[120,45,50]⟩:ByteArray)]:List ByteArray)):Sl ByteArray))]:=O192
   refine kFa he_q29 (kCs _ _) (tg_q29 c183.2 (some ([(⟨#[119,111,114,100]⟩:ByteArray),(⟨#[97]⟩:ByteArray),(⟨#[120,45,50]⟩:ByteArray)]:List ByteArray)) (O192.tabK (A:=ByteArray) (s:=(some ([(⟨#[119,111,114,100]⟩:ByteArray),(⟨#[97]⟩:ByteArray),(⟨#[120,45,50]⟩:ByteArray)]:List ByteArray))) 7 0 rfl rfl rfl (by decide)) (O192.start (i:=0) rfl rfl)) (fun c194 v195 h196 hq197 hx200 => ?_)
   obtain ⟨e_v195,O198⟩:=hq197
   dsimp only at e_v195
   subst v195
   have O199:Hold B h196 [pZ9 o_ 3 [Sl.enc c194.2.code,iv c194.2.pos,AV.sc (.int .u64 c194.2.seed)],pZ9 o1 3 [kA3,kA3,kA3],(z150,obS (w151:Sl Channel)),pZ9 o21 3 [z150,z130,z152],(x27,obS ((some ([(⟨#[109,115]⟩:ByteArray),(⟨#[109,115]⟩:ByteArray),(⟨#[99,115]⟩:ByteArray),(⟨#[115]⟩:ByteArray),(⟨#[104,111,117,114]⟩:ByteArray)]:List ByteArray)):Sl ByteArray)),(x37,obS ((some ([900,3600,3600000]:List Int)):Sl Int)),(z152,obS (w153:Sl Note)),(x190,obS ((some ([(⟨#[119,111,114,100]⟩:ByteArray),(⟨#[97]⟩:ByteArray),(⟨#[120,45,50]⟩:ByteArray)]:List ByteArray)):Sl ByteArray))]:=O192.merge (i:=0) rfl rfl O198
   refine kBk hx200 ?_
   refine kA1 (v:=AV.agg [iv c177.1,iv (wr ((wr (c177.1+1))+c183.1)),sv c194.1]) (by first | rfl | simp [kBs,kEq,kAo]) ?_
   refine kB7 (A:=Note) O199 ([(⟨c177.1,wr ((wr (c177.1+1))+c183.1),c194.1⟩:Note)]:List Note) rfl (by first | rfl | simp [kAk,kBz]) rfl (fun x201 h202 O203 => ?_)
   replace O203:Hold B h202 [pZ9 o_ 3 [Sl.enc c194.2.code,iv c194.2.pos,AV.sc (.int .u64 c194.2.seed)],pZ9 o1 3 [kA3,kA3,kA3],(z150,obS (w151:Sl Channel)),pZ9 o21 3 [z150,z130,z152],(x27,obS ((some ([(⟨#[109,115]⟩:ByteArray),(⟨#[109,115]⟩:ByteArray),(⟨#[99,115]⟩:ByteArray),(⟨#[115]⟩:ByteArray),(⟨#[104,111,117,114]⟩:ByteArray)]:List ByteArray)):Sl ByteArray)),(x37,obS ((some ([900,3600,3600000]:List Int)):Sl Int)),(z152,obS (w153:Sl Note)),(x190,obS ((some ([(⟨#[119,111,114,100]⟩:ByteArray),(⟨#[97]⟩:ByteArray),(⟨#[120,45,50]⟩:ByteArray)]:List ByteArray)):Sl ByteArray)),(x201,obS ((some ([(⟨c177.1,wr ((wr (c177.1+1))+c183.1),c194.1⟩:Note)]:List Note)):Sl Note))]:=O203
   refine kBk ⟨⟨(kEo (v:=z152) (O182.ld 3 rfl false 1 2)),⟨(kEo (v:=z152) (O188.ld 3 rfl false 1 2)),⟨(kEo (v:=z152) (O192.ld 3 rfl false 1 2)),⟨(kEo (v:=z152) (O199.ld 3 rfl false 1 2)),⟨(kEo (v:=z152) (O203.ld 3 rfl false 1 2)),trivial⟩⟩⟩⟩⟩,trivial⟩ ?_
   refine kBw (A:=Note) (s:=w153) O203 6 ([(⟨c177.1,wr ((wr (c177.1+1))+c183.1),c194.1⟩:Note)]:List Note) rfl (O203.src (A:=Note) (s:=(some ([(⟨c177.1,wr ((wr (c177.1+1))+c183.1),c194.1⟩:Note)]:List Note))) 8 rfl) (by decide) (fun x206 h207 O208 => ?_)
   replace O208:Hold B h207 [pZ9 o_ 3 [Sl.enc c194.2.code,iv c194.2.pos,AV.sc (.int .u64 c194.2.seed)],pZ9 o1 3 [kA3,kA3,kA3],(z150,obS (w151:Sl Channel)),pZ9 o21 3 [z150,z130,z152],(x27,obS ((some ([(⟨#[109,115]⟩:ByteArray),(⟨#[109,115]⟩:ByteArray),(⟨#[99,115]⟩:ByteArray),(⟨#[115]⟩:ByteArray),(⟨#[104,111,117,114]⟩:ByteArray)]:List ByteArray)):Sl ByteArray)),(x37,obS ((some ([900,3600,3600000]:List Int)):Sl Int)),(x206,obS ((kB3 w153 ([(⟨c177.1,wr ((wr (c177.1+1))+c183.1),c194.1⟩:Note)]:List Note)):Sl Note)),(x190,obS ((some ([(⟨#[119,111,114,100]⟩:ByteArray),(⟨#[97]⟩:ByteArray),(⟨#[120,45,50]⟩:ByteArray)]:List ByteArray)):Sl ByteArray)),(x201,obS ((some ([(⟨c177.1,wr ((wr (c177.1+1))+c183.1),c194.1⟩:Note)]:List Note)):Sl Note))]:=O208
   have O210:Hold B h207 [pZ9 o_ 3 [Sl.enc c194.2.code,iv c194.2.pos,AV.sc (.int .u64 c194.2.seed)],pZ9 o1 3 [kA3,kA3,kA3],(z150,obS (w151:Sl Channel)),pZ9 o21 3 [z150,z130,z152],(x27,obS ((some ([(⟨#[109,115]⟩:ByteArray),(⟨#[109,115]⟩:ByteArray),(⟨#[99,115]⟩:ByteArray),(⟨#[115]⟩:ByteArray),(⟨#[104,111,117,114]⟩:ByteArray)]:List ByteArray)):Sl ByteArray)),(x37,obS ((some ([900,3600,3600000]:List Int)):Sl Int)),(x206,obS ((kB3 w153 ([(⟨c177.1,wr ((wr (c177.1+1))+c183.1),c194.1⟩:Note)]:List Note)):Sl Note)),(x190,obS ((some ([(⟨#[119,111,114,100]⟩:ByteArray),(⟨#[97]⟩:ByteArray),(⟨#[120,45,50]⟩:ByteArray)]:List ByteArray)):Sl ByteArray))]:=O208.sel [0,1,2,3,4,5,6,7] (by decide) rfl
   refine kA1 (v:=AV.ptr o21 1 0 2) rfl ?_
   have jZ0:=O210.one (A:=Note) (s:=(kB3 w153 ([(⟨c177.1,wr ((wr (c177.1+1))+c183.1),c194.1⟩:Note)]:List Note))) 6 rfl
   refine kAj O210 3 (cs':=[z150,z130,x206]) rfl (by first | rfl | simp [jZ0.1,jZ0.2]) (by simp) (by first | rfl | simp [jZ0.1,jZ0.2]) (by first | rfl | simp [kAo,jZ0.1,jZ0.2]) (fun h211 O212 => ?_)
   replace O212:Hold B h211 [pZ9 o_ 3 [Sl.enc c194.2.code,iv c194.2.pos,AV.sc (.int .u64 c194.2.seed)],pZ9 o1 3 [kA3,kA3,kA3],(z150,obS (w151:Sl Channel)),pZ9 o21 3 [z150,z130,x206],(x27,obS ((some ([(⟨#[109,115]⟩:ByteArray),(⟨#[109,115]⟩:ByteArray),(⟨#[99,115]⟩:ByteArray),(⟨#[115]⟩:ByteArray),(⟨#[104,111,117,114]⟩:ByteArray)]:List ByteArray)):Sl ByteArray)),(x37,obS ((some ([900,3600,3600000]:List Int)):Sl Int)),(x206,obS ((kB3 w153 ([(⟨c177.1,wr ((wr (c177.1+1))+c183.1),c194.1⟩:Note)]:List Note)):Sl Note)),(x190,obS ((some ([(⟨#[119,111,114,100]⟩:ByteArray),(⟨#[97]⟩:ByteArray),(⟨#[120,45,50]⟩:ByteArray)]:List ByteArray)):Sl ByteArray))]:=O212
   refine kBk trivial ?_
   refine kA1 (kAt _ _) ?_
   have O213:Hold B h211 [pZ9 o_ 3 [Sl.enc c194.2.code,iv c194.2.pos,AV.sc (.int .u64 c194.2.seed)],pZ9 o1 3 [kA3,kA3,kA3],(z150,obS (w151:Sl Channel)),pZ9 o21 3 [z150,z130,x206],(x27,obS ((some ([(⟨#[109,115]⟩:ByteArray),(⟨#[109,115]⟩:ByteArray),(⟨#[99,115]⟩:ByteArray),(⟨#[115]⟩:ByteArray),(⟨#[104,111,117,114]⟩:ByteArray)]:List ByteArray)):Sl ByteArray)),(x37,obS ((some ([900,3600,3600000]:List Int)):Sl Int)),(x206,obS ((kB3 w153 ([(⟨c177.1,wr ((wr (c177.1+1))+c183.1),c194.1⟩:Note)]:List Note)):Sl Note))]:=O212.sel [0,1,2,3,4,5,6] (by decide) rfl
   exact kA6 ⟨rfl,_,_,rfl,O213⟩
  ·exact kA6 ⟨nofun,_,_,_,_,_,rfl,O155⟩
theorem tl4_q33 (env:Nat→Contract) {B:Base} (he_q24:env kEl=.pure (T2 (fun a b:Int=>max a b))) (he_q25:env kDd=.gen (kAf Try.prog kE5 kDd)) (he_q27:env kCf=.gen (kAf Try.prog kE7 kCf)) (he_q28:env kB1=.gen (kAf Try.prog kC8 kB1)) (he_q29:env kCd=.gen (kAf Try.prog kCz kCd)) (o_:Nat) (o1:Nat) (c5:Int×l00Src) (c11:Int×l00Src) (x17:AV) (o21:Nat) (x27:AV) (c31:ByteArray×l00Src) (x37:AV) (c41:Int×l00Src) (x47:AV) (x52:AV) (c59:Bool×l00Src) (x66:AV) (x71:AV) (c78:Bool×l00Src) (m86:Nat) (c91:Int×l00Src) (c97:Int×l00Src) (z110:AV) (w111:Sl Channel) (z112:AV) (z116:AV) (w117:Sl Note) (w121:Int) (o218:Nat) (c224:Int×l00Src) :kGr (fun (st:(Sl UInt8)×Int×Int×(Sl (Sl Int))×Int×Int) tm h239=>match st with | (w232,w233,w234,w236,w241,w242)=>∃ z235,∃ ps237:PS (Sl Int),tm=((AV.ptr o_ 1 0 0)::und::(AV.ptr o1 1 0 0)::(AV.ptr o21 1 0 0)::(sv c31.1)::(iv w241)::(iv w121)::(AV.ptr o218 1 0 0)::(iv w242)::.top::und::und::und::(AV.ptr o_ 1 0 0)::(iv c5.1)::(iv (wr (c5.1 - 4)))::(AV.ptr o_ 1 0 0)::(iv c11.1)::(iv (wr (100+c11.1)))::(AV.agg [sv (⟨#[120]⟩:ByteArray),sv (⟨#[109,109]⟩:ByteArray),iv (wr (c5.1 - 4)),iv (wr (100+c11.1))])::(AV.agg [sv (⟨#[121]⟩:ByteArray),sv (⟨#[109,109]⟩:ByteArray),iv (-50),iv 90])::x17::(AV.agg [x17,kA3,kA3])::(AV.ptr o_ 1 0 0)::x27::(sv c31.1)::(AV.ptr o21 1 0 0)::x17::(sv c31.1)::(AV.ptr o_ 1 0 0)::x37::(iv c41.1)::(AV.agg [sv (⟨#[116]⟩:ByteArray),sv c31.1,iv 0,iv c41.1])::x47::x52::(AV.ptr o21 1 0 0)::(AV.ptr o_ 1 0 0)::(bv c59.1)::(AV.ptr o21 1 0 0)::x52::(AV.agg [sv (⟨#[112]⟩:ByteArray),sv (⟨#[111,110,101]⟩:ByteArray),iv 0,iv 255])::x66::x71::(AV.ptr o21 1 0 0)::(AV.ptr o_ 1 0 0)::(bv c78.1)::(AV.ptr o21 1 0 0)::x71::(elp x71 m86 0)::(elp x71 m86 0)::(AV.ptr o_ 1 0 0)::(iv c91.1)::(AV.ptr o_ 1 0 0)::(iv c97.1)::(iv w121)::(bv (decide (0<w121)))::.top::.top::(AV.agg [kA3])::(AV.ptr o_ 1 0 0)::(iv c224.1)::(iv (wr (1+c224.1)))::tZ9 37 [.top,.top,.top,.top,.top,.top,und,und,und,und,und,und,und,und,und,und,und,und,und,und,und,und,und,und,und,und,und,und,und,und,und,und,und,und,und,und,und,und,und,und,und])∧pj ps237=w236∧Hold B h239 ([pZ9 o_ 3 [Sl.enc w232,iv w233,AV.sc (.int .u64 w234)],pZ9 o1 3 [kA3,kA3,kA3],(z110,obS (w111:Sl Channel)),pZ9 o21 3 [z110,z112,z116],(x27,obS ((some ([(⟨#[109,115]⟩:ByteArray),(⟨#[109,115]⟩:ByteArray),(⟨#[99,115]⟩:ByteArray),(⟨#[115]⟩:ByteArray),(⟨#[104,111,117,114]⟩:ByteArray)]:List ByteArray)):Sl ByteArray)),(x37,obS ((some ([900,3600,3600000]:List Int)):Sl Int)),(z116,obS (w117:Sl Note)),pZ9 o218 1 [z235]]++D2 (A:=(Sl Int)) z235 ps237)) hm4_q33 xm4_q33 (lb4_q33 env) (s4_q33 w111) (fun (q:(Sl UInt8)×Int×Int×(Sl (Sl Int))×Int) (r:Res)=>match q with | (q245,q246,q247,q249,q252)=>∃ (q253:Int) (z248:AV) (z254:AV) (ps250:PS (Sl Int)) (h243:kA7),r=(.exit 2,((AV.ptr o_ 1 0 0)::und::(AV.ptr o1 1 0 0)::(AV.ptr o21 1 0 0)::(sv c31.1)::(iv q252)::(iv w121)::(AV.ptr o218 1 0 0)::(iv q253)::z254::und::und::und::(AV.ptr o_ 1 0 0)::(iv c5.1)::(iv (wr (c5.1 - 4)))::(AV.ptr o_ 1 0 0)::(iv c11.1)::(iv (wr (100+c11.1)))::(AV.agg [sv (⟨#[120]⟩:ByteArray),sv (⟨#[109,109]⟩:ByteArray),iv (wr (c5.1 - 4)),iv (wr (100+c11.1))])::(AV.agg [sv (⟨#[121]⟩:ByteArray),sv (⟨#[109,109]⟩:ByteArray),iv (-50),iv 90])::x17::(AV.agg [x17,kA3,kA3])::(AV.ptr o_ 1 0 0)::x27::(sv c31.1)::(AV.ptr o21 1 0 0)::x17::(sv c31.1)::(AV.ptr o_ 1 0 0)::x37::(iv c41.1)::(AV.agg [sv (⟨#[116]⟩:ByteArray),sv c31.1,iv 0,iv c41.1])::x47::x52::(AV.ptr o21 1 0 0)::(AV.ptr o_ 1 0 0)::(bv c59.1)::(AV.ptr o21 1 0 0)::x52::(AV.agg [sv (⟨#[112]⟩:ByteArray),sv (⟨#[111,110,101]⟩:ByteArray),iv 0,iv 255])::x66::x71::(AV.ptr o21 1 0 0)::(AV.ptr o_ 1 0 0)::(bv c78.1)::(AV.ptr o21 1 0 0)::x71::(elp x71 m86 0)::(elp x71 m86 0)::(AV.ptr o_ 1 0 0)::(iv c91.1)::(AV.ptr o_ 1 0 0)::(iv c97.1)::(iv w121)::(bv (decide (0<w121)))::.top::.top::(AV.agg [kA3])::(AV.ptr o_ 1 0 0)::(iv c224.1)::(iv (wr (1+c224.1)))::tZ9 37 [.top,.top,.top,.top,.top,.top,und,und,und,und,und,und,und,und,und,und,und,und,und,und,und,und,und,und,und,und,und,und,und,und,und,und,und,und,und,und,und,und,und,und,und]),h243)∧pj ps250=q249∧Hold B h243 ([pZ9 o_ 3 [Sl.enc q245,iv q246,AV.sc (.int .u64 q247)],pZ9 o1 3 [kA3,kA3,kA3],(z110,obS (w111:Sl Channel)),pZ9 o21 3 [z110,z112,z116],(x27,obS ((some ([(⟨#[109,115]⟩:ByteArray),(⟨#[109,115]⟩:ByteArray),(⟨#[99,115]⟩:ByteArray),(⟨#[115]⟩:ByteArray),(⟨#[104,111,117,114]⟩:ByteArray)]:List ByteArray)):Sl ByteArray)),(x37,obS ((some ([900,3600,3600000]:List Int)):Sl Int)),(z116,obS (w117:Sl Note)),pZ9 o218 1 [z248]]++D2 (A:=(Sl Int)) z248 ps250)):=by
 refine @kH3 _ _ _ _ _ _ _ _ (fun st tm h239 R => ?_)
 obtain ⟨w232,w233,w234,w236,w241,w242⟩:=st
 obtain ⟨z235,ps237,rfl,hp238,O240⟩:=R
 rw [e_lb4_q33]
 unfold s4_q33
 dsimp only
 refine kA1 (kBd _ _) ?_
 refine kAa (fun c268 => ?_) (fun c268 => ?_)
 ·refine kAq he_q28 (kBj (⟨w232,w233,w234⟩:l00Src) 80 (O240.start (i:=0) rfl rfl)) (fun c269 v270 h271 hq272 => ?_)
  obtain ⟨e_v270,O273⟩:=hq272
  dsimp only at e_v270
  subst v270
  have O274:Hold B h271 ([pZ9 o_ 3 [Sl.enc c269.2.code,iv c269.2.pos,AV.sc (.int .u64 c269.2.seed)],pZ9 o1 3 [kA3,kA3,kA3],(z110,obS (w111:Sl Channel)),pZ9 o21 3 [z110,z112,z116],(x27,obS ((some ([(⟨#[109,115]⟩:ByteArray),(⟨#[109,115]⟩:ByteArray),(⟨#[99,115]⟩:ByteArray),(⟨#[115]⟩:ByteArray),(⟨#[104,111,117,114]⟩:ByteArray)]:List ByteArray)):Sl ByteArray)),(x37,obS ((some ([900,3600,3600000]:List Int)):Sl Int)),(z116,obS (w117:Sl Note)),pZ9 o218 1 [z235]]++D2 (A:=(Sl Int)) z235 ps237):=Hold.rot (l:=[pZ9 o_ 3 [Sl.enc c269.2.code,iv c269.2.pos,AV.sc (.int .u64 c269.2.seed)],pZ9 o1 3 [kA3,kA3,kA3],(z110,obS (w111:Sl Channel)),pZ9 o21 3 [z110,z112,z116],(x27,obS ((some ([(⟨#[109,115]⟩:ByteArray),(⟨#[109,115]⟩:ByteArray),(⟨#[99,115]⟩:ByteArray),(⟨#[115]⟩:ByteArray),(⟨#[104,111,117,114]⟩:ByteArray)]:List ByteArray)):Sl ByteArray)),(x37,obS ((some ([900,3600,3600000]:List Int)):Sl Int)),(z116,obS (w117:Sl Note)),pZ9 o218 1 [z235]]) (d:=D2 (A:=(Sl Int)) z235 ps237) (n:=[]) (O240.merge (i:=0) rfl rfl O273)
  refine kA1 (kAg _ _) ?_
  refine kAq he_q28 (kBj c269.2 120 (O274.start (i:=0) rfl rfl)) (fun c275 v276 h277 hq278 => ?_)
  obtain ⟨e_v276,O279⟩:=hq278
  dsimp only at e_v276
  subst v276
  have O280:Hold B h277 ([pZ9 o_ 3 [Sl.enc c275.2.code,iv c275.2.pos,AV.sc (.int .u64 c275.2.seed)],pZ9 o1 3 [kA3,kA3,kA3],(z110,obS (w111:Sl Channel)),pZ9 o21 3 [z110,z112,z116],(x27,obS ((some ([(⟨#[109,115]⟩:ByteArray),(⟨#[109,115]⟩:ByteArray),(⟨#[99,115]⟩:ByteArray),(⟨#[115]⟩:ByteArray),(⟨#[104,111,117,114]⟩:ByteArray)]:List ByteArray)):Sl ByteArray)),(x37,obS ((some ([900,3600,3600000]:List Int)):Sl Int)),(z116,obS (w117:Sl Note)),pZ9 o218 1 [z235]]++D2 (A:=(Sl Int)) z235 ps237):=Hold.rot (l:=[pZ9 o_ 3 [Sl.enc c275.2.code,iv c275.2.pos,AV.sc (.int .u64 c275.2.seed)],pZ9 o1 3 [kA3,kA3,kA3],(z110,obS (w111:Sl Channel)),pZ9 o21 3 [z110,z112,z116],(x27,obS ((some ([(⟨#[109,115]⟩:ByteArray),(⟨#[109,115]⟩:ByteArray),(⟨#[99,115]⟩:ByteArray),(⟨#[115]⟩:ByteArray),(⟨#[104,111,117,114]⟩:ByteArray)]:List ByteArray)):Sl ByteArray)),(x37,obS ((some ([900,3600,3600000]:List Int)):Sl Int)),(z116,obS (w117:Sl Note)),pZ9 o218 1 [z235]]) (d:=D2 (A:=(Sl Int)) z235 ps237) (n:=[]) (O274.merge (i:=0) rfl rfl O279)
  refine kA1 (kAt _ _) ?_
  refine kB7 (A:=Int) O280 ([wr (5+c269.1),wr (c275.1 - 40),w241]:List Int) rfl (by first | rfl | simp [kAk,kBz]) rfl (fun x281 h282 O283 => ?_)
  replace O283:Hold B h282 ([pZ9 o_ 3 [Sl.enc c275.2.code,iv c275.2.pos,AV.sc (.int .u64 c275.2.seed)],pZ9 o1 3 [kA3,kA3,kA3],(z110,obS (w111:Sl Channel)),pZ9 o21 3 [z110,z112,z116],(x27,obS ((some ([(⟨#[109,115]⟩:ByteArray),(⟨#[109,115]⟩:ByteArray),(⟨#[99,115]⟩:ByteArray),(⟨#[115]⟩:ByteArray),(⟨#[104,111,117,114]⟩:ByteArray)]:List ByteArray)):Sl ByteArray)),(x37,obS ((some ([900,3600,3600000]:List Int)):Sl Int)),(z116,obS (w117:Sl Note)),pZ9 o218 1 [z235],(x281,obS ((some ([wr (5+c269.1),wr (c275.1 - 40),w241]:List Int)):Sl Int))]++D2 (A:=(Sl Int)) z235 ps237):=Hold.rot O283
  refine kA1 (v:=AV.ptr o21 1 0 0) rfl ?_
  refine kA1 (v:=z110) (O283.ld 3 rfl false 1 0) ?_
  refine kA1 (v:=iv (((w111.getD []).length:Nat):Int)) (O283.tab (A:=Channel) (s:=w111) 2 rfl).len ?_
  refine kA1 (kBd _ _) ?_
  refine kAa (fun c285 => ?_) (fun c285 => ?_)
  ·refine kAq he_q28 (kBj c275.2 256 (O283.start (i:=0) rfl rfl)) (fun c286 v287 h288 hq289 => ?_)
   obtain ⟨e_v287,O290⟩:=hq289
   dsimp only at e_v287
   subst v287
   have O291:Hold B h288 ([pZ9 o_ 3 [Sl.enc c286.2.code,iv c286.2.pos,AV.sc (.int .u64 c286.2.seed)],pZ9 o1 3 [kA3,kA3,kA3],(z110,obS (w111:Sl Channel)),pZ9 o21 3 [z110,z112,z116],(x27,obS ((some ([(⟨#[109,115]⟩:ByteArray),(⟨#[109,115]⟩:ByteArray),(⟨#[99,115]⟩:ByteArray),(⟨#[115]⟩:ByteArray),(⟨#[104,111,117,114]⟩:ByteArray)]:List ByteArray)):Sl ByteArray)),(x37,obS ((some ([900,3600,3600000]:List Int)):Sl Int)),(z116,obS (w117:Sl Note)),pZ9 o218 1 [z235],(x281,obS ((some ([wr (5+c269.1),wr (c275.1 - 40),w241]:List Int)):Sl Int))]++D2 (A:=(Sl Int)) z235 ps237):=Hold.rot (l:=[pZ9 o_ 3 [Sl.enc c286.2.code,iv c286.2.pos,AV.sc (.int .u64 c286.2.seed)],pZ9 o1 3 [kA3,kA3,kA3],(z110,obS (w111:Sl Channel)),pZ9 o21 3 [z110,z112,z116],(x27,obS ((some ([(⟨#[109,115]⟩:ByteArray),(⟨#[109,115]⟩:ByteArray),(⟨#[99,115]⟩:ByteArray),(⟨#[115]⟩:ByteArray),(⟨#[104,111,117,114]⟩:ByteArray)]:List ByteArray)):Sl ByteArray)),(x37,obS ((some ([900,3600,3600000]:List Int)):Sl Int)),(z116,obS (w117:Sl Note)),pZ9 o218 1 [z235],(x281,obS ((some ([wr (5+c269.1),wr (c275.1 - 40),w241]:List Int)):Sl Int))]) (d:=D2 (A:=(Sl Int)) z235 ps237) (n:=[]) (O283.merge (i:=0) rfl rfl O290)
   refine kB7 (A:=Int) O291 ([c286.1]:List Int) rfl (by first | rfl | simp [kAk,kBz]) rfl (fun x292 h293 O294 => ?_)
   replace O294:Hold B h293 ([pZ9 o_ 3 [Sl.enc c286.2.code,iv c286.2.pos,AV.sc (.int .u64 c286.2.seed)],pZ9 o1 3 [kA3,kA3,kA3],(z110,obS (w111:Sl Channel)),pZ9 o21 3 [z110,z112,z116],(x27,obS ((some ([(⟨#[109,115]⟩:ByteArray),(⟨#[109,115]⟩:ByteArray),(⟨#[99,115]⟩:ByteArray),(⟨#[115]⟩:ByteArray),(⟨#[104,111,117,114]⟩:ByteArray)]:List ByteArray)):Sl ByteArray)),(x37,obS ((some ([900,3600,3600000]:List Int)):Sl Int)),(z116,obS (w117:Sl Note)),pZ9 o218 1 [z235],(x281,obS ((some ([wr (5+c269.1),wr (c275.1 - 40),w241]:List Int)):Sl Int)),(x292,obS ((some ([c286.1]:List Int)):Sl Int))]++D2 (A:=(Sl Int)) z235 ps237):=Hold.rot O294
   refine kBw (A:=Int) (s:=(some ([wr (5+c269.1),wr (c275.1 - 40),w241]:List Int))) O294 8 ([c286.1]:List Int) rfl (O294.src (A:=Int) (s:=(some ([c286.1]:List Int))) 9 rfl) (by decide) (fun x297 h298 O299 => ?_)
   replace O299:Hold B h298 ([pZ9 o_ 3 [Sl.enc c286.2.code,iv c286.2.pos,AV.sc (.int .u64 c286.2.seed)],pZ9 o1 3 [kA3,kA3,kA3],(z110,obS (w111:Sl Channel)),pZ9 o21 3 [z110,z112,z116],(x27,obS ((some ([(⟨#[109,115]⟩:ByteArray),(⟨#[109,115]⟩:ByteArray),(⟨#[99,115]⟩:ByteArray),(⟨#[115]⟩:ByteArray),(⟨#[104,111,117,114]⟩:ByteArray)]:List ByteArray)):Sl ByteArray)),(x37,obS ((some ([900,3600,3600000]:List Int)):Sl Int)),(z116,obS (w117:Sl Note)),pZ9 o218 1 [z235],(x297,obS ((kB3 (some ([wr (5+c269.1),wr (c275.1 - 40),w241]:List Int)) ([c286.1]:List Int)):Sl Int)),(x292,obS ((some ([c286.1]:List Int)):Sl Int))]++D2 (A:=(Sl Int)) z235 ps237):=O299
   have O301:Hold B h298 ([pZ9 o_ 3 [Sl.enc c286.2.code,iv c286.2.pos,AV.sc (.int .u64 c286.2.seed)],pZ9 o1 3 [kA3,kA3,kA3],(z110,obS (w111:Sl Channel)),pZ9 o21 3 [z110,z112,z116],(x27,obS ((some ([(⟨#[109,115]⟩:ByteArray),(⟨#[109,115]⟩:ByteArray),(⟨#[99,115]⟩:ByteArray),(⟨#[115]⟩:ByteArray),(⟨#[104,111,117,114]⟩:ByteArray)]:List ByteArray)):Sl ByteArray)),(x37,obS ((some ([900,3600,3600000]:List Int)):Sl Int)),(z116,obS (w117:Sl Note)),pZ9 o218 1 [z235],(x297,obS ((kB3 (some ([wr (5+c269.1),wr (c275.1 - 40),w241]:List Int)) ([c286.1]:List Int)):Sl Int))]++D2 (A:=(Sl Int)) z235 ps237):=O299.selD [0,1,2,3,4,5,6,7,8] (by decide) rfl
   refine kA1 (v:=AV.ptr o218 1 0 0) rfl ?_
   refine kA1 (v:=z235) (O301.ld 7 rfl false 1 0) ?_
   have jZ0:=O301.one (A:=Int) (s:=(kB3 (some ([wr (5+c269.1),wr (c275.1 - 40),w241]:List Int)) ([c286.1]:List Int))) 8 rfl
   refine kBn O301 [[x297]] 1 rfl (by first | rfl | simp [kAk,kBz,jZ0.1,jZ0.2]) rfl (fun x302 h303 O304 => ?_)
   replace O304:Hold B h303 ([pZ9 o_ 3 [Sl.enc c286.2.code,iv c286.2.pos,AV.sc (.int .u64 c286.2.seed)],pZ9 o1 3 [kA3,kA3,kA3],(z110,obS (w111:Sl Channel)),pZ9 o21 3 [z110,z112,z116],(x27,obS ((some ([(⟨#[109,115]⟩:ByteArray),(⟨#[109,115]⟩:ByteArray),(⟨#[99,115]⟩:ByteArray),(⟨#[115]⟩:ByteArray),(⟨#[104,111,117,114]⟩:ByteArray)]:List ByteArray)):Sl ByteArray)),(x37,obS ((some ([900,3600,3600000]:List Int)):Sl Int)),(z116,obS (w117:Sl Note)),pZ9 o218 1 [z235],(x297,obS ((kB3 (some ([wr (5+c269.1),wr (c275.1 - 40),w241]:List Int)) ([c286.1]:List Int)):Sl Int)),(x302,.sl 1 [[x297]])]++D2 (A:=(Sl Int)) z235 ps237):=Hold.rot O304
   have O306:Hold B h303 ([pZ9 o_ 3 [Sl.enc c286.2.code,iv c286.2.pos,AV.sc (.int .u64 c286.2.seed)],pZ9 o1 3 [kA3,kA3,kA3],(z110,obS (w111:Sl Channel)),pZ9 o21 3 [z110,z112,z116],(x27,obS ((some ([(⟨#[109,115]⟩:ByteArray),(⟨#[109,115]⟩:ByteArray),(⟨#[99,115]⟩:ByteArray),(⟨#[115]⟩:ByteArray),(⟨#[104,111,117,114]⟩:ByteArray)]:List ByteArray)):Sl ByteArray)),(x37,obS ((some ([900,3600,3600000]:List Int)):Sl Int)),(z116,obS (w117:Sl Note)),pZ9 o218 1 [z235],(x297,obS ((kB3 (some ([wr (5+c269.1),wr (c275.1 - 40),w241]:List Int)) ([c286.1]:List Int)):Sl Int)),(x302,.sl 1 [[x297]])]++D2 (A:=(Sl Int)) z235 ps237):=O304.selD [0,1,2,3,4,5,6,7,8,9] (by decide) rfl
   refine kEs (l:=[pZ9 o_ 3 [Sl.enc c286.2.code,iv c286.2.pos,AV.sc (.int .u64 c286.2.seed)],pZ9 o1 3 [kA3,kA3,kA3],(z110,obS (w111:Sl Channel)),pZ9 o21 3 [z110,z112,z116],(x27,obS ((some ([(⟨#[109,115]⟩:ByteArray),(⟨#[109,115]⟩:ByteArray),(⟨#[99,115]⟩:ByteArray),(⟨#[115]⟩:ByteArray),(⟨#[104,111,117,114]⟩:ByteArray)]:List ByteArray)):Sl ByteArray)),(x37,obS ((some ([900,3600,3600000]:List Int)):Sl Int)),(z116,obS (w117:Sl Note)),pZ9 o218 1 [z235]]) (a:=(kB3 (some ([wr (5+c269.1),wr (c275.1 - 40),w241]:List Int)) ([c286.1]:List Int))) (y:=x297) (x:=z235) (ps:=ps237) O306 hp238 (by decide) (fun x307 ps310 h308 hp311 hm312 O309 => ?_)
   refine kA1 (v:=AV.ptr o218 1 0 0) rfl ?_
   have jZ0:=D2.oneX (l:=[pZ9 o_ 3 [Sl.enc c286.2.code,iv c286.2.pos,AV.sc (.int .u64 c286.2.seed)],pZ9 o1 3 [kA3,kA3,kA3],(z110,obS (w111:Sl Channel)),pZ9 o21 3 [z110,z112,z116],(x27,obS ((some ([(⟨#[109,115]⟩:ByteArray),(⟨#[109,115]⟩:ByteArray),(⟨#[99,115]⟩:ByteArray),(⟨#[115]⟩:ByteArray),(⟨#[104,111,117,114]⟩:ByteArray)]:List ByteArray)):Sl ByteArray)),(x37,obS ((some ([900,3600,3600000]:List Int)):Sl Int)),(z116,obS (w117:Sl Note)),pZ9 o218 1 [z235]]) (x:=x307) (ps:=ps310) (A:=(Sl Int)) O309
   refine kAj O309 7 (cs':=[x307]) rfl (by first | rfl | simp [jZ0.1,jZ0.2]) (by simp) (by first | rfl | simp [jZ0.1,jZ0.2]) (by first | rfl | simp [kAo,jZ0.1,jZ0.2]) (fun h314 O315 => ?_)
   replace O315:Hold B h314 ([pZ9 o_ 3 [Sl.enc c286.2.code,iv c286.2.pos,AV.sc (.int .u64 c286.2.seed)],pZ9 o1 3 [kA3,kA3,kA3],(z110,obS (w111:Sl Channel)),pZ9 o21 3 [z110,z112,z116],(x27,obS ((some ([(⟨#[109,115]⟩:ByteArray),(⟨#[109,115]⟩:ByteArray),(⟨#[99,115]⟩:ByteArray),(⟨#[115]⟩:ByteArray),(⟨#[104,111,117,114]⟩:ByteArray)]:List ByteArray)):Sl ByteArray)),(x37,obS ((some ([900,3600,3600000]:List Int)):Sl Int)),(z116,obS (w117:Sl Note)),pZ9 o218 1 [x307]]++D2 (A:=(Sl Int)) x307 ps310):=O315
   refine kAq he_q28 (kBj c286.2 9 (O315.start (i:=0) rfl rfl)) (fun c316 v317 h318 hq319 => ?_)
   obtain ⟨e_v317,O320⟩:=hq319
   dsimp only at e_v317
   subst v317
   have O321:Hold B h318 ([pZ9 o_ 3 [Sl.enc c316.2.code,iv c316.2.pos,AV.sc (.int .u64 c316.2.seed)],pZ9 o1 3 [kA3,kA3,kA3],(z110,obS (w111:Sl Channel)),pZ9 o21 3 [z110,z112,z116],(x27,obS ((some ([(⟨#[109,115]⟩:ByteArray),(⟨#[109,115]⟩:ByteArray),(⟨#[99,115]⟩:ByteArray),(⟨#[115]⟩:ByteArray),(⟨#[104,111,117,114]⟩:ByteArray)]:List ByteArray)):Sl ByteArray)),(x37,obS ((some ([900,3600,3600000]:List Int)):Sl Int)),(z116,obS (w117:Sl Note)),pZ9 o218 1 [x307]]++D2 (A:=(Sl Int)) x307 ps310):=Hold.rot (l:=[pZ9 o_ 3 [Sl.enc c316.2.code,iv c316.2.pos,AV.sc (.int .u64 c316.2.seed)],pZ9 o1 3 [kA3,kA3,kA3],(z110,obS (w111:Sl Channel)),pZ9 o21 3 [z110,z112,z116],(x27,obS ((some ([(⟨#[109,115]⟩:ByteArray),(⟨#[109,115]⟩:ByteArray),(⟨#[99,115]⟩:ByteArray),(⟨#[115]⟩:ByteArray),(⟨#[104,111,117,114]⟩:ByteArray)]:List ByteArray)):Sl ByteArray)),(x37,obS ((some ([900,3600,3600000]:List Int)):Sl Int)),(z116,obS (w117:Sl Note)),pZ9 o218 1 [x307]]) (d:=D2 (A:=(Sl Int)) x307 ps310) (n:=[]) (O315.merge (i:=0) rfl rfl O320)
   refine kA1 (kAg _ _) ?_
   refine kA1 (kAg _ _) ?_
   refine kAq he_q27 (kGc c316.2 30 (O321.start (i:=0) rfl rfl)) (fun c322 v323 h324 hq325 => ?_)
   obtain ⟨e_v323,O326⟩:=hq325
   dsimp only at e_v323
   subst v323
   have O327:Hold B h324 ([pZ9 o_ 3 [Sl.enc c322.2.code,iv c322.2.pos,AV.sc (.int .u64 c322.2.seed)],pZ9 o1 3 [kA3,kA3,kA3],(z110,obS (w111:Sl Channel)),pZ9 o21 3 [z110,z112,z116],(x27,obS ((some ([(⟨#[109,115]⟩:ByteArray),(⟨#[109,115]⟩:ByteArray),(⟨#[99,115]⟩:ByteArray),(⟨#[115]⟩:ByteArray),(⟨#[104,111,117,114]⟩:ByteArray)]:List ByteArray)):Sl ByteArray)),(x37,obS ((some ([900,3600,3600000]:List Int)):Sl Int)),(z116,obS (w117:Sl Note)),pZ9 o218 1 [x307]]++D2 (A:=(Sl Int)) x307 ps310):=Hold.rot (l:=[pZ9 o_ 3 [Sl.enc c322.2.code,iv c322.2.pos,AV.sc (.int .u64 c322.2.seed)],pZ9 o1 3 [kA3,kA3,kA3],(z110,obS (w111:Sl Channel)),pZ9 o21 3 [z110,z112,z116],(x27,obS ((some ([(⟨#[109,115]⟩:ByteArray),(⟨#[109,115]⟩:ByteArray),(⟨#[99,115]⟩:ByteArray),(⟨#[115]⟩:ByteArray),(⟨#[104,111,117,114]⟩:ByteArray)]:List ByteArray)):Sl ByteArray)),(x37,obS ((some ([900,3600,3600000]:List Int)):Sl Int)),(z116,obS (w117:Sl Note)),pZ9 o218 1 [x307]]) (d:=D2 (A:=(Sl Int)) x307 ps310) (n:=[]) (O321.merge (i:=0) rfl rfl O326)
   refine kAa (fun c328 => ?_) (fun c328 => ?_)
   ·refine kA1 (kAt _ _) ?_
    refine kDn (t:=(fun a b:Int=>max a b)) he_q24 (kAe _ _) (kAe _ _) (fun c329 => ?_)
    refine kA1 (kAt _ _) ?_
    exact kA6 ⟨rfl,_,_,rfl,hp311,O327⟩
   ·refine kA1 (kAt _ _) ?_
    exact kA6 ⟨rfl,_,_,rfl,hp311,O327⟩
  ·refine kA1 (v:=AV.ptr o218 1 0 0) rfl ?_
   refine kA1 (v:=z235) (O283.ld 7 rfl false 1 0) ?_
   have jZ0:=O283.one (A:=Int) (s:=(some ([wr (5+c269.1),wr (c275.1 - 40),w241]:List Int))) 8 rfl
   refine kBn O283 [[x281]] 1 rfl (by first | rfl | simp [kAk,kBz,jZ0.1,jZ0.2]) rfl (fun x332 h333 O334 => ?_)
   replace O334:Hold B h333 ([pZ9 o_ 3 [Sl.enc c275.2.code,iv c275.2.pos,AV.sc (.int .u64 c275.2.seed)],pZ9 o1 3 [kA3,kA3,kA3],(z110,obS (w111:Sl Channel)),pZ9 o21 3 [z110,z112,z116],(x27,obS ((some ([(⟨#[109,115]⟩:ByteArray),(⟨#[109,115]⟩:ByteArray),(⟨#[99,115]⟩:ByteArray),(⟨#[115]⟩:ByteArray),(⟨#[104,111,117,114]⟩:ByteArray)]:List ByteArray)):Sl ByteArray)),(x37,obS ((some ([900,3600,3600000]:List Int)):Sl Int)),(z116,obS (w117:Sl Note)),pZ9 o218 1 [z235],(x281,obS ((some ([wr (5+c269.1),wr (c275.1 - 40),w241]:List Int)):Sl Int)),(x332,.sl 1 [[x281]])]++D2 (A:=(Sl Int)) z235 ps237):=Hold.rot O334
   have O336:Hold B h333 ([pZ9 o_ 3 [Sl.enc c275.2.code,iv c275.2.pos,AV.sc (.int .u64 c275.2.seed)],pZ9 o1 3 [kA3,kA3,kA3],(z110,obS (w111:Sl Channel)),pZ9 o21 3 [z110,z112,z116],(x27,obS ((some ([(⟨#[109,115]⟩:ByteArray),(⟨#[109,115]⟩:ByteArray),(⟨#[99,115]⟩:ByteArray),(⟨#[115]⟩:ByteArray),(⟨#[104,111,117,114]⟩:ByteArray)]:List ByteArray)):Sl ByteArray)),(x37,obS ((some ([900,3600,3600000]:List Int)):Sl Int)),(z116,obS (w117:Sl Note)),pZ9 o218 1 [z235],(x281,obS ((some ([wr (5+c269.1),wr (c275.1 - 40),w241]:List Int)):Sl Int)),(x332,.sl 1 [[x281]])]++D2 (A:=(Sl Int)) z235 ps237):=O334.selD [0,1,2,3,4,5,6,7,8,9] (by decide) rfl
   refine kEs (l:=[pZ9 o_ 3 [Sl.enc c275.2.code,iv c275.2.pos,AV.sc (.int .u64 c275.2.seed)],pZ9 o1 3 [kA3,kA3,kA3],(z110,obS (w111:Sl Channel)),pZ9 o21 3 [z110,z112,z116],(x27,obS ((some ([(⟨#[109,115]⟩:ByteArray),(⟨#[109,115]⟩:ByteArray),(⟨#[99,115]⟩:ByteArray),(⟨#[115]⟩:ByteArray),(⟨#[104,111,117,114]⟩:ByteArray)]:List ByteArray)):Sl ByteArray)),(x37,obS ((some ([900,3600,3600000]:List Int)):Sl Int)),(z116,obS (w117:Sl Note)),pZ9 o218 1 [z235]]) (a:=(some ([wr (5+c269.1),wr (c275.1 - 40),w241]:List Int))) (y:=x281) (x:=z235) (ps:=ps237) O336 hp238 (by decide) (fun x337 ps340 h338 hp341 hm342 O339 => ?_)
   refine kA1 (v:=AV.ptr o218 1 0 0) rfl ?_
   have jZ0:=D2.oneX (l:=[pZ9 o_ 3 [Sl.enc c275.2.code,iv c275.2.pos,AV.sc (.int .u64 c275.2.seed)],pZ9 o1 3 [kA3,kA3,kA3],(z110,obS (w111:Sl Channel)),pZ9 o21 3 [z110,z112,z116],(x27,obS ((some ([(⟨#[109,115]⟩:ByteArray),(⟨#[109,115]⟩:ByteArray),(⟨#[99,115]⟩:ByteArray),(⟨#[115]⟩:ByteArray),(⟨#[104,111,117,114]⟩:ByteArray)]:List ByteArray)):Sl ByteArray)),(x37,obS ((some ([900,3600,3600000]:List Int)):Sl Int)),(z116,obS (w117:Sl Note)),pZ9 o218 1 [z235]]) (x:=x337) (ps:=ps340) (A:=(Sl Int)) O339
   refine kAj O339 7 (cs':=[x337]) rfl (by first | rfl | simp [jZ0.1,jZ0.2]) (by simp) (by first | rfl | simp [jZ0.1,jZ0.2]) (by first | rfl | simp [kAo,jZ0.1,jZ0.2]) (fun h344 O345 => ?_)
   replace O345:Hold B h344 ([pZ9 o_ 3 [Sl.enc c275.2.code,iv c275.2.pos,AV.sc (.int .u64 c275.2.seed)],pZ9 o1 3 [kA3,kA3,kA3],(z110,obS (w111:Sl Channel)),pZ9 o21 3 [z110,z112,z116],(x27,obS ((some ([(⟨#[109,115]⟩:ByteArray),(⟨#[109,115]⟩:ByteArray),(⟨#[99,115]⟩:ByteArray),(⟨#[115]⟩:ByteArray),(⟨#[104,111,117,114]⟩:ByteArray)]:List ByteArray)):Sl ByteArray)),(x37,obS ((some ([900,3600,3600000]:List Int)):Sl Int)),(z116,obS (w117:Sl Note)),pZ9 o218 1 [x337]]++D2 (A:=(Sl Int)) x337 ps340):=O345
   refine kAq he_q28 (kBj c275.2 9 (O345.start (i:=0) rfl rfl)) (fun c346 v347 h348 hq349 => ?_)
   obtain ⟨e_v347,O350⟩:=hq349
   dsimp only at e_v347
   subst v347
   have O351:Hold B h348 ([pZ9 o_ 3 [Sl.enc c346.2.code,iv c346.2.pos,AV.sc (.int .u64 c346.2.seed)],pZ9 o1 3 [kA3,kA3,kA3],(z110,obS (w111:Sl Channel)),pZ9 o21 3 [z110,z112,z116],(x27,obS ((some ([(⟨#[109,115]⟩:ByteArray),(⟨#[109,115]⟩:ByteArray),(⟨#[99,115]⟩:ByteArray),(⟨#[115]⟩:ByteArray),(⟨#[104,111,117,114]⟩:ByteArray)]:List ByteArray)):Sl ByteArray)),(x37,obS ((some ([900,3600,3600000]:List Int)):Sl Int)),(z116,obS (w117:Sl Note)),pZ9 o218 1 [x337]]++D2 (A:=(Sl Int)) x337 ps340):=Hold.rot (l:=[pZ9 o_ 3 [Sl.enc c346.2.code,iv c346.2.pos,AV.sc (.int .u64 c346.2.seed)],pZ9 o1 3 [kA3,kA3,kA3],(z110,obS (w111:Sl Channel)),pZ9 o21 3 [z110,z112,z116],(x27,obS ((some ([(⟨#[109,115]⟩:ByteArray),(⟨#[109,115]⟩:ByteArray),(⟨#[99,115]⟩:ByteArray),(⟨#[115]⟩:ByteArray),(⟨#[104,111,117,114]⟩:ByteArray)]:List ByteArray)):Sl ByteArray)),(x37,obS ((some ([900,3600,3600000]:List Int)):Sl Int)),(z116,obS (w117:Sl Note)),pZ9 o218 1 [x337]]) (d:=D2 (A:=(Sl Int)) x337 ps340) (n:=[]) (O345.merge (i:=0) rfl rfl O350)
   refine kA1 (kAg _ _) ?_
   refine kA1 (kAg _ _) ?_
   refine kAq he_q27 (kGc c346.2 30 (O351.start (i:=0) rfl rfl)) (fun c352 v353 h354 hq355 => ?_)
   obtain ⟨e_v353,O356⟩:=hq355
   dsimp only at e_v353
   subst v353
   have O357:Hold B h354 ([pZ9 o_ 3 [Sl.enc c352.2.code,iv c352.2.pos,AV.sc (.int .u64 c352.2.seed)],pZ9 o1 3 [kA3,kA3,kA3],(z110,obS (w111:Sl Channel)),pZ9 o21 3 [z110,z112,z116],(x27,obS ((some ([(⟨#[109,115]⟩:ByteArray),(⟨#[109,115]⟩:ByteArray),(⟨#[99,115]⟩:ByteArray),(⟨#[115]⟩:ByteArray),(⟨#[104,111,117,114]⟩:ByteArray)]:List ByteArray)):Sl ByteArray)),(x37,obS ((some ([900,3600,3600000]:List Int)):Sl Int)),(z116,obS (w117:Sl Note)),pZ9 o218 1 [x337]]++D2 (A:=(Sl Int)) x337 ps340):=Hold.rot (l:=[pZ9 o_ 3 [Sl.enc c352.2.code,iv c352.2.pos,AV.sc (.int .u64 c352.2.seed)],pZ9 o1 3 [kA3,kA3,kA3],(z110,obS (w111:Sl Channel)),pZ9 o21 3 [z110,z112,z116],(x27,obS ((some ([(⟨#[109,115]⟩:ByteArray),(⟨#[109,115]⟩:ByteArray),(⟨#[99,115]⟩:ByteArray),(⟨#[115]⟩:ByteArray),(⟨#[104,111,117,114]⟩:ByteArray)]:List ByteArray)):Sl ByteArray)),(x37,obS ((some ([900,3600,3600000]:List Int)):Sl Int)),(z116,obS (w117:Sl Note)),pZ9 o218 1 [x337]]) (d:=D2 (A:=(Sl Int)) x337 ps340) (n:=[]) (O351.merge (i:=0) rfl rfl O356)
   refine kAa (fun c358 => ?_) (fun c358 => ?_)
   ·refine kA1 (kAt _ _) ?_
    refine kDn (t:=(fun a b:Int=>max a b)) he_q24 (kAe _ _) (kAe _ _) (fun c359 => ?_)
    refine kA1 (kAt _ _) ?_
    exact kA6 ⟨rfl,_,_,rfl,hp341,O357⟩
   ·refine kA1 (kAt _ _) ?_
    exact kA6 ⟨rfl,_,_,rfl,hp341,O357⟩
 ·exact kA6 ⟨nofun,_,_,_,_,_,rfl,hp238,O240⟩
theorem tl0_q33 (env:Nat→Contract) {B0:Base} (he_q24:env kEl=.pure (T2 (fun a b:Int=>max a b))) (he_q25:env kDd=.gen (kAf Try.prog kE5 kDd)) (he_q27:env kCf=.gen (kAf Try.prog kE7 kCf)) (he_q28:env kB1=.gen (kAf Try.prog kC8 kB1)) (he_q29:env kCd=.gen (kAf Try.prog kCz kCd)) (o_:Nat) (o1:Nat) (c5:Int×l00Src) (c11:Int×l00Src) (x17:AV) (o21:Nat) (x27:AV) (c31:ByteArray×l00Src) (x37:AV) (c41:Int×l00Src) (x47:AV) (x52:AV) (c59:Bool×l00Src) (x66:AV) (x71:AV) (c78:Bool×l00Src) (m86:Nat) (c91:Int×l00Src) (c97:Int×l00Src) :kGr (fun (st:(Sl UInt8)×Int×Int×(Sl Channel)×(Sl FRows)×(Sl Note)×Int×Int) tm h118=>match st with | (w107,w108,w109,w111,w113,w117,w120,w121)=>∃ B:Base,∃ y122 z110 z112 z116,tm=((AV.ptr o_ 1 0 0)::und::(AV.ptr o1 1 0 0)::(AV.ptr o21 1 0 0)::(sv c31.1)::(iv w120)::(iv w121)::.top::.top::y122::und::und::und::(AV.ptr o_ 1 0 0)::(iv c5.1)::(iv (wr (c5.1 - 4)))::(AV.ptr o_ 1 0 0)::(iv c11.1)::(iv (wr (100+c11.1)))::(AV.agg [sv (⟨#[120]⟩:ByteArray),sv (⟨#[109,109]⟩:ByteArray),iv (wr (c5.1 - 4)),iv (wr (100+c11.1))])::(AV.agg [sv (⟨#[121]⟩:ByteArray),sv (⟨#[109,109]⟩:ByteArray),iv (-50),iv 90])::x17::(AV.agg [x17,kA3,kA3])::(AV.ptr o_ 1 0 0)::x27::(sv c31.1)::(AV.ptr o21 1 0 0)::x17::(sv c31.1)::(AV.ptr o_ 1 0 0)::x37::(iv c41.1)::(AV.agg [sv (⟨#[116]⟩:ByteArray),sv c31.1,iv 0,iv c41.1])::x47::x52::(AV.ptr o21 1 0 0)::(AV.ptr o_ 1 0 0)::(bv c59.1)::(AV.ptr o21 1 0 0)::x52::(AV.agg [sv (⟨#[112]⟩:ByteArray),sv (⟨#[111,110,101]⟩:ByteArray),iv 0,iv 255])::x66::x71::(AV.ptr o21 1 0 0)::(AV.ptr o_ 1 0 0)::(bv c78.1)::(AV.ptr o21 1 0 0)::x71::(elp x71 m86 0)::(elp x71 m86 0)::(AV.ptr o_ 1 0 0)::(iv c91.1)::(AV.ptr o_ 1 0 0)::(iv c97.1)::tZ9 51 [und,und,und,und,und,und,und,und,und,und,und,und,und,und,und,und,und,und,und,und,und,und,und,und,und,und,und,und,und,und,und,und,und,und,und])∧OutT B0 B z112 w113∧Hold B h118 [pZ9 o_ 3 [Sl.enc w107,iv w108,AV.sc (.int .u64 w109)],pZ9 o1 3 [kA3,kA3,kA3],(z110,obS (w111:Sl Channel)),pZ9 o21 3 [z110,z112,z116],(x27,obS ((some ([(⟨#[109,115]⟩:ByteArray),(⟨#[109,115]⟩:ByteArray),(⟨#[99,115]⟩:ByteArray),(⟨#[115]⟩:ByteArray),(⟨#[104,111,117,114]⟩:ByteArray)]:List ByteArray)):Sl ByteArray)),(x37,obS ((some ([900,3600,3600000]:List Int)):Sl Int)),(z116,obS (w117:Sl Note))]) hm0_q33 xm0_q33 (lb0_q33 env) s0_q33 (fun (q:(Sl UInt8)×Int×Int×(Sl Channel)×(Sl FRows)×(Sl Note)) (r:Res)=>match q with | (q125,q126,q127,q129,q131,q135)=>∃ (B:Base) (q136:Int) (q137:Int) (z128:AV) (z130:AV) (z134:AV) (z138:AV) (z139:AV) (z140:AV) (h123:kA7),r=(.exit 0,((AV.ptr o_ 1 0 0)::und::(AV.ptr o1 1 0 0)::(AV.ptr o21 1 0 0)::(sv c31.1)::(iv q136)::(iv q137)::z138::z139::z140::und::und::und::(AV.ptr o_ 1 0 0)::(iv c5.1)::(iv (wr (c5.1 - 4)))::(AV.ptr o_ 1 0 0)::(iv c11.1)::(iv (wr (100+c11.1)))::(AV.agg [sv (⟨#[120]⟩:ByteArray),sv (⟨#[109,109]⟩:ByteArray),iv (wr (c5.1 - 4)),iv (wr (100+c11.1))])::(AV.agg [sv (⟨#[121]⟩:ByteArray),sv (⟨#[109,109]⟩:ByteArray),iv (-50),iv 90])::x17::(AV.agg [x17,kA3,kA3])::(AV.ptr o_ 1 0 0)::x27::(sv c31.1)::(AV.ptr o21 1 0 0)::x17::(sv c31.1)::(AV.ptr o_ 1 0 0)::x37::(iv c41.1)::(AV.agg [sv (⟨#[116]⟩:ByteArray),sv c31.1,iv 0,iv c41.1])::x47::x52::(AV.ptr o21 1 0 0)::(AV.ptr o_ 1 0 0)::(bv c59.1)::(AV.ptr o21 1 0 0)::x52::(AV.agg [sv (⟨#[112]⟩:ByteArray),sv (⟨#[111,110,101]⟩:ByteArray),iv 0,iv 255])::x66::x71::(AV.ptr o21 1 0 0)::(AV.ptr o_ 1 0 0)::(bv c78.1)::(AV.ptr o21 1 0 0)::x71::(elp x71 m86 0)::(elp x71 m86 0)::(AV.ptr o_ 1 0 0)::(iv c91.1)::(AV.ptr o_ 1 0 0)::(iv c97.1)::tZ9 51 [und,und,und,und,und,und,und,und,und,und,und,und,und,und,und,und,und,und,und,und,und,und,und,und,und,und,und,und,und,und,und,und,und,und,und]),h123)∧OutT B0 B z130 q131∧Hold B h123 [pZ9 o_ 3 [Sl.enc q125,iv q126,AV.sc (.int .u64 q127)],pZ9 o1 3 [kA3,kA3,kA3],(z128,obS (q129:Sl Channel)),pZ9 o21 3 [z128,z130,z134],(x27,obS ((some ([(⟨#[109,115]⟩:ByteArray),(⟨#[109,115]⟩:ByteArray),(⟨#[99,115]⟩:ByteArray),(⟨#[115]⟩:ByteArray),(⟨#[104,111,117,114]⟩:ByteArray)]:List ByteArray)):Sl ByteArray)),(x37,obS ((some ([900,3600,3600000]:List Int)):Sl Int)),(z134,obS (q135:Sl Note))]):=by
 refine @kH3 _ _ _ _ _ _ _ _ (fun st tm h118 R => ?_)
 obtain ⟨w107,w108,w109,w111,w113,w117,w120,w121⟩:=st
 obtain ⟨B,y122,z110,z112,z116,rfl,hT114,O119⟩:=R
 rw [e_lb0_q33]
 unfold s0_q33
 dsimp only
 refine kA1 (kBd _ _) ?_
 refine kAa (fun c217 => ?_) (fun c217 => ?_)
 ·refine kA1 (v:=AV.agg [kA3]) (by first | rfl | simp [kBs,kEq,kAo]) ?_
  refine kBt O119 (cs:=[kA3]) (by first | rfl | simp) (fun o218 h219 O220 => ?_)
  replace O220:Hold B h219 [pZ9 o_ 3 [Sl.enc w107,iv w108,AV.sc (.int .u64 w109)],pZ9 o1 3 [kA3,kA3,kA3],(z110,obS (w111:Sl Channel)),pZ9 o21 3 [z110,z112,z116],(x27,obS ((some ([(⟨#[109,115]⟩:ByteArray),(⟨#[109,115]⟩:ByteArray),(⟨#[99,115]⟩:ByteArray),(⟨#[115]⟩:ByteArray),(⟨#[104,111,117,114]⟩:ByteArray)]:List ByteArray)):Sl ByteArray)),(x37,obS ((some ([900,3600,3600000]:List Int)):Sl Int)),(z116,obS (w117:Sl Note)),pZ9 o218 1 [kA3]]:=O220
  refine kAj O220 7 (cs':=[kA3]) rfl (by first | rfl | simp) (by simp) (by first | rfl | simp) (by first | rfl | simp [kAo]) (fun h222 O223 => ?_)
  replace O223:Hold B h222 [pZ9 o_ 3 [Sl.enc w107,iv w108,AV.sc (.int .u64 w109)],pZ9 o1 3 [kA3,kA3,kA3],(z110,obS (w111:Sl Channel)),pZ9 o21 3 [z110,z112,z116],(x27,obS ((some ([(⟨#[109,115]⟩:ByteArray),(⟨#[109,115]⟩:ByteArray),(⟨#[99,115]⟩:ByteArray),(⟨#[115]⟩:ByteArray),(⟨#[104,111,117,114]⟩:ByteArray)]:List ByteArray)):Sl ByteArray)),(x37,obS ((some ([900,3600,3600000]:List Int)):Sl Int)),(z116,obS (w117:Sl Note)),pZ9 o218 1 [kA3]]:=O223
  refine kAq he_q28 (kBj (⟨w107,w108,w109⟩:l00Src) 5 (O223.start (i:=0) rfl rfl)) (fun c224 v225 h226 hq227 => ?_)
  obtain ⟨e_v225,O228⟩:=hq227
  dsimp only at e_v225
  subst v225
  have O229:Hold B h226 [pZ9 o_ 3 [Sl.enc c224.2.code,iv c224.2.pos,AV.sc (.int .u64 c224.2.seed)],pZ9 o1 3 [kA3,kA3,kA3],(z110,obS (w111:Sl Channel)),pZ9 o21 3 [z110,z112,z116],(x27,obS ((some ([(⟨#[109,115]⟩:ByteArray),(⟨#[109,115]⟩:ByteArray),(⟨#[99,115]⟩:ByteArray),(⟨#[115]⟩:ByteArray),(⟨#[104,111,117,114]⟩:ByteArray)]:List ByteArray)):Sl ByteArray)),(x37,obS ((some ([900,3600,3600000]:List Int)):Sl Int)),(z116,obS (w117:Sl Note)),pZ9 o218 1 [kA3]]:=O223.merge (i:=0) rfl rfl O228
  refine kA1 (kAg _ _) ?_
  have O230:Hold B h226 ([pZ9 o_ 3 [Sl.enc c224.2.code,iv c224.2.pos,AV.sc (.int .u64 c224.2.seed)],pZ9 o1 3 [kA3,kA3,kA3],(z110,obS (w111:Sl Channel)),pZ9 o21 3 [z110,z112,z116],(x27,obS ((some ([(⟨#[109,115]⟩:ByteArray),(⟨#[109,115]⟩:ByteArray),(⟨#[99,115]⟩:ByteArray),(⟨#[115]⟩:ByteArray),(⟨#[104,111,117,114]⟩:ByteArray)]:List ByteArray)):Sl ByteArray)),(x37,obS ((some ([900,3600,3600000]:List Int)):Sl Int)),(z116,obS (w117:Sl Note)),pZ9 o218 1 [kA3]]++D2 (A:=(Sl Int)) kA3 (none:PS (Sl Int))):=O229.addnil
  refine kBe ((tl4_q33 env he_q24 he_q25 he_q27 he_q28 he_q29 o_ o1 c5 c11 x17 o21 x27 c31 x37 c41 x47 x52 c59 x66 x71 c78 m86 c91 c97 z110 w111 z112 z116 w117 w121 o218 c224) ⟨_,_,rfl,(rfl:pj (none:PS (Sl Int))=(none:Sl (Sl Int))),O230⟩) (fun qq364 r hq => ?_)
  obtain ⟨q245,q246,q247,q249,q252⟩:=qq364
  obtain ⟨q253,z248,z254,ps250,h243,rfl,hp251,O244⟩:=hq
  rw [e_lk4x2_q33]
  refine kA1 (v:=AV.ptr o21 1 0 1) rfl ?_
  refine kA1 (v:=z112) (O244.ld 3 rfl false 1 1) ?_
  refine kA1 (v:=AV.agg [z248]) (O244.ld 7 rfl true 1 0) ?_
  have jZ0:=D2.oneX (l:=[pZ9 o_ 3 [Sl.enc q245,iv q246,AV.sc (.int .u64 q247)],pZ9 o1 3 [kA3,kA3,kA3],(z110,obS (w111:Sl Channel)),pZ9 o21 3 [z110,z112,z116],(x27,obS ((some ([(⟨#[109,115]⟩:ByteArray),(⟨#[109,115]⟩:ByteArray),(⟨#[99,115]⟩:ByteArray),(⟨#[115]⟩:ByteArray),(⟨#[104,111,117,114]⟩:ByteArray)]:List ByteArray)):Sl ByteArray)),(x37,obS ((some ([900,3600,3600000]:List Int)):Sl Int)),(z116,obS (w117:Sl Note)),pZ9 o218 1 [z248]]) (x:=z248) (ps:=ps250) (A:=(Sl Int)) O244
  refine kBn O244 [[z248]] 1 rfl (by first | rfl | simp [kAk,kBz,jZ0.1,jZ0.2]) rfl (fun x255 h256 O257 => ?_)
  replace O257:Hold B h256 ([pZ9 o_ 3 [Sl.enc q245,iv q246,AV.sc (.int .u64 q247)],pZ9 o1 3 [kA3,kA3,kA3],(z110,obS (w111:Sl Channel)),pZ9 o21 3 [z110,z112,z116],(x27,obS ((some ([(⟨#[109,115]⟩:ByteArray),(⟨#[109,115]⟩:ByteArray),(⟨#[99,115]⟩:ByteArray),(⟨#[115]⟩:ByteArray),(⟨#[104,111,117,114]⟩:ByteArray)]:List ByteArray)):Sl ByteArray)),(x37,obS ((some ([900,3600,3600000]:List Int)):Sl Int)),(z116,obS (w117:Sl Note)),pZ9 o218 1 [z248],(x255,.sl 1 [[z248]])]++D2 (A:=(Sl Int)) z248 ps250):=Hold.rot O257
  have O259:Hold B h256 ([pZ9 o_ 3 [Sl.enc q245,iv q246,AV.sc (.int .u64 q247)],pZ9 o1 3 [kA3,kA3,kA3],(z110,obS (w111:Sl Channel)),pZ9 o21 3 [z110,z112,z116],(x27,obS ((some ([(⟨#[109,115]⟩:ByteArray),(⟨#[109,115]⟩:ByteArray),(⟨#[99,115]⟩:ByteArray),(⟨#[115]⟩:ByteArray),(⟨#[104,111,117,114]⟩:ByteArray)]:List ByteArray)):Sl ByteArray)),(x37,obS ((some ([900,3600,3600000]:List Int)):Sl Int)),(z116,obS (w117:Sl Note)),pZ9 o218 1 [z248],(x255,.sl 1 [[z248]])]++D2 (A:=(Sl Int)) z248 ps250):=O257.selD [0,1,2,3,4,5,6,7,8] (by decide) rfl
  refine kG0 (l:=[pZ9 o_ 3 [Sl.enc q245,iv q246,AV.sc (.int .u64 q247)],pZ9 o1 3 [kA3,kA3,kA3],(z110,obS (w111:Sl Channel)),pZ9 o21 3 [z110,z112,z116],(x27,obS ((some ([(⟨#[109,115]⟩:ByteArray),(⟨#[109,115]⟩:ByteArray),(⟨#[99,115]⟩:ByteArray),(⟨#[115]⟩:ByteArray),(⟨#[104,111,117,114]⟩:ByteArray)]:List ByteArray)):Sl ByteArray)),(x37,obS ((some ([900,3600,3600000]:List Int)):Sl Int)),(z116,obS (w117:Sl Note)),pZ9 o218 1 [z248]]) (t:=x255) (y:=z248) (ps:=ps250) (s:=w113) hT114 O259 hp251 (by decide) (fun B x260 h261 hT263 O262 => ?_)
  refine kA1 (v:=AV.ptr o21 1 0 1) rfl ?_
  refine kAj O262 3 (cs':=[z110,x260,z116]) rfl (by first | rfl | simp [((kAy hT263).one O262).1,((kAy hT263).one O262).2]) (by simp) (by first | rfl | simp [((kAy hT263).one O262).1,((kAy hT263).one O262).2]) (by first | rfl | simp [kAo,((kAy hT263).one O262).1,((kAy hT263).one O262).2]) (fun h265 O266 => ?_)
  replace O266:Hold B h265 [pZ9 o_ 3 [Sl.enc q245,iv q246,AV.sc (.int .u64 q247)],pZ9 o1 3 [kA3,kA3,kA3],(z110,obS (w111:Sl Channel)),pZ9 o21 3 [z110,x260,z116],(x27,obS ((some ([(⟨#[109,115]⟩:ByteArray),(⟨#[109,115]⟩:ByteArray),(⟨#[99,115]⟩:ByteArray),(⟨#[115]⟩:ByteArray),(⟨#[104,111,117,114]⟩:ByteArray)]:List ByteArray)):Sl ByteArray)),(x37,obS ((some ([900,3600,3600000]:List Int)):Sl Int)),(z116,obS (w117:Sl Note)),pZ9 o218 1 [z248]]:=O266
  refine kA1 (kAt _ _) ?_
  have O267:Hold B h265 [pZ9 o_ 3 [Sl.enc q245,iv q246,AV.sc (.int .u64 q247)],pZ9 o1 3 [kA3,kA3,kA3],(z110,obS (w111:Sl Channel)),pZ9 o21 3 [z110,x260,z116],(x27,obS ((some ([(⟨#[109,115]⟩:ByteArray),(⟨#[109,115]⟩:ByteArray),(⟨#[99,115]⟩:ByteArray),(⟨#[115]⟩:ByteArray),(⟨#[104,111,117,114]⟩:ByteArray)]:List ByteArray)):Sl ByteArray)),(x37,obS ((some ([900,3600,3600000]:List Int)):Sl Int)),(z116,obS (w117:Sl Note))]:=O266.sel [0,1,2,3,4,5,6] (by decide) rfl
  exact kA6 ⟨rfl,_,_,_,_,_,rfl,hT263,O267⟩
 ·exact kA6 ⟨nofun,_,_,_,_,_,_,_,_,_,_,rfl,hT114,O119⟩
theorem tl7_q33 (env:Nat→Contract) {B:Base} (he_q24:env kEl=.pure (T2 (fun a b:Int=>max a b))) (he_q25:env kDd=.gen (kAf Try.prog kE5 kDd)) (he_q27:env kCf=.gen (kAf Try.prog kE7 kCf)) (he_q28:env kB1=.gen (kAf Try.prog kC8 kB1)) (he_q29:env kCd=.gen (kAf Try.prog kCz kCd)) (o_:Nat) (o1:Nat) (c5:Int×l00Src) (c11:Int×l00Src) (x17:AV) (o21:Nat) (x27:AV) (c31:ByteArray×l00Src) (x37:AV) (c41:Int×l00Src) (x47:AV) (x52:AV) (c59:Bool×l00Src) (x66:AV) (x71:AV) (c78:Bool×l00Src) (c368:Int×l00Src) (c374:Int×l00Src) (z407:AV) (q408:Sl FRows) (q413:Int) (q414:Int) (z415:AV) (z416:AV) (z417:AV) (c418:Int×l00Src) :kGr (fun (st:(Sl UInt8)×Int×Int×(Sl Channel)×(Sl Note)×Int) tm h431=>match st with | (w424,w425,w426,w428,w430,w433)=>∃ z427 z429,tm=((AV.ptr o_ 1 0 0)::und::(AV.ptr o1 1 0 0)::(AV.ptr o21 1 0 0)::(sv c31.1)::(iv q413)::(iv q414)::z415::z416::z417::(iv (((q408.getD []).length:Nat):Int))::(iv w433)::.top::(AV.ptr o_ 1 0 0)::(iv c5.1)::(iv (wr (c5.1 - 4)))::(AV.ptr o_ 1 0 0)::(iv c11.1)::(iv (wr (100+c11.1)))::(AV.agg [sv (⟨#[120]⟩:ByteArray),sv (⟨#[109,109]⟩:ByteArray),iv (wr (c5.1 - 4)),iv (wr (100+c11.1))])::(AV.agg [sv (⟨#[121]⟩:ByteArray),sv (⟨#[109,109]⟩:ByteArray),iv (-50),iv 90])::x17::(AV.agg [x17,kA3,kA3])::(AV.ptr o_ 1 0 0)::x27::(sv c31.1)::(AV.ptr o21 1 0 0)::x17::(sv c31.1)::(AV.ptr o_ 1 0 0)::x37::(iv c41.1)::(AV.agg [sv (⟨#[116]⟩:ByteArray),sv c31.1,iv 0,iv c41.1])::x47::x52::(AV.ptr o21 1 0 0)::(AV.ptr o_ 1 0 0)::(bv c59.1)::(AV.ptr o21 1 0 0)::x52::(AV.agg [sv (⟨#[112]⟩:ByteArray),sv (⟨#[111,110,101]⟩:ByteArray),iv 0,iv 255])::x66::x71::(AV.ptr o21 1 0 0)::(AV.ptr o_ 1 0 0)::(bv c78.1)::und::und::und::und::(AV.ptr o_ 1 0 0)::(iv c368.1)::(AV.ptr o_ 1 0 0)::(iv c374.1)::.top::.top::.top::.top::.top::.top::.top::.top::.top::.top::.top::.top::.top::.top::.top::.top::.top::.top::.top::.top::.top::.top::.top::.top::.top::.top::.top::.top::.top::.top::.top::.top::.top::.top::.top::.top::.top::.top::.top::.top::.top::.top::.top::.top::.top::.top::.top::.top::.top::.top::.top::(AV.ptr o21 1 0 1)::z407::(iv (((q408.getD []).length:Nat):Int))::(AV.ptr o_ 1 0 0)::(iv c418.1)::tZ9 29 [und])∧Hold B h431 [pZ9 o_ 3 [Sl.enc w424,iv w425,AV.sc (.int .u64 w426)],pZ9 o1 3 [kA3,kA3,kA3],(z427,obS (w428:Sl Channel)),pZ9 o21 3 [z427,z407,z429],(x27,obS ((some ([(⟨#[109,115]⟩:ByteArray),(⟨#[109,115]⟩:ByteArray),(⟨#[99,115]⟩:ByteArray),(⟨#[115]⟩:ByteArray),(⟨#[104,111,117,114]⟩:ByteArray)]:List ByteArray)):Sl ByteArray)),(x37,obS ((some ([900,3600,3600000]:List Int)):Sl Int)),(z429,obS (w430:Sl Note))]) hm7_q33 xm7_q33 (lb7_q33 env) (s7_q33 q408) (fun (q:(Sl UInt8)×Int×Int×(Sl Channel)×(Sl Note)) (r:Res)=>match q with | (q436,q437,q438,q440,q442)=>∃ (q443:Int) (z439:AV) (z441:AV) (z444:AV) (h434:kA7),r=(.exit 4,((AV.ptr o_ 1 0 0)::und::(AV.ptr o1 1 0 0)::(AV.ptr o21 1 0 0)::(sv c31.1)::(iv q413)::(iv q414)::z415::z416::z417::(iv (((q408.getD []).length:Nat):Int))::(iv q443)::z444::(AV.ptr o_ 1 0 0)::(iv c5.1)::(iv (wr (c5.1 - 4)))::(AV.ptr o_ 1 0 0)::(iv c11.1)::(iv (wr (100+c11.1)))::(AV.agg [sv (⟨#[120]⟩:ByteArray),sv (⟨#[109,109]⟩:ByteArray),iv (wr (c5.1 - 4)),iv (wr (100+c11.1))])::(AV.agg [sv (⟨#[121]⟩:ByteArray),sv (⟨#[109,109]⟩:ByteArray),iv (-50),iv 90])::x17::(AV.agg [x17,kA3,kA3])::(AV.ptr o_ 1 0 0)::x27::(sv c31.1)::(AV.ptr o21 1 0 0)::x17::(sv c31.1)::(AV.ptr o_ 1 0 0)::x37::(iv c41.1)::(AV.agg [sv (⟨#[116]⟩:ByteArray),sv c31.1,iv 0,iv c41.1])::x47::x52::(AV.ptr o21 1 0 0)::(AV.ptr o_ 1 0 0)::(bv c59.1)::(AV.ptr o21 1 0 0)::x52::(AV.agg [sv (⟨#[112]⟩:ByteArray),sv (⟨#[111,110,101]⟩:ByteArray),iv 0,iv 255])::x66::x71::(AV.ptr o21 1 0 0)::(AV.ptr o_ 1 0 0)::(bv c78.1)::und::und::und::und::(AV.ptr o_ 1 0 0)::(iv c368.1)::(AV.ptr o_ 1 0 0)::(iv c374.1)::.top::.top::.top::.top::.top::.top::.top::.top::.top::.top::.top::.top::.top::.top::.top::.top::.top::.top::.top::.top::.top::.top::.top::.top::.top::.top::.top::.top::.top::.top::.top::.top::.top::.top::.top::.top::.top::.top::.top::.top::.top::.top::.top::.top::.top::.top::.top::.top::.top::.top::.top::(AV.ptr o21 1 0 1)::z407::(iv (((q408.getD []).length:Nat):Int))::(AV.ptr o_ 1 0 0)::(iv c418.1)::tZ9 29 [und]),h434)∧Hold B h434 [pZ9 o_ 3 [Sl.enc q436,iv q437,AV.sc (.int .u64 q438)],pZ9 o1 3 [kA3,kA3,kA3],(z439,obS (q440:Sl Channel)),pZ9 o21 3 [z439,z407,z441],(x27,obS ((some ([(⟨#[109,115]⟩:ByteArray),(⟨#[109,115]⟩:ByteArray),(⟨#[99,115]⟩:ByteArray),(⟨#[115]⟩:ByteArray),(⟨#[104,111,117,114]⟩:ByteArray)]:List ByteArray)):Sl ByteArray)),(x37,obS ((some ([900,3600,3600000]:List Int)):Sl Int)),(z441,obS (q442:Sl Note))]):=by
 refine @kH3 _ _ _ _ _ _ _ _ (fun st tm h431 R => ?_)
 obtain ⟨w424,w425,w426,w428,w430,w433⟩:=st
 obtain ⟨z427,z429,rfl,O432⟩:=R
 rw [e_lb7_q33]
 unfold s7_q33
 dsimp only
 refine kA1 (kBd _ _) ?_
 refine kBa (e:=bv) (fun hb451 => ?_) (fun c452 => ?_)
 ·refine kA1 (kBd _ _) ?_
  exact kA6 rfl
 ·refine kA1 (v:=bv (bif decide (0<w433) then c452 else false)) (kCh _ _ _) ?_
  refine kAa (fun c453 => ?_) (fun c453 => ?_)
  ·refine kAq he_q28 (kBj (⟨w424,w425,w426⟩:l00Src) (((q408.getD []).length:Nat):Int) (O432.start (i:=0) rfl rfl)) (fun c454 v455 h456 hq457 => ?_)
   obtain ⟨e_v455,O458⟩:=hq457
   dsimp only at e_v455
   subst v455
   have O459:Hold B h456 [pZ9 o_ 3 [Sl.enc c454.2.code,iv c454.2.pos,AV.sc (.int .u64 c454.2.seed)],pZ9 o1 3 [kA3,kA3,kA3],(z427,obS (w428:Sl Channel)),pZ9 o21 3 [z427,z407,z429],(x27,obS ((some ([(⟨#[109,115]⟩:ByteArray),(⟨#[109,115]⟩:ByteArray),(⟨#[99,115]⟩:ByteArray),(⟨#[115]⟩:ByteArray),(⟨#[104,111,117,114]⟩:ByteArray)]:List ByteArray)):Sl ByteArray)),(x37,obS ((some ([900,3600,3600000]:List Int)):Sl Int)),(z429,obS (w430:Sl Note))]:=O432.merge (i:=0) rfl rfl O458
   refine kA1 (v:=AV.ptr o21 1 0 2) rfl ?_
   refine kA1 (v:=z429) (O459.ld 3 rfl false 1 2) ?_
   refine kA1 (kAg _ _) ?_
   refine kA1 (kAt _ _) ?_
   refine kFa he_q28 (kC6 _ _) (kBj c454.2 (wr ((((q408.getD []).length:Nat):Int) - c454.1)) (O459.start (i:=0) rfl rfl)) (fun c460 v461 h462 hq463 hx466 => ?_)
   obtain ⟨e_v461,O464⟩:=hq463
   dsimp only at e_v461
   subst v461
   have O465:Hold B h462 [pZ9 o_ 3 [Sl.enc c460.2.code,iv c460.2.pos,AV.sc (.int .u64 c460.2.seed)],pZ9 o1 3 [kA3,kA3,kA3],(z427,obS (w428:Sl Channel)),pZ9 o21 3 [z427,z407,z429],(x27,obS ((some ([(⟨#[109,115]⟩:ByteArray),(⟨#[109,115]⟩:ByteArray),(⟨#[99,115]⟩:ByteArray),(⟨#[115]⟩:ByteArray),(⟨#[104,111,117,114]⟩:ByteArray)]:List ByteArray)):Sl ByteArray)),(x37,obS ((some ([900,3600,3600000]:List Int)):Sl Int)),(z429,obS (w430:Sl Note))]:=O459.merge (i:=0) rfl rfl O464
   refine kBk hx466 ?_
   refine kA1 (kAg _ _) ?_
   refine kB7 (A:=ByteArray) O465 ([(⟨#[119,111,114,100]⟩:ByteArray),(⟨#[97]⟩:ByteArray),(⟨#[120,45,50]⟩:ByteArray)]:List ByteArray) rfl (by first | rfl | simp [kAk,kBz]) rfl (fun x467 h468 O469 => ?_)
   replace O469:Hold B h468 [pZ9 o_ 3 [Sl.enc c460.2.code,iv c460.2.pos,AV.sc (.int .u64 c460.2.seed)],pZ9 o1 3 [kA3,kA3,kA3],(z427,obS (w428:Sl Channel)),pZ9 o21 3 [z427,z407,z429],(x27,obS ((some ([(⟨#[109,115]⟩:ByteArray),(⟨#[109,115]⟩:ByteArray),(⟨#[99,115]⟩:ByteArray),(⟨#[115]⟩:ByteArray),(⟨#[104,111,117,114]⟩:ByteArray)]:List ByteArray)):Sl ByteArray)),(x37,obS ((some ([900,3600,3600000]:List Int)):Sl Int)),(z429,obS (w430:Sl Note)),(x467,obS ((some ([(⟨#[119,111,114,100]⟩:ByteArray),(⟨#[97]⟩:ByteArray),(⟨#[120,45,50]⟩:ByteArray)]:List ByteArray)):Sl ByteArray))]:=O469
   refine kFa he_q29 (kCs _ _) (tg_q29 c460.2 (some ([(⟨#[119,111,114,100]⟩:ByteArray),(⟨#[97]⟩:ByteArray),(⟨#[120,45,50]⟩:ByteArray)]:List ByteArray)) (O469.tabK (A:=ByteArray) (s:=(some ([(⟨#[119,111,114,100]⟩:ByteArray),(⟨#[97]⟩:ByteArray),(⟨#[120,45,50]⟩:ByteArray)]:List ByteArray))) 7 0 rfl rfl rfl (by decide)) (O469.start (i:=0) rfl rfl)) (fun c471 v472 h473 hq474 hx477 => ?_)
   obtain ⟨e_v472,O475⟩:=hq474
   dsimp only at e_v472
   subst v472
   have O476:Hold B h473 [pZ9 o_ 3 [Sl.enc c471.2.code,iv c471.2.pos,AV.sc (.int .u64 c471.2.seed)],pZ9 o1 3 [kA3,kA3,kA3],(z427,obS (w428:Sl Channel)),pZ9 o21 3 [z427,z407,z429],(x27,obS ((some ([(⟨#[109,115]⟩:ByteArray),(⟨#[109,115]⟩:ByteArray),(⟨#[99,115]⟩:ByteArray),(⟨#[115]⟩:ByteArray),(⟨#[104,111,117,114]⟩:ByteArray)]:List ByteArray)):Sl ByteArray)),(x37,obS ((some ([900,3600,3600000]:List Int)):Sl Int)),(z429,obS (w430:Sl Note)),(x467,obS ((some ([(⟨#[119,111,114,100]⟩:ByteArray),(⟨#[97]⟩:ByteArray),(⟨#[120,45,50]⟩:ByteArray)]:List ByteArray)):Sl ByteArray))]:=O469.merge (i:=0) rfl rfl O475
   refine kBk hx477 ?_
   refine kA1 (v:=AV.agg [iv c454.1,iv (wr ((wr (c454.1+1))+c460.1)),sv c471.1]) (by first | rfl | simp [kBs,kEq,kAo]) ?_
   refine kB7 (A:=Note) O476 ([(⟨c454.1,wr ((wr (c454.1+1))+c460.1),c471.1⟩:Note)]:List Note) rfl (by first | rfl | simp [kAk,kBz]) rfl (fun x478 h479 O480 => ?_)
   replace O480:Hold B h479 [pZ9 o_ 3 [Sl.enc c471.2.code,iv c471.2.pos,AV.sc (.int .u64 c471.2.seed)],pZ9 o1 3 [kA3,kA3,kA3],(z427,obS (w428:Sl Channel)),pZ9 o21 3 [z427,z407,z429],(x27,obS ((some ([(⟨#[109,115]⟩:ByteArray),(⟨#[109,115]⟩:ByteArray),(⟨#[99,115]⟩:ByteArray),(⟨#[115]⟩:ByteArray),(⟨#[104,111,117,114]⟩:ByteArray)]:List ByteArray)):Sl ByteArray)),(x37,obS ((some ([900,3600,3600000]:List Int)):Sl Int)),(z429,obS (w430:Sl Note)),(x467,obS ((some ([(⟨#[119,111,114,100]⟩:ByteArray),(⟨#[97]⟩:ByteArray),(⟨#[120,45,50]⟩:ByteArray)]:List ByteArray)):Sl ByteArray)),(x478,obS ((some ([(⟨c454.1,wr ((wr (c454.1+1))+c460.1),c471.1⟩:Note)]:List Note)):Sl Note))]:=O480
   refine kBk ⟨⟨(kEo (v:=z429) (O459.ld 3 rfl false 1 2)),⟨(kEo (v:=z429) (O465.ld 3 rfl false 1 2)),⟨(kEo (v:=z429) (O469.ld 3 rfl false 1 2)),⟨(kEo (v:=z429) (O476.ld 3 rfl false 1 2)),⟨(kEo (v:=z429) (O480.ld 3 rfl false 1 2)),trivial⟩⟩⟩⟩⟩,trivial⟩ ?_
   refine kBw (A:=Note) (s:=w430) O480 6 ([(⟨c454.1,wr ((wr (c454.1+1))+c460.1),c471.1⟩:Note)]:List Note) rfl (O480.src (A:=Note) (s:=(some ([(⟨c454.1,wr ((wr (c454.1+1))+c460.1),c471.1⟩:Note)]:List Note))) 8 rfl) (by decide) (fun x483 h484 O485 => ?_)
   replace O485:Hold B h484 [pZ9 o_ 3 [Sl.enc c471.2.code,iv c471.2.pos,AV.sc (.int .u64 c471.2.seed)],pZ9 o1 3 [kA3,kA3,kA3],(z427,obS (w428:Sl Channel)),pZ9 o21 3 [z427,z407,z429],(x27,obS ((some ([(⟨#[109,115]⟩:ByteArray),(⟨#[109,115]⟩:ByteArray),(⟨#[99,115]⟩:ByteArray),(⟨#[115]⟩:ByteArray),(⟨#[104,111,117,114]⟩:ByteArray)]:List ByteArray)):Sl ByteArray)),(x37,obS ((some ([900,3600,3600000]:List Int)):Sl Int)),(x483,obS ((kB3 w430 ([(⟨c454.1,wr ((wr (c454.1+1))+c460.1),c471.1⟩:Note)]:List Note)):Sl Note)),(x467,obS ((some ([(⟨#[119,111,114,100]⟩:ByteArray),(⟨#[97]⟩:ByteArray),(⟨#[120,45,50]⟩:ByteArray)]:List ByteArray)):Sl ByteArray)),(x478,obS ((some ([(⟨c454.1,wr ((wr (c454.1+1))+c460.1),c471.1⟩:Note)]:List Note)):Sl Note))]:=O485
   have O487:Hold B h484 [pZ9 o_ 3 [Sl.enc c471.2.code,iv c471.2.pos,AV.sc (.int .u64 c471.2.seed)],pZ9 o1 3 [kA3,kA3,kA3],(z427,obS (w428:Sl Channel)),pZ9 o21 3 [z427,z407,z429],(x27,obS ((some ([(⟨#[109,115]⟩:ByteArray),(⟨#[109,115]⟩:ByteArray),(⟨#[99,115]⟩:ByteArray),(⟨#[115]⟩:ByteArray),(⟨#[104,111,117,114]⟩:ByteArray)]:List ByteArray)):Sl ByteArray)),(x37,obS ((some ([900,3600,3600000]:List Int)):Sl Int)),(x483,obS ((kB3 w430 ([(⟨c454.1,wr ((wr (c454.1+1))+c460.1),c471.1⟩:Note)]:List Note)):Sl Note)),(x467,obS ((some ([(⟨#[119,111,114,100]⟩:ByteArray),(⟨#[97]⟩:ByteArray),(⟨#[120,45,50]⟩:ByteArray)]:List ByteArray)):Sl ByteArray))]:=O485.sel [0,1,2,3,4,5,6,7] (by decide) rfl
   refine kA1 (v:=AV.ptr o21 1 0 2) rfl ?_
   have jZ0:=O487.one (A:=Note) (s:=(kB3 w430 ([(⟨c454.1,wr ((wr (c454.1+1))+c460.1),c471.1⟩:Note)]:List Note))) 6 rfl
   refine kAj O487 3 (cs':=[z427,z407,x483]) rfl (by first | rfl | simp [jZ0.1,jZ0.2]) (by simp) (by first | rfl | simp [jZ0.1,jZ0.2]) (by first | rfl | simp [kAo,jZ0.1,jZ0.2]) (fun h488 O489 => ?_)
   replace O489:Hold B h488 [pZ9 o_ 3 [Sl.enc c471.2.code,iv c471.2.pos,AV.sc (.int .u64 c471.2.seed)],pZ9 o1 3 [kA3,kA3,kA3],(z427,obS (w428:Sl Channel)),pZ9 o21 3 [z427,z407,x483],(x27,obS ((some ([(⟨#[109,115]⟩:ByteArray),(⟨#[109,115]⟩:ByteArray),(⟨#[99,115]⟩:ByteArray),(⟨#[115]⟩:ByteArray),(⟨#[104,111,117,114]⟩:ByteArray)]:List ByteArray)):Sl ByteArray)),(x37,obS ((some ([900,3600,3600000]:List Int)):Sl Int)),(x483,obS ((kB3 w430 ([(⟨c454.1,wr ((wr (c454.1+1))+c460.1),c471.1⟩:Note)]:List Note)):Sl Note)),(x467,obS ((some ([(⟨#[119,111,114,100]⟩:ByteArray),(⟨#[97]⟩:ByteArray),(⟨#[120,45,50]⟩:ByteArray)]:List ByteArray)):Sl ByteArray))]:=O489
   refine kBk trivial ?_
   refine kA1 (kAt _ _) ?_
   have O490:Hold B h488 [pZ9 o_ 3 [Sl.enc c471.2.code,iv c471.2.pos,AV.sc (.int .u64 c471.2.seed)],pZ9 o1 3 [kA3,kA3,kA3],(z427,obS (w428:Sl Channel)),pZ9 o21 3 [z427,z407,x483],(x27,obS ((some ([(⟨#[109,115]⟩:ByteArray),(⟨#[109,115]⟩:ByteArray),(⟨#[99,115]⟩:ByteArray),(⟨#[115]⟩:ByteArray),(⟨#[104,111,117,114]⟩:ByteArray)]:List ByteArray)):Sl ByteArray)),(x37,obS ((some ([900,3600,3600000]:List Int)):Sl Int)),(x483,obS ((kB3 w430 ([(⟨c454.1,wr ((wr (c454.1+1))+c460.1),c471.1⟩:Note)]:List Note)):Sl Note))]:=O489.sel [0,1,2,3,4,5,6] (by decide) rfl
   exact kA6 ⟨rfl,_,_,rfl,O490⟩
  ·exact kA6 ⟨nofun,_,_,_,_,_,rfl,O432⟩
theorem tl6_q33 (env:Nat→Contract) {B:Base} (he_q24:env kEl=.pure (T2 (fun a b:Int=>max a b))) (he_q25:env kDd=.gen (kAf Try.prog kE5 kDd)) (he_q27:env kCf=.gen (kAf Try.prog kE7 kCf)) (he_q28:env kB1=.gen (kAf Try.prog kC8 kB1)) (he_q29:env kCd=.gen (kAf Try.prog kCz kCd)) (o_:Nat) (o1:Nat) (c5:Int×l00Src) (c11:Int×l00Src) (x17:AV) (o21:Nat) (x27:AV) (c31:ByteArray×l00Src) (x37:AV) (c41:Int×l00Src) (x47:AV) (x52:AV) (c59:Bool×l00Src) (x66:AV) (x71:AV) (c78:Bool×l00Src) (c368:Int×l00Src) (c374:Int×l00Src) (z387:AV) (w388:Sl Channel) (z389:AV) (z393:AV) (w394:Sl Note) (w398:Int) (o495:Nat) (c501:Int×l00Src) :kGr (fun (st:(Sl UInt8)×Int×Int×(Sl (Sl Int))×Int×Int) tm h516=>match st with | (w509,w510,w511,w513,w518,w519)=>∃ z512,∃ ps514:PS (Sl Int),tm=((AV.ptr o_ 1 0 0)::und::(AV.ptr o1 1 0 0)::(AV.ptr o21 1 0 0)::(sv c31.1)::(iv w518)::(iv w398)::(AV.ptr o495 1 0 0)::(iv w519)::.top::und::und::und::(AV.ptr o_ 1 0 0)::(iv c5.1)::(iv (wr (c5.1 - 4)))::(AV.ptr o_ 1 0 0)::(iv c11.1)::(iv (wr (100+c11.1)))::(AV.agg [sv (⟨#[120]⟩:ByteArray),sv (⟨#[109,109]⟩:ByteArray),iv (wr (c5.1 - 4)),iv (wr (100+c11.1))])::(AV.agg [sv (⟨#[121]⟩:ByteArray),sv (⟨#[109,109]⟩:ByteArray),iv (-50),iv 90])::x17::(AV.agg [x17,kA3,kA3])::(AV.ptr o_ 1 0 0)::x27::(sv c31.1)::(AV.ptr o21 1 0 0)::x17::(sv c31.1)::(AV.ptr o_ 1 0 0)::x37::(iv c41.1)::(AV.agg [sv (⟨#[116]⟩:ByteArray),sv c31.1,iv 0,iv c41.1])::x47::x52::(AV.ptr o21 1 0 0)::(AV.ptr o_ 1 0 0)::(bv c59.1)::(AV.ptr o21 1 0 0)::x52::(AV.agg [sv (⟨#[112]⟩:ByteArray),sv (⟨#[111,110,101]⟩:ByteArray),iv 0,iv 255])::x66::x71::(AV.ptr o21 1 0 0)::(AV.ptr o_ 1 0 0)::(bv c78.1)::und::und::und::und::(AV.ptr o_ 1 0 0)::(iv c368.1)::(AV.ptr o_ 1 0 0)::(iv c374.1)::(iv w398)::(bv (decide (0<w398)))::.top::.top::(AV.agg [kA3])::(AV.ptr o_ 1 0 0)::(iv c501.1)::(iv (wr (1+c501.1)))::tZ9 37 [.top,.top,.top,.top,.top,.top,und,und,und,und,und,und,und,und,und,und,und,und,und,und,und,und,und,und,und,und,und,und,und,und,und,und,und,und,und,und,und,und,und,und,und])∧pj ps514=w513∧Hold B h516 ([pZ9 o_ 3 [Sl.enc w509,iv w510,AV.sc (.int .u64 w511)],pZ9 o1 3 [kA3,kA3,kA3],(z387,obS (w388:Sl Channel)),pZ9 o21 3 [z387,z389,z393],(x27,obS ((some ([(⟨#[109,115]⟩:ByteArray),(⟨#[109,115]⟩:ByteArray),(⟨#[99,115]⟩:ByteArray),(⟨#[115]⟩:ByteArray),(⟨#[104,111,117,114]⟩:ByteArray)]:List ByteArray)):Sl ByteArray)),(x37,obS ((some ([900,3600,3600000]:List Int)):Sl Int)),(z393,obS (w394:Sl Note)),pZ9 o495 1 [z512]]++D2 (A:=(Sl Int)) z512 ps514)) hm6_q33 xm6_q33 (lb6_q33 env) (s6_q33 w388) (fun (q:(Sl UInt8)×Int×Int×(Sl (Sl Int))×Int) (r:Res)=>match q with | (q522,q523,q524,q526,q529)=>∃ (q530:Int) (z525:AV) (z531:AV) (ps527:PS (Sl Int)) (h520:kA7),r=(.exit 2,((AV.ptr o_ 1 0 0)::und::(AV.ptr o1 1 0 0)::(AV.ptr o21 1 0 0)::(sv c31.1)::(iv q529)::(iv w398)::(AV.ptr o495 1 0 0)::(iv q530)::z531::und::und::und::(AV.ptr o_ 1 0 0)::(iv c5.1)::(iv (wr (c5.1 - 4)))::(AV.ptr o_ 1 0 0)::(iv c11.1)::(iv (wr (100+c11.1)))::(AV.agg [sv (⟨#[120]⟩:ByteArray),sv (⟨#[109,109]⟩:ByteArray),iv (wr (c5.1 - 4)),iv (wr (100+c11.1))])::(AV.agg [sv (⟨#[121]⟩:ByteArray),sv (⟨#[109,109]⟩:ByteArray),iv (-50),iv 90])::x17::(AV.agg [x17,kA3,kA3])::(AV.ptr o_ 1 0 0)::x27::(sv c31.1)::(AV.ptr o21 1 0 0)::x17::(sv c31.1)::(AV.ptr o_ 1 0 0)::x37::(iv c41.1)::(AV.agg [sv (⟨#[116]⟩:ByteArray),sv c31.1,iv 0,iv c41.1])::x47::x52::(AV.ptr o21 1 0 0)::(AV.ptr o_ 1 0 0)::(bv c59.1)::(AV.ptr o21 1 0 0)::x52::(AV.agg [sv (⟨#[112]⟩:ByteArray),sv (⟨#[111,110,101]⟩:ByteArray),iv 0,iv 255])::x66::x71::(AV.ptr o21 1 0 0)::(AV.ptr o_ 1 0 0)::(bv c78.1)::und::und::und::und::(AV.ptr o_ 1 0 0)::(iv c368.1)::(AV.ptr o_ 1 0 0)::(iv c374.1)::(iv w398)::(bv (decide (0<w398)))::.top::.top::(AV.agg [kA3])::(AV.ptr o_ 1 0 0)::(iv c501.1)::(iv (wr (1+c501.1)))::tZ9 37 [.top,.top,.top,.top,.top,.top,und,und,und,und,und,und,und,und,und,und,und,und,und,und,und,und,und,und,und,und,und,und,und,und,und,und,und,und,und,und,und,und,und,und,und]),h520)∧pj ps527=q526∧Hold B h520 ([pZ9 o_ 3 [Sl.enc q522,iv q523,AV.sc (.int .u64 q524)],pZ9 o1 3 [kA3,kA3,kA3],(z387,obS (w388:Sl Channel)),pZ9 o21 3 [z387,z389,z393],(x27,obS ((some ([(⟨#[109,115]⟩:ByteArray),(⟨#[109,115]⟩:ByteArray),(⟨#[99,115]⟩:ByteArray),(⟨#[115]⟩:ByteArray),(⟨#[104,111,117,114]⟩:ByteArray)]:List ByteArray)):Sl ByteArray)),(x37,obS ((some ([900,3600,3600000]:List Int)):Sl Int)),(z393,obS (w394:Sl Note)),pZ9 o495 1 [z525]]++D2 (A:=(Sl Int)) z525 ps527)):=by
 refine @kH3 _ _ _ _ _ _ _ _ (fun st tm h516 R => ?_)
 obtain ⟨w509,w510,w511,w513,w518,w519⟩:=st
 obtain ⟨z512,ps514,rfl,hp515,O517⟩:=R
 rw [e_lb6_q33]
 unfold s6_q33
 dsimp only
 refine kA1 (kBd _ _) ?_
 refine kAa (fun c545 => ?_) (fun c545 => ?_)
 ·refine kAq he_q28 (kBj (⟨w509,w510,w511⟩:l00Src) 80 (O517.start (i:=0) rfl rfl)) (fun c546 v547 h548 hq549 => ?_)
  obtain ⟨e_v547,O550⟩:=hq549
  dsimp only at e_v547
  subst v547
  have O551:Hold B h548 ([pZ9 o_ 3 [Sl.enc c546.2.code,iv c546.2.pos,AV.sc (.int .u64 c546.2.seed)],pZ9 o1 3 [kA3,kA3,kA3],(z387,obS (w388:Sl Channel)),pZ9 o21 3 [z387,z389,z393],(x27,obS ((some ([(⟨#[109,115]⟩:ByteArray),(⟨#[109,115]⟩:ByteArray),(⟨#[99,115]⟩:ByteArray),(⟨#[115]⟩:ByteArray),(⟨#[104,111,117,114]⟩:ByteArray)]:List ByteArray)):Sl ByteArray)),(x37,obS ((some ([900,3600,3600000]:List Int)):Sl Int)),(z393,obS (w394:Sl Note)),pZ9 o495 1 [z512]]++D2 (A:=(Sl Int)) z512 ps514):=Hold.rot (l:=[pZ9 o_ 3 [Sl.enc c546.2.code,iv c546.2.pos,AV.sc (.int .u64 c546.2.seed)],pZ9 o1 3 [kA3,kA3,kA3],(z387,obS (w388:Sl Channel)),pZ9 o21 3 [z387,z389,z393],(x27,obS ((some ([(⟨#[109,115]⟩:ByteArray),(⟨#[109,115]⟩:ByteArray),(⟨#[99,115]⟩:ByteArray),(⟨#[115]⟩:ByteArray),(⟨#[104,111,117,114]⟩:ByteArray)]:List ByteArray)):Sl ByteArray)),(x37,obS ((some ([900,3600,3600000]:List Int)):Sl Int)),(z393,obS (w394:Sl Note)),pZ9 o495 1 [z512]]) (d:=D2 (A:=(Sl Int)) z512 ps514) (n:=[]) (O517.merge (i:=0) rfl rfl O550)
  refine kA1 (kAg _ _) ?_
  refine kAq he_q28 (kBj c546.2 120 (O551.start (i:=0) rfl rfl)) (fun c552 v553 h554 hq555 => ?_)
  obtain ⟨e_v553,O556⟩:=hq555
  dsimp only at e_v553
  subst v553
  have O557:Hold B h554 ([pZ9 o_ 3 [Sl.enc c552.2.code,iv c552.2.pos,AV.sc (.int .u64 c552.2.seed)],pZ9 o1 3 [kA3,kA3,kA3],(z387,obS (w388:Sl Channel)),pZ9 o21 3 [z387,z389,z393],(x27,obS ((some ([(⟨#[109,115]⟩:ByteArray),(⟨#[109,115]⟩:ByteArray),(⟨#[99,115]⟩:ByteArray),(⟨#[115]⟩:ByteArray),(⟨#[104,111,117,114]⟩:ByteArray)]:List ByteArray)):Sl ByteArray)),(x37,obS ((some ([900,3600,3600000]:List Int)):Sl Int)),(z393,obS (w394:Sl Note)),pZ9 o495 1 [z512]]++D2 (A:=(Sl Int)) z512 ps514):=Hold.rot (l:=[pZ9 o_ 3 [Sl.enc c552.2.code,iv c552.2.pos,AV.sc (.int .u64 c552.2.seed)],pZ9 o1 3 [kA3,kA3,kA3],(z387,obS (w388:Sl Channel)),pZ9 o21 3 [z387,z389,z393],(x27,obS ((some ([(⟨#[109,115]⟩:ByteArray),(⟨#[109,115]⟩:ByteArray),(⟨#[99,115]⟩:ByteArray),(⟨#[115]⟩:ByteArray),(⟨#[104,111,117,114]⟩:ByteArray)]:List ByteArray)):Sl ByteArray)),(x37,obS ((some ([900,3600,3600000]:List Int)):Sl Int)),(z393,obS (w394:Sl Note)),pZ9 o495 1 [z512]]) (d:=D2 (A:=(Sl Int)) z512 ps514) (n:=[]) (O551.merge (i:=0) rfl rfl O556)
  refine kA1 (kAt _ _) ?_
  refine kB7 (A:=Int) O557 ([wr (5+c546.1),wr (c552.1 - 40),w518]:List Int) rfl (by first | rfl | simp [kAk,kBz]) rfl (fun x558 h559 O560 => ?_)
  replace O560:Hold B h559 ([pZ9 o_ 3 [Sl.enc c552.2.code,iv c552.2.pos,AV.sc (.int .u64 c552.2.seed)],pZ9 o1 3 [kA3,kA3,kA3],(z387,obS (w388:Sl Channel)),pZ9 o21 3 [z387,z389,z393],(x27,obS ((some ([(⟨#[109,115]⟩:ByteArray),(⟨#[109,115]⟩:ByteArray),(⟨#[99,115]⟩:ByteArray),(⟨#[115]⟩:ByteArray),(⟨#[104,111,117,114]⟩:ByteArray)]:List ByteArray)):Sl ByteArray)),(x37,obS ((some ([900,3600,3600000]:List Int)):Sl Int)),(z393,obS (w394:Sl Note)),pZ9 o495 1 [z512],(x558,obS ((some ([wr (5+c546.1),wr (c552.1 - 40),w518]:List Int)):Sl Int))]++D2 (A:=(Sl Int)) z512 ps514):=Hold.rot O560
  refine kA1 (v:=AV.ptr o21 1 0 0) rfl ?_
  refine kA1 (v:=z387) (O560.ld 3 rfl false 1 0) ?_
  refine kA1 (v:=iv (((w388.getD []).length:Nat):Int)) (O560.tab (A:=Channel) (s:=w388) 2 rfl).len ?_
  refine kA1 (kBd _ _) ?_
  refine kAa (fun c562 => ?_) (fun c562 => ?_)
  ·refine kAq he_q28 (kBj c552.2 256 (O560.start (i:=0) rfl rfl)) (fun c563 v564 h565 hq566 => ?_)
   obtain ⟨e_v564,O567⟩:=hq566
   dsimp only at e_v564
   subst v564
   have O568:Hold B h565 ([pZ9 o_ 3 [Sl.enc c563.2.code,iv c563.2.pos,AV.sc (.int .u64 c563.2.seed)],pZ9 o1 3 [kA3,kA3,kA3],(z387,obS (w388:Sl Channel)),pZ9 o21 3 [z387,z389,z393],(x27,obS ((some ([(⟨#[109,115]⟩:ByteArray),(⟨#[109,115]⟩:ByteArray),(⟨#[99,115]⟩:ByteArray),(⟨#[115]⟩:ByteArray),(⟨#[104,111,117,114]⟩:ByteArray)]:List ByteArray)):Sl ByteArray)),(x37,obS ((some ([900,3600,3600000]:List Int)):Sl Int)),(z393,obS (w394:Sl Note)),pZ9 o495 1 [z512],(x558,obS ((some ([wr (5+c546.1),wr (c552.1 - 40),w518]:List Int)):Sl Int))]++D2 (A:=(Sl Int)) z512 ps514):=Hold.rot (l:=[pZ9 o_ 3 [Sl.enc c563.2.code,iv c563.2.pos,AV.sc (.int .u64 c563.2.seed)],pZ9 o1 3 [kA3,kA3,kA3],(z387,obS (w388:Sl Channel)),pZ9 o21 3 [z387,z389,z393],(x27,obS ((some ([(⟨#[109,115]⟩:ByteArray),(⟨#[109,115]⟩:ByteArray),(⟨#[99,115]⟩:ByteArray),(⟨#[115]⟩:ByteArray),(⟨#[104,111,117,114]⟩:ByteArray)]:List ByteArray)):Sl ByteArray)),(x37,obS ((some ([900,3600,3600000]:List Int)):Sl Int)),(z393,obS (w394:Sl Note)),pZ9 o495 1 [z512],(x558,obS ((some ([wr (5+c546.1),wr (c552.1 - 40),w518]:List Int)):Sl Int))]) (d:=D2 (A:=(Sl Int)) z512 ps514) (n:=[]) (O560.merge (i:=0) rfl rfl O567)
   refine kB7 (A:=Int) O568 ([c563.1]:List Int) rfl (by first | rfl | simp [kAk,kBz]) rfl (fun x569 h570 O571 => ?_)
   replace O571:Hold B h570 ([pZ9 o_ 3 [Sl.enc c563.2.code,iv c563.2.pos,AV.sc (.int .u64 c563.2.seed)],pZ9 o1 3 [kA3,kA3,kA3],(z387,obS (w388:Sl Channel)),pZ9 o21 3 [z387,z389,z393],(x27,obS ((some ([(⟨#[109,115]⟩:ByteArray),(⟨#[109,115]⟩:ByteArray),(⟨#[99,115]⟩:ByteArray),(⟨#[115]⟩:ByteArray),(⟨#[104,111,117,114]⟩:ByteArray)]:List ByteArray)):Sl ByteArray)),(x37,obS ((some ([900,3600,3600000]:List Int)):Sl Int)),(z393,obS (w394:Sl Note)),pZ9 o495 1 [z512],(x558,obS ((some ([wr (5+c546.1),wr (c552.1 - 40),w518]:List Int)):Sl Int)),(x569,obS ((some ([c563.1]:List Int)):Sl Int))]++D2 (A:=(Sl Int)) z512 ps514):=Hold.rot O571
   refine kBw (A:=Int) (s:=(some ([wr (5+c546.1),wr (c552.1 - 40),w518]:List Int))) O571 8 ([c563.1]:List Int) rfl (O571.src (A:=Int) (s:=(some ([c563.1]:List Int))) 9 rfl) (by decide) (fun x574 h575 O576 => ?_)
   replace O576:Hold B h575 ([pZ9 o_ 3 [Sl.enc c563.2.code,iv c563.2.pos,AV.sc (.int .u64 c563.2.seed)],pZ9 o1 3 [kA3,kA3,kA3],(z387,obS (w388:Sl Channel)),pZ9 o21 3 [z387,z389,z393],(x27,obS ((some ([(⟨#[109,115]⟩:ByteArray),(⟨#[109,115]⟩:ByteArray),(⟨#[99,115]⟩:ByteArray),(⟨#[115]⟩:ByteArray),(⟨#[104,111,117,114]⟩:ByteArray)]:List ByteArray)):Sl ByteArray)),(x37,obS ((some ([900,3600,3600000]:List Int)):Sl Int)),(z393,obS (w394:Sl Note)),pZ9 o495 1 [z512],(x574,obS ((kB3 (some ([wr (5+c546.1),wr (c552.1 - 40),w518]:List Int)) ([c563.1]:List Int)):Sl Int)),(x569,obS ((some ([c563.1]:List Int)):Sl Int))]++D2 (A:=(Sl Int)) z512 ps514):=O576
   have O578:Hold B h575 ([pZ9 o_ 3 [Sl.enc c563.2.code,iv c563.2.pos,AV.sc (.int .u64 c563.2.seed)],pZ9 o1 3 [kA3,kA3,kA3],(z387,obS (w388:Sl Channel)),pZ9 o21 3 [z387,z389,z393],(x27,obS ((some ([(⟨#[109,115]⟩:ByteArray),(⟨#[109,115]⟩:ByteArray),(⟨#[99,115]⟩:ByteArray),(⟨#[115]⟩:ByteArray),(⟨#[104,111,117,114]⟩:ByteArray)]:List ByteArray)):Sl ByteArray)),(x37,obS ((some ([900,3600,3600000]:List Int)):Sl Int)),(z393,obS (w394:Sl Note)),pZ9 o495 1 [z512],(x574,obS ((kB3 (some ([wr (5+c546.1),wr (c552.1 - 40),w518]:List Int)) ([c563.1]:List Int)):Sl Int))]++D2 (A:=(Sl Int)) z512 ps514):=O576.selD [0,1,2,3,4,5,6,7,8] (by decide) rfl
   refine kA1 (v:=AV.ptr o495 1 0 0) rfl ?_
   refine kA1 (v:=z512) (O578.ld 7 rfl false 1 0) ?_
   have jZ0:=O578.one (A:=Int) (s:=(kB3 (some ([wr (5+c546.1),wr (c552.1 - 40),w518]:List Int)) ([c563.1]:List Int))) 8 rfl
   refine kBn O578 [[x574]] 1 rfl (by first | rfl | simp [kAk,kBz,jZ0.1,jZ0.2]) rfl (fun x579 h580 O581 => ?_)
   replace O581:Hold B h580 ([pZ9 o_ 3 [Sl.enc c563.2.code,iv c563.2.pos,AV.sc (.int .u64 c563.2.seed)],pZ9 o1 3 [kA3,kA3,kA3],(z387,obS (w388:Sl Channel)),pZ9 o21 3 [z387,z389,z393],(x27,obS ((some ([(⟨#[109,115]⟩:ByteArray),(⟨#[109,115]⟩:ByteArray),(⟨#[99,115]⟩:ByteArray),(⟨#[115]⟩:ByteArray),(⟨#[104,111,117,114]⟩:ByteArray)]:List ByteArray)):Sl ByteArray)),(x37,obS ((some ([900,3600,3600000]:List Int)):Sl Int)),(z393,obS (w394:Sl Note)),pZ9 o495 1 [z512],(x574,obS ((kB3 (some ([wr (5+c546.1),wr (c552.1 - 40),w518]:List Int)) ([c563.1]:List Int)):Sl Int)),(x579,.sl 1 [[x574]])]++D2 (A:=(Sl Int)) z512 ps514):=Hold.rot O581
   have O583:Hold B h580 ([pZ9 o_ 3 [Sl.enc c563.2.code,iv c563.2.pos,AV.sc (.int .u64 c563.2.seed)],pZ9 o1 3 [kA3,kA3,kA3],(z387,obS (w388:Sl Channel)),pZ9 o21 3 [z387,z389,z393],(x27,obS ((some ([(⟨#[109,115]⟩:ByteArray),(⟨#[109,115]⟩:ByteArray),(⟨#[99,115]⟩:ByteArray),(⟨#[115]⟩:ByteArray),(⟨#[104,111,117,114]⟩:ByteArray)]:List ByteArray)):Sl ByteArray)),(x37,obS ((some ([900,3600,3600000]:List Int)):Sl Int)),(z393,obS (w394:Sl Note)),pZ9 o495 1 [z512],(x574,obS ((kB3 (some ([wr (5+c546.1),wr (c552.1 - 40),w518]:List Int)) ([c563.1]:List Int)):Sl Int)),(x579,.sl 1 [[x574]])]++D2 (A:=(Sl Int)) z512 ps514):=O581.selD [0,1,2,3,4,5,6,7,8,9] (by decide) rfl
   refine kEs (l:=[pZ9 o_ 3 [Sl.enc c563.2.code,iv c563.2.pos,AV.sc (.int .u64 c563.2.seed)],pZ9 o1 3 [kA3,kA3,kA3],(z387,obS (w388:Sl Channel)),pZ9 o21 3 [z387,z389,z393],(x27,obS ((some ([(⟨#[109,115]⟩:ByteArray),(⟨#[109,115]⟩:ByteArray),(⟨#[99,115]⟩:ByteArray),(⟨#[115]⟩:ByteArray),(⟨#[104,111,117,114]⟩:ByteArray)]:List ByteArray)):Sl ByteArray)),(x37,obS ((some ([900,3600,3600000]:List Int)):Sl Int)),(z393,obS (w394:Sl Note)),pZ9 o495 1 [z512]]) (a:=(kB3 (some ([wr (5+c546.1),wr (c552.1 - 40),w518]:List Int)) ([c563.1]:List Int))) (y:=x574) (x:=z512) (ps:=ps514) O583 hp515 (by decide) (fun x584 ps587 h585 hp588 hm589 O586 => ?_)
   refine kA1 (v:=AV.ptr o495 1 0 0) rfl ?_
   have jZ0:=D2.oneX (l:=[pZ9 o_ 3 [Sl.enc c563.2.code,iv c563.2.pos,AV.sc (.int .u64 c563.2.seed)],pZ9 o1 3 [kA3,kA3,kA3],(z387,obS (w388:Sl Channel)),pZ9 o21 3 [z387,z389,z393],(x27,obS ((some ([(⟨#[109,115]⟩:ByteArray),(⟨#[109,115]⟩:ByteArray),(⟨#[99,115]⟩:ByteArray),(⟨#[115]⟩:ByteArray),(⟨#[104,111,117,114]⟩:ByteArray)]:List ByteArray)):Sl ByteArray)),(x37,obS ((some ([900,3600,3600000]:List Int)):Sl Int)),(z393,obS (w394:Sl Note)),pZ9 o495 1 [z512]]) (x:=x584) (ps:=ps587) (A:=(Sl Int)) O586
   refine kAj O586 7 (cs':=[x584]) rfl (by first | rfl | simp [jZ0.1,jZ0.2]) (by simp) (by first | rfl | simp [jZ0.1,jZ0.2]) (by first | rfl | simp [kAo,jZ0.1,jZ0.2]) (fun h591 O592 => ?_)
   replace O592:Hold B h591 ([pZ9 o_ 3 [Sl.enc c563.2.code,iv c563.2.pos,AV.sc (.int .u64 c563.2.seed)],pZ9 o1 3 [kA3,kA3,kA3],(z387,obS (w388:Sl Channel)),pZ9 o21 3 [z387,z389,z393],(x27,obS ((some ([(⟨#[109,115]⟩:ByteArray),(⟨#[109,115]⟩:ByteArray),(⟨#[99,115]⟩:ByteArray),(⟨#[115]⟩:ByteArray),(⟨#[104,111,117,114]⟩:ByteArray)]:List ByteArray)):Sl ByteArray)),(x37,obS ((some ([900,3600,3600000]:List Int)):Sl Int)),(z393,obS (w394:Sl Note)),pZ9 o495 1 [x584]]++D2 (A:=(Sl Int)) x584 ps587):=O592
   refine kAq he_q28 (kBj c563.2 9 (O592.start (i:=0) rfl rfl)) (fun c593 v594 h595 hq596 => ?_)
   obtain ⟨e_v594,O597⟩:=hq596
   dsimp only at e_v594
   subst v594
   have O598:Hold B h595 ([pZ9 o_ 3 [Sl.enc c593.2.code,iv c593.2.pos,AV.sc (.int .u64 c593.2.seed)],pZ9 o1 3 [kA3,kA3,kA3],(z387,obS (w388:Sl Channel)),pZ9 o21 3 [z387,z389,z393],(x27,obS ((some ([(⟨#[109,115]⟩:ByteArray),(⟨#[109,115]⟩:ByteArray),(⟨#[99,115]⟩:ByteArray),(⟨#[115]⟩:ByteArray),(⟨#[104,111,117,114]⟩:ByteArray)]:List ByteArray)):Sl ByteArray)),(x37,obS ((some ([900,3600,3600000]:List Int)):Sl Int)),(z393,obS (w394:Sl Note)),pZ9 o495 1 [x584]]++D2 (A:=(Sl Int)) x584 ps587):=Hold.rot (l:=[pZ9 o_ 3 [Sl.enc c593.2.code,iv c593.2.pos,AV.sc (.int .u64 c593.2.seed)],pZ9 o1 3 [kA3,kA3,kA3],(z387,obS (w388:Sl Channel)),pZ9 o21 3 [z387,z389,z393],(x27,obS ((some ([(⟨#[109,115]⟩:ByteArray),(⟨#[109,115]⟩:ByteArray),(⟨#[99,115]⟩:ByteArray),(⟨#[115]⟩:ByteArray),(⟨#[104,111,117,114]⟩:ByteArray)]:List ByteArray)):Sl ByteArray)),(x37,obS ((some ([900,3600,3600000]:List Int)):Sl Int)),(z393,obS (w394:Sl Note)),pZ9 o495 1 [x584]]) (d:=D2 (A:=(Sl Int)) x584 ps587) (n:=[]) (O592.merge (i:=0) rfl rfl O597)
   refine kA1 (kAg _ _) ?_
   refine kA1 (kAg _ _) ?_
   refine kAq he_q27 (kGc c593.2 30 (O598.start (i:=0) rfl rfl)) (fun c599 v600 h601 hq602 => ?_)
   obtain ⟨e_v600,O603⟩:=hq602
   dsimp only at e_v600
   subst v600
   have O604:Hold B h601 ([pZ9 o_ 3 [Sl.enc c599.2.code,iv c599.2.pos,AV.sc (.int .u64 c599.2.seed)],pZ9 o1 3 [kA3,kA3,kA3],(z387,obS (w388:Sl Channel)),pZ9 o21 3 [z387,z389,z393],(x27,obS ((some ([(⟨#[109,115]⟩:ByteArray),(⟨#[109,115]⟩:ByteArray),(⟨#[99,115]⟩:ByteArray),(⟨#[115]⟩:ByteArray),(⟨#[104,111,117,114]⟩:ByteArray)]:List ByteArray)):Sl ByteArray)),(x37,obS ((some ([900,3600,3600000]:List Int)):Sl Int)),(z393,obS (w394:Sl Note)),pZ9 o495 1 [x584]]++D2 (A:=(Sl Int)) x584 ps587):=Hold.rot (l:=[pZ9 o_ 3 [Sl.enc c599.2.code,iv c599.2.pos,AV.sc (.int .u64 c599.2.seed)],pZ9 o1 3 [kA3,kA3,kA3],(z387,obS (w388:Sl Channel)),pZ9 o21 3 [z387,z389,z393],(x27,obS ((some ([(⟨#[109,115]⟩:ByteArray),(⟨#[109,115]⟩:ByteArray),(⟨#[99,115]⟩:ByteArray),(⟨#[115]⟩:ByteArray),(⟨#[104,111,117,114]⟩:ByteArray)]:List ByteArray)):Sl ByteArray)),(x37,obS ((some ([900,3600,3600000]:List Int)):Sl Int)),(z393,obS (w394:Sl Note)),pZ9 o495 1 [x584]]) (d:=D2 (A:=(Sl Int)) x584 ps587) (n:=[]) (O598.merge (i:=0) rfl rfl O603)
   refine kAa (fun c605 => ?_) (fun c605 => ?_)
   ·refine kA1 (kAt _ _) ?_
    refine kDn (t:=(fun a b:Int=>max a b)) he_q24 (kAe _ _) (kAe _ _) (fun c606 => ?_)
    refine kA1 (kAt _ _) ?_
    exact kA6 ⟨rfl,_,_,rfl,hp588,O604⟩
   ·refine kA1 (kAt _ _) ?_
    exact kA6 ⟨rfl,_,_,rfl,hp588,O604⟩
  ·refine kA1 (v:=AV.ptr o495 1 0 0) rfl ?_
   refine kA1 (v:=z512) (O560.ld 7 rfl false 1 0) ?_
   have jZ0:=O560.one (A:=Int) (s:=(some ([wr (5+c546.1),wr (c552.1 - 40),w518]:List Int))) 8 rfl
   refine kBn O560 [[x558]] 1 rfl (by first | rfl | simp [kAk,kBz,jZ0.1,jZ0.2]) rfl (fun x609 h610 O611 => ?_)
   replace O611:Hold B h610 ([pZ9 o_ 3 [Sl.enc c552.2.code,iv c552.2.pos,AV.sc (.int .u64 c552.2.seed)],pZ9 o1 3 [kA3,kA3,kA3],(z387,obS (w388:Sl Channel)),pZ9 o21 3 [z387,z389,z393],(x27,obS ((some ([(⟨#[109,115]⟩:ByteArray),(⟨#[109,115]⟩:ByteArray),(⟨#[99,115]⟩:ByteArray),(⟨#[115]⟩:ByteArray),(⟨#[104,111,117,114]⟩:ByteArray)]:List ByteArray)):Sl ByteArray)),(x37,obS ((some ([900,3600,3600000]:List Int)):Sl Int)),(z393,obS (w394:Sl Note)),pZ9 o495 1 [z512],(x558,obS ((some ([wr (5+c546.1),wr (c552.1 - 40),w518]:List Int)):Sl Int)),(x609,.sl 1 [[x558]])]++D2 (A:=(Sl Int)) z512 ps514):=Hold.rot O611
   have O613:Hold B h610 ([pZ9 o_ 3 [Sl.enc c552.2.code,iv c552.2.pos,AV.sc (.int .u64 c552.2.seed)],pZ9 o1 3 [kA3,kA3,kA3],(z387,obS (w388:Sl Channel)),pZ9 o21 3 [z387,z389,z393],(x27,obS ((some ([(⟨#[109,115]⟩:ByteArray),(⟨#[109,115]⟩:ByteArray),(⟨#[99,115]⟩:ByteArray),(⟨#[115]⟩:ByteArray),(⟨#[104,111,117,114]⟩:ByteArray)]:List ByteArray)):Sl ByteArray)),(x37,obS ((some ([900,3600,3600000]:List Int)):Sl Int)),(z393,obS (w394:Sl Note)),pZ9 o495 1 [z512],(x558,obS ((some ([wr (5+c546.1),wr (c552.1 - 40),w518]:List Int)):Sl Int)),(x609,.sl 1 [[x558]])]++D2 (A:=(Sl Int)) z512 ps514):=O611.selD [0,1,2,3,4,5,6,7,8,9] (by decide) rfl
   refine kEs (l:=[pZ9 o_ 3 [Sl.enc c552.2.code,iv c552.2.pos,AV.sc (.int .u64 c552.2.seed)],pZ9 o1 3 [kA3,kA3,kA3],(z387,obS (w388:Sl Channel)),pZ9 o21 3 [z387,z389,z393],(x27,obS ((some ([(⟨#[109,115]⟩:ByteArray),(⟨#[109,115]⟩:ByteArray),(⟨#[99,115]⟩:ByteArray),(⟨#[115]⟩:ByteArray),(⟨#[104,111,117,114]⟩:ByteArray)]:List ByteArray)):Sl ByteArray)),(x37,obS ((some ([900,3600,3600000]:List Int)):Sl Int)),(z393,obS (w394:Sl Note)),pZ9 o495 1 [z512]]) (a:=(some ([wr (5+c546.1),wr (c552.1 - 40),w518]:List Int))) (y:=x558) (x:=z512) (ps:=ps514) O613 hp515 (by decide) (fun x614 ps617 h615 hp618 hm619 O616 => ?_)
   refine kA1 (v:=AV.ptr o495 1 0 0) rfl ?_
   have jZ0:=D2.oneX (l:=[pZ9 o_ 3 [Sl.enc c552.2.code,iv c552.2.pos,AV.sc (.int .u64 c552.2.seed)],pZ9 o1 3 [kA3,kA3,kA3],(z387,obS (w388:Sl Channel)),pZ9 o21 3 [z387,z389,z393],(x27,obS ((some ([(⟨#[109,115]⟩:ByteArray),(⟨#[109,115]⟩:ByteArray),(⟨#[99,115]⟩:ByteArray),(⟨#[115]⟩:ByteArray),(⟨#[104,111,117,114]⟩:ByteArray)]:List ByteArray)):Sl ByteArray)),(x37,obS ((some ([900,3600,3600000]:List Int)):Sl Int)),(z393,obS (w394:Sl Note)),pZ9 o495 1 [z512]]) (x:=x614) (ps:=ps617) (A:=(Sl Int)) O616
   refine kAj O616 7 (cs':=[x614]) rfl (by first | rfl | simp [jZ0.1,jZ0.2]) (by simp) (by first | rfl | simp [jZ0.1,jZ0.2]) (by first | rfl | simp [kAo,jZ0.1,jZ0.2]) (fun h621 O622 => ?_)
   replace O622:Hold B h621 ([pZ9 o_ 3 [Sl.enc c552.2.code,iv c552.2.pos,AV.sc (.int .u64 c552.2.seed)],pZ9 o1 3 [kA3,kA3,kA3],(z387,obS (w388:Sl Channel)),pZ9 o21 3 [z387,z389,z393],(x27,obS ((some ([(⟨#[109,115]⟩:ByteArray),(⟨#[109,115]⟩:ByteArray),(⟨#[99,115]⟩:ByteArray),(⟨#[115]⟩:ByteArray),(⟨#[104,111,117,114]⟩:ByteArray)]:List ByteArray)):Sl ByteArray)),(x37,obS ((some ([900,3600,3600000]:List Int)):Sl Int)),(z393,obS (w394:Sl Note)),pZ9 o495 1 [x614]]++D2 (A:=(Sl Int)) x614 ps617):=O622
   refine kAq he_q28 (kBj c552.2 9 (O622.start (i:=0) rfl rfl)) (fun c623 v624 h625 hq626 => ?_)
   obtain ⟨e_v624,O627⟩:=hq626
   dsimp only at e_v624
   subst v624
   have O628:Hold B h625 ([pZ9 o_ 3 [Sl.enc c623.2.code,iv c623.2.pos,AV.sc (.int .u64 c623.2.seed)],pZ9 o1 3 [kA3,kA3,kA3],(z387,obS (w388:Sl Channel)),pZ9 o21 3 [z387,z389,z393],(x27,obS ((some ([(⟨#[109,115]⟩:ByteArray),(⟨#[109,115]⟩:ByteArray),(⟨#[99,115]⟩:ByteArray),(⟨#[115]⟩:ByteArray),(⟨#[104,111,117,114]⟩:ByteArray)]:List ByteArray)):Sl ByteArray)),(x37,obS ((some ([900,3600,3600000]:List Int)):Sl Int)),(z393,obS (w394:Sl Note)),pZ9 o495 1 [x614]]++D2 (A:=(Sl Int)) x614 ps617):=Hold.rot (l:=[pZ9 o_ 3 [Sl.enc c623.2.code,iv c623.2.pos,AV.sc (.int .u64 c623.2.seed)],pZ9 o1 3 [kA3,kA3,kA3],(z387,obS (w388:Sl Channel)),pZ9 o21 3 [z387,z389,z393],(x27,obS ((some ([(⟨#[109,115]⟩:ByteArray),(⟨#[109,115]⟩:ByteArray),(⟨#[99,115]⟩:ByteArray),(⟨#[115]⟩:ByteArray),(⟨#[104,111,117,114]⟩:ByteArray)]:List ByteArray)):Sl ByteArray)),(x37,obS ((some ([900,3600,3600000]:List Int)):Sl Int)),(z393,obS (w394:Sl Note)),pZ9 o495 1 [x614]]) (d:=D2 (A:=(Sl Int)) x614 ps617) (n:=[]) (O622.merge (i:=0) rfl rfl O627)
   refine kA1 (kAg _ _) ?_
   refine kA1 (kAg _ _) ?_
   refine kAq he_q27 (kGc c623.2 30 (O628.start (i:=0) rfl rfl)) (fun c629 v630 h631 hq632 => ?_)
   obtain ⟨e_v630,O633⟩:=hq632
   dsimp only at e_v630
   subst v630
   have O634:Hold B h631 ([pZ9 o_ 3 [Sl.enc c629.2.code,iv c629.2.pos,AV.sc (.int .u64 c629.2.seed)],pZ9 o1 3 [kA3,kA3,kA3],(z387,obS (w388:Sl Channel)),pZ9 o21 3 [z387,z389,z393],(x27,obS ((some ([(⟨#[109,115]⟩:ByteArray),(⟨#[109,115]⟩:ByteArray),(⟨#[99,115]⟩:ByteArray),(⟨#[115]⟩:ByteArray),(⟨#[104,111,117,114]⟩:ByteArray)]:List ByteArray)):Sl ByteArray)),(x37,obS ((some ([900,3600,3600000]:List Int)):Sl Int)),(z393,obS (w394:Sl Note)),pZ9 o495 1 [x614]]++D2 (A:=(Sl Int)) x614 ps617):=Hold.rot (l:=[pZ9 o_ 3 [Sl.enc c629.2.code,iv c629.2.pos,AV.sc (.int .u64 c629.2.seed)],pZ9 o1 3 [kA3,kA3,kA3],(z387,obS (w388:Sl Channel)),pZ9 o21 3 [z387,z389,z393],(x27,obS ((some ([(⟨#[109,115]⟩:ByteArray),(⟨#[109,115]⟩:ByteArray),(⟨#[99,115]⟩:ByteArray),(⟨#[115]⟩:ByteArray),(⟨#[104,111,117,114]⟩:ByteArray)]:List ByteArray)):Sl ByteArray)),(x37,obS ((some ([900,3600,3600000]:List Int)):Sl Int)),(z393,obS (w394:Sl Note)),pZ9 o495 1 [x614]]) (d:=D2 (A:=(Sl Int)) x614 ps617) (n:=[]) (O628.merge (i:=0) rfl rfl O633)
   refine kAa (fun c635 => ?_) (fun c635 => ?_)
   ·refine kA1 (kAt _ _) ?_
    refine kDn (t:=(fun a b:Int=>max a b)) he_q24 (kAe _ _) (kAe _ _) (fun c636 => ?_)
    refine kA1 (kAt _ _) ?_
    exact kA6 ⟨rfl,_,_,rfl,hp618,O634⟩
   ·refine kA1 (kAt _ _) ?_
    exact kA6 ⟨rfl,_,_,rfl,hp618,O634⟩
 ·exact kA6 ⟨nofun,_,_,_,_,_,rfl,hp515,O517⟩
theorem tl1_q33 (env:Nat→Contract) {B0:Base} (he_q24:env kEl=.pure (T2 (fun a b:Int=>max a b))) (he_q25:env kDd=.gen (kAf Try.prog kE5 kDd)) (he_q27:env kCf=.gen (kAf Try.prog kE7 kCf)) (he_q28:env kB1=.gen (kAf Try.prog kC8 kB1)) (he_q29:env kCd=.gen (kAf Try.prog kCz kCd)) (o_:Nat) (o1:Nat) (c5:Int×l00Src) (c11:Int×l00Src) (x17:AV) (o21:Nat) (x27:AV) (c31:ByteArray×l00Src) (x37:AV) (c41:Int×l00Src) (x47:AV) (x52:AV) (c59:Bool×l00Src) (x66:AV) (x71:AV) (c78:Bool×l00Src) (c368:Int×l00Src) (c374:Int×l00Src) :kGr (fun (st:(Sl UInt8)×Int×Int×(Sl Channel)×(Sl FRows)×(Sl Note)×Int×Int) tm h395=>match st with | (w384,w385,w386,w388,w390,w394,w397,w398)=>∃ B:Base,∃ y399 z387 z389 z393,tm=((AV.ptr o_ 1 0 0)::und::(AV.ptr o1 1 0 0)::(AV.ptr o21 1 0 0)::(sv c31.1)::(iv w397)::(iv w398)::.top::.top::y399::und::und::und::(AV.ptr o_ 1 0 0)::(iv c5.1)::(iv (wr (c5.1 - 4)))::(AV.ptr o_ 1 0 0)::(iv c11.1)::(iv (wr (100+c11.1)))::(AV.agg [sv (⟨#[120]⟩:ByteArray),sv (⟨#[109,109]⟩:ByteArray),iv (wr (c5.1 - 4)),iv (wr (100+c11.1))])::(AV.agg [sv (⟨#[121]⟩:ByteArray),sv (⟨#[109,109]⟩:ByteArray),iv (-50),iv 90])::x17::(AV.agg [x17,kA3,kA3])::(AV.ptr o_ 1 0 0)::x27::(sv c31.1)::(AV.ptr o21 1 0 0)::x17::(sv c31.1)::(AV.ptr o_ 1 0 0)::x37::(iv c41.1)::(AV.agg [sv (⟨#[116]⟩:ByteArray),sv c31.1,iv 0,iv c41.1])::x47::x52::(AV.ptr o21 1 0 0)::(AV.ptr o_ 1 0 0)::(bv c59.1)::(AV.ptr o21 1 0 0)::x52::(AV.agg [sv (⟨#[112]⟩:ByteArray),sv (⟨#[111,110,101]⟩:ByteArray),iv 0,iv 255])::x66::x71::(AV.ptr o21 1 0 0)::(AV.ptr o_ 1 0 0)::(bv c78.1)::und::und::und::und::(AV.ptr o_ 1 0 0)::(iv c368.1)::(AV.ptr o_ 1 0 0)::(iv c374.1)::tZ9 51 [und,und,und,und,und,und,und,und,und,und,und,und,und,und,und,und,und,und,und,und,und,und,und,und,und,und,und,und,und,und,und,und,und,und,und])∧OutT B0 B z389 w390∧Hold B h395 [pZ9 o_ 3 [Sl.enc w384,iv w385,AV.sc (.int .u64 w386)],pZ9 o1 3 [kA3,kA3,kA3],(z387,obS (w388:Sl Channel)),pZ9 o21 3 [z387,z389,z393],(x27,obS ((some ([(⟨#[109,115]⟩:ByteArray),(⟨#[109,115]⟩:ByteArray),(⟨#[99,115]⟩:ByteArray),(⟨#[115]⟩:ByteArray),(⟨#[104,111,117,114]⟩:ByteArray)]:List ByteArray)):Sl ByteArray)),(x37,obS ((some ([900,3600,3600000]:List Int)):Sl Int)),(z393,obS (w394:Sl Note))]) hm1_q33 xm1_q33 (lb1_q33 env) s1_q33 (fun (q:(Sl UInt8)×Int×Int×(Sl Channel)×(Sl FRows)×(Sl Note)) (r:Res)=>match q with | (q402,q403,q404,q406,q408,q412)=>∃ (B:Base) (q413:Int) (q414:Int) (z405:AV) (z407:AV) (z411:AV) (z415:AV) (z416:AV) (z417:AV) (h400:kA7),r=(.exit 0,((AV.ptr o_ 1 0 0)::und::(AV.ptr o1 1 0 0)::(AV.ptr o21 1 0 0)::(sv c31.1)::(iv q413)::(iv q414)::z415::z416::z417::und::und::und::(AV.ptr o_ 1 0 0)::(iv c5.1)::(iv (wr (c5.1 - 4)))::(AV.ptr o_ 1 0 0)::(iv c11.1)::(iv (wr (100+c11.1)))::(AV.agg [sv (⟨#[120]⟩:ByteArray),sv (⟨#[109,109]⟩:ByteArray),iv (wr (c5.1 - 4)),iv (wr (100+c11.1))])::(AV.agg [sv (⟨#[121]⟩:ByteArray),sv (⟨#[109,109]⟩:ByteArray),iv (-50),iv 90])::x17::(AV.agg [x17,kA3,kA3])::(AV.ptr o_ 1 0 0)::x27::(sv c31.1)::(AV.ptr o21 1 0 0)::x17::(sv c31.1)::(AV.ptr o_ 1 0 0)::x37::(iv c41.1)::(AV.agg [sv (⟨#[116]⟩:ByteArray),sv c31.1,iv 0,iv c41.1])::x47::x52::(AV.ptr o21 1 0 0)::(AV.ptr o_ 1 0 0)::(bv c59.1)::(AV.ptr o21 1 0 0)::x52::(AV.agg [sv (⟨#[112]⟩:ByteArray),sv (⟨#[111,110,101]⟩:ByteArray),iv 0,iv 255])::x66::x71::(AV.ptr o21 1 0 0)::(AV.ptr o_ 1 0 0)::(bv c78.1)::und::und::und::und::(AV.ptr o_ 1 0 0)::(iv c368.1)::(AV.ptr o_ 1 0 0)::(iv c374.1)::tZ9 51 [und,und,und,und,und,und,und,und,und,und,und,und,und,und,und,und,und,und,und,und,und,und,und,und,und,und,und,und,und,und,und,und,und,und,und]),h400)∧OutT B0 B z407 q408∧Hold B h400 [pZ9 o_ 3 [Sl.enc q402,iv q403,AV.sc (.int .u64 q404)],pZ9 o1 3 [kA3,kA3,kA3],(z405,obS (q406:Sl Channel)),pZ9 o21 3 [z405,z407,z411],(x27,obS ((some ([(⟨#[109,115]⟩:ByteArray),(⟨#[109,115]⟩:ByteArray),(⟨#[99,115]⟩:ByteArray),(⟨#[115]⟩:ByteArray),(⟨#[104,111,117,114]⟩:ByteArray)]:List ByteArray)):Sl ByteArray)),(x37,obS ((some ([900,3600,3600000]:List Int)):Sl Int)),(z411,obS (q412:Sl Note))]):=by
 refine @kH3 _ _ _ _ _ _ _ _ (fun st tm h395 R => ?_)
 obtain ⟨w384,w385,w386,w388,w390,w394,w397,w398⟩:=st
 obtain ⟨B,y399,z387,z389,z393,rfl,hT391,O396⟩:=R
 rw [e_lb1_q33]
 unfold s1_q33
 dsimp only
 refine kA1 (kBd _ _) ?_
 refine kAa (fun c494 => ?_) (fun c494 => ?_)
 ·refine kA1 (v:=AV.agg [kA3]) (by first | rfl | simp [kBs,kEq,kAo]) ?_
  refine kBt O396 (cs:=[kA3]) (by first | rfl | simp) (fun o495 h496 O497 => ?_)
  replace O497:Hold B h496 [pZ9 o_ 3 [Sl.enc w384,iv w385,AV.sc (.int .u64 w386)],pZ9 o1 3 [kA3,kA3,kA3],(z387,obS (w388:Sl Channel)),pZ9 o21 3 [z387,z389,z393],(x27,obS ((some ([(⟨#[109,115]⟩:ByteArray),(⟨#[109,115]⟩:ByteArray),(⟨#[99,115]⟩:ByteArray),(⟨#[115]⟩:ByteArray),(⟨#[104,111,117,114]⟩:ByteArray)]:List ByteArray)):Sl ByteArray)),(x37,obS ((some ([900,3600,3600000]:List Int)):Sl Int)),(z393,obS (w394:Sl Note)),pZ9 o495 1 [kA3]]:=O497
  refine kAj O497 7 (cs':=[kA3]) rfl (by first | rfl | simp) (by simp) (by first | rfl | simp) (by first | rfl | simp [kAo]) (fun h499 O500 => ?_)
  replace O500:Hold B h499 [pZ9 o_ 3 [Sl.enc w384,iv w385,AV.sc (.int .u64 w386)],pZ9 o1 3 [kA3,kA3,kA3],(z387,obS (w388:Sl Channel)),pZ9 o21 3 [z387,z389,z393],(x27,obS ((some ([(⟨#[109,115]⟩:ByteArray),(⟨#[109,115]⟩:ByteArray),(⟨#[99,115]⟩:ByteArray),(⟨#[115]⟩:ByteArray),(⟨#[104,111,117,114]⟩:ByteArray)]:List ByteArray)):Sl ByteArray)),(x37,obS ((some ([900,3600,3600000]:List Int)):Sl Int)),(z393,obS (w394:Sl Note)),pZ9 o495 1 [kA3]]:=O500
  refine kAq he_q28 (kBj (⟨w384,w385,w386⟩:l00Src) 5 (O500.start (i:=0) rfl rfl)) (fun c501 v502 h503 hq504 => ?_)
  obtain ⟨e_v502,O505⟩:=hq504
  dsimp only at e_v502
  subst v502
  have O506:Hold B h503 [pZ9 o_ 3 [Sl.enc c501.2.code,iv c501.2.pos,AV.sc (.int .u64 c501.2.seed)],pZ9 o1 3 [kA3,kA3,kA3],(z387,obS (w388:Sl Channel)),pZ9 o21 3 [z387,z389,z393],(x27,obS ((some ([(⟨#[109,115]⟩:ByteArray),(⟨#[109,115]⟩:ByteArray),(⟨#[99,115]⟩:ByteArray),(⟨#[115]⟩:ByteArray),(⟨#[104,111,117,114]⟩:ByteArray)]:List ByteArray)):Sl ByteArray)),(x37,obS ((some ([900,3600,3600000]:List Int)):Sl Int)),(z393,obS (w394:Sl Note)),pZ9 o495 1 [kA3]]:=O500.merge (i:=0) rfl rfl O505
  refine kA1 (kAg _ _) ?_
  have O507:Hold B h503 ([pZ9 o_ 3 [Sl.enc c501.2.code,iv c501.2.pos,AV.sc (.int .u64 c501.2.seed)],pZ9 o1 3 [kA3,kA3,kA3],(z387,obS (w388:Sl Channel)),pZ9 o21 3 [z387,z389,z393],(x27,obS ((some ([(⟨#[109,115]⟩:ByteArray),(⟨#[109,115]⟩:ByteArray),(⟨#[99,115]⟩:ByteArray),(⟨#[115]⟩:ByteArray),(⟨#[104,111,117,114]⟩:ByteArray)]:List ByteArray)):Sl ByteArray)),(x37,obS ((some ([900,3600,3600000]:List Int)):Sl Int)),(z393,obS (w394:Sl Note)),pZ9 o495 1 [kA3]]++D2 (A:=(Sl Int)) kA3 (none:PS (Sl Int))):=O506.addnil
  refine kBe ((tl6_q33 env he_q24 he_q25 he_q27 he_q28 he_q29 o_ o1 c5 c11 x17 o21 x27 c31 x37 c41 x47 x52 c59 x66 x71 c78 c368 c374 z387 w388 z389 z393 w394 w398 o495 c501) ⟨_,_,rfl,(rfl:pj (none:PS (Sl Int))=(none:Sl (Sl Int))),O507⟩) (fun qq641 r hq => ?_)
  obtain ⟨q522,q523,q524,q526,q529⟩:=qq641
  obtain ⟨q530,z525,z531,ps527,h520,rfl,hp528,O521⟩:=hq
  rw [e_lk6x2_q33]
  refine kA1 (v:=AV.ptr o21 1 0 1) rfl ?_
  refine kA1 (v:=z389) (O521.ld 3 rfl false 1 1) ?_
  refine kA1 (v:=AV.agg [z525]) (O521.ld 7 rfl true 1 0) ?_
  have jZ0:=D2.oneX (l:=[pZ9 o_ 3 [Sl.enc q522,iv q523,AV.sc (.int .u64 q524)],pZ9 o1 3 [kA3,kA3,kA3],(z387,obS (w388:Sl Channel)),pZ9 o21 3 [z387,z389,z393],(x27,obS ((some ([(⟨#[109,115]⟩:ByteArray),(⟨#[109,115]⟩:ByteArray),(⟨#[99,115]⟩:ByteArray),(⟨#[115]⟩:ByteArray),(⟨#[104,111,117,114]⟩:ByteArray)]:List ByteArray)):Sl ByteArray)),(x37,obS ((some ([900,3600,3600000]:List Int)):Sl Int)),(z393,obS (w394:Sl Note)),pZ9 o495 1 [z525]]) (x:=z525) (ps:=ps527) (A:=(Sl Int)) O521
  refine kBn O521 [[z525]] 1 rfl (by first | rfl | simp [kAk,kBz,jZ0.1,jZ0.2]) rfl (fun x532 h533 O534 => ?_)
  replace O534:Hold B h533 ([pZ9 o_ 3 [Sl.enc q522,iv q523,AV.sc (.int .u64 q524)],pZ9 o1 3 [kA3,kA3,kA3],(z387,obS (w388:Sl Channel)),pZ9 o21 3 [z387,z389,z393],(x27,obS ((some ([(⟨#[109,115]⟩:ByteArray),(⟨#[109,115]⟩:ByteArray),(⟨#[99,115]⟩:ByteArray),(⟨#[115]⟩:ByteArray),(⟨#[104,111,117,114]⟩:ByteArray)]:List ByteArray)):Sl ByteArray)),(x37,obS ((some ([900,3600,3600000]:List Int)):Sl Int)),(z393,obS (w394:Sl Note)),pZ9 o495 1 [z525],(x532,.sl 1 [[z525]])]++D2 (A:=(Sl Int)) z525 ps527):=Hold.rot O534
  have O536:Hold B h533 ([pZ9 o_ 3 [Sl.enc q522,iv q523,AV.sc (.int .u64 q524)],pZ9 o1 3 [kA3,kA3,kA3],(z387,obS (w388:Sl Channel)),pZ9 o21 3 [z387,z389,z393],(x27,obS ((some ([(⟨#[109,115]⟩:ByteArray),(⟨#[109,115]⟩:ByteArray),(⟨#[99,115]⟩:ByteArray),(⟨#[115]⟩:ByteArray),(⟨#[104,111,117,114]⟩:ByteArray)]:List ByteArray)):Sl ByteArray)),(x37,obS ((some ([900,3600,3600000]:List Int)):Sl Int)),(z393,obS (w394:Sl Note)),pZ9 o495 1 [z525],(x532,.sl 1 [[z525]])]++D2 (A:=(Sl Int)) z525 ps527):=O534.selD [0,1,2,3,4,5,6,7,8] (by decide) rfl
  refine kG0 (l:=[pZ9 o_ 3 [Sl.enc q522,iv q523,AV.sc (.int .u64 q524)],pZ9 o1 3 [kA3,kA3,kA3],(z387,obS (w388:Sl Channel)),pZ9 o21 3 [z387,z389,z393],(x27,obS ((some ([(⟨#[109,115]⟩:ByteArray),(⟨#[109,115]⟩:ByteArray),(⟨#[99,115]⟩:ByteArray),(⟨#[115]⟩:ByteArray),(⟨#[104,111,117,114]⟩:ByteArray)]:List ByteArray)):Sl ByteArray)),(x37,obS ((some ([900,3600,3600000]:List Int)):Sl Int)),(z393,obS (w394:Sl Note)),pZ9 o495 1 [z525]]) (t:=x532) (y:=z525) (ps:=ps527) (s:=w390) hT391 O536 hp528 (by decide) (fun B x537 h538 hT540 O539 => ?_)
  refine kA1 (v:=AV.ptr o21 1 0 1) rfl ?_
  refine kAj O539 3 (cs':=[z387,x537,z393]) rfl (by first | rfl | simp [((kAy hT540).one O539).1,((kAy hT540).one O539).2]) (by simp) (by first | rfl | simp [((kAy hT540).one O539).1,((kAy hT540).one O539).2]) (by first | rfl | simp [kAo,((kAy hT540).one O539).1,((kAy hT540).one O539).2]) (fun h542 O543 => ?_)
  replace O543:Hold B h542 [pZ9 o_ 3 [Sl.enc q522,iv q523,AV.sc (.int .u64 q524)],pZ9 o1 3 [kA3,kA3,kA3],(z387,obS (w388:Sl Channel)),pZ9 o21 3 [z387,x537,z393],(x27,obS ((some ([(⟨#[109,115]⟩:ByteArray),(⟨#[109,115]⟩:ByteArray),(⟨#[99,115]⟩:ByteArray),(⟨#[115]⟩:ByteArray),(⟨#[104,111,117,114]⟩:ByteArray)]:List ByteArray)):Sl ByteArray)),(x37,obS ((some ([900,3600,3600000]:List Int)):Sl Int)),(z393,obS (w394:Sl Note)),pZ9 o495 1 [z525]]:=O543
  refine kA1 (kAt _ _) ?_
  have O544:Hold B h542 [pZ9 o_ 3 [Sl.enc q522,iv q523,AV.sc (.int .u64 q524)],pZ9 o1 3 [kA3,kA3,kA3],(z387,obS (w388:Sl Channel)),pZ9 o21 3 [z387,x537,z393],(x27,obS ((some ([(⟨#[109,115]⟩:ByteArray),(⟨#[109,115]⟩:ByteArray),(⟨#[99,115]⟩:ByteArray),(⟨#[115]⟩:ByteArray),(⟨#[104,111,117,114]⟩:ByteArray)]:List ByteArray)):Sl ByteArray)),(x37,obS ((some ([900,3600,3600000]:List Int)):Sl Int)),(z393,obS (w394:Sl Note))]:=O543.sel [0,1,2,3,4,5,6] (by decide) rfl
  exact kA6 ⟨rfl,_,_,_,_,_,rfl,hT540,O544⟩
 ·exact kA6 ⟨nofun,_,_,_,_,_,_,_,_,_,_,rfl,hT391,O396⟩
theorem tl9_q33 (env:Nat→Contract) {B:Base} (he_q24:env kEl=.pure (T2 (fun a b:Int=>max a b))) (he_q25:env kDd=.gen (kAf Try.prog kE5 kDd)) (he_q27:env kCf=.gen (kAf Try.prog kE7 kCf)) (he_q28:env kB1=.gen (kAf Try.prog kC8 kB1)) (he_q29:env kCd=.gen (kAf Try.prog kCz kCd)) (o_:Nat) (o1:Nat) (c5:Int×l00Src) (c11:Int×l00Src) (x17:AV) (o21:Nat) (x27:AV) (c31:ByteArray×l00Src) (x37:AV) (c41:Int×l00Src) (x47:AV) (x52:AV) (c59:Bool×l00Src) (c645:Bool×l00Src) (m653:Nat) (c658:Int×l00Src) (c664:Int×l00Src) (z697:AV) (q698:Sl FRows) (q703:Int) (q704:Int) (z705:AV) (z706:AV) (z707:AV) (c708:Int×l00Src) :kGr (fun (st:(Sl UInt8)×Int×Int×(Sl Channel)×(Sl Note)×Int) tm h721=>match st with | (w714,w715,w716,w718,w720,w723)=>∃ z717 z719,tm=((AV.ptr o_ 1 0 0)::und::(AV.ptr o1 1 0 0)::(AV.ptr o21 1 0 0)::(sv c31.1)::(iv q703)::(iv q704)::z705::z706::z707::(iv (((q698.getD []).length:Nat):Int))::(iv w723)::.top::(AV.ptr o_ 1 0 0)::(iv c5.1)::(iv (wr (c5.1 - 4)))::(AV.ptr o_ 1 0 0)::(iv c11.1)::(iv (wr (100+c11.1)))::(AV.agg [sv (⟨#[120]⟩:ByteArray),sv (⟨#[109,109]⟩:ByteArray),iv (wr (c5.1 - 4)),iv (wr (100+c11.1))])::(AV.agg [sv (⟨#[121]⟩:ByteArray),sv (⟨#[109,109]⟩:ByteArray),iv (-50),iv 90])::x17::(AV.agg [x17,kA3,kA3])::(AV.ptr o_ 1 0 0)::x27::(sv c31.1)::(AV.ptr o21 1 0 0)::x17::(sv c31.1)::(AV.ptr o_ 1 0 0)::x37::(iv c41.1)::(AV.agg [sv (⟨#[116]⟩:ByteArray),sv c31.1,iv 0,iv c41.1])::x47::x52::(AV.ptr o21 1 0 0)::(AV.ptr o_ 1 0 0)::(bv c59.1)::und::und::und::und::und::und::(AV.ptr o_ 1 0 0)::(bv c645.1)::(AV.ptr o21 1 0 0)::x52::(elp x52 m653 0)::(elp x52 m653 0)::(AV.ptr o_ 1 0 0)::(iv c658.1)::(AV.ptr o_ 1 0 0)::(iv c664.1)::.top::.top::.top::.top::.top::.top::.top::.top::.top::.top::.top::.top::.top::.top::.top::.top::.top::.top::.top::.top::.top::.top::.top::.top::.top::.top::.top::.top::.top::.top::.top::.top::.top::.top::.top::.top::.top::.top::.top::.top::.top::.top::.top::.top::.top::.top::.top::.top::.top::.top::.top::(AV.ptr o21 1 0 1)::z697::(iv (((q698.getD []).length:Nat):Int))::(AV.ptr o_ 1 0 0)::(iv c708.1)::tZ9 29 [und])∧Hold B h721 [pZ9 o_ 3 [Sl.enc w714,iv w715,AV.sc (.int .u64 w716)],pZ9 o1 3 [kA3,kA3,kA3],(z717,obS (w718:Sl Channel)),pZ9 o21 3 [z717,z697,z719],(x27,obS ((some ([(⟨#[109,115]⟩:ByteArray),(⟨#[109,115]⟩:ByteArray),(⟨#[99,115]⟩:ByteArray),(⟨#[115]⟩:ByteArray),(⟨#[104,111,117,114]⟩:ByteArray)]:List ByteArray)):Sl ByteArray)),(x37,obS ((some ([900,3600,3600000]:List Int)):Sl Int)),(z719,obS (w720:Sl Note))]) hm9_q33 xm9_q33 (lb9_q33 env) (s9_q33 q698) (fun (q:(Sl UInt8)×Int×Int×(Sl Channel)×(Sl Note)) (r:Res)=>match q with | (q726,q727,q728,q730,q732)=>∃ (q733:Int) (z729:AV) (z731:AV) (z734:AV) (h724:kA7),r=(.exit 4,((AV.ptr o_ 1 0 0)::und::(AV.ptr o1 1 0 0)::(AV.ptr o21 1 0 0)::(sv c31.1)::(iv q703)::(iv q704)::z705::z706::z707::(iv (((q698.getD []).length:Nat):Int))::(iv q733)::z734::(AV.ptr o_ 1 0 0)::(iv c5.1)::(iv (wr (c5.1 - 4)))::(AV.ptr o_ 1 0 0)::(iv c11.1)::(iv (wr (100+c11.1)))::(AV.agg [sv (⟨#[120]⟩:ByteArray),sv (⟨#[109,109]⟩:ByteArray),iv (wr (c5.1 - 4)),iv (wr (100+c11.1))])::(AV.agg [sv (⟨#[121]⟩:ByteArray),sv (⟨#[109,109]⟩:ByteArray),iv (-50),iv 90])::x17::(AV.agg [x17,kA3,kA3])::(AV.ptr o_ 1 0 0)::x27::(sv c31.1)::(AV.ptr o21 1 0 0)::x17::(sv c31.1)::(AV.ptr o_ 1 0 0)::x37::(iv c41.1)::(AV.agg [sv (⟨#[116]⟩:ByteArray),sv c31.1,iv 0,iv c41.1])::x47::x52::(AV.ptr o21 1 0 0)::(AV.ptr o_ 1 0 0)::(bv c59.1)::und::und::und::und::und::und::(AV.ptr o_ 1 0 0)::(bv c645.1)::(AV.ptr o21 1 0 0)::x52::(elp x52 m653 0)::(elp x52 m653 0)::(AV.ptr o_ 1 0 0)::(iv c658.1)::(AV.ptr o_ 1 0 0)::(iv c664.1)::.top::.top::.top::.top::.top::.top::.top::.top::.top::.top::.top::.top::.top::.top::.top::.top::.top::.top::.top::.top::.top::.top::.top::.top::.top::.top::.top::.top::.top::.top::.top::.top::.top::.top::.top::.top::.top::.top::.top::.top::.top::.top::.top::.top::.top::.top::.top::.top::.top::.top::.top::(AV.ptr o21 1 0 1)::z697::(iv (((q698.getD []).length:Nat):Int))::(AV.ptr o_ 1 0 0)::(iv c708.1)::tZ9 29 [und]),h724)∧Hold B h724 [pZ9 o_ 3 [Sl.enc q726,iv q727,AV.sc (.int .u64 q728)],pZ9 o1 3 [kA3,kA3,kA3],(z729,obS (q730:Sl Channel)),pZ9 o21 3 [z729,z697,z731],(x27,obS ((some ([(⟨#[109,115]⟩:ByteArray),(⟨#[109,115]⟩:ByteArray),(⟨#[99,115]⟩:ByteArray),(⟨#[115]⟩:ByteArray),(⟨#[104,111,117,114]⟩:ByteArray)]:List ByteArray)):Sl ByteArray)),(x37,obS ((some ([900,3600,3600000]:List Int)):Sl Int)),(z731,obS (q732:Sl Note))]):=by
 refine @kH3 _ _ _ _ _ _ _ _ (fun st tm h721 R => ?_)
 obtain ⟨w714,w715,w716,w718,w720,w723⟩:=st
 obtain ⟨z717,z719,rfl,O722⟩:=R
 rw [e_lb9_q33]
 unfold s9_q33
 dsimp only
 refine kA1 (kBd _ _) ?_
 refine kBa (e:=bv) (fun hb741 => ?_) (fun c742 => ?_)
 ·refine kA1 (kBd _ _) ?_
  exact kA6 rfl
 ·refine kA1 (v:=bv (bif decide (0<w723) then c742 else false)) (kCh _ _ _) ?_
  refine kAa (fun c743 => ?_) (fun c743 => ?_)
  ·refine kAq he_q28 (kBj (⟨w714,w715,w716⟩:l00Src) (((q698.getD []).length:Nat):Int) (O722.start (i:=0) rfl rfl)) (fun c744 v745 h746 hq747 => ?_)
   obtain ⟨e_v745,O748⟩:=hq747
   dsimp only at e_v745
   subst v745
   have O749:Hold B h746 [pZ9 o_ 3 [Sl.enc c744.2.code,iv c744.2.pos,AV.sc (.int .u64 c744.2.seed)],pZ9 o1 3 [kA3,kA3,kA3],(z717,obS (w718:Sl Channel)),pZ9 o21 3 [z717,z697,z719],(x27,obS ((some ([(⟨#[109,115]⟩:ByteArray),(⟨#[109,115]⟩:ByteArray),(⟨#[99,115]⟩:ByteArray),(⟨#[115]⟩:ByteArray),(⟨#[104,111,117,114]⟩:ByteArray)]:List ByteArray)):Sl ByteArray)),(x37,obS ((some ([900,3600,3600000]:List Int)):Sl Int)),(z719,obS (w720:Sl Note))]:=O722.merge (i:=0) rfl rfl O748
   refine kA1 (v:=AV.ptr o21 1 0 2) rfl ?_
   refine kA1 (v:=z719) (O749.ld 3 rfl false 1 2) ?_
   refine kA1 (kAg _ _) ?_
   refine kA1 (kAt _ _) ?_
   refine kFa he_q28 (kC6 _ _) (kBj c744.2 (wr ((((q698.getD []).length:Nat):Int) - c744.1)) (O749.start (i:=0) rfl rfl)) (fun c750 v751 h752 hq753 hx756 => ?_)
   obtain ⟨e_v751,O754⟩:=hq753
   dsimp only at e_v751
   subst v751
   have O755:Hold B h752 [pZ9 o_ 3 [Sl.enc c750.2.code,iv c750.2.pos,AV.sc (.int .u64 c750.2.seed)],pZ9 o1 3 [kA3,kA3,kA3],(z717,obS (w718:Sl Channel)),pZ9 o21 3 [z717,z697,z719],(x27,obS ((some ([(⟨#[109,115]⟩:ByteArray),(⟨#[109,115]⟩:ByteArray),(⟨#[99,115]⟩:ByteArray),(⟨#[115]⟩:ByteArray),(⟨#[104,111,117,114]⟩:ByteArray)]:List ByteArray)):Sl ByteArray)),(x37,obS ((some ([900,3600,3600000]:List Int)):Sl Int)),(z719,obS (w720:Sl Note))]:=O749.merge (i:=0) rfl rfl O754
   refine kBk hx756 ?_
   refine kA1 (kAg _ _) ?_
   refine kB7 (A:=ByteArray) O755 ([(⟨#[119,111,114,100]⟩:ByteArray),(⟨#[97]⟩:ByteArray),(⟨#[120,45,50]⟩:ByteArray)]:List ByteArray) rfl (by first | rfl | simp [kAk,kBz]) rfl (fun x757 h758 O759 => ?_)
   replace O759:Hold B h758 [pZ9 o_ 3 [Sl.enc c750.2.code,iv c750.2.pos,AV.sc (.int .u64 c750.2.seed)],pZ9 o1 3 [kA3,kA3,kA3],(z717,obS (w718:Sl Channel)),pZ9 o21 3 [z717,z697,z719],(x27,obS ((some ([(⟨#[109,115]⟩:ByteArray),(⟨#[109,115]⟩:ByteArray),(⟨#[99,115]⟩:ByteArray),(⟨#[115]⟩:ByteArray),(⟨#[104,111,117,114]⟩:ByteArray)]:List ByteArray)):Sl ByteArray)),(x37,obS ((some ([900,3600,3600000]:List Int)):Sl Int)),(z719,obS (w720:Sl Note)),(x757,obS ((some ([(⟨#[119,111,114,100]⟩:ByteArray),(⟨#[97]⟩:ByteArray),(⟨#[120,45,50]⟩:ByteArray)]:List ByteArray)):Sl ByteArray))]:=O759
   refine kFa he_q29 (kCs _ _) (tg_q29 c750.2 (some ([(⟨#[119,111,114,100]⟩:ByteArray),(⟨#[97]⟩:ByteArray),(⟨#[120,45,50]⟩:ByteArray)]:List ByteArray)) (O759.tabK (A:=ByteArray) (s:=(some ([(⟨#[119,111,114,100]⟩:ByteArray),(⟨#[97]⟩:ByteArray),(⟨#[120,45,50]⟩:ByteArray)]:List ByteArray))) 7 0 rfl rfl rfl (by decide)) (O759.start (i:=0) rfl rfl)) (fun c761 v762 h763 hq764 hx767 => ?_)
   obtain ⟨e_v762,O765⟩:=hq764
   dsimp only at e_v762
   subst v762
   have O766:Hold B h763 [pZ9 o_ 3 [Sl.enc c761.2.code,iv c761.2.pos,AV.sc (.int .u64 c761.2.seed)],pZ9 o1 3 [kA3,kA3,kA3],(z717,obS (w718:Sl Channel)),pZ9 o21 3 [z717,z697,z719],(x27,obS ((some ([(⟨#[109,115]⟩:ByteArray),(⟨#[109,115]⟩:ByteArray),(⟨#[99,115]⟩:ByteArray),(⟨#[115]⟩:ByteArray),(⟨#[104,111,117,114]⟩:ByteArray)]:List ByteArray)):Sl ByteArray)),(x37,obS ((some ([900,3600,3600000]:List Int)):Sl Int)),(z719,obS (w720:Sl Note)),(x757,obS ((some ([(⟨#[119,111,114,100]⟩:ByteArray),(⟨#[97]⟩:ByteArray),(⟨#[120,45,50]⟩:ByteArray)]:List ByteArray)):Sl ByteArray))]:=O759.merge (i:=0) rfl rfl O765
   refine kBk hx767 ?_
   refine kA1 (v:=AV.agg [iv c744.1,iv (wr ((wr (c744.1+1))+c750.1)),sv c761.1]) (by first | rfl | simp [kBs,kEq,kAo]) ?_
   refine kB7 (A:=Note) O766 ([(⟨c744.1,wr ((wr (c744.1+1))+c750.1),c761.1⟩:Note)]:List Note) rfl (by first | rfl | simp [kAk,kBz]) rfl (fun x768 h769 O770 => ?_)
   replace O770:Hold B h769 [pZ9 o_ 3 [Sl.enc c761.2.code,iv c761.2.pos,AV.sc (.int .u64 c761.2.seed)],pZ9 o1 3 [kA3,kA3,kA3],(z717,obS (w718:Sl Channel)),pZ9 o21 3 [z717,z697,z719],(x27,obS ((some ([(⟨#[109,115]⟩:ByteArray),(⟨#[109,115]⟩:ByteArray),(⟨#[99,115]⟩:ByteArray),(⟨#[115]⟩:ByteArray),(⟨#[104,111,117,114]⟩:ByteArray)]:List ByteArray)):Sl ByteArray)),(x37,obS ((some ([900,3600,3600000]:List Int)):Sl Int)),(z719,obS (w720:Sl Note)),(x757,obS ((some ([(⟨#[119,111,114,100]⟩:ByteArray),(⟨#[97]⟩:ByteArray),(⟨#[120,45,50]⟩:ByteArray)]:List ByteArray)):Sl ByteArray)),(x768,obS ((some ([(⟨c744.1,wr ((wr (c744.1+1))+c750.1),c761.1⟩:Note)]:List Note)):Sl Note))]:=O770
   refine kBk ⟨⟨(kEo (v:=z719) (O749.ld 3 rfl false 1 2)),⟨(kEo (v:=z719) (O755.ld 3 rfl false 1 2)),⟨(kEo (v:=z719) (O759.ld 3 rfl false 1 2)),⟨(kEo (v:=z719) (O766.ld 3 rfl false 1 2)),⟨(kEo (v:=z719) (O770.ld 3 rfl false 1 2)),trivial⟩⟩⟩⟩⟩,trivial⟩ ?_
   refine kBw (A:=Note) (s:=w720) O770 6 ([(⟨c744.1,wr ((wr (c744.1+1))+c750.1),c761.1⟩:Note)]:List Note) rfl (O770.src (A:=Note) (s:=(some ([(⟨c744.1,wr ((wr (c744.1+1))+c750.1),c761.1⟩:Note)]:List Note))) 8 rfl) (by decide) (fun x773 h774 O775 => ?_)
   replace O775:Hold B h774 [pZ9 o_ 3 [Sl.enc c761.2.code,iv c761.2.pos,AV.sc (.int .u64 c761.2.seed)],pZ9 o1 3 [kA3,kA3,kA3],(z717,obS (w718:Sl Channel)),pZ9 o21 3 [z717,z697,z719],(x27,obS ((some ([(⟨#[109,115]⟩:ByteArray),(⟨#[109,115]⟩:ByteArray),(⟨#[99,115]⟩:ByteArray),(⟨#[115]⟩:ByteArray),(⟨#[104,111,117,114]⟩:ByteArray)]:List ByteArray)):Sl ByteArray)),(x37,obS ((some ([900,3600,3600000]:List Int)):Sl Int)),(x773,obS ((kB3 w720 ([(⟨c744.1,wr ((wr (c744.1+1))+c750.1),c761.1⟩:Note)]:List Note)):Sl Note)),(x757,obS ((some ([(⟨#[119,111,114,100]⟩:ByteArray),(⟨#[97]⟩:ByteArray),(⟨#[120,45,50]⟩:ByteArray)]:List ByteArray)):Sl ByteArray)),(x768,obS ((some ([(⟨c744.1,wr ((wr (c744.1+1))+c750.1),c761.1⟩:Note)]:List Note)):Sl Note))]:=O775
   have O777:Hold B h774 [pZ9 o_ 3 [Sl.enc c761.2.code,iv c761.2.pos,AV.sc (.int .u64 c761.2.seed)],pZ9 o1 3 [kA3,kA3,kA3],(z717,obS (w718:Sl Channel)),pZ9 o21 3 [z717,z697,z719],(x27,obS ((some ([(⟨#[109,115]⟩:ByteArray),(⟨#[109,115]⟩:ByteArray),(⟨#[99,115]⟩:ByteArray),(⟨#[115]⟩:ByteArray),(⟨#[104,111,117,114]⟩:ByteArray)]:List ByteArray)):Sl ByteArray)),(x37,obS ((some ([900,3600,3600000]:List Int)):Sl Int)),(x773,obS ((kB3 w720 ([(⟨c744.1,wr ((wr (c744.1+1))+c750.1),c761.1⟩:Note)]:List Note)):Sl Note)),(x757,obS ((some ([(⟨#[119,111,114,100]⟩:ByteArray),(⟨#[97]⟩:ByteArray),(⟨#[120,45,50]⟩:ByteArray)]:List ByteArray)):Sl ByteArray))]:=O775.sel [0,1,2,3,4,5,6,7] (by decide) rfl
   refine kA1 (v:=AV.ptr o21 1 0 2) rfl ?_
   have jZ0:=O777.one (A:=Note) (s:=(kB3 w720 ([(⟨c744.1,wr ((wr (c744.1+1))+c750.1),c761.1⟩:Note)]:List Note))) 6 rfl
   refine kAj O777 3 (cs':=[z717,z697,x773]) rfl (by first | rfl | simp [jZ0.1,jZ0.2]) (by simp) (by first | rfl | simp [jZ0.1,jZ0.2]) (by first | rfl | simp [kAo,jZ0.1,jZ0.2]) (fun h778 O779 => ?_)
   replace O779:Hold B h778 [pZ9 o_ 3 [Sl.enc c761.2.code,iv c761.2.pos,AV.sc (.int .u64 c761.2.seed)],pZ9 o1 3 [kA3,kA3,kA3],(z717,obS (w718:Sl Channel)),pZ9 o21 3 [z717,z697,x773],(x27,obS ((some ([(⟨#[109,115]⟩:ByteArray),(⟨#[109,115]⟩:ByteArray),(⟨#[99,115]⟩:ByteArray),(⟨#[115]⟩:ByteArray),(⟨#[104,111,117,114]⟩:ByteArray)]:List ByteArray)):Sl ByteArray)),(x37,obS ((some ([900,3600,3600000]:List Int)):Sl Int)),(x773,obS ((kB3 w720 ([(⟨c744.1,wr ((wr (c744.1+1))+c750.1),c761.1⟩:Note)]:List Note)):Sl Note)),(x757,obS ((some ([(⟨#[119,111,114,100]⟩:ByteArray),(⟨#[97]⟩:ByteArray),(⟨#[120,45,50]⟩:ByteArray)]:List ByteArray)):Sl ByteArray))]:=O779
   refine kBk trivial ?_
   refine kA1 (kAt _ _) ?_
   have O780:Hold B h778 [pZ9 o_ 3 [Sl.enc c761.2.code,iv c761.2.pos,AV.sc (.int .u64 c761.2.seed)],pZ9 o1 3 [kA3,kA3,kA3],(z717,obS (w718:Sl Channel)),pZ9 o21 3 [z717,z697,x773],(x27,obS ((some ([(⟨#[109,115]⟩:ByteArray),(⟨#[109,115]⟩:ByteArray),(⟨#[99,115]⟩:ByteArray),(⟨#[115]⟩:ByteArray),(⟨#[104,111,117,114]⟩:ByteArray)]:List ByteArray)):Sl ByteArray)),(x37,obS ((some ([900,3600,3600000]:List Int)):Sl Int)),(x773,obS ((kB3 w720 ([(⟨c744.1,wr ((wr (c744.1+1))+c750.1),c761.1⟩:Note)]:List Note)):Sl Note))]:=O779.sel [0,1,2,3,4,5,6] (by decide) rfl
   exact kA6 ⟨rfl,_,_,rfl,O780⟩
  ·exact kA6 ⟨nofun,_,_,_,_,_,rfl,O722⟩
end Go.Proofs.Ytjlbidpdiblmaaa
