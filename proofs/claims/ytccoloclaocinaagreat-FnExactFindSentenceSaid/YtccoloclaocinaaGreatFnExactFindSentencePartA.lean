import Derived.Test.YtccoloclaocinaaGreatFnExactFindSentenceGen
namespace Go.Proofs.YtccoloclaocinaaGreat
open Go Go.Eng Go.Eng.Cod
set_option maxRecDepth 100000
set_option linter.unusedVariables false
set_option linter.unusedSimpArgs false
theorem nil_ok:kCg Tryz.prog (kBx []):=E0
def kBb (a b c:Int):Bool:=decide (b≤a) && decide (a≤c)
theorem ok_q22:kAn Tryz.prog n_q22 (T3 kBb):=pureT3 nil_ok kBd hb_q22 fun a b c=>by
 simp [e_q22,kBb]
theorem ok_q75:kAn Tryz.prog kH5 (T3 kBb):=pureT3 nil_ok kBd hb_q75 fun a b c=>by
 simp [e_q75,kBb]
def validBox (b:Box):Bool:=kBb b.x1 0 b.x2 && kBb b.y1 0 b.y2 && decide (b.x2≤4095) && decide (b.y2≤4095)
theorem ok_q59:kAn Tryz.prog n_q59 (T1 fun b:Bigram=>b):=kJr E0 kBd hb_q59 fun b=>by
 simp [e_q59,kBx,kCd,kAa,cut,kAv,kAx,retL,resL,pack]
theorem ok_q26:kAn Tryz.prog n_q26 (T2 fun a b:Bigram=>decide (a=b)):=pureT2 E0 kBd hb_q26 fun a b=>by
 simp [e_q26,kBx,kCd,kAa,cut]
 obtain ⟨a0,a1,a2⟩:=a
 obtain ⟨b0,b1,b2⟩:=b
 simp
def names:List ByteArray:=[⟨#[110,111,110,101]⟩,⟨#[114,105,103,104,116]⟩,⟨#[97,98,111,118,101]⟩,⟨#[98,101,108,111,119]⟩,⟨#[117,112,112,101,114]⟩,⟨#[108,111,119,101,114]⟩,⟨#[105,110,115,105,100,101]⟩]
@[simp] theorem names_len:names.length=7:=rfl
def find (s:ByteArray):List ByteArray→Nat→Int
 | [],_=>-1
 | x::r,i=>bif decide (x=s) then (i:Int) else find s r (i+1)
def kFh (b:UInt8):Bool:=decide ((97:Int)≤(b.toNat:Int)) && decide ((b.toNat:Int)≤122)
theorem ok_q16:kAn Tryz.prog n_q16 (T1 kFh):=kJr E0 kBd hb_q16 fun b=>by
 simp [e_q16,kFh]
theorem ok_q76:kAn Tryz.prog kJl (T1 kFh):=kJr E0 kBd hb_q76 fun b=>by
 simp [e_q76,kFh]
def kG7 (s:ByteArray):Bool:=(bl s).all kFh && (decide (1≤s.size) && decide (s.size≤10))
theorem ok_q15:kAn Tryz.prog n_q15 (T1 fun y=>kBb y 0 1000000):=kJr (E1 ok_q22) kBd hb_q15 fun y=>by
 simp [e_q15,kBx]
def isFirst (s:ByteArray):Bool:=decide (s=⟨#[]⟩) || kG7 s
def kCl (b:Bigram):Bool:=kG7 b.second && (isFirst b.first && kBb b.cost 0 1000000)
def kC6 (a b:Bigram):Bool:=ltS a.first b.first || (decide (a.first=b.first) && ltS a.second b.second)
def beforeAt (l:List Bigram) (i j:Nat):Bool:=match l[i]?,l[j]? with
 | some a,some b=>kC6 a b
 | _,_=>false
def cmpS (a b:ByteArray):Int:=bif ltS a b then -1 else bif decide (a=b) then 0 else 1
theorem ok_q4:kAn Tryz.prog n_q4 (T1 fun _:ByteArray=>false):=kJr E0 kBd hb_q4 fun a=>by
 simp [e_q4]
theorem ok_q1:kAn Tryz.prog n_q1 (T2 cmpS):=pureT2 (E1 ok_q4) kBd hb_q1 fun a b=>by
 cases w1:ltS a b <;> by_cases w2:a=b <;> simp [e_q1,kBx,cmpS,w1,w2]
 all_goals simp_all
def orI:List Int→Int
 | []=>0
 | a::l=>bif decide (a=0) then orI l else a
theorem lp_q2 (env:Nat→Contract) {y0 y1 y4 y17:AV} (q:Sl Int) (hq:fit q=true) :
  (kA0 (kBf hm0_q2 xm0_q2 (lb0_q2 env) [y0,y1,.top,iv 0,y4,.top,Sl.enc q,iv ((q.getD []).length:Nat),iv 0,.top,.top,.top,.top,.top,.top,.top,.top,y17] []) fun r=>lk0_q2 env r.1 r.2.1 r.2.2)=some (iv (orI (q.getD [])),[]):=by
 have T:=lookT q (w:=1) rfl
 have L:=loop_over (q.getD []) (fit_max hq) (hmk:=hm0_q2) (xm:=xm0_q2) (body:=lb0_q2 env) (K:=fun r=>lk0_q2 env r.1 r.2.1 r.2.2) (σ:=Unit) (fun _ (i:Nat)=>[y0,y1,.top,iv 0,y4,.top,Sl.enc q,iv ((q.getD []).length:Nat),iv (i:Nat),.top,.top,.top,.top,.top,.top,.top,.top,y17]) (fun _=>[])
  (fun _ _=>True) (fun _ suf=>some (iv (orI suf),[]))
  (fun pre k suf u hl hi S=>by
   by_cases hk:k=0
   ·right
    refine ⟨(),trivial,?_,by simp [orI,hk]⟩
    rw [kBf.eq_1]
    simp [e_lb0_q2,T.len,T.idx,T.load,S.idx,S.lt,S.elt,cut,S.wr,hk,restr]
   ·left
    rw [kBf.eq_1]
    simp [e_lb0_q2,T.len,T.idx,T.load,S.idx,S.lt,S.elt,cut,S.wr,hk,restr,e_lk0r_q2,orI])
  (fun u hi=>by
   rw [kBf.eq_1]
   simp [e_lb0_q2,T.len,restr,e_lk0x0_q2,orI]) () trivial
 simpa using L
theorem ok_q2:kAn Tryz.prog n_q2 (G1 (fun q:Sl Int=>fit q) fun q=>iv (orI (q.getD []))) :=
 pureG1 E0 kBd hb_q2 fun q hq=>by
 have T:=lookT q (w:=1) rfl
 have L:=fun env {y0 y1 y4 y17}=>@lp_q2 env y0 y1 y4 y17 q hq
 simp [e_q2,T.len,L]
def cmpB (a b:Bigram):Int:=orI [cmpS a.first b.first,cmpS a.second b.second]
theorem cmpB_before (a b:Bigram):decide (0≤cmpB a b) = !kC6 a b:=by
 unfold cmpB kC6 cmpS orI orI orI
 cases ltS a.first b.first <;> by_cases h:a.first=b.first <;> cases ltS a.second b.second <;> by_cases h2:a.second=b.second <;> simp [h,h2]
theorem ok_q12:kAn Tryz.prog kJk (T2 cmpB):=pureT2 (E2 ok_q1 ok_q2) kBd hb_q12 fun a b=>by
 have S:=fun (M N:AObj)=>snapD_sl (A:=Int) [M,N,⟨1,[[iv (cmpS a.first b.first)],[iv (cmpS a.second b.second)]]⟩] (o:=2) (ep:=2) (n:=2) [cmpS a.first b.first,cmpS a.second b.second] rfl rfl rfl
 have f:fit (some [cmpS a.first b.first,cmpS a.second b.second]:Sl Int)=true:=rfl
 simp [e_q12,kBx,kCd,kAa,cut,kB0,kEp,kBy,S,f,cmpB]
theorem kEj:kAn Tryz.prog kCu (T2 kH8) :=
 pure_indexByte (fn:=Tryz.f105) Tryz.func105 (by kernel_rfl) (by kernel_rfl) (by kernel_rfl) (by kernel_rfl)
theorem ok_q24:kAn Tryz.prog n_q24 (T2 kH8):=pureT2 (E1 kEj) kBd hb_q24 fun s b=>by
 simp [e_q24,kBx]
def byte0 (t:ByteArray):UInt8:=(bl t).headD 0
theorem one_byte {t:ByteArray} (h:t.size=1):bl t=[byte0 t]:=by
 have:(bl t).length=1:=by rw [bl_len,h]
 match hb:bl t,this with
 | [b],_=>simp [byte0,hb]
theorem ok_q23:kAn Tryz.prog n_q23 (G2 (fun _ t:ByteArray=>decide (t.size=1)) fun s t=>iv (kH8 s (byte0 t))) :=
 pureG2 (E1 ok_q24) kBd hb_q23 fun s t h=>by
 have h1:t.size=1:=of_decide_eq_true h
 have h2:kB8 .str (sv t)=some (iv 1):=by rw [aLenK_str,h1];rfl
 have h3:kD9 .eql .plain (iv 1) (iv 0)=some (bv false):=rfl
 have h4:kD9 .eql .plain (iv 1) (iv 1)=some (bv true):=rfl
 have h5:kCz (sv t) (iv 0)=some (bt (byte0 t)):=by
  rw [idx_str,h1,one_byte h1]
  rfl
 rw [e_q23]
 simp only [enc_str,h2,kA4,h3,guardB_false,cond_false,kH6,kBn,aPick_bv,kGu]
 by_cases e:t=s
 ·subst e
  have e0:kH8 t (byte0 t)=0:=by
   obtain ⟨⟨l⟩⟩:=t
   match l,h1 with
   | [b],_=>
    show (match (List.range 1).find? (fun i=>(⟨#[b]⟩:ByteArray)[i]! == b) with | some i=>(i:Int) | none=>-1)=0
    have:((⟨#[b]⟩:ByteArray)[0]! == b)=true:=by
     have:(⟨#[b]⟩:ByteArray)[0]! = b:=rfl
     rw [this]
     simp
    simp [List.range_succ,this]
  simp only [decide_true,cond_true,kA4,release_iv,e0]
 ·simp only [e,decide_false,cond_false,h4,kA4,cond_true,h5]
  simp [kBx]
theorem ok_q98:kAn Tryz.prog n_q98 (G2 (fun _ t:ByteArray=>decide (t.size=1)) fun s t=>iv (kH8 s (byte0 t))) :=
 pureG2 (E1 ok_q23) kBd hb_q98 fun s t h=>by
 simp [e_q98,kBx,of_decide_eq_true h]
theorem ok_q97:kAn Tryz.prog n_q97 (G2 (fun _ t:ByteArray=>decide (t.size=1)) fun s t=>bv (decide (0≤kH8 s (byte0 t)))) :=
 pureG2 (E1 ok_q98) kBd hb_q97 fun s t h=>by
 simp [e_q97,kBx,of_decide_eq_true h]
def labelB (b:UInt8):Bool:=decide ((b.toNat:Int)=43) || (decide ((b.toNat:Int)=45) || (decide ((b.toNat:Int)=42) || (decide ((b.toNat:Int)=47) || (decide ((b.toNat:Int)=61) || (decide ((b.toNat:Int)=40) || (decide ((b.toNat:Int)=41) || (decide ((b.toNat:Int)=46) || (decide ((b.toNat:Int)=44) ||
 (kFh b || (decide ((48:Int)≤(b.toNat:Int)) && decide ((b.toNat:Int)≤57)))))))))))
def labelSet:ByteArray:=⟨#[48,49,50,51,52,53,54,55,56,57,43,45,42,47,61,40,41,46,44]⟩
theorem label_all:∀ n:Fin 256,(kFh (UInt8.ofNat n.val) || decide (0≤kH8 labelSet (UInt8.ofNat n.val)))=labelB (UInt8.ofNat n.val):=by decide +kernel
theorem label_eq (b:UInt8):(kFh b || decide (0≤kH8 labelSet b))=labelB b:=by
 have:=label_all ⟨b.toNat,b.toNat_lt⟩
 simpa using this
def kDk (s:ByteArray):Bool:=decide (s.size=1) && labelB (byte0 s)
theorem ok_q77:kAn Tryz.prog n_q77 (T1 labelB):=kJr (E1 ok_q76) kBd hb_q77 fun b=>by
 cases hw:kFh b <;> simp [e_q77,kBx,labelB,hw]
 all_goals cases decide ((48:Int)≤(b.toNat:Int)) <;> simp
 all_goals
  congr 1
  generalize decide ((b.toNat:Int)=43)=c43
  generalize decide ((b.toNat:Int)=45)=c45
  generalize decide ((b.toNat:Int)=42)=c42
  generalize decide ((b.toNat:Int)=47)=c47
  generalize decide ((b.toNat:Int)=61)=c61
  generalize decide ((b.toNat:Int)=40)=c40
  generalize decide ((b.toNat:Int)=41)=c41
  generalize decide ((b.toNat:Int)=46)=c46
  generalize decide ((b.toNat:Int)=44)=c44
  generalize decide ((b.toNat:Int)≤57)=d
  revert c43 c45 c42 c47 c61 c40 c41 c46 c44 d
  decide +kernel
theorem ok_q6:kAn Tryz.prog n_q6 (T1 kDk):=kJr (E2 ok_q16 ok_q97) kBd hb_q6 fun s=>by
 by_cases h1:s.size=1
 ·have h5:kCz (sv s) (iv 0)=some (bt (byte0 s)):=by
   rw [idx_str,h1,one_byte h1]
   rfl
  have hl:=label_eq (byte0 s)
  unfold labelSet at hl
  cases hw:kFh (byte0 s)
  ·rw [hw] at hl
   simp at hl
   simp [e_q6,kBx,h5,h1,hw,kDk,hl]
  ·rw [hw] at hl
   simp at hl
   simp [e_q6,kBx,h5,h1,hw,kDk,hl]
 ·have h2:¬ ((s.size:Nat):Int)=1:=by omega
  simp [e_q6,h2,h1,kDk]
theorem ok_q73:kAn Tryz.prog n_q73 (T1 kDk):=kJr (E1 ok_q77) kBd hb_q73 fun s=>by
 by_cases h1:s.size=1
 ·have h5:kCz (sv s) (iv 0)=some (bt (byte0 s)):=by
   rw [idx_str,h1,one_byte h1]
   rfl
  simp [e_q73,kBx,h5,h1,kDk]
 ·have h2:¬ ((s.size:Nat):Int)=1:=by omega
  simp [e_q73,h2,h1,kDk]
structure U64 where
 val:Nat
instance:Cod U64 where
 enc u:=.sc (.int .u64 (u.val:Int))
 dec | .sc (.int .u64 n)=>if 0≤n then some ⟨n.toNat⟩ else none
      | _=>none
 de u:=by simp
 ed x a h:=by
  split at h
  ·split at h
   ·rename_i n hn
    cases h
    simp only
    congr 2
    omega
   ·cases h
  ·cases h
theorem less_irr:∀ x:List UInt8,Op.bytesLess x x=false
 | []=>rfl
 | a::x=>by simp [Op.bytesLess,less_irr x]
theorem less_trans:∀ x y z:List UInt8,Op.bytesLess x y=true→Op.bytesLess y z=true→Op.bytesLess x z=true
 | _,_,[],_,h=>by cases ‹List UInt8› <;> simp [Op.bytesLess] at h
 | _,[],_::_,h,_=>by simp [Op.bytesLess] at h
 | [],_::_,_::_,_,_=>by simp [Op.bytesLess]
 | a::x,b::y,c::z,h1,h2=>by
  simp only [Op.bytesLess,Bool.or_eq_true,decide_eq_true_eq,Bool.and_eq_true,beq_iff_eq] at h1 h2 ⊢
  rcases h1 with h1 | ⟨rfl,h1⟩
  ·rcases h2 with h2 | ⟨rfl,h2⟩
   ·left
    rw [UInt8.lt_iff_toNat_lt] at *
    omega
   ·left;exact h1
  ·rcases h2 with h2 | ⟨rfl,h2⟩
   ·left;exact h2
   ·right;exact ⟨rfl,less_trans x y z h1 h2⟩
theorem kGr (a:ByteArray):ltS a a=false:=less_irr _
theorem kI3 {a b c:ByteArray} (h1:ltS a b=true) (h2:ltS b c=true):ltS a c=true:=less_trans _ _ _ h1 h2
theorem before_iff (a b:Bigram):kC6 a b=true↔ltS a.first b.first=true∨(a.first=b.first∧ltS a.second b.second=true):=by simp [kC6]
theorem before_trans {a b c:Bigram} (h1:kC6 a b=true) (h2:kC6 b c=true):kC6 a c=true:=by
 rw [before_iff] at *
 rcases h1 with h1 | ⟨e1,h1⟩
 ·rcases h2 with h2 | ⟨e2,h2⟩
  ·exact .inl (kI3 h1 h2)
  ·exact .inl (e2 ▸ h1)
 ·rcases h2 with h2 | ⟨e2,h2⟩
  ·exact .inl (e1 ▸ h2)
  ·exact .inr ⟨e1.trans e2,kI3 h1 h2⟩
def kGz (a b:Bigram):Bool:=decide (a.first=b.first) && decide (a.second=b.second)
theorem kKj {a b:Bigram} (h:kGz a b=true):kC6 a b=false:=by
 simp [kGz] at h
 simp [kC6,h.1,h.2,kGr]
theorem sameB_before {a b c:Bigram} (h:kGz b c=true):kC6 a b=kC6 a c:=by
 simp [kGz] at h
 simp [kC6,h.1,h.2]
theorem cmpB_zero (a b:Bigram):decide (cmpB a b=0)=kGz a b:=by
 unfold cmpB cmpS orI orI orI kGz
 by_cases h:a.first=b.first <;> by_cases h2:a.second=b.second
 ·simp [h,h2,kGr]
 ·cases ltS a.second b.second <;> simp [h,h2,kGr]
 ·cases ltS a.first b.first <;> simp [h]
 ·cases ltS a.first b.first <;> simp [h]
def srtB (l:List Bigram):Bool:=(List.range l.length).all fun i=>decide (i=0) || beforeAt l (i - 1) i
theorem srt_of {l:List Bigram} (h:srtB l=true):∀ (j i:Nat) (hj:j<l.length) (hi:i<j),kC6 (l[i]'(by omega)) l[j]=true:=by
 have h1:∀ i,i<l.length→i=0∨beforeAt l (i - 1) i=true:=by
  intro i hi
  have:=List.all_eq_true.1 h i (by simp [hi])
  simpa using this
 intro j
 induction j with
 | zero=>intro i hj hi;omega
 | succ j ih =>
  intro i hj hi
  have h2:kC6 (l[j]'(by omega)) l[j+1]=true:=by
   rcases h1 (j+1) hj with e | e
   ·omega
   ·have hj':j<l.length:=by omega
    simpa [beforeAt,hj,hj'] using e
  by_cases e:i=j
  ·subst e;exact h2
  ·exact before_trans (ih i (by omega) (by omega)) h2
def posB (l:List Bigram) (t:Bigram):Nat:=(l.takeWhile fun a=>kC6 a t).length
theorem pos_le (l:List Bigram) (t:Bigram):posB l t≤l.length:=(List.takeWhile_prefix _).length_le
theorem pos_ok {l:List Bigram} (h:srtB l=true) (t:Bigram) {m:Nat} (hm:m<l.length):kC6 l[m] t=decide (m<posB l t):=by
 have key:∀ (l:List Bigram) (p:Bigram→Bool) (m:Nat) (hm:m<l.length),m<(l.takeWhile p).length→p l[m]=true:=by
  intro l p
  induction l with
  | nil=>intro m hm;simp at hm
  | cons a l ih =>
   intro m hm hw
   cases hp:p a
   ·simp [hp] at hw
   ·cases m with
    | zero=>simpa using hp
    | succ m =>
     simp only [List.takeWhile_cons,hp,if_true,List.length_cons] at hw
     simpa using ih m (by simpa using hm) (by omega)
 have key2:∀ (l:List Bigram) (p:Bigram→Bool) (hm:(l.takeWhile p).length<l.length),p (l[(l.takeWhile p).length]'hm)=false:=by
  intro l p
  induction l with
  | nil=>intro hm;simp at hm
  | cons a l ih =>
   intro hw
   cases hp:p a
   ·simp [hp]
   ·have hw':(l.takeWhile p).length<l.length:=by
     simp only [List.takeWhile_cons,hp,if_true,List.length_cons] at hw
     omega
    simpa [hp] using ih hw'
 by_cases hp:m<posB l t
 ·rw [key l _ m hm hp]
  simp [hp]
 ·have hq:posB l t<l.length:=by omega
  have e:=key2 l (fun a=>kC6 a t) hq
  simp only [hp,decide_false]
  cases hb:kC6 l[m] t
  ·rfl
  ·exfalso
   by_cases e2:posB l t=m
   ·have:kC6 (l[posB l t]'hq) t=true:=by simpa [e2] using hb
    have e':kC6 (l[posB l t]'hq) t=false:=e
    rw [this] at e'
    cases e'
   ·have:=before_trans (srt_of h m (posB l t) hm (by omega)) hb
    have e':kC6 (l[posB l t]'hq) t=false:=e
    rw [this] at e'
    cases e'
def hitB (l:List Bigram) (t:Bigram):Bool:=match l[posB l t]? with
 | some b=>kGz b t
 | none=>false
theorem hit_find {l:List Bigram} (h:srtB l=true) (t:Bigram):l.find? (fun b=>kGz b t)=bif hitB l t then l[posB l t]? else none:=by
 unfold hitB
 by_cases hp:posB l t<l.length
 ·simp only [List.getElem?_eq_getElem hp]
  cases hs:kGz l[posB l t] t
  ·simp only [cond_false]
   rw [List.find?_eq_none]
   intro x hx
   obtain ⟨j,hj,rfl⟩:=List.getElem_of_mem hx
   intro hsame
   rcases Nat.lt_trichotomy j (posB l t) with e | e | e
   ·have h1:=pos_ok h t hj
    rw [kKj hsame] at h1
    simp [e] at h1
   ·subst e;rw [hs] at hsame;cases hsame
   ·have h1:=srt_of h j (posB l t) hj e
    rw [sameB_before hsame] at h1
    have h2:=pos_ok h t hp
    rw [h1] at h2
    simp at h2
  ·simp only [cond_true]
   rw [List.find?_eq_some_iff_getElem]
   refine ⟨hs,posB l t,hp,rfl,fun j hj => ?_⟩
   have h1:=pos_ok h t (m:=j) (by omega)
   cases hq:kGz l[j] t
   ·rfl
   ·rw [kKj hq] at h1
    simp [hj] at h1
 ·have e:l[posB l t]?=none:=List.getElem?_eq_none (by omega)
  rw [e]
  simp only [cond_false]
  rw [List.find?_eq_none]
  intro x hx
  obtain ⟨j,hj,rfl⟩:=List.getElem_of_mem hx
  intro hsame
  have h1:=pos_ok h t hj
  rw [kKj hsame] at h1
  have:j<posB l t:=by omega
  simp [this] at h1
def kAk (m:Model) (f s:ByteArray):Int:=match (m.bigrams.getD []).find? (fun b=>kGz b ⟨f,s,0⟩) with
 | some b=>b.cost
 | none=>m.default
theorem less_tri:∀ x y:List UInt8,Op.bytesLess x y=true∨x=y∨Op.bytesLess y x=true
 | [],[]=>.inr (.inl rfl)
 | [],_::_=>.inl rfl
 | _::_,[]=>.inr (.inr rfl)
 | a::x,b::y=>by
  unfold Op.bytesLess
  have h3:a<b∨a=b∨b<a:=by
   rcases Nat.lt_trichotomy a.toNat b.toNat with h | h | h
   ·exact .inl h
   ·exact .inr (.inl (UInt8.toNat_inj.1 h))
   ·exact .inr (.inr h)
  rcases h3 with h | h | h
  ·exact .inl (by simp [h])
  ·subst h
   rcases less_tri x y with k | k | k
   ·exact .inl (by simp [k])
   ·exact .inr (.inl (by rw [k]))
   ·exact .inr (.inr (by simp [k]))
  ·exact .inr (.inr (by simp [h]))
theorem ltS_tri (a b:ByteArray):ltS a b=true∨a=b∨ltS b a=true:=by
 rcases less_tri a.toList b.toList with h | h | h
 ·exact .inl h
 ·have:=beq_toList a b
  rw [h,beq_self_eq_true] at this
  exact .inr (.inl (of_decide_eq_true this.symm))
 ·exact .inr (.inr h)
abbrev WW:=ByteArray×ByteArray
def digT (k:Nat) (out:ByteArray):ByteArray:=if _h:k=0 then out else digT (k / 10) (⟨#[(48+k % 10).toUInt8]⟩++out)
termination_by k
decreasing_by omega
def kBr (k:Nat):ByteArray:=bif decide (k=0) then ⟨#[109,48]⟩ else ⟨#[109]⟩++digT k ⟨#[]⟩
theorem size_one (b:UInt8) (out:ByteArray):((⟨#[b]⟩:ByteArray)++out).size=1+out.size:=by
 rw [ByteArray.size_append]
 rfl
theorem add_str (a b:ByteArray) (h:a.size+b.size≤4294967296):kAu .add (sv a) (sv b)=some (sv (a++b)):=by
 have h0:kAu .add (sv a) (sv b)=(match (if ((a.size+b.size:Nat):Int)≤9223372036854775807 then some (Value.string (a++b)) else none) with | some v=>some (AV.sc v) | none=>none):=rfl
 rw [h0,if_pos (by omega)]
 rfl
theorem digT_size:∀ (k:Nat) (out:ByteArray),(digT k out).size≤k+out.size:=by
 intro k out
 induction k,out using digT.induct with
 | case1 out=>rw [digT];simp
 | case2 k out h ih =>
  rw [digT,dif_neg h]
  rw [size_one] at ih
  omega
def few (q:Sl Int):Bool:=decide ((q.getD []).length≤1000)
def mrow:List Bool→Nat→List AV
 | [],_=>[]
 | b::ks,k=>(bif b then sv (kBr k) else iv (k:Nat))::mrow ks (k+1)
def kFc (ks:List Bool):Nat→Nat→List (List AV)
 | _,0=>[]
 | k,m+1=>mrow ks k::kFc ks (k+ks.length) m
theorem set_same {h:kA9} {o:Nat} {x:AObj} (ho:h[o]?=some x):h.set o x=h:=by
 obtain ⟨hlt,e⟩:=List.getElem?_eq_some_iff.1 ho
 rw [← e]
 exact List.set_getElem_self hlt
theorem kE8 {h:kA9} {o n w i:Nat} {P S:List (List AV)} {r:List AV} (ho:h[o]?=some ⟨w,P++r::S⟩) (hi:i=P.length) (hn:P.length+(S.length+1)=n):kA8 w (.sl o n 0 n) (iv (i:Nat)) h=some (.ptr o n i 0):=by
 have i1:idx (iv (i:Int)) n=some i:=kHa (by omega)
 have hl:(P++r::S).length=n:=by simp;omega
 simp only [kA8,ho,hl,i1,and_self,if_true,Nat.zero_add]
theorem kDh {h:kA9} {o n w i j:Nat} {P S:List (List AV)} {r:List AV} {v:AV} (ho:h[o]?=some ⟨w,P++r::S⟩) (hi:i=P.length) (hn:P.length+(S.length+1)=n) (hv:v.cells=[v]) (hf:v.flat=true) (hj:j<r.length):kAv 1 (.ptr o n i j) v h=some (h.set o ⟨w,P++r.set j v::S⟩):=by
 have hl:(P++r::S).length=n:=by simp;omega
 have hg:(P++r::S)[i]?=some r:=by simp [hi]
 simp only [kAv,ho,hl,if_true,hg]
 rw [if_pos ⟨by rw [hv];rfl,by omega,by rw [hv];simp [hf]⟩]
 congr 3
 rw [hi,hv]
 have hs:kAx r j [v]=r.set j v:=by
  unfold kAx
  simp only [List.length_cons,List.length_nil,Nat.zero_add]
  exact (List.set_eq_take_append_cons_drop (l:=r) (i:=j) (a:=v)).symm ▸ (by simp [hj])
 rw [hs]
 simp
def cmpI (a b:Int):Int:=bif decide (a<b) then -1 else bif decide (b<a) then 1 else 0
theorem ok_q3:kAn Tryz.prog n_q3 (T1 fun _:Int=>false):=kJr E0 kBd hb_q3 fun a=>by
 simp [e_q3]
theorem ok_q0:kAn Tryz.prog n_q0 (T2 cmpI):=pureT2 (E1 ok_q3) kBd hb_q0 fun a b=>by
 by_cases w1:a<b <;> by_cases w2:b<a <;> simp [e_q0,kBx,cmpI,w1,w2]
theorem lp2_laws_markText (env:Nat→Contract) {y1 y2 y4 y5 y18 y19:AV}:∀ (k:Nat) (out:ByteArray) (h:kA9),k≤8589934592→k+out.size≤4000000000 →
  ((kA0 (kBf hm0_q48 xm0_q48 (lb0_q48 env) [iv (k:Nat),y1,y2,sv out,y4,y5,.top,.top,.top,.top,.top,.top,.top,.top,.top,.top,.top,.top,y18,y19] h) fun r=>lk0_q48 env r.1 r.2.1 r.2.2).map Prod.fst)=some (sv (⟨#[109]⟩++digT k out)):=by
 intro k out
 induction k,out using digT.induct with
 | case1 out =>
  intro h h1 h2
  rw [kBf.eq_1,digT]
  have hs:(⟨#[109]⟩:ByteArray).size=1:=rfl
  have ha:=add_str ⟨#[109]⟩ out (by omega)
  simp [e_lb0_q48,restr,e_lk0x0_q48,ha]
 | case2 k out hk ih =>
  intro h h1 h2
  have ih':=fun h=>ih h (by omega) (by rw [size_one];omega)
  have p:(0:Int)<(k:Int):=by omega
  have a1:(k:Int).tmod 10=((k % 10:Nat):Int):=by
   have:=Int.ofNat_tmod k 10
   exact this.symm
  have a2:wr (48+((k % 10:Nat):Int))=((48+k % 10:Nat):Int):=by rw [kC9 (by omega) (by omega)];omega
  have a3:kF6 .u8 (iv ((48+k % 10:Nat):Int))=some (bt (48+k % 10).toUInt8):=by
   have h0:kF6 .u8 (iv ((48+k % 10:Nat):Int))=some (.sc (.int .u8 (IntKind.u8.wrap ((48+k % 10:Nat):Int)))):=rfl
   rw [h0]
   unfold bt
   congr 3
  have a4:(k:Int).tdiv 10=((k / 10:Nat):Int):=(Int.ofNat_tdiv k 10).symm
  have a5:wr ((k / 10:Nat):Int)=((k / 10:Nat):Int):=kC9 (by omega) (by omega)
  have a6:∀ b:UInt8,∀ h:kA9,kB0 [.sc (.int .u8 0)] 1 [(0,bt b)] h=some (.sl h.length 1 0 1,h++[⟨1,[[bt b]]⟩]):=fun b h=>rfl
  have a7:∀ b:UInt8,∀ h:kA9,kF3 (.sl h.length 1 0 1) (h++[⟨1,[[bt b]]⟩])=some (sv ⟨#[b]⟩):=by
   intro b h
   have h0:kKk false 1 (.sl h.length 1 0 1) (h++[⟨1,[[bt b]]⟩])=some [[bt b]]:=by
    simp [kKk]
   unfold kF3
   rw [h0]
   have h1:kG2 [[bt b]]=some [b]:=by
    show (match kG2 [] with | some l=>some (((b.toNat:Int)).toNat.toUInt8::l) | none=>none)=_
    simp [kG2]
   show (match kG2 [[bt b]] with | some l=>some (AV.sc (Value.string ⟨l.toArray⟩)) | none=>none)=_
   rw [h1]
   rfl
  have a8:=add_str ⟨#[(48+k % 10).toUInt8]⟩ out (by have:(⟨#[(48+k % 10).toUInt8]⟩:ByteArray).size=1:=rfl;omega)
  rw [kBf.eq_1,digT,dif_neg hk]
  simp only [e_lb0_q48,kDa,kA4,kGu,p,decide_true,cond_true,aBin_rem _ 10 (by decide),a1,kAj,a2,a3,a6,kBn,a7,a8,aBin_quo _ 10 (by decide),a4,a5,restr,cond_false]
  exact ih' _
theorem kDw:kAn Tryz.prog kDt (G1 (fun k:Int=>decide (0≤k) && decide (k≤100000000)) fun k=>sv (kBr k.toNat)) :=
 pureG1 E0 kBd hb_q48 fun k h=>by
 simp at h
 obtain ⟨m,rfl⟩:=Int.eq_ofNat_of_zero_le h.1
 refine plain_of rfl ?_
 by_cases hz:m=0
 ·subst hz
  simp [e_q48,kBr]
 ·have hz':¬ ((m:Nat):Int)≤0:=by omega
  have hs:(⟨#[]⟩:ByteArray).size=0:=rfl
  have L:=fun env {y1 y2 y4 y5 y18 y19} h=>@lp2_laws_markText env y1 y2 y4 y5 y18 y19 m ⟨#[]⟩ h (by omega) (by omega)
  rw [e_q48]
  simp only [enc_int,kFn,kA4,kGu,hz',decide_false,cond_false,L,Int.toNat_natCast,kBr,hz]
def t_q51 (a_:Edg) (left_:Int):Option Int :=
 bif decide ((wr (left_ - (a_.label.size:Int)))<0) then
  some (-1)
 else
  some (wr (left_ - (a_.label.size:Int)))
theorem ts_q51 (env:Nat→Contract)  (a_:Edg) (left_:Int):Sim (kAm Tryz.prog env n_q51 [AV.agg [iv a_.frm,iv a_.upto,sv a_.label,iv a_.cost],iv left_] []) (t_q51 a_ left_) fun c p=>release p.2 depth p.1=some ((fun c:Int=>enc c) c):=by
 have O:=Hold.nil []
 generalize hB:(⟨[],[]⟩:Base)=B at O
 clear hB
 rw [e_q51]
 unfold t_q51
 refine kAs O (cs:=[iv a_.frm,iv a_.upto,sv a_.label,iv a_.cost]) (by first | rfl | simp) (fun o1 h2 O3 => ?_)
 replace O3:Hold B h2 [pZ9 o1 4 [iv a_.frm,iv a_.upto,sv a_.label,iv a_.cost]]:=O3
 refine kA1 (v:=AV.ptr o1 1 0 2) rfl ?_
 refine kA1 (v:=sv a_.label) (O3.ld 0 rfl false 1 2) ?_
 refine kA1 (v:=iv (a_.label.size:Int)) rfl ?_
 refine kA1 (kCa _ _) ?_
 refine kA1 (kAl _ _) ?_
 refine kAb (fun c5 => ?_) (fun c5 => ?_)
 ·exact kA6 (kA5 (by rfl) _)
 ·exact kA6 (kA5 (by rfl) _)
theorem tt_q51:kAn Tryz.prog n_q51 (C2 (fun c:Int=>enc c) t_q51):=kCe E0 kBd hb_q51 fun a_ left_=>ts_q51 _  a_ left_
def s0_q52 (a_:Sl Edg):(Int×Int)→Option (Sum (Int×Int) (Sum Int Int)):=fun (w4,w5) =>
 bif decide (w5<(((a_.getD []).length:Nat):Int)) then
  kA0 (kC7 (a_.getD []) w5) fun a17 =>
  kA0 (t_q51 a17 w4) fun c21 =>
  bif decide (c21<0) then
   some (.inr (.inr (-1)))
  else
   some (.inl (c21,wr (w5+1)))
 else
  some (.inr (.inl w4))
def t_q52 (a_:Sl Edg) (left_:Int):Option Int :=
 bif decide ((wr (left_ - (((a_.getD []).length:Nat):Int)))<0) then
  some (-1)
 else
  kA0 (kBg (s0_q52 a_) (wr (left_ - (((a_.getD []).length:Nat):Int)),0)) fun qq27=>match qq27 with
  | (.inl q8) =>
    some q8
  | (.inr q14) =>
    some q14
theorem tl0_q52 (env:Nat→Contract) {B:Base} (he_q51:env n_q51=.pure (C2 (fun c:Int=>enc c) t_q51)) (a_:Sl Edg) (left_:Int) :kFq (fun (st:Int×Int) tm h2=>match st with | (w4,w5)=>tm=((Sl.enc a_)::(iv w4)::und::und::.top::(iv w5)::(iv left_)::(Sl.enc a_)::(iv (((a_.getD []).length:Nat):Int))::(iv (wr (left_ - (((a_.getD []).length:Nat):Int))))::(iv (wr (left_ - (((a_.getD []).length:Nat):Int))))::(bv (decide ((wr (left_ - (((a_.getD []).length:Nat):Int)))<0)))::tZ9 14 [und])∧Hold B h2 []) hm0_q52 xm0_q52 (lb0_q52 env) (s0_q52 a_) (fun (q:Sum Int Int) (r:Res)=>match q with | .inl q8=>∃ (q10:Int) (z9:AV) (h6:kA9),r=(.exit 0,((Sl.enc a_)::(iv q8)::und::und::z9::(iv q10)::(iv left_)::(Sl.enc a_)::(iv (((a_.getD []).length:Nat):Int))::(iv (wr (left_ - (((a_.getD []).length:Nat):Int))))::(iv (wr (left_ - (((a_.getD []).length:Nat):Int))))::(bv (decide ((wr (left_ - (((a_.getD []).length:Nat):Int)))<0)))::tZ9 14 [und]),h6)∧Hold B h6 [] | .inr q14=>∃ (q13:Int) (q15:Int) (h11:kA9),r=(.ret,((Sl.enc a_)::(iv q13)::und::und::(iv q14)::(iv q15)::(iv left_)::(Sl.enc a_)::(iv (((a_.getD []).length:Nat):Int))::(iv (wr (left_ - (((a_.getD []).length:Nat):Int))))::(iv (wr (left_ - (((a_.getD []).length:Nat):Int))))::(bv (decide ((wr (left_ - (((a_.getD []).length:Nat):Int)))<0)))::tZ9 14 [und]),h11)∧Hold B h11 []):=by
 refine @kG0 _ _ _ _ _ _ _ _ (fun st tm h2 R => ?_)
 obtain ⟨w4,w5⟩:=st
 obtain ⟨rfl,O3⟩:=R
 rw [e_lb0_q52]
 unfold s0_q52
 dsimp only
 refine kA1 (Tab.enc h2 a_).len ?_
 refine kA1 (kAl _ _) ?_
 refine kAb (fun c16 => ?_) (fun c16 => ?_)
 ·refine kAr (Tab.enc h2 a_) (fun m18 a17 hi19 hm20 => ?_)
  refine kA1 (v:=AV.agg [iv a17.frm,iv a17.upto,sv a17.label,iv a17.cost]) ((Tab.enc h2 a_).ld hm20 true 4 0) ?_
  refine kBo he_q51 (kAz _ a17 rfl) (kAy _ _) (fun c21 => ?_)
  refine kAq (kAc (by rfl) _ _) ?_
  refine kA1 (kAl _ _) ?_
  refine kAb (fun c22 => ?_) (fun c22 => ?_)
  ·exact kA6 ⟨nofun,_,_,_,rfl,O3⟩
  ·refine kA1 (kAj _ _) ?_
   exact kA6 ⟨rfl,rfl,O3⟩
 ·exact kA6 ⟨nofun,_,_,_,rfl,O3⟩
theorem ts_q52 (env:Nat→Contract) (he_q51:env n_q51=.pure (C2 (fun c:Int=>enc c) t_q51)) (a_:Sl Edg) (left_:Int):Sim (kAm Tryz.prog env n_q52 [Sl.enc a_,iv left_] []) (t_q52 a_ left_) fun c p=>release p.2 depth p.1=some ((fun c:Int=>enc c) c):=by
 have O:=Hold.nil []
 generalize hB:(⟨[],[]⟩:Base)=B at O
 clear hB
 rw [e_q52]
 unfold t_q52
 refine kA1 (v:=iv (((a_.getD []).length:Nat):Int)) (Tab.enc [] a_).len ?_
 refine kA1 (kCa _ _) ?_
 refine kA1 (kAl _ _) ?_
 refine kAb (fun c1 => ?_) (fun c1 => ?_)
 ·exact kA6 (kA5 (by rfl) _)
 ·refine kB6 ((tl0_q52 env he_q51 a_ left_) ⟨rfl,O⟩) (fun qq27 r hq => ?_)
  rcases qq27 with q8 | q14
  ·obtain ⟨q10,z9,h6,rfl,O7⟩:=hq
   rw [e_lk0x0_q52]
   exact kA6 (kA5 (by rfl) _)
  ·obtain ⟨q13,q15,h11,rfl,O12⟩:=hq
   rw [e_lk0r_q52]
   exact kA6 (kA5 (by rfl) _)
theorem tt_q52:kAn Tryz.prog n_q52 (C2 (fun c:Int=>enc c) t_q52):=kCe (kBc tt_q51 E0) kBd hb_q52 fun a_ left_=>ts_q52 _ (by simp [kBx]) a_ left_
def t_q55 (a_:Lattice) (left_:Int):Option Int :=
 kA0 (t_q52 a_.edges left_) fun c5 =>
 bif decide (c5<0) then
  some (-1)
 else
  some c5
theorem ts_q55 (env:Nat→Contract) (he_q52:env n_q52=.pure (C2 (fun c:Int=>enc c) t_q52)) (a_:Lattice) (left_:Int):Sim (kAm Tryz.prog env n_q55 [AV.agg [iv a_.nodes,Sl.enc a_.edges],iv left_] []) (t_q55 a_ left_) fun c p=>release p.2 depth p.1=some ((fun c:Int=>enc c) c):=by
 have O:=Hold.nil []
 generalize hB:(⟨[],[]⟩:Base)=B at O
 clear hB
 rw [e_q55]
 unfold t_q55
 refine kAs O (cs:=[iv a_.nodes,Sl.enc a_.edges]) (by first | rfl | simp) (fun o1 h2 O3 => ?_)
 replace O3:Hold B h2 [pZ9 o1 2 [iv a_.nodes,Sl.enc a_.edges]]:=O3
 refine kA1 (v:=AV.ptr o1 1 0 1) rfl ?_
 refine kA1 (v:=Sl.enc a_.edges) (O3.ld 0 rfl false 1 1) ?_
 refine kBo he_q52 (kBp _ _) (kAy _ _) (fun c5 => ?_)
 refine kAq (kAc (by rfl) _ _) ?_
 refine kA1 (kAl _ _) ?_
 refine kAb (fun c6 => ?_) (fun c6 => ?_)
 ·exact kA6 (kA5 (by rfl) _)
 ·exact kA6 (kA5 (by rfl) _)
theorem tt_q55:kAn Tryz.prog n_q55 (C2 (fun c:Int=>enc c) t_q55):=kCe (kBc tt_q52 E0) kBd hb_q55 fun a_ left_=>ts_q55 _ (by simp [kBx]) a_ left_
def s0_q56 (a_:Sl Lattice):(Int×Int)→Option (Sum (Int×Int) (Sum Int Int)):=fun (w4,w5) =>
 bif decide (w5<(((a_.getD []).length:Nat):Int)) then
  kA0 (kC7 (a_.getD []) w5) fun a17 =>
  kA0 (t_q55 a17 w4) fun c21 =>
  bif decide (c21<0) then
   some (.inr (.inr (-1)))
  else
   some (.inl (c21,wr (w5+1)))
 else
  some (.inr (.inl w4))
def t_q56 (a_:Sl Lattice) (left_:Int):Option Int :=
 bif decide ((wr (left_ - (((a_.getD []).length:Nat):Int)))<0) then
  some (-1)
 else
  kA0 (kBg (s0_q56 a_) (wr (left_ - (((a_.getD []).length:Nat):Int)),0)) fun qq27=>match qq27 with
  | (.inl q8) =>
    some q8
  | (.inr q14) =>
    some q14
theorem tl0_q56 (env:Nat→Contract) {B:Base} (he_q55:env n_q55=.pure (C2 (fun c:Int=>enc c) t_q55)) (a_:Sl Lattice) (left_:Int) :kFq (fun (st:Int×Int) tm h2=>match st with | (w4,w5)=>tm=((Sl.enc a_)::(iv w4)::und::und::.top::(iv w5)::(iv left_)::(Sl.enc a_)::(iv (((a_.getD []).length:Nat):Int))::(iv (wr (left_ - (((a_.getD []).length:Nat):Int))))::(iv (wr (left_ - (((a_.getD []).length:Nat):Int))))::(bv (decide ((wr (left_ - (((a_.getD []).length:Nat):Int)))<0)))::tZ9 14 [und])∧Hold B h2 []) hm0_q56 xm0_q56 (lb0_q56 env) (s0_q56 a_) (fun (q:Sum Int Int) (r:Res)=>match q with | .inl q8=>∃ (q10:Int) (z9:AV) (h6:kA9),r=(.exit 0,((Sl.enc a_)::(iv q8)::und::und::z9::(iv q10)::(iv left_)::(Sl.enc a_)::(iv (((a_.getD []).length:Nat):Int))::(iv (wr (left_ - (((a_.getD []).length:Nat):Int))))::(iv (wr (left_ - (((a_.getD []).length:Nat):Int))))::(bv (decide ((wr (left_ - (((a_.getD []).length:Nat):Int)))<0)))::tZ9 14 [und]),h6)∧Hold B h6 [] | .inr q14=>∃ (q13:Int) (q15:Int) (h11:kA9),r=(.ret,((Sl.enc a_)::(iv q13)::und::und::(iv q14)::(iv q15)::(iv left_)::(Sl.enc a_)::(iv (((a_.getD []).length:Nat):Int))::(iv (wr (left_ - (((a_.getD []).length:Nat):Int))))::(iv (wr (left_ - (((a_.getD []).length:Nat):Int))))::(bv (decide ((wr (left_ - (((a_.getD []).length:Nat):Int)))<0)))::tZ9 14 [und]),h11)∧Hold B h11 []):=by
 refine @kG0 _ _ _ _ _ _ _ _ (fun st tm h2 R => ?_)
 obtain ⟨w4,w5⟩:=st
 obtain ⟨rfl,O3⟩:=R
 rw [e_lb0_q56]
 unfold s0_q56
 dsimp only
 refine kA1 (Tab.enc h2 a_).len ?_
 refine kA1 (kAl _ _) ?_
 refine kAb (fun c16 => ?_) (fun c16 => ?_)
 ·refine kAr (Tab.enc h2 a_) (fun m18 a17 hi19 hm20 => ?_)
  refine kA1 (v:=AV.agg [iv a17.nodes,Sl.enc a17.edges]) ((Tab.enc h2 a_).ld hm20 true 2 0) ?_
  refine kBo he_q55 (kAz _ a17 rfl) (kAy _ _) (fun c21 => ?_)
  refine kAq (kAc (by rfl) _ _) ?_
  refine kA1 (kAl _ _) ?_
  refine kAb (fun c22 => ?_) (fun c22 => ?_)
  ·exact kA6 ⟨nofun,_,_,_,rfl,O3⟩
  ·refine kA1 (kAj _ _) ?_
   exact kA6 ⟨rfl,rfl,O3⟩
 ·exact kA6 ⟨nofun,_,_,_,rfl,O3⟩
theorem ts_q56 (env:Nat→Contract) (he_q55:env n_q55=.pure (C2 (fun c:Int=>enc c) t_q55)) (a_:Sl Lattice) (left_:Int):Sim (kAm Tryz.prog env n_q56 [Sl.enc a_,iv left_] []) (t_q56 a_ left_) fun c p=>release p.2 depth p.1=some ((fun c:Int=>enc c) c):=by
 have O:=Hold.nil []
 generalize hB:(⟨[],[]⟩:Base)=B at O
 clear hB
 rw [e_q56]
 unfold t_q56
 refine kA1 (v:=iv (((a_.getD []).length:Nat):Int)) (Tab.enc [] a_).len ?_
 refine kA1 (kCa _ _) ?_
 refine kA1 (kAl _ _) ?_
 refine kAb (fun c1 => ?_) (fun c1 => ?_)
 ·exact kA6 (kA5 (by rfl) _)
 ·refine kB6 ((tl0_q56 env he_q55 a_ left_) ⟨rfl,O⟩) (fun qq27 r hq => ?_)
  rcases qq27 with q8 | q14
  ·obtain ⟨q10,z9,h6,rfl,O7⟩:=hq
   rw [e_lk0x0_q56]
   exact kA6 (kA5 (by rfl) _)
  ·obtain ⟨q13,q15,h11,rfl,O12⟩:=hq
   rw [e_lk0r_q56]
   exact kA6 (kA5 (by rfl) _)
theorem tt_q56:kAn Tryz.prog n_q56 (C2 (fun c:Int=>enc c) t_q56):=kCe (kBc tt_q55 E0) kBd hb_q56 fun a_ left_=>ts_q56 _ (by simp [kBx]) a_ left_
def t_q53 (a_:Entry) (left_:Int):Option Int :=
 bif decide ((wr (left_ - (a_.word.size:Int)))<0) then
  some (-1)
 else
  some (wr (left_ - (a_.word.size:Int)))
theorem ts_q53 (env:Nat→Contract)  (a_:Entry) (left_:Int):Sim (kAm Tryz.prog env n_q53 [AV.agg [sv a_.word,iv a_.cost],iv left_] []) (t_q53 a_ left_) fun c p=>release p.2 depth p.1=some ((fun c:Int=>enc c) c):=by
 have O:=Hold.nil []
 generalize hB:(⟨[],[]⟩:Base)=B at O
 clear hB
 rw [e_q53]
 unfold t_q53
 refine kAs O (cs:=[sv a_.word,iv a_.cost]) (by first | rfl | simp) (fun o1 h2 O3 => ?_)
 replace O3:Hold B h2 [pZ9 o1 2 [sv a_.word,iv a_.cost]]:=O3
 refine kA1 (v:=AV.ptr o1 1 0 0) rfl ?_
 refine kA1 (v:=sv a_.word) (O3.ld 0 rfl false 1 0) ?_
 refine kA1 (v:=iv (a_.word.size:Int)) rfl ?_
 refine kA1 (kCa _ _) ?_
 refine kA1 (kAl _ _) ?_
 refine kAb (fun c5 => ?_) (fun c5 => ?_)
 ·exact kA6 (kA5 (by rfl) _)
 ·exact kA6 (kA5 (by rfl) _)
theorem tt_q53:kAn Tryz.prog n_q53 (C2 (fun c:Int=>enc c) t_q53):=kCe E0 kBd hb_q53 fun a_ left_=>ts_q53 _  a_ left_
def s0_q54 (a_:Sl Entry):(Int×Int)→Option (Sum (Int×Int) (Sum Int Int)):=fun (w4,w5) =>
 bif decide (w5<(((a_.getD []).length:Nat):Int)) then
  kA0 (kC7 (a_.getD []) w5) fun a17 =>
  kA0 (t_q53 a17 w4) fun c21 =>
  bif decide (c21<0) then
   some (.inr (.inr (-1)))
  else
   some (.inl (c21,wr (w5+1)))
 else
  some (.inr (.inl w4))
def t_q54 (a_:Sl Entry) (left_:Int):Option Int :=
 bif decide ((wr (left_ - (((a_.getD []).length:Nat):Int)))<0) then
  some (-1)
 else
  kA0 (kBg (s0_q54 a_) (wr (left_ - (((a_.getD []).length:Nat):Int)),0)) fun qq27=>match qq27 with
  | (.inl q8) =>
    some q8
  | (.inr q14) =>
    some q14
theorem tl0_q54 (env:Nat→Contract) {B:Base} (he_q53:env n_q53=.pure (C2 (fun c:Int=>enc c) t_q53)) (a_:Sl Entry) (left_:Int) :kFq (fun (st:Int×Int) tm h2=>match st with | (w4,w5)=>tm=((Sl.enc a_)::(iv w4)::und::und::.top::(iv w5)::(iv left_)::(Sl.enc a_)::(iv (((a_.getD []).length:Nat):Int))::(iv (wr (left_ - (((a_.getD []).length:Nat):Int))))::(iv (wr (left_ - (((a_.getD []).length:Nat):Int))))::(bv (decide ((wr (left_ - (((a_.getD []).length:Nat):Int)))<0)))::tZ9 14 [und])∧Hold B h2 []) hm0_q54 xm0_q54 (lb0_q54 env) (s0_q54 a_) (fun (q:Sum Int Int) (r:Res)=>match q with | .inl q8=>∃ (q10:Int) (z9:AV) (h6:kA9),r=(.exit 0,((Sl.enc a_)::(iv q8)::und::und::z9::(iv q10)::(iv left_)::(Sl.enc a_)::(iv (((a_.getD []).length:Nat):Int))::(iv (wr (left_ - (((a_.getD []).length:Nat):Int))))::(iv (wr (left_ - (((a_.getD []).length:Nat):Int))))::(bv (decide ((wr (left_ - (((a_.getD []).length:Nat):Int)))<0)))::tZ9 14 [und]),h6)∧Hold B h6 [] | .inr q14=>∃ (q13:Int) (q15:Int) (h11:kA9),r=(.ret,((Sl.enc a_)::(iv q13)::und::und::(iv q14)::(iv q15)::(iv left_)::(Sl.enc a_)::(iv (((a_.getD []).length:Nat):Int))::(iv (wr (left_ - (((a_.getD []).length:Nat):Int))))::(iv (wr (left_ - (((a_.getD []).length:Nat):Int))))::(bv (decide ((wr (left_ - (((a_.getD []).length:Nat):Int)))<0)))::tZ9 14 [und]),h11)∧Hold B h11 []):=by
 refine @kG0 _ _ _ _ _ _ _ _ (fun st tm h2 R => ?_)
 obtain ⟨w4,w5⟩:=st
 obtain ⟨rfl,O3⟩:=R
 rw [e_lb0_q54]
 unfold s0_q54
 dsimp only
 refine kA1 (Tab.enc h2 a_).len ?_
 refine kA1 (kAl _ _) ?_
 refine kAb (fun c16 => ?_) (fun c16 => ?_)
 ·refine kAr (Tab.enc h2 a_) (fun m18 a17 hi19 hm20 => ?_)
  refine kA1 (v:=AV.agg [sv a17.word,iv a17.cost]) ((Tab.enc h2 a_).ld hm20 true 2 0) ?_
  refine kBo he_q53 (kAz _ a17 rfl) (kAy _ _) (fun c21 => ?_)
  refine kAq (kAc (by rfl) _ _) ?_
  refine kA1 (kAl _ _) ?_
  refine kAb (fun c22 => ?_) (fun c22 => ?_)
  ·exact kA6 ⟨nofun,_,_,_,rfl,O3⟩
  ·refine kA1 (kAj _ _) ?_
   exact kA6 ⟨rfl,rfl,O3⟩
 ·exact kA6 ⟨nofun,_,_,_,rfl,O3⟩
theorem ts_q54 (env:Nat→Contract) (he_q53:env n_q53=.pure (C2 (fun c:Int=>enc c) t_q53)) (a_:Sl Entry) (left_:Int):Sim (kAm Tryz.prog env n_q54 [Sl.enc a_,iv left_] []) (t_q54 a_ left_) fun c p=>release p.2 depth p.1=some ((fun c:Int=>enc c) c):=by
 have O:=Hold.nil []
 generalize hB:(⟨[],[]⟩:Base)=B at O
 clear hB
 rw [e_q54]
 unfold t_q54
 refine kA1 (v:=iv (((a_.getD []).length:Nat):Int)) (Tab.enc [] a_).len ?_
 refine kA1 (kCa _ _) ?_
 refine kA1 (kAl _ _) ?_
 refine kAb (fun c1 => ?_) (fun c1 => ?_)
 ·exact kA6 (kA5 (by rfl) _)
 ·refine kB6 ((tl0_q54 env he_q53 a_ left_) ⟨rfl,O⟩) (fun qq27 r hq => ?_)
  rcases qq27 with q8 | q14
  ·obtain ⟨q10,z9,h6,rfl,O7⟩:=hq
   rw [e_lk0x0_q54]
   exact kA6 (kA5 (by rfl) _)
  ·obtain ⟨q13,q15,h11,rfl,O12⟩:=hq
   rw [e_lk0r_q54]
   exact kA6 (kA5 (by rfl) _)
theorem tt_q54:kAn Tryz.prog n_q54 (C2 (fun c:Int=>enc c) t_q54):=kCe (kBc tt_q53 E0) kBd hb_q54 fun a_ left_=>ts_q54 _ (by simp [kBx]) a_ left_
def t_q57 (a_:Lexicon) (left_:Int):Option Int :=
 kA0 (t_q54 a_.entries left_) fun c5 =>
 bif decide (c5<0) then
  some (-1)
 else
  some c5
theorem ts_q57 (env:Nat→Contract) (he_q54:env n_q54=.pure (C2 (fun c:Int=>enc c) t_q54)) (a_:Lexicon) (left_:Int):Sim (kAm Tryz.prog env n_q57 [AV.agg [Sl.enc a_.entries],iv left_] []) (t_q57 a_ left_) fun c p=>release p.2 depth p.1=some ((fun c:Int=>enc c) c):=by
 have O:=Hold.nil []
 generalize hB:(⟨[],[]⟩:Base)=B at O
 clear hB
 rw [e_q57]
 unfold t_q57
 refine kAs O (cs:=[Sl.enc a_.entries]) (by first | rfl | simp) (fun o1 h2 O3 => ?_)
 replace O3:Hold B h2 [pZ9 o1 1 [Sl.enc a_.entries]]:=O3
 refine kA1 (v:=AV.ptr o1 1 0 0) rfl ?_
 refine kA1 (v:=Sl.enc a_.entries) (O3.ld 0 rfl false 1 0) ?_
 refine kBo he_q54 (kBp _ _) (kAy _ _) (fun c5 => ?_)
 refine kAq (kAc (by rfl) _ _) ?_
 refine kA1 (kAl _ _) ?_
 refine kAb (fun c6 => ?_) (fun c6 => ?_)
 ·exact kA6 (kA5 (by rfl) _)
 ·exact kA6 (kA5 (by rfl) _)
theorem tt_q57:kAn Tryz.prog n_q57 (C2 (fun c:Int=>enc c) t_q57):=kCe (kBc tt_q54 E0) kBd hb_q57 fun a_ left_=>ts_q57 _ (by simp [kBx]) a_ left_
def t_q49 (a_:Bigram) (left_:Int):Option Int :=
 bif decide ((wr (left_ - (a_.first.size:Int)))<0) then
  some (-1)
 else
  bif decide ((wr ((wr (left_ - (a_.first.size:Int))) - (a_.second.size:Int)))<0) then
   some (-1)
  else
   some (wr ((wr (left_ - (a_.first.size:Int))) - (a_.second.size:Int)))
theorem ts_q49 (env:Nat→Contract)  (a_:Bigram) (left_:Int):Sim (kAm Tryz.prog env n_q49 [AV.agg [sv a_.first,sv a_.second,iv a_.cost],iv left_] []) (t_q49 a_ left_) fun c p=>release p.2 depth p.1=some ((fun c:Int=>enc c) c):=by
 have O:=Hold.nil []
 generalize hB:(⟨[],[]⟩:Base)=B at O
 clear hB
 rw [e_q49]
 unfold t_q49
 refine kAs O (cs:=[sv a_.first,sv a_.second,iv a_.cost]) (by first | rfl | simp) (fun o1 h2 O3 => ?_)
 replace O3:Hold B h2 [pZ9 o1 3 [sv a_.first,sv a_.second,iv a_.cost]]:=O3
 refine kA1 (v:=AV.ptr o1 1 0 0) rfl ?_
 refine kA1 (v:=sv a_.first) (O3.ld 0 rfl false 1 0) ?_
 refine kA1 (v:=iv (a_.first.size:Int)) rfl ?_
 refine kA1 (kCa _ _) ?_
 refine kA1 (kAl _ _) ?_
 refine kAb (fun c5 => ?_) (fun c5 => ?_)
 ·exact kA6 (kA5 (by rfl) _)
 ·refine kA1 (v:=AV.ptr o1 1 0 1) rfl ?_
  refine kA1 (v:=sv a_.second) (O3.ld 0 rfl false 1 1) ?_
  refine kA1 (v:=iv (a_.second.size:Int)) rfl ?_
  refine kA1 (kCa _ _) ?_
  refine kA1 (kAl _ _) ?_
  refine kAb (fun c6 => ?_) (fun c6 => ?_)
  ·exact kA6 (kA5 (by rfl) _)
  ·exact kA6 (kA5 (by rfl) _)
theorem tt_q49:kAn Tryz.prog n_q49 (C2 (fun c:Int=>enc c) t_q49):=kCe E0 kBd hb_q49 fun a_ left_=>ts_q49 _  a_ left_
def s0_q50 (a_:Sl Bigram):(Int×Int)→Option (Sum (Int×Int) (Sum Int Int)):=fun (w4,w5) =>
 bif decide (w5<(((a_.getD []).length:Nat):Int)) then
  kA0 (kC7 (a_.getD []) w5) fun a17 =>
  kA0 (t_q49 a17 w4) fun c21 =>
  bif decide (c21<0) then
   some (.inr (.inr (-1)))
  else
   some (.inl (c21,wr (w5+1)))
 else
  some (.inr (.inl w4))
def t_q50 (a_:Sl Bigram) (left_:Int):Option Int :=
 bif decide ((wr (left_ - (((a_.getD []).length:Nat):Int)))<0) then
  some (-1)
 else
  kA0 (kBg (s0_q50 a_) (wr (left_ - (((a_.getD []).length:Nat):Int)),0)) fun qq27=>match qq27 with
  | (.inl q8) =>
    some q8
  | (.inr q14) =>
    some q14
theorem tl0_q50 (env:Nat→Contract) {B:Base} (he_q49:env n_q49=.pure (C2 (fun c:Int=>enc c) t_q49)) (a_:Sl Bigram) (left_:Int) :kFq (fun (st:Int×Int) tm h2=>match st with | (w4,w5)=>tm=((Sl.enc a_)::(iv w4)::und::und::.top::(iv w5)::(iv left_)::(Sl.enc a_)::(iv (((a_.getD []).length:Nat):Int))::(iv (wr (left_ - (((a_.getD []).length:Nat):Int))))::(iv (wr (left_ - (((a_.getD []).length:Nat):Int))))::(bv (decide ((wr (left_ - (((a_.getD []).length:Nat):Int)))<0)))::tZ9 14 [und])∧Hold B h2 []) hm0_q50 xm0_q50 (lb0_q50 env) (s0_q50 a_) (fun (q:Sum Int Int) (r:Res)=>match q with | .inl q8=>∃ (q10:Int) (z9:AV) (h6:kA9),r=(.exit 0,((Sl.enc a_)::(iv q8)::und::und::z9::(iv q10)::(iv left_)::(Sl.enc a_)::(iv (((a_.getD []).length:Nat):Int))::(iv (wr (left_ - (((a_.getD []).length:Nat):Int))))::(iv (wr (left_ - (((a_.getD []).length:Nat):Int))))::(bv (decide ((wr (left_ - (((a_.getD []).length:Nat):Int)))<0)))::tZ9 14 [und]),h6)∧Hold B h6 [] | .inr q14=>∃ (q13:Int) (q15:Int) (h11:kA9),r=(.ret,((Sl.enc a_)::(iv q13)::und::und::(iv q14)::(iv q15)::(iv left_)::(Sl.enc a_)::(iv (((a_.getD []).length:Nat):Int))::(iv (wr (left_ - (((a_.getD []).length:Nat):Int))))::(iv (wr (left_ - (((a_.getD []).length:Nat):Int))))::(bv (decide ((wr (left_ - (((a_.getD []).length:Nat):Int)))<0)))::tZ9 14 [und]),h11)∧Hold B h11 []):=by
 refine @kG0 _ _ _ _ _ _ _ _ (fun st tm h2 R => ?_)
 obtain ⟨w4,w5⟩:=st
 obtain ⟨rfl,O3⟩:=R
 rw [e_lb0_q50]
 unfold s0_q50
 dsimp only
 refine kA1 (Tab.enc h2 a_).len ?_
 refine kA1 (kAl _ _) ?_
 refine kAb (fun c16 => ?_) (fun c16 => ?_)
 ·refine kAr (Tab.enc h2 a_) (fun m18 a17 hi19 hm20 => ?_)
  refine kA1 (v:=AV.agg [sv a17.first,sv a17.second,iv a17.cost]) ((Tab.enc h2 a_).ld hm20 true 3 0) ?_
  refine kBo he_q49 (kAz _ a17 rfl) (kAy _ _) (fun c21 => ?_)
  refine kAq (kAc (by rfl) _ _) ?_
  refine kA1 (kAl _ _) ?_
  refine kAb (fun c22 => ?_) (fun c22 => ?_)
  ·exact kA6 ⟨nofun,_,_,_,rfl,O3⟩
  ·refine kA1 (kAj _ _) ?_
   exact kA6 ⟨rfl,rfl,O3⟩
 ·exact kA6 ⟨nofun,_,_,_,rfl,O3⟩
theorem ts_q50 (env:Nat→Contract) (he_q49:env n_q49=.pure (C2 (fun c:Int=>enc c) t_q49)) (a_:Sl Bigram) (left_:Int):Sim (kAm Tryz.prog env n_q50 [Sl.enc a_,iv left_] []) (t_q50 a_ left_) fun c p=>release p.2 depth p.1=some ((fun c:Int=>enc c) c):=by
 have O:=Hold.nil []
 generalize hB:(⟨[],[]⟩:Base)=B at O
 clear hB
 rw [e_q50]
 unfold t_q50
 refine kA1 (v:=iv (((a_.getD []).length:Nat):Int)) (Tab.enc [] a_).len ?_
 refine kA1 (kCa _ _) ?_
 refine kA1 (kAl _ _) ?_
 refine kAb (fun c1 => ?_) (fun c1 => ?_)
 ·exact kA6 (kA5 (by rfl) _)
 ·refine kB6 ((tl0_q50 env he_q49 a_ left_) ⟨rfl,O⟩) (fun qq27 r hq => ?_)
  rcases qq27 with q8 | q14
  ·obtain ⟨q10,z9,h6,rfl,O7⟩:=hq
   rw [e_lk0x0_q50]
   exact kA6 (kA5 (by rfl) _)
  ·obtain ⟨q13,q15,h11,rfl,O12⟩:=hq
   rw [e_lk0r_q50]
   exact kA6 (kA5 (by rfl) _)
theorem tt_q50:kAn Tryz.prog n_q50 (C2 (fun c:Int=>enc c) t_q50):=kCe (kBc tt_q49 E0) kBd hb_q50 fun a_ left_=>ts_q50 _ (by simp [kBx]) a_ left_
def t_q58 (a_:Model) (left_:Int):Option Int :=
 kA0 (t_q50 a_.bigrams left_) fun c5 =>
 bif decide (c5<0) then
  some (-1)
 else
  some c5
theorem ts_q58 (env:Nat→Contract) (he_q50:env n_q50=.pure (C2 (fun c:Int=>enc c) t_q50)) (a_:Model) (left_:Int):Sim (kAm Tryz.prog env n_q58 [AV.agg [iv a_.default,Sl.enc a_.bigrams],iv left_] []) (t_q58 a_ left_) fun c p=>release p.2 depth p.1=some ((fun c:Int=>enc c) c):=by
 have O:=Hold.nil []
 generalize hB:(⟨[],[]⟩:Base)=B at O
 clear hB
 rw [e_q58]
 unfold t_q58
 refine kAs O (cs:=[iv a_.default,Sl.enc a_.bigrams]) (by first | rfl | simp) (fun o1 h2 O3 => ?_)
 replace O3:Hold B h2 [pZ9 o1 2 [iv a_.default,Sl.enc a_.bigrams]]:=O3
 refine kA1 (v:=AV.ptr o1 1 0 1) rfl ?_
 refine kA1 (v:=Sl.enc a_.bigrams) (O3.ld 0 rfl false 1 1) ?_
 refine kBo he_q50 (kBp _ _) (kAy _ _) (fun c5 => ?_)
 refine kAq (kAc (by rfl) _ _) ?_
 refine kA1 (kAl _ _) ?_
 refine kAb (fun c6 => ?_) (fun c6 => ?_)
 ·exact kA6 (kA5 (by rfl) _)
 ·exact kA6 (kA5 (by rfl) _)
theorem tt_q58:kAn Tryz.prog n_q58 (C2 (fun c:Int=>enc c) t_q58):=kCe (kBc tt_q50 E0) kBd hb_q58 fun a_ left_=>ts_q58 _ (by simp [kBx]) a_ left_
def t_q61 (a_:Edg):Option Edg :=
 some a_
theorem ts_q61 (env:Nat→Contract)  (a_:Edg):Sim (kAm Tryz.prog env n_q61 [AV.agg [iv a_.frm,iv a_.upto,sv a_.label,iv a_.cost]] []) (t_q61 a_) fun c p=>release p.2 depth p.1=some ((fun c:Edg=>enc c) c):=by
 have O:=Hold.nil []
 generalize hB:(⟨[],[]⟩:Base)=B at O
 clear hB
 rw [e_q61]
 unfold t_q61
 refine kAs O (cs:=[iv a_.frm,iv a_.upto,sv a_.label,iv a_.cost]) (by first | rfl | simp) (fun o1 h2 O3 => ?_)
 replace O3:Hold B h2 [pZ9 o1 4 [iv a_.frm,iv a_.upto,sv a_.label,iv a_.cost]]:=O3
 refine kAs O3 (cs:=[iv 0,iv 0,sv (⟨#[]⟩:ByteArray),iv 0]) (by first | rfl | simp) (fun o5 h6 O7 => ?_)
 replace O7:Hold B h6 [pZ9 o1 4 [iv a_.frm,iv a_.upto,sv a_.label,iv a_.cost],pZ9 o5 4 [iv 0,iv 0,sv (⟨#[]⟩:ByteArray),iv 0]]:=O7
 refine kAs O7 (cs:=[iv 0,iv 0,sv (⟨#[]⟩:ByteArray),iv 0]) (by first | rfl | simp) (fun o9 h10 O11 => ?_)
 replace O11:Hold B h10 [pZ9 o1 4 [iv a_.frm,iv a_.upto,sv a_.label,iv a_.cost],pZ9 o5 4 [iv 0,iv 0,sv (⟨#[]⟩:ByteArray),iv 0],pZ9 o9 4 [iv 0,iv 0,sv (⟨#[]⟩:ByteArray),iv 0]]:=O11
 refine kA1 (v:=AV.ptr o1 1 0 0) rfl ?_
 refine kA1 (v:=iv a_.frm) (O11.ld 0 rfl false 1 0) ?_
 refine kA1 (v:=AV.ptr o9 1 0 0) rfl ?_
 refine kAw O11 2 (cs':=[iv a_.frm,iv 0,sv (⟨#[]⟩:ByteArray),iv 0]) rfl (by first | rfl | simp) (by simp) (by first | rfl | simp) (by first | rfl | simp [kAx]) (fun h13 O14 => ?_)
 replace O14:Hold B h13 [pZ9 o1 4 [iv a_.frm,iv a_.upto,sv a_.label,iv a_.cost],pZ9 o5 4 [iv 0,iv 0,sv (⟨#[]⟩:ByteArray),iv 0],pZ9 o9 4 [iv a_.frm,iv 0,sv (⟨#[]⟩:ByteArray),iv 0]]:=O14
 refine kA1 (v:=AV.ptr o1 1 0 1) rfl ?_
 refine kA1 (v:=iv a_.upto) (O14.ld 0 rfl false 1 1) ?_
 refine kA1 (v:=AV.ptr o9 1 0 1) rfl ?_
 refine kAw O14 2 (cs':=[iv a_.frm,iv a_.upto,sv (⟨#[]⟩:ByteArray),iv 0]) rfl (by first | rfl | simp) (by simp) (by first | rfl | simp) (by first | rfl | simp [kAx]) (fun h15 O16 => ?_)
 replace O16:Hold B h15 [pZ9 o1 4 [iv a_.frm,iv a_.upto,sv a_.label,iv a_.cost],pZ9 o5 4 [iv 0,iv 0,sv (⟨#[]⟩:ByteArray),iv 0],pZ9 o9 4 [iv a_.frm,iv a_.upto,sv (⟨#[]⟩:ByteArray),iv 0]]:=O16
 refine kA1 (v:=AV.ptr o1 1 0 2) rfl ?_
 refine kA1 (v:=sv a_.label) (O16.ld 0 rfl false 1 2) ?_
 refine kA1 (v:=AV.ptr o9 1 0 2) rfl ?_
 refine kAw O16 2 (cs':=[iv a_.frm,iv a_.upto,sv a_.label,iv 0]) rfl (by first | rfl | simp) (by simp) (by first | rfl | simp) (by first | rfl | simp [kAx]) (fun h17 O18 => ?_)
 replace O18:Hold B h17 [pZ9 o1 4 [iv a_.frm,iv a_.upto,sv a_.label,iv a_.cost],pZ9 o5 4 [iv 0,iv 0,sv (⟨#[]⟩:ByteArray),iv 0],pZ9 o9 4 [iv a_.frm,iv a_.upto,sv a_.label,iv 0]]:=O18
 refine kA1 (v:=AV.ptr o1 1 0 3) rfl ?_
 refine kA1 (v:=iv a_.cost) (O18.ld 0 rfl false 1 3) ?_
 refine kA1 (v:=AV.ptr o9 1 0 3) rfl ?_
 refine kAw O18 2 (cs':=[iv a_.frm,iv a_.upto,sv a_.label,iv a_.cost]) rfl (by first | rfl | simp) (by simp) (by first | rfl | simp) (by first | rfl | simp [kAx]) (fun h19 O20 => ?_)
 replace O20:Hold B h19 [pZ9 o1 4 [iv a_.frm,iv a_.upto,sv a_.label,iv a_.cost],pZ9 o5 4 [iv 0,iv 0,sv (⟨#[]⟩:ByteArray),iv 0],pZ9 o9 4 [iv a_.frm,iv a_.upto,sv a_.label,iv a_.cost]]:=O20
 refine kA1 (v:=AV.agg [iv a_.frm,iv a_.upto,sv a_.label,iv a_.cost]) (O20.ld 2 rfl true 4 0) ?_
 refine kAw O20 1 (cs':=[iv a_.frm,iv a_.upto,sv a_.label,iv a_.cost]) rfl (by first | rfl | simp) (by simp) (by first | rfl | simp) (by first | rfl | simp [kAx]) (fun h21 O22 => ?_)
 replace O22:Hold B h21 [pZ9 o1 4 [iv a_.frm,iv a_.upto,sv a_.label,iv a_.cost],pZ9 o5 4 [iv a_.frm,iv a_.upto,sv a_.label,iv a_.cost],pZ9 o9 4 [iv a_.frm,iv a_.upto,sv a_.label,iv a_.cost]]:=O22
 refine kEc (kHh (v:=AV.agg [iv a_.frm,iv a_.upto,sv a_.label,iv a_.cost]) (O22.ld 1 rfl true 4 0) (kEe _)) ?_
 dsimp only [pack]
 exact kA6 (kA5 (by rfl) _)
theorem tt_q61:kAn Tryz.prog n_q61 (C1 (fun c:Edg=>enc c) t_q61):=kDl E0 kBd hb_q61 fun a_=>ts_q61 _  a_
def s0_q62 (a_:Sl Edg):((Sl Edg)×Int)→Option (Sum ((Sl Edg)×Int) (Sl Edg)):=fun (w6,w9) =>
 bif decide (w9<(((a_.getD []).length:Nat):Int)) then
  kA0 (kC7 (a_.getD []) w9) fun a15 =>
  kA0 (t_q61 a15) fun c19 =>
  kA0 (kC7 (w6.getD []) w9) fun a20 =>
  some (.inl ((kFe w6 w9 c19),wr (w9+1)))
 else
  some (.inr w6)
def t_q62 (a_:Sl Edg):Option (Sl Edg) :=
 kA0 (kJb (⟨0,0,(⟨#[]⟩:ByteArray),0⟩:Edg) (((a_.getD []).length:Nat):Int)) fun l5 =>
 kA0 (kBg (s0_q62 a_) ((some l5),0)) fun q12 =>
 some q12
theorem tl0_q62 (env:Nat→Contract) {B:Base} (he_q61:env n_q61=.pure (C1 (fun c:Edg=>enc c) t_q61)) (a_:Sl Edg) (x1:AV) :kFq (fun (st:(Sl Edg)×Int) tm h7=>match st with | (w6,w9)=>tm=((Sl.enc a_)::und::kB3::x1::(iv w9)::(Sl.enc a_)::(iv (((a_.getD []).length:Nat):Int))::x1::tZ9 14 [und])∧Hold B h7 [(x1,obS (w6:Sl Edg))]) hm0_q62 xm0_q62 (lb0_q62 env) (s0_q62 a_) (fun (q:Sl Edg) (r:Res)=>match q with | q12=>∃ (q13:Int) (h10:kA9),r=(.exit 0,((Sl.enc a_)::und::kB3::x1::(iv q13)::(Sl.enc a_)::(iv (((a_.getD []).length:Nat):Int))::x1::tZ9 14 [und]),h10)∧Hold B h10 [(x1,obS (q12:Sl Edg))]):=by
 refine @kG0 _ _ _ _ _ _ _ _ (fun st tm h7 R => ?_)
 obtain ⟨w6,w9⟩:=st
 obtain ⟨rfl,O8⟩:=R
 rw [e_lb0_q62]
 unfold s0_q62
 dsimp only
 refine kA1 (Tab.enc h7 a_).len ?_
 refine kA1 (kAl _ _) ?_
 refine kAb (fun c14 => ?_) (fun c14 => ?_)
 ·refine kAr (Tab.enc h7 a_) (fun m16 a15 hi17 hm18 => ?_)
  refine kA1 (v:=AV.agg [iv a15.frm,iv a15.upto,sv a15.label,iv a15.cost]) ((Tab.enc h7 a_).ld hm18 true 4 0) ?_
  refine kBz he_q61 (kAz _ a15 rfl) (fun c19 => ?_)
  refine kAq (kAc (by rfl) _ _) ?_
  refine kAr (O8.tab (A:=Edg) (s:=w6) 0 rfl) (fun m21 a20 hi22 hm23 => ?_)
  refine kG9 (A:=Edg) O8 0 c19 rfl hi22 hm23 rfl (by simp) (by first | rfl | simp) (by first | rfl | simp [kAx]) (fun h24 O25 => ?_)
  replace O25:Hold B h24 [(x1,obS ((kFe w6 w9 c19):Sl Edg))]:=O25
  refine kA1 (kAj _ _) ?_
  exact kA6 ⟨rfl,rfl,O25⟩
 ·exact kA6 ⟨nofun,_,_,rfl,O8⟩
theorem ts_q62 (env:Nat→Contract) (he_q61:env n_q61=.pure (C1 (fun c:Edg=>enc c) t_q61)) (a_:Sl Edg):Sim (kAm Tryz.prog env n_q62 [Sl.enc a_] []) (t_q62 a_) fun c p=>release p.2 depth p.1=some ((fun c:(Sl Edg)=>rS c) c):=by
 have O:=Hold.nil []
 generalize hB:(⟨[],[]⟩:Base)=B at O
 clear hB
 rw [e_q62]
 unfold t_q62
 refine kA1 (v:=iv (((a_.getD []).length:Nat):Int)) (Tab.enc [] a_).len ?_
 refine kIc (A:=Edg) O (⟨0,0,(⟨#[]⟩:ByteArray),0⟩:Edg) rfl (by decide) (fun l5 x1 h2 O3 => ?_)
 replace O3:Hold B h2 [(x1,obS ((some l5):Sl Edg))]:=O3
 refine kB6 ((tl0_q62 env he_q61 a_ x1) ⟨rfl,O3⟩) (fun qq29 r hq => ?_)
 revert hq
 revert qq29
 intro q12 hq
 obtain ⟨q13,h10,rfl,O11⟩:=hq
 rw [e_lk0x0_q62]
 exact kA6 (O11.rel (A:=Edg) (s:=q12) 0 rfl)
theorem tt_q62:kAn Tryz.prog n_q62 (C1 (fun c:(Sl Edg)=>rS c) t_q62):=kDl (kBc tt_q61 E0) kBd hb_q62 fun a_=>ts_q62 _ (by simp [kBx]) a_
def t_q65 (a_:Lattice):Option Lattice :=
 kA0 (t_q62 a_.edges) fun c15 =>
 some (⟨a_.nodes,c15⟩:Lattice)
theorem ts_q65 (env:Nat→Contract) (he_q62:env n_q62=.pure (C1 (fun c:(Sl Edg)=>rS c) t_q62)) (a_:Lattice):Sim (kAm Tryz.prog env n_q65 [AV.agg [iv a_.nodes,Sl.enc a_.edges]] []) (t_q65 a_) fun c p=>release p.2 depth p.1=some ((fun c:Lattice=>AV.agg [iv c.nodes,rS c.edges]) c):=by
 have O:=Hold.nil []
 generalize hB:(⟨[],[]⟩:Base)=B at O
 clear hB
 rw [e_q65]
 unfold t_q65
 refine kAs O (cs:=[iv a_.nodes,Sl.enc a_.edges]) (by first | rfl | simp) (fun o1 h2 O3 => ?_)
 replace O3:Hold B h2 [pZ9 o1 2 [iv a_.nodes,Sl.enc a_.edges]]:=O3
 refine kAs O3 (cs:=[iv 0,kB3]) (by first | rfl | simp) (fun o5 h6 O7 => ?_)
 replace O7:Hold B h6 [pZ9 o1 2 [iv a_.nodes,Sl.enc a_.edges],pZ9 o5 2 [iv 0,kB3]]:=O7
 refine kAs O7 (cs:=[iv 0,kB3]) (by first | rfl | simp) (fun o9 h10 O11 => ?_)
 replace O11:Hold B h10 [pZ9 o1 2 [iv a_.nodes,Sl.enc a_.edges],pZ9 o5 2 [iv 0,kB3],pZ9 o9 2 [iv 0,kB3]]:=O11
 refine kA1 (v:=AV.ptr o1 1 0 0) rfl ?_
 refine kA1 (v:=iv a_.nodes) (O11.ld 0 rfl false 1 0) ?_
 refine kA1 (v:=AV.ptr o9 1 0 0) rfl ?_
 refine kAw O11 2 (cs':=[iv a_.nodes,kB3]) rfl (by first | rfl | simp) (by simp) (by first | rfl | simp) (by first | rfl | simp [kAx]) (fun h13 O14 => ?_)
 replace O14:Hold B h13 [pZ9 o1 2 [iv a_.nodes,Sl.enc a_.edges],pZ9 o5 2 [iv 0,kB3],pZ9 o9 2 [iv a_.nodes,kB3]]:=O14
 refine kA1 (v:=AV.ptr o1 1 0 1) rfl ?_
 refine kA1 (v:=Sl.enc a_.edges) (O14.ld 0 rfl false 1 1) ?_
 refine kBz he_q62 (kBp _ _) (fun c15 => ?_)
 refine sim_hand (A:=Edg) O14 (fun x17 h18 O19 => ?_)
 replace O19:Hold B h18 [pZ9 o1 2 [iv a_.nodes,Sl.enc a_.edges],pZ9 o5 2 [iv 0,kB3],pZ9 o9 2 [iv a_.nodes,kB3],(x17,obS (c15:Sl Edg))]:=O19
 refine kA1 (v:=AV.ptr o9 1 0 1) rfl ?_
 have jZ0:=O19.one (A:=Edg) (s:=c15) 3 rfl
 refine kAw O19 2 (cs':=[iv a_.nodes,x17]) rfl (by first | rfl | simp [jZ0.1,jZ0.2]) (by simp) (by first | rfl | simp [jZ0.1,jZ0.2]) (by first | rfl | simp [kAx,jZ0.1,jZ0.2]) (fun h20 O21 => ?_)
 replace O21:Hold B h20 [pZ9 o1 2 [iv a_.nodes,Sl.enc a_.edges],pZ9 o5 2 [iv 0,kB3],pZ9 o9 2 [iv a_.nodes,x17],(x17,obS (c15:Sl Edg))]:=O21
 refine kA1 (v:=AV.agg [iv a_.nodes,x17]) (O21.ld 2 rfl true 2 0) ?_
 have jZ0:=O21.one (A:=Edg) (s:=c15) 3 rfl
 refine kAw O21 1 (cs':=[iv a_.nodes,x17]) rfl (by first | rfl | simp [jZ0.1,jZ0.2]) (by simp) (by first | rfl | simp [jZ0.1,jZ0.2]) (by first | rfl | simp [kAx,jZ0.1,jZ0.2]) (fun h22 O23 => ?_)
 replace O23:Hold B h22 [pZ9 o1 2 [iv a_.nodes,Sl.enc a_.edges],pZ9 o5 2 [iv a_.nodes,x17],pZ9 o9 2 [iv a_.nodes,x17],(x17,obS (c15:Sl Edg))]:=O23
 refine kEc (kHh (v:=AV.agg [iv a_.nodes,x17]) (O23.ld 1 rfl true 2 0) (kEe _)) ?_
 dsimp only [pack]
 have O24:Hold B h22 [(x17,obS (c15:Sl Edg))]:=O23.sel [3] (by decide) rfl
 exact kA6 (kF1 (by simp only [kJ0,kGv,kJo,kJu,ids_bv,ids_sv,ids_bt,kGt,kJe,O24.idsD (A:=Edg) (s:=c15) 0 rfl,List.map_append,List.map_nil,List.flatMap_cons,List.flatMap_nil,List.append_nil,List.nil_append];simpa only [List.flatMap_cons,List.flatMap_nil,List.append_nil,List.nil_append] using O24.nd2) (by simp only [kJ4,kH3,kHt,kJz,rel_bv,rel_sv,rel_bt,kH1,kJn,O24.relD (A:=Edg) (s:=c15) 0 rfl,omapc,omapn,kA4] <;> rfl))
theorem tt_q65:kAn Tryz.prog n_q65 (C1 (fun c:Lattice=>AV.agg [iv c.nodes,rS c.edges]) t_q65):=kDl (kBc tt_q62 E0) kBd hb_q65 fun a_=>ts_q65 _ (by simp [kBx]) a_
def s0_q66 (a_:Sl Lattice):((Sl Lattice)×Int)→Option (Sum ((Sl Lattice)×Int) (Sl Lattice)):=fun (w8,w13) =>
 bif decide (w13<(((a_.getD []).length:Nat):Int)) then
  kA0 (kC7 (a_.getD []) w13) fun a22 =>
  kA0 (t_q65 a22) fun c26 =>
  kA0 (kC7 (w8.getD []) w13) fun a31 =>
  some (.inl ((kFe w8 w13 (⟨c26.nodes,c26.edges⟩:Lattice)),wr (w13+1)))
 else
  some (.inr w8)
def t_q66 (a_:Sl Lattice):Option (Sl Lattice) :=
 kA0 (kJb (⟨0,(none:Sl Edg)⟩:Lattice) (((a_.getD []).length:Nat):Int)) fun l5 =>
 kA0 (kBg (s0_q66 a_) ((some l5),0)) fun q16 =>
 some q16
theorem tl0_q66 (env:Nat→Contract) {B:Base} (he_q65:env n_q65=.pure (C1 (fun c:Lattice=>AV.agg [iv c.nodes,rS c.edges]) t_q65)) (a_:Sl Lattice) (x1:AV) :kFq (fun (st:(Sl Lattice)×Int) tm h11=>match st with | (w8,w13)=>∃ ps9:PS Lattice,tm=((Sl.enc a_)::und::kB3::x1::(iv w13)::(Sl.enc a_)::(iv (((a_.getD []).length:Nat):Int))::x1::tZ9 14 [und])∧pj ps9=w8∧Hold B h11 ([]++D2 (A:=Lattice) x1 ps9)) hm0_q66 xm0_q66 (lb0_q66 env) (s0_q66 a_) (fun (q:Sl Lattice) (r:Res)=>match q with | q16=>∃ (q19:Int) (ps17:PS Lattice) (h14:kA9),r=(.exit 0,((Sl.enc a_)::und::kB3::x1::(iv q19)::(Sl.enc a_)::(iv (((a_.getD []).length:Nat):Int))::x1::tZ9 14 [und]),h14)∧pj ps17=q16∧Hold B h14 ([]++D2 (A:=Lattice) x1 ps17)):=by
 refine @kG0 _ _ _ _ _ _ _ _ (fun st tm h11 R => ?_)
 obtain ⟨w8,w13⟩:=st
 obtain ⟨ps9,rfl,hp10,O12⟩:=R
 rw [e_lb0_q66]
 unfold s0_q66
 dsimp only
 refine kA1 (Tab.enc h11 a_).len ?_
 refine kA1 (kAl _ _) ?_
 refine kAb (fun c21 => ?_) (fun c21 => ?_)
 ·refine kAr (Tab.enc h11 a_) (fun m23 a22 hi24 hm25 => ?_)
  refine kA1 (v:=AV.agg [iv a22.nodes,Sl.enc a22.edges]) ((Tab.enc h11 a_).ld hm25 true 2 0) ?_
  refine kBz he_q65 (kAz _ a22 rfl) (fun c26 => ?_)
  refine kDf O12 (c26.edges:Sl Edg) (fun z1=>AV.agg [iv c26.nodes,z1]) (by intro b;simp only [kFf,kEd,kFd,matLc,matLn,kG6,kH9,kHf,kH7,kEf,kGn,List.append_nil,List.nil_append,List.length_nil,Nat.add_zero]) (by simp only [kFg,kEa,kFi,kG5,kHc,kHg,kHe,kEb,kGq,List.all_cons,List.all_nil,Bool.and_self]) (fun x28 h29 O30 => ?_)
  replace O30:Hold B h29 ([(x28,obS (c26.edges:Sl Edg))]++D2 (A:=Lattice) x1 ps9):=Hold.rot O30
  refine kGx (l:=[(x28,obS (c26.edges:Sl Edg))]) (x:=x1) (ps:=ps9) (A:=Lattice) O30 hp10 (fun m32 a31 x35 hi33 hm34 hg36 => ?_)
  have O39:=O30
  refine sim_setRowA (l:=[]) (x:=x1) (ps:=ps9) (a':=(⟨c26.nodes,c26.edges⟩:Lattice)) (y':=x28) O39 hp10 hi33 hm34 (by first | rfl | simp [Inn.row]) rfl (fun ps40 h37 hp41 O38 => ?_)
  refine kA1 (kAj _ _) ?_
  exact kA6 ⟨rfl,_,rfl,hp41,O38⟩
 ·exact kA6 ⟨nofun,_,_,_,rfl,hp10,O12⟩
theorem ts_q66 (env:Nat→Contract) (he_q65:env n_q65=.pure (C1 (fun c:Lattice=>AV.agg [iv c.nodes,rS c.edges]) t_q65)) (a_:Sl Lattice):Sim (kAm Tryz.prog env n_q66 [Sl.enc a_] []) (t_q66 a_) fun c p=>release p.2 depth p.1=some ((fun c:(Sl Lattice)=>rD c) c):=by
 have O:=Hold.nil []
 generalize hB:(⟨[],[]⟩:Base)=B at O
 clear hB
 rw [e_q66]
 unfold t_q66
 refine kA1 (v:=iv (((a_.getD []).length:Nat):Int)) (Tab.enc [] a_).len ?_
 refine sim_makeN (l:=[]) (A:=Lattice) O (⟨0,(none:Sl Edg)⟩:Lattice) rfl rfl (by decide) (fun l5 x1 ps6 h2 hp7 O3 => ?_)
 refine kB6 ((tl0_q66 env he_q65 a_ x1) ⟨_,rfl,hp7,O3⟩) (fun qq45 r hq => ?_)
 revert hq
 revert qq45
 intro q16 hq
 obtain ⟨q19,ps17,h14,rfl,hp18,O15⟩:=hq
 rw [e_lk0x0_q66]
 have O20:Hold B h14 ([]++D2 (A:=Lattice) x1 ps17):=O15.selD [] (by decide) rfl
 exact kA6 (kF1 (by simp only [kJ0,kGv,kJo,kJu,ids_bv,ids_sv,ids_bt,kGt,kJe,D2.ids8 (l:=[]) (x:=x1) (ps:=ps17) (A:=Lattice) O20,List.map_append,List.map_nil,List.flatMap_cons,List.flatMap_nil,List.append_nil,List.nil_append];simpa only [List.flatMap_cons,List.flatMap_nil,List.append_nil,List.nil_append] using O20.nd2) (by simp only [kJ4,kH3,kHt,kJz,rel_bv,rel_sv,rel_bt,kH1,kJn,D2.rel8 (l:=[]) (x:=x1) (ps:=ps17) (A:=Lattice) O20 hp18,omapc,omapn,kA4] <;> rfl))
theorem tt_q66:kAn Tryz.prog n_q66 (C1 (fun c:(Sl Lattice)=>rD c) t_q66):=kDl (kBc tt_q65 E0) kBd hb_q66 fun a_=>ts_q66 _ (by simp [kBx]) a_
def t_q63 (a_:Entry):Option Entry :=
 some a_
theorem ts_q63 (env:Nat→Contract)  (a_:Entry):Sim (kAm Tryz.prog env n_q63 [AV.agg [sv a_.word,iv a_.cost]] []) (t_q63 a_) fun c p=>release p.2 depth p.1=some ((fun c:Entry=>enc c) c):=by
 have O:=Hold.nil []
 generalize hB:(⟨[],[]⟩:Base)=B at O
 clear hB
 rw [e_q63]
 unfold t_q63
 refine kAs O (cs:=[sv a_.word,iv a_.cost]) (by first | rfl | simp) (fun o1 h2 O3 => ?_)
 replace O3:Hold B h2 [pZ9 o1 2 [sv a_.word,iv a_.cost]]:=O3
 refine kAs O3 (cs:=[sv (⟨#[]⟩:ByteArray),iv 0]) (by first | rfl | simp) (fun o5 h6 O7 => ?_)
 replace O7:Hold B h6 [pZ9 o1 2 [sv a_.word,iv a_.cost],pZ9 o5 2 [sv (⟨#[]⟩:ByteArray),iv 0]]:=O7
 refine kAs O7 (cs:=[sv (⟨#[]⟩:ByteArray),iv 0]) (by first | rfl | simp) (fun o9 h10 O11 => ?_)
 replace O11:Hold B h10 [pZ9 o1 2 [sv a_.word,iv a_.cost],pZ9 o5 2 [sv (⟨#[]⟩:ByteArray),iv 0],pZ9 o9 2 [sv (⟨#[]⟩:ByteArray),iv 0]]:=O11
 refine kA1 (v:=AV.ptr o1 1 0 0) rfl ?_
 refine kA1 (v:=sv a_.word) (O11.ld 0 rfl false 1 0) ?_
 refine kA1 (v:=AV.ptr o9 1 0 0) rfl ?_
 refine kAw O11 2 (cs':=[sv a_.word,iv 0]) rfl (by first | rfl | simp) (by simp) (by first | rfl | simp) (by first | rfl | simp [kAx]) (fun h13 O14 => ?_)
 replace O14:Hold B h13 [pZ9 o1 2 [sv a_.word,iv a_.cost],pZ9 o5 2 [sv (⟨#[]⟩:ByteArray),iv 0],pZ9 o9 2 [sv a_.word,iv 0]]:=O14
 refine kA1 (v:=AV.ptr o1 1 0 1) rfl ?_
 refine kA1 (v:=iv a_.cost) (O14.ld 0 rfl false 1 1) ?_
 refine kA1 (v:=AV.ptr o9 1 0 1) rfl ?_
 refine kAw O14 2 (cs':=[sv a_.word,iv a_.cost]) rfl (by first | rfl | simp) (by simp) (by first | rfl | simp) (by first | rfl | simp [kAx]) (fun h15 O16 => ?_)
 replace O16:Hold B h15 [pZ9 o1 2 [sv a_.word,iv a_.cost],pZ9 o5 2 [sv (⟨#[]⟩:ByteArray),iv 0],pZ9 o9 2 [sv a_.word,iv a_.cost]]:=O16
 refine kA1 (v:=AV.agg [sv a_.word,iv a_.cost]) (O16.ld 2 rfl true 2 0) ?_
 refine kAw O16 1 (cs':=[sv a_.word,iv a_.cost]) rfl (by first | rfl | simp) (by simp) (by first | rfl | simp) (by first | rfl | simp [kAx]) (fun h17 O18 => ?_)
 replace O18:Hold B h17 [pZ9 o1 2 [sv a_.word,iv a_.cost],pZ9 o5 2 [sv a_.word,iv a_.cost],pZ9 o9 2 [sv a_.word,iv a_.cost]]:=O18
 refine kEc (kHh (v:=AV.agg [sv a_.word,iv a_.cost]) (O18.ld 1 rfl true 2 0) (kEe _)) ?_
 dsimp only [pack]
 exact kA6 (kA5 (by rfl) _)
theorem tt_q63:kAn Tryz.prog n_q63 (C1 (fun c:Entry=>enc c) t_q63):=kDl E0 kBd hb_q63 fun a_=>ts_q63 _  a_
def s0_q64 (a_:Sl Entry):((Sl Entry)×Int)→Option (Sum ((Sl Entry)×Int) (Sl Entry)):=fun (w6,w9) =>
 bif decide (w9<(((a_.getD []).length:Nat):Int)) then
  kA0 (kC7 (a_.getD []) w9) fun a15 =>
  kA0 (t_q63 a15) fun c19 =>
  kA0 (kC7 (w6.getD []) w9) fun a20 =>
  some (.inl ((kFe w6 w9 c19),wr (w9+1)))
 else
  some (.inr w6)
def t_q64 (a_:Sl Entry):Option (Sl Entry) :=
 kA0 (kJb (⟨(⟨#[]⟩:ByteArray),0⟩:Entry) (((a_.getD []).length:Nat):Int)) fun l5 =>
 kA0 (kBg (s0_q64 a_) ((some l5),0)) fun q12 =>
 some q12
theorem tl0_q64 (env:Nat→Contract) {B:Base} (he_q63:env n_q63=.pure (C1 (fun c:Entry=>enc c) t_q63)) (a_:Sl Entry) (x1:AV) :kFq (fun (st:(Sl Entry)×Int) tm h7=>match st with | (w6,w9)=>tm=((Sl.enc a_)::und::kB3::x1::(iv w9)::(Sl.enc a_)::(iv (((a_.getD []).length:Nat):Int))::x1::tZ9 14 [und])∧Hold B h7 [(x1,obS (w6:Sl Entry))]) hm0_q64 xm0_q64 (lb0_q64 env) (s0_q64 a_) (fun (q:Sl Entry) (r:Res)=>match q with | q12=>∃ (q13:Int) (h10:kA9),r=(.exit 0,((Sl.enc a_)::und::kB3::x1::(iv q13)::(Sl.enc a_)::(iv (((a_.getD []).length:Nat):Int))::x1::tZ9 14 [und]),h10)∧Hold B h10 [(x1,obS (q12:Sl Entry))]):=by
 refine @kG0 _ _ _ _ _ _ _ _ (fun st tm h7 R => ?_)
 obtain ⟨w6,w9⟩:=st
 obtain ⟨rfl,O8⟩:=R
 rw [e_lb0_q64]
 unfold s0_q64
 dsimp only
 refine kA1 (Tab.enc h7 a_).len ?_
 refine kA1 (kAl _ _) ?_
 refine kAb (fun c14 => ?_) (fun c14 => ?_)
 ·refine kAr (Tab.enc h7 a_) (fun m16 a15 hi17 hm18 => ?_)
  refine kA1 (v:=AV.agg [sv a15.word,iv a15.cost]) ((Tab.enc h7 a_).ld hm18 true 2 0) ?_
  refine kBz he_q63 (kAz _ a15 rfl) (fun c19 => ?_)
  refine kAq (kAc (by rfl) _ _) ?_
  refine kAr (O8.tab (A:=Entry) (s:=w6) 0 rfl) (fun m21 a20 hi22 hm23 => ?_)
  refine kG9 (A:=Entry) O8 0 c19 rfl hi22 hm23 rfl (by simp) (by first | rfl | simp) (by first | rfl | simp [kAx]) (fun h24 O25 => ?_)
  replace O25:Hold B h24 [(x1,obS ((kFe w6 w9 c19):Sl Entry))]:=O25
  refine kA1 (kAj _ _) ?_
  exact kA6 ⟨rfl,rfl,O25⟩
 ·exact kA6 ⟨nofun,_,_,rfl,O8⟩
theorem ts_q64 (env:Nat→Contract) (he_q63:env n_q63=.pure (C1 (fun c:Entry=>enc c) t_q63)) (a_:Sl Entry):Sim (kAm Tryz.prog env n_q64 [Sl.enc a_] []) (t_q64 a_) fun c p=>release p.2 depth p.1=some ((fun c:(Sl Entry)=>rS c) c):=by
 have O:=Hold.nil []
 generalize hB:(⟨[],[]⟩:Base)=B at O
 clear hB
 rw [e_q64]
 unfold t_q64
 refine kA1 (v:=iv (((a_.getD []).length:Nat):Int)) (Tab.enc [] a_).len ?_
 refine kIc (A:=Entry) O (⟨(⟨#[]⟩:ByteArray),0⟩:Entry) rfl (by decide) (fun l5 x1 h2 O3 => ?_)
 replace O3:Hold B h2 [(x1,obS ((some l5):Sl Entry))]:=O3
 refine kB6 ((tl0_q64 env he_q63 a_ x1) ⟨rfl,O3⟩) (fun qq29 r hq => ?_)
 revert hq
 revert qq29
 intro q12 hq
 obtain ⟨q13,h10,rfl,O11⟩:=hq
 rw [e_lk0x0_q64]
 exact kA6 (O11.rel (A:=Entry) (s:=q12) 0 rfl)
theorem tt_q64:kAn Tryz.prog n_q64 (C1 (fun c:(Sl Entry)=>rS c) t_q64):=kDl (kBc tt_q63 E0) kBd hb_q64 fun a_=>ts_q64 _ (by simp [kBx]) a_
def t_q67 (a_:Lexicon):Option Lexicon :=
 kA0 (t_q64 a_.entries) fun c13 =>
 some (⟨c13⟩:Lexicon)
theorem ts_q67 (env:Nat→Contract) (he_q64:env n_q64=.pure (C1 (fun c:(Sl Entry)=>rS c) t_q64)) (a_:Lexicon):Sim (kAm Tryz.prog env n_q67 [AV.agg [Sl.enc a_.entries]] []) (t_q67 a_) fun c p=>release p.2 depth p.1=some ((fun c:Lexicon=>AV.agg [rS c.entries]) c):=by
 have O:=Hold.nil []
 generalize hB:(⟨[],[]⟩:Base)=B at O
 clear hB
 rw [e_q67]
 unfold t_q67
 refine kAs O (cs:=[Sl.enc a_.entries]) (by first | rfl | simp) (fun o1 h2 O3 => ?_)
 replace O3:Hold B h2 [pZ9 o1 1 [Sl.enc a_.entries]]:=O3
 refine kAs O3 (cs:=[kB3]) (by first | rfl | simp) (fun o5 h6 O7 => ?_)
 replace O7:Hold B h6 [pZ9 o1 1 [Sl.enc a_.entries],pZ9 o5 1 [kB3]]:=O7
 refine kAs O7 (cs:=[kB3]) (by first | rfl | simp) (fun o9 h10 O11 => ?_)
 replace O11:Hold B h10 [pZ9 o1 1 [Sl.enc a_.entries],pZ9 o5 1 [kB3],pZ9 o9 1 [kB3]]:=O11
 refine kA1 (v:=AV.ptr o1 1 0 0) rfl ?_
 refine kA1 (v:=Sl.enc a_.entries) (O11.ld 0 rfl false 1 0) ?_
 refine kBz he_q64 (kBp _ _) (fun c13 => ?_)
 refine sim_hand (A:=Entry) O11 (fun x15 h16 O17 => ?_)
 replace O17:Hold B h16 [pZ9 o1 1 [Sl.enc a_.entries],pZ9 o5 1 [kB3],pZ9 o9 1 [kB3],(x15,obS (c13:Sl Entry))]:=O17
 refine kA1 (v:=AV.ptr o9 1 0 0) rfl ?_
 have jZ0:=O17.one (A:=Entry) (s:=c13) 3 rfl
 refine kAw O17 2 (cs':=[x15]) rfl (by first | rfl | simp [jZ0.1,jZ0.2]) (by simp) (by first | rfl | simp [jZ0.1,jZ0.2]) (by first | rfl | simp [kAx,jZ0.1,jZ0.2]) (fun h18 O19 => ?_)
 replace O19:Hold B h18 [pZ9 o1 1 [Sl.enc a_.entries],pZ9 o5 1 [kB3],pZ9 o9 1 [x15],(x15,obS (c13:Sl Entry))]:=O19
 refine kA1 (v:=AV.agg [x15]) (O19.ld 2 rfl true 1 0) ?_
 have jZ0:=O19.one (A:=Entry) (s:=c13) 3 rfl
 refine kAw O19 1 (cs':=[x15]) rfl (by first | rfl | simp [jZ0.1,jZ0.2]) (by simp) (by first | rfl | simp [jZ0.1,jZ0.2]) (by first | rfl | simp [kAx,jZ0.1,jZ0.2]) (fun h20 O21 => ?_)
 replace O21:Hold B h20 [pZ9 o1 1 [Sl.enc a_.entries],pZ9 o5 1 [x15],pZ9 o9 1 [x15],(x15,obS (c13:Sl Entry))]:=O21
 refine kEc (kHh (v:=AV.agg [x15]) (O21.ld 1 rfl true 1 0) (kEe _)) ?_
 dsimp only [pack]
 have O22:Hold B h20 [(x15,obS (c13:Sl Entry))]:=O21.sel [3] (by decide) rfl
 exact kA6 (kF1 (by simp only [kJ0,kGv,kJo,kJu,ids_bv,ids_sv,ids_bt,kGt,kJe,O22.idsD (A:=Entry) (s:=c13) 0 rfl,List.map_append,List.map_nil,List.flatMap_cons,List.flatMap_nil,List.append_nil,List.nil_append];simpa only [List.flatMap_cons,List.flatMap_nil,List.append_nil,List.nil_append] using O22.nd2) (by simp only [kJ4,kH3,kHt,kJz,rel_bv,rel_sv,rel_bt,kH1,kJn,O22.relD (A:=Entry) (s:=c13) 0 rfl,omapc,omapn,kA4] <;> rfl))
theorem tt_q67:kAn Tryz.prog n_q67 (C1 (fun c:Lexicon=>AV.agg [rS c.entries]) t_q67):=kDl (kBc tt_q64 E0) kBd hb_q67 fun a_=>ts_q67 _ (by simp [kBx]) a_
def s0_q60 (a_:Sl Bigram):((Sl Bigram)×Int)→Option (Sum ((Sl Bigram)×Int) (Sl Bigram)):=fun (w6,w9) =>
 bif decide (w9<(((a_.getD []).length:Nat):Int)) then
  kA0 (kC7 (a_.getD []) w9) fun a15 =>
  kA0 (some ((fun b:Bigram=>b) a15)) fun c19 =>
  kA0 (kC7 (w6.getD []) w9) fun a20 =>
  some (.inl ((kFe w6 w9 c19),wr (w9+1)))
 else
  some (.inr w6)
def t_q60 (a_:Sl Bigram):Option (Sl Bigram) :=
 kA0 (kJb (⟨(⟨#[]⟩:ByteArray),(⟨#[]⟩:ByteArray),0⟩:Bigram) (((a_.getD []).length:Nat):Int)) fun l5 =>
 kA0 (kBg (s0_q60 a_) ((some l5),0)) fun q12 =>
 some q12
theorem tl0_q60 (env:Nat→Contract) {B:Base} (he_q59:env n_q59=.pure (T1 (fun b:Bigram=>b))) (a_:Sl Bigram) (x1:AV) :kFq (fun (st:(Sl Bigram)×Int) tm h7=>match st with | (w6,w9)=>tm=((Sl.enc a_)::und::kB3::x1::(iv w9)::(Sl.enc a_)::(iv (((a_.getD []).length:Nat):Int))::x1::tZ9 14 [und])∧Hold B h7 [(x1,obS (w6:Sl Bigram))]) hm0_q60 xm0_q60 (lb0_q60 env) (s0_q60 a_) (fun (q:Sl Bigram) (r:Res)=>match q with | q12=>∃ (q13:Int) (h10:kA9),r=(.exit 0,((Sl.enc a_)::und::kB3::x1::(iv q13)::(Sl.enc a_)::(iv (((a_.getD []).length:Nat):Int))::x1::tZ9 14 [und]),h10)∧Hold B h10 [(x1,obS (q12:Sl Bigram))]):=by
 refine @kG0 _ _ _ _ _ _ _ _ (fun st tm h7 R => ?_)
 obtain ⟨w6,w9⟩:=st
 obtain ⟨rfl,O8⟩:=R
 rw [e_lb0_q60]
 unfold s0_q60
 dsimp only
 refine kA1 (Tab.enc h7 a_).len ?_
 refine kA1 (kAl _ _) ?_
 refine kAb (fun c14 => ?_) (fun c14 => ?_)
 ·refine kAr (Tab.enc h7 a_) (fun m16 a15 hi17 hm18 => ?_)
  refine kA1 (v:=AV.agg [sv a15.first,sv a15.second,iv a15.cost]) ((Tab.enc h7 a_).ld hm18 true 3 0) ?_
  refine kFo (t:=(fun b:Bigram=>b)) he_q59 (kAz _ a15 rfl) (fun c19 => ?_)
  refine kAr (O8.tab (A:=Bigram) (s:=w6) 0 rfl) (fun m21 a20 hi22 hm23 => ?_)
  refine kG9 (A:=Bigram) O8 0 c19 rfl hi22 hm23 rfl (by simp) (by first | rfl | simp) (by first | rfl | simp [kAx]) (fun h24 O25 => ?_)
  replace O25:Hold B h24 [(x1,obS ((kFe w6 w9 c19):Sl Bigram))]:=O25
  refine kA1 (kAj _ _) ?_
  exact kA6 ⟨rfl,rfl,O25⟩
 ·exact kA6 ⟨nofun,_,_,rfl,O8⟩
theorem ts_q60 (env:Nat→Contract) (he_q59:env n_q59=.pure (T1 (fun b:Bigram=>b))) (a_:Sl Bigram):Sim (kAm Tryz.prog env n_q60 [Sl.enc a_] []) (t_q60 a_) fun c p=>release p.2 depth p.1=some ((fun c:(Sl Bigram)=>rS c) c):=by
 have O:=Hold.nil []
 generalize hB:(⟨[],[]⟩:Base)=B at O
 clear hB
 rw [e_q60]
 unfold t_q60
 refine kA1 (v:=iv (((a_.getD []).length:Nat):Int)) (Tab.enc [] a_).len ?_
 refine kIc (A:=Bigram) O (⟨(⟨#[]⟩:ByteArray),(⟨#[]⟩:ByteArray),0⟩:Bigram) rfl (by decide) (fun l5 x1 h2 O3 => ?_)
 replace O3:Hold B h2 [(x1,obS ((some l5):Sl Bigram))]:=O3
 refine kB6 ((tl0_q60 env he_q59 a_ x1) ⟨rfl,O3⟩) (fun qq29 r hq => ?_)
 revert hq
 revert qq29
 intro q12 hq
 obtain ⟨q13,h10,rfl,O11⟩:=hq
 rw [e_lk0x0_q60]
 exact kA6 (O11.rel (A:=Bigram) (s:=q12) 0 rfl)
theorem tt_q60:kAn Tryz.prog n_q60 (C1 (fun c:(Sl Bigram)=>rS c) t_q60):=kDl (kBc ok_q59 E0) kBd hb_q60 fun a_=>ts_q60 _ (by simp [kBx]) a_
def t_q68 (a_:Model):Option Model :=
 kA0 (t_q60 a_.bigrams) fun c15 =>
 some (⟨a_.default,c15⟩:Model)
theorem ts_q68 (env:Nat→Contract) (he_q60:env n_q60=.pure (C1 (fun c:(Sl Bigram)=>rS c) t_q60)) (a_:Model):Sim (kAm Tryz.prog env n_q68 [AV.agg [iv a_.default,Sl.enc a_.bigrams]] []) (t_q68 a_) fun c p=>release p.2 depth p.1=some ((fun c:Model=>AV.agg [iv c.default,rS c.bigrams]) c):=by
 have O:=Hold.nil []
 generalize hB:(⟨[],[]⟩:Base)=B at O
 clear hB
 rw [e_q68]
 unfold t_q68
 refine kAs O (cs:=[iv a_.default,Sl.enc a_.bigrams]) (by first | rfl | simp) (fun o1 h2 O3 => ?_)
 replace O3:Hold B h2 [pZ9 o1 2 [iv a_.default,Sl.enc a_.bigrams]]:=O3
 refine kAs O3 (cs:=[iv 0,kB3]) (by first | rfl | simp) (fun o5 h6 O7 => ?_)
 replace O7:Hold B h6 [pZ9 o1 2 [iv a_.default,Sl.enc a_.bigrams],pZ9 o5 2 [iv 0,kB3]]:=O7
 refine kAs O7 (cs:=[iv 0,kB3]) (by first | rfl | simp) (fun o9 h10 O11 => ?_)
 replace O11:Hold B h10 [pZ9 o1 2 [iv a_.default,Sl.enc a_.bigrams],pZ9 o5 2 [iv 0,kB3],pZ9 o9 2 [iv 0,kB3]]:=O11
 refine kA1 (v:=AV.ptr o1 1 0 0) rfl ?_
 refine kA1 (v:=iv a_.default) (O11.ld 0 rfl false 1 0) ?_
 refine kA1 (v:=AV.ptr o9 1 0 0) rfl ?_
 refine kAw O11 2 (cs':=[iv a_.default,kB3]) rfl (by first | rfl | simp) (by simp) (by first | rfl | simp) (by first | rfl | simp [kAx]) (fun h13 O14 => ?_)
 replace O14:Hold B h13 [pZ9 o1 2 [iv a_.default,Sl.enc a_.bigrams],pZ9 o5 2 [iv 0,kB3],pZ9 o9 2 [iv a_.default,kB3]]:=O14
 refine kA1 (v:=AV.ptr o1 1 0 1) rfl ?_
 refine kA1 (v:=Sl.enc a_.bigrams) (O14.ld 0 rfl false 1 1) ?_
 refine kBz he_q60 (kBp _ _) (fun c15 => ?_)
 refine sim_hand (A:=Bigram) O14 (fun x17 h18 O19 => ?_)
 replace O19:Hold B h18 [pZ9 o1 2 [iv a_.default,Sl.enc a_.bigrams],pZ9 o5 2 [iv 0,kB3],pZ9 o9 2 [iv a_.default,kB3],(x17,obS (c15:Sl Bigram))]:=O19
 refine kA1 (v:=AV.ptr o9 1 0 1) rfl ?_
 have jZ0:=O19.one (A:=Bigram) (s:=c15) 3 rfl
 refine kAw O19 2 (cs':=[iv a_.default,x17]) rfl (by first | rfl | simp [jZ0.1,jZ0.2]) (by simp) (by first | rfl | simp [jZ0.1,jZ0.2]) (by first | rfl | simp [kAx,jZ0.1,jZ0.2]) (fun h20 O21 => ?_)
 replace O21:Hold B h20 [pZ9 o1 2 [iv a_.default,Sl.enc a_.bigrams],pZ9 o5 2 [iv 0,kB3],pZ9 o9 2 [iv a_.default,x17],(x17,obS (c15:Sl Bigram))]:=O21
 refine kA1 (v:=AV.agg [iv a_.default,x17]) (O21.ld 2 rfl true 2 0) ?_
 have jZ0:=O21.one (A:=Bigram) (s:=c15) 3 rfl
 refine kAw O21 1 (cs':=[iv a_.default,x17]) rfl (by first | rfl | simp [jZ0.1,jZ0.2]) (by simp) (by first | rfl | simp [jZ0.1,jZ0.2]) (by first | rfl | simp [kAx,jZ0.1,jZ0.2]) (fun h22 O23 => ?_)
 replace O23:Hold B h22 [pZ9 o1 2 [iv a_.default,Sl.enc a_.bigrams],pZ9 o5 2 [iv a_.default,x17],pZ9 o9 2 [iv a_.default,x17],(x17,obS (c15:Sl Bigram))]:=O23
 refine kEc (kHh (v:=AV.agg [iv a_.default,x17]) (O23.ld 1 rfl true 2 0) (kEe _)) ?_
 dsimp only [pack]
 have O24:Hold B h22 [(x17,obS (c15:Sl Bigram))]:=O23.sel [3] (by decide) rfl
 exact kA6 (kF1 (by simp only [kJ0,kGv,kJo,kJu,ids_bv,ids_sv,ids_bt,kGt,kJe,O24.idsD (A:=Bigram) (s:=c15) 0 rfl,List.map_append,List.map_nil,List.flatMap_cons,List.flatMap_nil,List.append_nil,List.nil_append];simpa only [List.flatMap_cons,List.flatMap_nil,List.append_nil,List.nil_append] using O24.nd2) (by simp only [kJ4,kH3,kHt,kJz,rel_bv,rel_sv,rel_bt,kH1,kJn,O24.relD (A:=Bigram) (s:=c15) 0 rfl,omapc,omapn,kA4] <;> rfl))
theorem tt_q68:kAn Tryz.prog n_q68 (C1 (fun c:Model=>AV.agg [iv c.default,rS c.bigrams]) t_q68):=kDl (kBc tt_q60 E0) kBd hb_q68 fun a_=>ts_q68 _ (by simp [kBx]) a_
def s0_q74 (s_:ByteArray):Int→Option (Sum Int (Sum Unit Bool)):=fun w3 =>
 bif decide (w3<(s_.size:Int)) then
  kA0 (getB s_ w3) fun b14 =>
  kA0 (some (kFh b14)) fun c15 =>
  bif !c15 then
   some (.inr (.inr false))
  else
   some (.inl (wr (w3+1)))
 else
  some (.inr (.inl ()))
def t_q74 (s_:ByteArray):Option Bool :=
 kA0 (kBg (s0_q74 s_) 0) fun qq21=>match qq21 with
 | (.inl _) =>
   kA0 (some (kBb (s_.size:Int) 1 10)) fun c8 =>
   some c8
 | (.inr q11) =>
   some q11
theorem tl0_q74 (env:Nat→Contract) {B:Base} (he_q75:env kH5=.pure (T3 kBb)) (he_q76:env kJl=.pure (T1 kFh)) (s_:ByteArray) :kFq (fun (st:Int) tm h1=>match st with | w3=>tm=((sv s_)::und::.top::(iv w3)::tZ9 11 [und,und,und])∧Hold B h1 []) hm0_q74 xm0_q74 (lb0_q74 env) (s0_q74 s_) (fun (q:Sum Unit Bool) (r:Res)=>match q with | .inl _=>∃ (q7:Int) (z6:AV) (h4:kA9),r=(.exit 0,((sv s_)::und::z6::(iv q7)::tZ9 11 [und,und,und]),h4)∧Hold B h4 [] | .inr q11=>∃ (q12:Int) (h9:kA9),r=(.ret,((sv s_)::und::(bv q11)::(iv q12)::tZ9 11 [und,und,und]),h9)∧Hold B h9 []):=by
 refine @kG0 _ _ _ _ _ _ _ _ (fun w3 tm h1 R => ?_)
 obtain ⟨rfl,O2⟩:=R
 rw [e_lb0_q74]
 unfold s0_q74
 dsimp only
 refine kA1 (v:=iv (s_.size:Int)) rfl ?_
 refine kA1 (kAl _ _) ?_
 refine kAb (fun c13 => ?_) (fun c13 => ?_)
 ·refine sim_getB (fun b14 => ?_)
  refine kFo (t:=kFh) he_q76 (snapD_byte _ _) (fun c15 => ?_)
  refine kA1 (v:=bv (!c15)) (kBu _) ?_
  refine kAb (fun c16 => ?_) (fun c16 => ?_)
  ·exact kA6 ⟨nofun,_,_,rfl,O2⟩
  ·refine kA1 (kAj _ _) ?_
   exact kA6 ⟨rfl,rfl,O2⟩
 ·exact kA6 ⟨nofun,_,_,_,rfl,O2⟩
theorem ts_q74 (env:Nat→Contract) (he_q75:env kH5=.pure (T3 kBb)) (he_q76:env kJl=.pure (T1 kFh)) (s_:ByteArray):Sim (kAm Tryz.prog env n_q74 [sv s_] []) (t_q74 s_) fun c p=>release p.2 depth p.1=some ((fun c:Bool=>enc c) c):=by
 have O:=Hold.nil []
 generalize hB:(⟨[],[]⟩:Base)=B at O
 clear hB
 rw [e_q74]
 unfold t_q74
 refine kB6 ((tl0_q74 env he_q75 he_q76 s_) ⟨rfl,O⟩) (fun qq21 r hq => ?_)
 rcases qq21 with _ | q11
 ·obtain ⟨q7,z6,h4,rfl,O5⟩:=hq
  rw [e_lk0x0_q74]
  refine kA1 (v:=iv (s_.size:Int)) rfl ?_
  refine kGg (t:=kBb) he_q75 (kAy _ _) (kAy _ _) (kAy _ _) (fun c8 => ?_)
  exact kA6 (kA5 (by rfl) _)
 ·obtain ⟨q12,h9,rfl,O10⟩:=hq
  rw [e_lk0r_q74]
  exact kA6 (kA5 (by rfl) _)
theorem tt_q74:kAn Tryz.prog n_q74 (C1 (fun c:Bool=>enc c) t_q74):=kDl (kBc ok_q75 (kBc ok_q76 E0)) kBd hb_q74 fun s_=>ts_q74 _ (by simp [kBx]) (by simp [kBx]) s_
def s0_q86 (x_:Lexicon):Int→Option (Sum Int (Sum Unit Bool)):=fun w3 =>
 bif decide (w3<(((x_.entries.getD []).length:Nat):Int)) then
  kA0 (kC7 (x_.entries.getD []) w3) fun a15 =>
  kA0 (t_q74 a15.word) fun c19 =>
  kA0 (bif !c19 then some false else (kA0 (some (kBb a15.cost 0 1000000)) fun c21=>some (!c21))) fun c22 =>
  kA0 (bif (bif !c19 then true else c22) then some false else (some (decide (0<w3)))) fun c29 =>
  kA0 (bif (!(bif !c19 then true else c22) && c29) then (kA0 (kC7 (x_.entries.getD []) (wr (w3 - 1))) fun a33=>some (ltS a15.word a33.word || decide (a15.word=a33.word))) else some false) fun c37 =>
  kA0 (bif (bif !c19 then true else c22) then some false else (some (bif c29 then c37 else false))) fun c52 =>
  bif (bif (bif !c19 then true else c22) then true else c52) then
   some (.inr (.inr false))
  else
   some (.inl (wr (w3+1)))
 else
  some (.inr (.inl ()))
def t_q86 (x_:Lexicon):Option Bool :=
 kA0 (kBg (s0_q86 x_) 0) fun qq58=>match qq58 with
 | (.inl _) =>
   some (decide ((((x_.entries.getD []).length:Nat):Int)≤60))
 | (.inr q11) =>
   some q11
def tp_q86 (x_p:Pt Lexicon):Option Bool:=kA0 x_p.get fun x_=>t_q86 x_
theorem tl0_q86 (env:Nat→Contract) {B:Base} (he_q74:env n_q74=.pure (C1 (fun c:Bool=>enc c) t_q74)) (he_q75:env kH5=.pure (T3 kBb)) (x_:Lexicon) (x_p:Pt Lexicon) (hp_x_:x_p.get=some x_) :kFq (fun (st:Int) tm h1=>match st with | w3=>tm=((AV.fptr (Row.w Lexicon) (x_p.tab.map Row.cells) x_p.i 0)::und::.top::(iv w3)::tZ9 50 [und,und,und,und,und,und])∧Hold B h1 []) hm0_q86 xm0_q86 (lb0_q86 env) (s0_q86 x_) (fun (q:Sum Unit Bool) (r:Res)=>match q with | .inl _=>∃ (q7:Int) (z6:AV) (z8:AV) (h4:kA9),r=(.exit 0,((AV.fptr (Row.w Lexicon) (x_p.tab.map Row.cells) x_p.i 0)::und::z6::(iv q7)::z8::tZ9 49 [und,und,und,und,und,und]),h4)∧Hold B h4 [] | .inr q11=>∃ (q12:Int) (z13:AV) (h9:kA9),r=(.ret,((AV.fptr (Row.w Lexicon) (x_p.tab.map Row.cells) x_p.i 0)::und::(bv q11)::(iv q12)::z13::tZ9 49 [und,und,und,und,und,und]),h9)∧Hold B h9 []):=by
 refine @kG0 _ _ _ _ _ _ _ _ (fun w3 tm h1 R => ?_)
 obtain ⟨rfl,O2⟩:=R
 rw [e_lb0_q86]
 unfold s0_q86
 dsimp only
 refine kA1 (v:=AV.fptr (Row.w Lexicon) (x_p.tab.map Row.cells) x_p.i 0) rfl ?_
 refine kA1 (v:=AV.fptr (Row.w Lexicon) (x_p.tab.map Row.cells) x_p.i 0) rfl ?_
 refine kA1 (v:=Sl.enc x_.entries) (kC5 hp_x_ false 1 0) ?_
 refine kA1 (Tab.enc h1 x_.entries).len ?_
 refine kA1 (kAl _ _) ?_
 refine kAb (fun c14 => ?_) (fun c14 => ?_)
 ·refine kA1 (v:=AV.fptr (Row.w Lexicon) (x_p.tab.map Row.cells) x_p.i 0) rfl ?_
  refine kA1 (v:=AV.fptr (Row.w Lexicon) (x_p.tab.map Row.cells) x_p.i 0) rfl ?_
  refine kA1 (v:=Sl.enc x_.entries) (kC5 hp_x_ false 1 0) ?_
  refine kAr (Tab.enc h1 x_.entries) (fun m16 a15 hi17 hm18 => ?_)
  refine kA1 (v:=elp (Sl.enc x_.entries) m16 0) (kKd _ _ _) ?_
  refine kA1 (v:=elp (Sl.enc x_.entries) m16 0) ((Tab.enc h1 x_.entries).fld _ _ _) ?_
  refine kA1 (v:=sv a15.word) ((Tab.enc h1 x_.entries).ld hm18 false 1 0) ?_
  refine kCc he_q74 (kC4 _ _) (fun c19 => ?_)
  refine kAq (kAc (by rfl) _ _) ?_
  refine kA1 (v:=bv (!c19)) (kBu _) ?_
  refine sim_g6F (e:=bv) (fun hb20 => ?_) (fun y23 y24 y25 y26 y27 c22 => ?_)
  ·refine kAd ?_
   refine kAp ?_
   refine kA1 (v:=elp (Sl.enc x_.entries) m16 0) (kKd _ _ _) ?_
   refine kAd ?_
   refine kAp ?_
   refine kA1 (v:=elp (Sl.enc x_.entries) m16 1) ((Tab.enc h1 x_.entries).fld _ _ _) ?_
   refine kAd ?_
   refine kAp ?_
   refine kA1 (v:=iv a15.cost) ((Tab.enc h1 x_.entries).ld hm18 false 1 1) ?_
   refine kAd ?_
   refine kKh ?_
   refine sim_callVQ3 (t:=kBb) he_q75 (kAy _ _) (kAy _ _) (kAy _ _) (fun c21 => ?_)
   refine kAd ?_
   refine kA1 (v:=bv (!c21)) (kBu _) ?_
   exact kA6 rfl
  ·refine kA1 (v:=bv (bif !c19 then true else c22)) (kCh _ _ _) ?_
   refine sim_g3F (e:=bv) (fun hb28 => ?_) (fun y30 y31 c29 => ?_)
   ·refine kAd ?_
    refine kAp ?_
    refine kA1 (kDa _ _) ?_
    refine kAd ?_
    exact kA6 rfl
   ·simp only [gv_FT]
    refine sim_g14T (e:=bv) (fun hb32 => ?_) (fun y38 y39 y40 y41 y42 y43 y44 y45 y46 y47 y48 y49 y50 c37 => ?_)
    ·refine kAd ?_
     refine kAp ?_
     refine kA1 (v:=elp (Sl.enc x_.entries) m16 0) (kKd _ _ _) ?_
     refine kAd ?_
     refine kAp ?_
     refine kA1 (v:=elp (Sl.enc x_.entries) m16 0) ((Tab.enc h1 x_.entries).fld _ _ _) ?_
     refine kAd ?_
     refine kAp ?_
     refine kA1 (v:=sv a15.word) ((Tab.enc h1 x_.entries).ld hm18 false 1 0) ?_
     refine kAd ?_
     refine kAd ?_
     refine kAp ?_
     refine kA1 (v:=AV.fptr (Row.w Lexicon) (x_p.tab.map Row.cells) x_p.i 0) rfl ?_
     refine kAd ?_
     refine kAp ?_
     refine kA1 (v:=AV.fptr (Row.w Lexicon) (x_p.tab.map Row.cells) x_p.i 0) rfl ?_
     refine kAd ?_
     refine kAp ?_
     refine kA1 (v:=Sl.enc x_.entries) (kC5 hp_x_ false 1 0) ?_
     refine kAd ?_
     refine kAd ?_
     refine kAp ?_
     refine kA1 (kCa _ _) ?_
     refine kAd ?_
     refine kAp ?_
     refine kAr (Tab.enc h1 x_.entries) (fun m34 a33 hi35 hm36 => ?_)
     refine kAd ?_
     refine kAp ?_
     refine kA1 (v:=elp (Sl.enc x_.entries) m34 0) ((Tab.enc h1 x_.entries).fld _ _ _) ?_
     refine kAd ?_
     refine kAp ?_
     refine kA1 (v:=sv a33.word) ((Tab.enc h1 x_.entries).ld hm36 false 1 0) ?_
     refine kAd ?_
     refine kA1 (v:=bv (ltS a15.word a33.word || decide (a15.word=a33.word))) (str_leq _ _) ?_
     exact kA6 rfl
    ·refine kBt (e:=bv) (fun hb51 => ?_) (fun c52 => ?_)
     ·simp only [hb51,cond_true,cond_false,Bool.not_true,Bool.not_false,Bool.true_and,Bool.and_true,Bool.false_and,Bool.not_not]
      refine kA1 (v:=bv (bif c29 then c37 else false)) (kD3 _ _ _) ?_
      exact kA6 rfl
     ·refine kA1 (v:=bv (bif (bif !c19 then true else c22) then true else c52)) (kCh _ _ _) ?_
      refine kAb (fun c53 => ?_) (fun c53 => ?_)
      ·exact kA6 ⟨nofun,_,_,_,rfl,O2⟩
      ·refine kA1 (kAj _ _) ?_
       exact kA6 ⟨rfl,rfl,O2⟩
 ·exact kA6 ⟨nofun,_,_,_,_,rfl,O2⟩
theorem ts_q86 (env:Nat→Contract) (he_q74:env n_q74=.pure (C1 (fun c:Bool=>enc c) t_q74)) (he_q75:env kH5=.pure (T3 kBb)) (x_:Lexicon) {x_p:Pt Lexicon} (hp_x_:x_p.get=some x_):Sim (kAm Tryz.prog env n_q86 [AV.fptr (Row.w Lexicon) (x_p.tab.map Row.cells) x_p.i 0] []) (t_q86 x_) fun c p=>release p.2 depth p.1=some ((fun c:Bool=>enc c) c):=by
 have O:=Hold.nil []
 generalize hB:(⟨[],[]⟩:Base)=B at O
 clear hB
 rw [e_q86]
 unfold t_q86
 refine kB6 ((tl0_q86 env he_q74 he_q75 x_ x_p hp_x_) ⟨rfl,O⟩) (fun qq58 r hq => ?_)
 rcases qq58 with _ | q11
 ·obtain ⟨q7,z6,z8,h4,rfl,O5⟩:=hq
  rw [e_lk0x0_q86]
  refine kA1 (v:=AV.fptr (Row.w Lexicon) (x_p.tab.map Row.cells) x_p.i 0) rfl ?_
  refine kA1 (v:=AV.fptr (Row.w Lexicon) (x_p.tab.map Row.cells) x_p.i 0) rfl ?_
  refine kA1 (v:=Sl.enc x_.entries) (kC5 hp_x_ false 1 0) ?_
  refine kA1 (Tab.enc h4 x_.entries).len ?_
  refine kA1 (kFn _ _) ?_
  exact kA6 (kA5 (by rfl) _)
 ·obtain ⟨q12,z13,h9,rfl,O10⟩:=hq
  rw [e_lk0r_q86]
  exact kA6 (kA5 (by rfl) _)
theorem tt_q86:kAn Tryz.prog n_q86 (C1 (fun c:Bool=>enc c) tp_q86):=kDl (kBc tt_q74 (kBc ok_q75 E0)) kBd hb_q86 fun x_p=>kCj fun x_ hp_x_=>ts_q86 _ (by simp [kBx]) (by simp [kBx]) x_ hp_x_
def t_q92 (s_:ByteArray):Option Bool :=
 kA0 (bif decide (s_=(⟨#[]⟩:ByteArray)) then some false else (kA0 (t_q74 s_) fun c2=>some c2)) fun c3 =>
 some (bif decide (s_=(⟨#[]⟩:ByteArray)) then true else c3)
theorem ts_q92 (env:Nat→Contract) (he_q74:env n_q74=.pure (C1 (fun c:Bool=>enc c) t_q74)) (s_:ByteArray):Sim (kAm Tryz.prog env n_q92 [sv s_] []) (t_q92 s_) fun c p=>release p.2 depth p.1=some ((fun c:Bool=>enc c) c):=by
 have O:=Hold.nil []
 generalize hB:(⟨[],[]⟩:Base)=B at O
 clear hB
 rw [e_q92]
 unfold t_q92
 refine kA1 (kH6 _ _) ?_
 refine kBt (e:=bv) (fun hb1 => ?_) (fun c3 => ?_)
 ·refine kBz he_q74 (kC4 _ _) (fun c2 => ?_)
  refine kAq (kAc (by rfl) _ _) ?_
  exact kA6 rfl
 ·refine kA1 (v:=bv (bif decide (s_=(⟨#[]⟩:ByteArray)) then true else c3)) (kCh _ _ _) ?_
  exact kA6 (kA5 (by rfl) _)
theorem tt_q92:kAn Tryz.prog n_q92 (C1 (fun c:Bool=>enc c) t_q92):=kDl (kBc tt_q74 E0) kBd hb_q92 fun s_=>ts_q92 _ (by simp [kBx]) s_
def t_q90 (b_:Bigram):Option Bool :=
 kA0 (t_q92 b_.first) fun c1 =>
 kA0 (bif c1 then (kA0 (t_q74 b_.second) fun c3=>some c3) else some false) fun c4 =>
 kA0 (bif (bif c1 then c4 else false) then (kA0 (some (kBb b_.cost 0 1000000)) fun c6=>some c6) else some false) fun c7 =>
 some (bif (bif c1 then c4 else false) then c7 else false)
def tp_q90 (b_p:Pt Bigram):Option Bool:=kA0 b_p.get fun b_=>t_q90 b_
theorem ts_q90 (env:Nat→Contract) (he_q74:env n_q74=.pure (C1 (fun c:Bool=>enc c) t_q74)) (he_q75:env kH5=.pure (T3 kBb)) (he_q92:env n_q92=.pure (C1 (fun c:Bool=>enc c) t_q92)) (b_:Bigram) {b_p:Pt Bigram} (hp_b_:b_p.get=some b_):Sim (kAm Tryz.prog env n_q90 [AV.fptr (Row.w Bigram) (b_p.tab.map Row.cells) b_p.i 0] []) (t_q90 b_) fun c p=>release p.2 depth p.1=some ((fun c:Bool=>enc c) c):=by
 have O:=Hold.nil []
 generalize hB:(⟨[],[]⟩:Base)=B at O
 clear hB
 rw [e_q90]
 unfold t_q90
 refine kA1 (v:=AV.fptr (Row.w Bigram) (b_p.tab.map Row.cells) b_p.i 0) rfl ?_
 refine kA1 (v:=AV.fptr (Row.w Bigram) (b_p.tab.map Row.cells) b_p.i 0) rfl ?_
 refine kA1 (v:=sv b_.first) (kC5 hp_b_ false 1 0) ?_
 refine kBz he_q92 (kC4 _ _) (fun c1 => ?_)
 refine kAq (kAc (by rfl) _ _) ?_
 refine kC3 (e:=bv) (fun hb2 => ?_) (fun c4 => ?_)
 ·refine kA1 (v:=AV.fptr (Row.w Bigram) (b_p.tab.map Row.cells) b_p.i 0) rfl ?_
  refine kA1 (v:=AV.fptr (Row.w Bigram) (b_p.tab.map Row.cells) b_p.i 1) rfl ?_
  refine kA1 (v:=sv b_.second) (kC5 hp_b_ false 1 1) ?_
  refine kBz he_q74 (kC4 _ _) (fun c3 => ?_)
  refine kAq (kAc (by rfl) _ _) ?_
  exact kA6 rfl
 ·refine kA1 (v:=bv (bif c1 then c4 else false)) (kD3 _ _ _) ?_
  refine kC3 (e:=bv) (fun hb5 => ?_) (fun c7 => ?_)
  ·refine kA1 (v:=AV.fptr (Row.w Bigram) (b_p.tab.map Row.cells) b_p.i 0) rfl ?_
   refine kA1 (v:=AV.fptr (Row.w Bigram) (b_p.tab.map Row.cells) b_p.i 2) rfl ?_
   refine kA1 (v:=iv b_.cost) (kC5 hp_b_ false 1 2) ?_
   refine kGg (t:=kBb) he_q75 (kAy _ _) (kAy _ _) (kAy _ _) (fun c6 => ?_)
   exact kA6 rfl
  ·refine kA1 (v:=bv (bif (bif c1 then c4 else false) then c7 else false)) (kD3 _ _ _) ?_
   exact kA6 (kA5 (by rfl) _)
theorem tt_q90:kAn Tryz.prog n_q90 (C1 (fun c:Bool=>enc c) tp_q90):=kDl (kBc tt_q74 (kBc ok_q75 (kBc tt_q92 E0))) kBd hb_q90 fun b_p=>kCj fun b_ hp_b_=>ts_q90 _ (by simp [kBx]) (by simp [kBx]) (by simp [kBx]) b_ hp_b_
def t_q88 (a_:Bigram) (b_:Bigram):Option Bool :=
 kA0 (bif ltS a_.first b_.first then some false else (some (decide (a_.first=b_.first)))) fun c2 =>
 kA0 (bif (!(ltS a_.first b_.first) && c2) then (some (ltS a_.second b_.second)) else some false) fun c13 =>
 kA0 (bif ltS a_.first b_.first then some false else (some (bif c2 then c13 else false))) fun c23 =>
 some (bif ltS a_.first b_.first then true else c23)
def tp_q88 (a_p:Pt Bigram) (b_p:Pt Bigram):Option Bool:=kA0 a_p.get fun a_=>kA0 b_p.get fun b_=>t_q88 a_ b_
theorem ts_q88 (env:Nat→Contract)  (a_:Bigram) (b_:Bigram) {a_p:Pt Bigram} (hp_a_:a_p.get=some a_) {b_p:Pt Bigram} (hp_b_:b_p.get=some b_):Sim (kAm Tryz.prog env n_q88 [AV.fptr (Row.w Bigram) (a_p.tab.map Row.cells) a_p.i 0,AV.fptr (Row.w Bigram) (b_p.tab.map Row.cells) b_p.i 0] []) (t_q88 a_ b_) fun c p=>release p.2 depth p.1=some ((fun c:Bool=>enc c) c):=by
 have O:=Hold.nil []
 generalize hB:(⟨[],[]⟩:Base)=B at O
 clear hB
 rw [e_q88]
 unfold t_q88
 refine kA1 (v:=AV.fptr (Row.w Bigram) (a_p.tab.map Row.cells) a_p.i 0) rfl ?_
 refine kA1 (v:=AV.fptr (Row.w Bigram) (a_p.tab.map Row.cells) a_p.i 0) rfl ?_
 refine kA1 (v:=sv a_.first) (kC5 hp_a_ false 1 0) ?_
 refine kA1 (v:=AV.fptr (Row.w Bigram) (b_p.tab.map Row.cells) b_p.i 0) rfl ?_
 refine kA1 (v:=AV.fptr (Row.w Bigram) (b_p.tab.map Row.cells) b_p.i 0) rfl ?_
 refine kA1 (v:=sv b_.first) (kC5 hp_b_ false 1 0) ?_
 refine kA1 (v:=bv (ltS a_.first b_.first)) (str_lss _ _) ?_
 refine sim_g10F (e:=bv) (fun hb1 => ?_) (fun y3 y4 y5 y6 y7 y8 y9 y10 y11 c2 => ?_)
 ·refine kAd ?_
  refine kAp ?_
  refine kA1 (v:=AV.fptr (Row.w Bigram) (a_p.tab.map Row.cells) a_p.i 0) rfl ?_
  refine kAd ?_
  refine kAp ?_
  refine kA1 (v:=AV.fptr (Row.w Bigram) (a_p.tab.map Row.cells) a_p.i 0) rfl ?_
  refine kAd ?_
  refine kAp ?_
  refine kA1 (v:=sv a_.first) (kC5 hp_a_ false 1 0) ?_
  refine kAd ?_
  refine kAd ?_
  refine kAp ?_
  refine kA1 (v:=AV.fptr (Row.w Bigram) (b_p.tab.map Row.cells) b_p.i 0) rfl ?_
  refine kAd ?_
  refine kAp ?_
  refine kA1 (v:=AV.fptr (Row.w Bigram) (b_p.tab.map Row.cells) b_p.i 0) rfl ?_
  refine kAd ?_
  refine kAp ?_
  refine kA1 (v:=sv b_.first) (kC5 hp_b_ false 1 0) ?_
  refine kAd ?_
  refine kAp ?_
  refine kA1 (kH6 _ _) ?_
  refine kAd ?_
  exact kA6 rfl
 ·simp only [gv_FT]
  refine sim_g9T (e:=bv) (fun hb12 => ?_) (fun y14 y15 y16 y17 y18 y19 y20 y21 c13 => ?_)
  ·refine kAd ?_
   refine kAp ?_
   refine kA1 (v:=AV.fptr (Row.w Bigram) (a_p.tab.map Row.cells) a_p.i 0) rfl ?_
   refine kAd ?_
   refine kAp ?_
   refine kA1 (v:=AV.fptr (Row.w Bigram) (a_p.tab.map Row.cells) a_p.i 1) rfl ?_
   refine kAd ?_
   refine kAp ?_
   refine kA1 (v:=sv a_.second) (kC5 hp_a_ false 1 1) ?_
   refine kAd ?_
   refine kAd ?_
   refine kAp ?_
   refine kA1 (v:=AV.fptr (Row.w Bigram) (b_p.tab.map Row.cells) b_p.i 0) rfl ?_
   refine kAd ?_
   refine kAp ?_
   refine kA1 (v:=AV.fptr (Row.w Bigram) (b_p.tab.map Row.cells) b_p.i 1) rfl ?_
   refine kAd ?_
   refine kAp ?_
   refine kA1 (v:=sv b_.second) (kC5 hp_b_ false 1 1) ?_
   refine kAd ?_
   refine kA1 (v:=bv (ltS a_.second b_.second)) (str_lss _ _) ?_
   exact kA6 rfl
  ·refine kBt (e:=bv) (fun hb22 => ?_) (fun c23 => ?_)
   ·simp only [hb22,cond_true,cond_false,Bool.not_true,Bool.not_false,Bool.true_and,Bool.and_true,Bool.false_and,Bool.not_not]
    refine kA1 (v:=bv (bif c2 then c13 else false)) (kD3 _ _ _) ?_
    exact kA6 rfl
   ·refine kA1 (v:=bv (bif ltS a_.first b_.first then true else c23)) (kCh _ _ _) ?_
    exact kA6 (kA5 (by rfl) _)
theorem tt_q88:kAn Tryz.prog n_q88 (C2 (fun c:Bool=>enc c) tp_q88):=kCe E0 kBd hb_q88 fun a_p b_p=>kCj fun a_ hp_a_=>kCj fun b_ hp_b_=>ts_q88 _  a_ b_ hp_a_ hp_b_
def s0_q95 (m_:Model):Int→Option (Sum Int (Sum Unit Bool)):=fun w3 =>
 bif decide (w3<(((m_.bigrams.getD []).length:Nat):Int)) then
  kA0 (kC7 (m_.bigrams.getD []) w3) fun a16 =>
  kA0 (t_q90 a16) fun c20 =>
  kA0 (bif !c20 then some false else (some (decide (0<w3)))) fun c22 =>
  kA0 (bif (!(!c20) && c22) then (kA0 (kC7 (m_.bigrams.getD []) (wr (w3 - 1))) fun a26=>kA0 (kC7 (m_.bigrams.getD []) w3) fun a30=>kA0 (t_q88 a26 a30) fun c34=>some (!c34)) else some false) fun c35 =>
  kA0 (bif !c20 then some false else (some (bif c22 then c35 else false))) fun c51 =>
  bif (bif !c20 then true else c51) then
   some (.inr (.inr false))
  else
   some (.inl (wr (w3+1)))
 else
  some (.inr (.inl ()))
def t_q95 (m_:Model):Option Bool :=
 kA0 (kBg (s0_q95 m_) 0) fun qq57=>match qq57 with
 | (.inl _) =>
   kA0 (some (kBb m_.default 0 1000000)) fun c8 =>
   kA0 (bif c8 then (some (decide ((((m_.bigrams.getD []).length:Nat):Int)≤60))) else some false) fun c10 =>
   some (bif c8 then c10 else false)
 | (.inr q13) =>
   some q13
def tp_q95 (m_p:Pt Model):Option Bool:=kA0 m_p.get fun m_=>t_q95 m_
theorem tl0_q95 (env:Nat→Contract) {B:Base} (he_q75:env kH5=.pure (T3 kBb)) (he_q88:env n_q88=.pure (C2 (fun c:Bool=>enc c) tp_q88)) (he_q90:env n_q90=.pure (C1 (fun c:Bool=>enc c) tp_q90)) (m_:Model) (m_p:Pt Model) (hp_m_:m_p.get=some m_) :kFq (fun (st:Int) tm h1=>match st with | w3=>tm=((AV.fptr (Row.w Model) (m_p.tab.map Row.cells) m_p.i 0)::und::.top::(iv w3)::tZ9 38 [und,und,und,und,und,und,und,und,und,und,und,und,und])∧Hold B h1 []) hm0_q95 xm0_q95 (lb0_q95 env) (s0_q95 m_) (fun (q:Sum Unit Bool) (r:Res)=>match q with | .inl _=>∃ (q7:Int) (z6:AV) (h4:kA9),r=(.exit 0,((AV.fptr (Row.w Model) (m_p.tab.map Row.cells) m_p.i 0)::und::z6::(iv q7)::tZ9 38 [und,und,und,und,und,und,und,und,und,und,und,und,und]),h4)∧Hold B h4 [] | .inr q13=>∃ (q14:Int) (h11:kA9),r=(.ret,((AV.fptr (Row.w Model) (m_p.tab.map Row.cells) m_p.i 0)::und::(bv q13)::(iv q14)::tZ9 38 [und,und,und,und,und,und,und,und,und,und,und,und,und]),h11)∧Hold B h11 []):=by
 refine @kG0 _ _ _ _ _ _ _ _ (fun w3 tm h1 R => ?_)
 obtain ⟨rfl,O2⟩:=R
 rw [e_lb0_q95]
 unfold s0_q95
 dsimp only
 refine kA1 (v:=AV.fptr (Row.w Model) (m_p.tab.map Row.cells) m_p.i 0) rfl ?_
 refine kA1 (v:=AV.fptr (Row.w Model) (m_p.tab.map Row.cells) m_p.i 1) rfl ?_
 refine kA1 (v:=Sl.enc m_.bigrams) (kC5 hp_m_ false 1 1) ?_
 refine kA1 (Tab.enc h1 m_.bigrams).len ?_
 refine kA1 (kAl _ _) ?_
 refine kAb (fun c15 => ?_) (fun c15 => ?_)
 ·refine kA1 (v:=AV.fptr (Row.w Model) (m_p.tab.map Row.cells) m_p.i 0) rfl ?_
  refine kA1 (v:=AV.fptr (Row.w Model) (m_p.tab.map Row.cells) m_p.i 1) rfl ?_
  refine kA1 (v:=Sl.enc m_.bigrams) (kC5 hp_m_ false 1 1) ?_
  refine kAr (Tab.enc h1 m_.bigrams) (fun m17 a16 hi18 hm19 => ?_)
  refine kE3 (y':=tp_q90 ⟨m_.bigrams.getD [],m17⟩) (by simp only [tp_q90,kFm hm19,kA4]) ?_
  refine kCc he_q90 (kEm _ m_.bigrams hm19) (fun c20 => ?_)
  refine kAq (kAc (by rfl) _ _) ?_
  refine kA1 (v:=bv (!c20)) (kBu _) ?_
  refine sim_g3F (e:=bv) (fun hb21 => ?_) (fun y23 y24 c22 => ?_)
  ·refine kAd ?_
   refine kAp ?_
   refine kA1 (kDa _ _) ?_
   refine kAd ?_
   exact kA6 rfl
  ·simp only [gv_FT]
   refine sim_g15T (e:=bv) (fun hb25 => ?_) (fun y36 y37 y38 y39 y40 y41 y42 y43 y44 y45 y46 y47 y48 y49 c35 => ?_)
   ·refine kAd ?_
    refine kAp ?_
    refine kA1 (v:=AV.fptr (Row.w Model) (m_p.tab.map Row.cells) m_p.i 0) rfl ?_
    refine kAd ?_
    refine kAp ?_
    refine kA1 (v:=AV.fptr (Row.w Model) (m_p.tab.map Row.cells) m_p.i 1) rfl ?_
    refine kAd ?_
    refine kAp ?_
    refine kA1 (v:=Sl.enc m_.bigrams) (kC5 hp_m_ false 1 1) ?_
    refine kAd ?_
    refine kAd ?_
    refine kAp ?_
    refine kA1 (kCa _ _) ?_
    refine kAd ?_
    refine kAp ?_
    refine kAr (Tab.enc h1 m_.bigrams) (fun m27 a26 hi28 hm29 => ?_)
    refine kAd ?_
    refine kAd ?_
    refine kAp ?_
    refine kA1 (v:=AV.fptr (Row.w Model) (m_p.tab.map Row.cells) m_p.i 0) rfl ?_
    refine kAd ?_
    refine kAp ?_
    refine kA1 (v:=AV.fptr (Row.w Model) (m_p.tab.map Row.cells) m_p.i 1) rfl ?_
    refine kAd ?_
    refine kAp ?_
    refine kA1 (v:=Sl.enc m_.bigrams) (kC5 hp_m_ false 1 1) ?_
    refine kAd ?_
    refine kAd ?_
    refine kAp ?_
    refine kAr (Tab.enc h1 m_.bigrams) (fun m31 a30 hi32 hm33 => ?_)
    refine kAd ?_
    refine kKh ?_
    refine kE3 (y':=tp_q88 ⟨m_.bigrams.getD [],m27⟩ ⟨m_.bigrams.getD [],m31⟩) (by simp only [tp_q88,kFm hm29,kFm hm33,kA4]) ?_
    refine kCb he_q88 (kEm _ m_.bigrams hm29) (kEm _ m_.bigrams hm33) (fun c34 => ?_)
    refine kAq (kAc (by rfl) _ _) ?_
    refine kAd ?_
    refine kA1 (v:=bv (!c34)) (kBu _) ?_
    exact kA6 rfl
   ·refine kBt (e:=bv) (fun hb50 => ?_) (fun c51 => ?_)
    ·simp only [hb50,cond_true,cond_false,Bool.not_true,Bool.not_false,Bool.true_and,Bool.and_true,Bool.false_and,Bool.not_not]
     refine kA1 (v:=bv (bif c22 then c35 else false)) (kD3 _ _ _) ?_
     exact kA6 rfl
    ·refine kA1 (v:=bv (bif !c20 then true else c51)) (kCh _ _ _) ?_
     refine kAb (fun c52 => ?_) (fun c52 => ?_)
     ·exact kA6 ⟨nofun,_,_,rfl,O2⟩
     ·refine kA1 (kAj _ _) ?_
      exact kA6 ⟨rfl,rfl,O2⟩
 ·exact kA6 ⟨nofun,_,_,_,rfl,O2⟩
theorem ts_q95 (env:Nat→Contract) (he_q75:env kH5=.pure (T3 kBb)) (he_q88:env n_q88=.pure (C2 (fun c:Bool=>enc c) tp_q88)) (he_q90:env n_q90=.pure (C1 (fun c:Bool=>enc c) tp_q90)) (m_:Model) {m_p:Pt Model} (hp_m_:m_p.get=some m_):Sim (kAm Tryz.prog env n_q95 [AV.fptr (Row.w Model) (m_p.tab.map Row.cells) m_p.i 0] []) (t_q95 m_) fun c p=>release p.2 depth p.1=some ((fun c:Bool=>enc c) c):=by
 have O:=Hold.nil []
 generalize hB:(⟨[],[]⟩:Base)=B at O
 clear hB
 rw [e_q95]
 unfold t_q95
 refine kB6 ((tl0_q95 env he_q75 he_q88 he_q90 m_ m_p hp_m_) ⟨rfl,O⟩) (fun qq57 r hq => ?_)
 rcases qq57 with _ | q13
 ·obtain ⟨q7,z6,h4,rfl,O5⟩:=hq
  rw [e_lk0x0_q95]
  refine kA1 (v:=AV.fptr (Row.w Model) (m_p.tab.map Row.cells) m_p.i 0) rfl ?_
  refine kA1 (v:=AV.fptr (Row.w Model) (m_p.tab.map Row.cells) m_p.i 0) rfl ?_
  refine kA1 (v:=iv m_.default) (kC5 hp_m_ false 1 0) ?_
  refine kGg (t:=kBb) he_q75 (kAy _ _) (kAy _ _) (kAy _ _) (fun c8 => ?_)
  refine kC3 (e:=bv) (fun hb9 => ?_) (fun c10 => ?_)
  ·refine kA1 (v:=AV.fptr (Row.w Model) (m_p.tab.map Row.cells) m_p.i 0) rfl ?_
   refine kA1 (v:=AV.fptr (Row.w Model) (m_p.tab.map Row.cells) m_p.i 1) rfl ?_
   refine kA1 (v:=Sl.enc m_.bigrams) (kC5 hp_m_ false 1 1) ?_
   refine kA1 (Tab.enc h4 m_.bigrams).len ?_
   refine kA1 (kFn _ _) ?_
   exact kA6 rfl
  ·refine kA1 (v:=bv (bif c8 then c10 else false)) (kD3 _ _ _) ?_
   exact kA6 (kA5 (by rfl) _)
 ·obtain ⟨q14,h11,rfl,O12⟩:=hq
  rw [e_lk0r_q95]
  exact kA6 (kA5 (by rfl) _)
theorem tt_q95:kAn Tryz.prog n_q95 (C1 (fun c:Bool=>enc c) tp_q95):=kDl (kBc ok_q75 (kBc tt_q88 (kBc tt_q90 E0))) kBd hb_q95 fun m_p=>kCj fun m_ hp_m_=>ts_q95 _ (by simp [kBx]) (by simp [kBx]) (by simp [kBx]) m_ hp_m_
def t_q79 (l_:Lattice) (e_:Edg):Option Bool :=
 kA0 (bif decide (0≤e_.frm) then (some (decide (e_.frm<e_.upto))) else some false) fun c2 =>
 kA0 (bif (bif decide (0≤e_.frm) then c2 else false) then (some (decide (e_.upto≤(wr (l_.nodes - 1))))) else some false) fun c12 =>
 kA0 (bif (bif (bif decide (0≤e_.frm) then c2 else false) then c12 else false) then (kA0 (some (kBb e_.cost 0 1000000)) fun c23=>some c23) else some false) fun c24 =>
 some (bif (bif (bif decide (0≤e_.frm) then c2 else false) then c12 else false) then c24 else false)
def tp_q79 (l_p:Pt Lattice) (e_p:Pt Edg):Option Bool:=kA0 l_p.get fun l_=>kA0 e_p.get fun e_=>t_q79 l_ e_
theorem ts_q79 (env:Nat→Contract) (he_q75:env kH5=.pure (T3 kBb)) (l_:Lattice) (e_:Edg) {l_p:Pt Lattice} (hp_l_:l_p.get=some l_) {e_p:Pt Edg} (hp_e_:e_p.get=some e_):Sim (kAm Tryz.prog env n_q79 [AV.fptr (Row.w Lattice) (l_p.tab.map Row.cells) l_p.i 0,AV.fptr (Row.w Edg) (e_p.tab.map Row.cells) e_p.i 0] []) (t_q79 l_ e_) fun c p=>release p.2 depth p.1=some ((fun c:Bool=>enc c) c):=by
 have O:=Hold.nil []
 generalize hB:(⟨[],[]⟩:Base)=B at O
 clear hB
 rw [e_q79]
 unfold t_q79
 refine kA1 (v:=AV.fptr (Row.w Edg) (e_p.tab.map Row.cells) e_p.i 0) rfl ?_
 refine kA1 (v:=AV.fptr (Row.w Edg) (e_p.tab.map Row.cells) e_p.i 0) rfl ?_
 refine kA1 (v:=iv e_.frm) (kC5 hp_e_ false 1 0) ?_
 refine kA1 (kG8 _ _) ?_
 refine sim_g9T (e:=bv) (fun hb1 => ?_) (fun y3 y4 y5 y6 y7 y8 y9 y10 c2 => ?_)
 ·refine kAd ?_
  refine kAp ?_
  refine kA1 (v:=AV.fptr (Row.w Edg) (e_p.tab.map Row.cells) e_p.i 0) rfl ?_
  refine kAd ?_
  refine kAp ?_
  refine kA1 (v:=AV.fptr (Row.w Edg) (e_p.tab.map Row.cells) e_p.i 0) rfl ?_
  refine kAd ?_
  refine kAp ?_
  refine kA1 (v:=iv e_.frm) (kC5 hp_e_ false 1 0) ?_
  refine kAd ?_
  refine kAd ?_
  refine kAp ?_
  refine kA1 (v:=AV.fptr (Row.w Edg) (e_p.tab.map Row.cells) e_p.i 0) rfl ?_
  refine kAd ?_
  refine kAp ?_
  refine kA1 (v:=AV.fptr (Row.w Edg) (e_p.tab.map Row.cells) e_p.i 1) rfl ?_
  refine kAd ?_
  refine kAp ?_
  refine kA1 (v:=iv e_.upto) (kC5 hp_e_ false 1 1) ?_
  refine kAd ?_
  refine kA1 (kAl _ _) ?_
  exact kA6 rfl
 ·refine kA1 (v:=bv (bif decide (0≤e_.frm) then c2 else false)) (kD3 _ _ _) ?_
  refine sim_g10T (e:=bv) (fun hb11 => ?_) (fun y13 y14 y15 y16 y17 y18 y19 y20 y21 c12 => ?_)
  ·refine kAd ?_
   refine kAp ?_
   refine kA1 (v:=AV.fptr (Row.w Edg) (e_p.tab.map Row.cells) e_p.i 0) rfl ?_
   refine kAd ?_
   refine kAp ?_
   refine kA1 (v:=AV.fptr (Row.w Edg) (e_p.tab.map Row.cells) e_p.i 1) rfl ?_
   refine kAd ?_
   refine kAp ?_
   refine kA1 (v:=iv e_.upto) (kC5 hp_e_ false 1 1) ?_
   refine kAd ?_
   refine kAd ?_
   refine kAp ?_
   refine kA1 (v:=AV.fptr (Row.w Lattice) (l_p.tab.map Row.cells) l_p.i 0) rfl ?_
   refine kAd ?_
   refine kAp ?_
   refine kA1 (v:=AV.fptr (Row.w Lattice) (l_p.tab.map Row.cells) l_p.i 0) rfl ?_
   refine kAd ?_
   refine kAp ?_
   refine kA1 (v:=iv l_.nodes) (kC5 hp_l_ false 1 0) ?_
   refine kAd ?_
   refine kAp ?_
   refine kA1 (kCa _ _) ?_
   refine kAd ?_
   refine kA1 (kFn _ _) ?_
   exact kA6 rfl
  ·refine kA1 (v:=bv (bif (bif decide (0≤e_.frm) then c2 else false) then c12 else false)) (kD3 _ _ _) ?_
   refine sim_g5T (e:=bv) (fun hb22 => ?_) (fun y25 y26 y27 y28 c24 => ?_)
   ·refine kAd ?_
    refine kAp ?_
    refine kA1 (v:=AV.fptr (Row.w Edg) (e_p.tab.map Row.cells) e_p.i 0) rfl ?_
    refine kAd ?_
    refine kAp ?_
    refine kA1 (v:=AV.fptr (Row.w Edg) (e_p.tab.map Row.cells) e_p.i 3) rfl ?_
    refine kAd ?_
    refine kAp ?_
    refine kA1 (v:=iv e_.cost) (kC5 hp_e_ false 1 3) ?_
    refine kAd ?_
    refine sim_callVQ3 (t:=kBb) he_q75 (kAy _ _) (kAy _ _) (kAy _ _) (fun c23 => ?_)
    exact kA6 rfl
   ·refine kA1 (v:=bv (bif (bif (bif decide (0≤e_.frm) then c2 else false) then c12 else false) then c24 else false)) (kD3 _ _ _) ?_
    exact kA6 (kA5 (by rfl) _)
theorem tt_q79:kAn Tryz.prog n_q79 (C2 (fun c:Bool=>enc c) tp_q79):=kCe (kBc ok_q75 E0) kBd hb_q79 fun l_p e_p=>kCj fun l_ hp_l_=>kCj fun e_ hp_e_=>ts_q79 _ (by simp [kBx]) l_ e_ hp_l_ hp_e_
def t_q82 (a_:Int) (b_:Int):Option Int :=
 bif decide (a_<b_) then
  some (-1)
 else
  bif decide (b_<a_) then
   some 1
  else
   some 0
theorem ts_q82 (env:Nat→Contract)  (a_:Int) (b_:Int):Sim (kAm Tryz.prog env n_q82 [iv a_,iv b_] []) (t_q82 a_ b_) fun c p=>release p.2 depth p.1=some ((fun c:Int=>enc c) c):=by
 have O:=Hold.nil []
 generalize hB:(⟨[],[]⟩:Base)=B at O
 clear hB
 rw [e_q82]
 unfold t_q82
 refine kA1 (kAl _ _) ?_
 refine kAb (fun c1 => ?_) (fun c1 => ?_)
 ·exact kA6 (kA5 (by rfl) _)
 ·refine kA1 (kDa _ _) ?_
  refine kAb (fun c2 => ?_) (fun c2 => ?_)
  ·exact kA6 (kA5 (by rfl) _)
  ·exact kA6 (kA5 (by rfl) _)
theorem tt_q82:kAn Tryz.prog n_q82 (C2 (fun c:Int=>enc c) t_q82):=kCe E0 kBd hb_q82 fun a_ b_=>ts_q82 _  a_ b_
def t_q81 (a_:Edg) (b_:Edg):Option Int :=
 bif !decide (a_.frm=b_.frm) then
  kA0 (t_q82 a_.frm b_.frm) fun c2 =>
  some c2
 else
  bif !decide (a_.upto=b_.upto) then
   kA0 (t_q82 a_.upto b_.upto) fun c4 =>
   some c4
  else
   bif ltS a_.label b_.label then
    some (-1)
   else
    bif !(ltS a_.label b_.label || decide (a_.label=b_.label)) then
     some 1
    else
     some 0
def tp_q81 (a_p:Pt Edg) (b_p:Pt Edg):Option Int:=kA0 a_p.get fun a_=>kA0 b_p.get fun b_=>t_q81 a_ b_
theorem ts_q81 (env:Nat→Contract) (he_q82:env n_q82=.pure (C2 (fun c:Int=>enc c) t_q82)) (a_:Edg) (b_:Edg) {a_p:Pt Edg} (hp_a_:a_p.get=some a_) {b_p:Pt Edg} (hp_b_:b_p.get=some b_):Sim (kAm Tryz.prog env n_q81 [AV.fptr (Row.w Edg) (a_p.tab.map Row.cells) a_p.i 0,AV.fptr (Row.w Edg) (b_p.tab.map Row.cells) b_p.i 0] []) (t_q81 a_ b_) fun c p=>release p.2 depth p.1=some ((fun c:Int=>enc c) c):=by
 have O:=Hold.nil []
 generalize hB:(⟨[],[]⟩:Base)=B at O
 clear hB
 rw [e_q81]
 unfold t_q81
 refine kA1 (v:=AV.fptr (Row.w Edg) (a_p.tab.map Row.cells) a_p.i 0) rfl ?_
 refine kA1 (v:=AV.fptr (Row.w Edg) (a_p.tab.map Row.cells) a_p.i 0) rfl ?_
 refine kA1 (v:=iv a_.frm) (kC5 hp_a_ false 1 0) ?_
 refine kA1 (v:=AV.fptr (Row.w Edg) (b_p.tab.map Row.cells) b_p.i 0) rfl ?_
 refine kA1 (v:=AV.fptr (Row.w Edg) (b_p.tab.map Row.cells) b_p.i 0) rfl ?_
 refine kA1 (v:=iv b_.frm) (kC5 hp_b_ false 1 0) ?_
 refine kA1 (kCo _ _) ?_
 refine kAb (fun c1 => ?_) (fun c1 => ?_)
 ·refine kA1 (v:=AV.fptr (Row.w Edg) (a_p.tab.map Row.cells) a_p.i 0) rfl ?_
  refine kA1 (v:=AV.fptr (Row.w Edg) (a_p.tab.map Row.cells) a_p.i 0) rfl ?_
  refine kA1 (v:=iv a_.frm) (kC5 hp_a_ false 1 0) ?_
  refine kA1 (v:=AV.fptr (Row.w Edg) (b_p.tab.map Row.cells) b_p.i 0) rfl ?_
  refine kA1 (v:=AV.fptr (Row.w Edg) (b_p.tab.map Row.cells) b_p.i 0) rfl ?_
  refine kA1 (v:=iv b_.frm) (kC5 hp_b_ false 1 0) ?_
  refine kCb he_q82 (kAy _ _) (kAy _ _) (fun c2 => ?_)
  refine kAq (kAc (by rfl) _ _) ?_
  exact kA6 (kA5 (by rfl) _)
 ·refine kA1 (v:=AV.fptr (Row.w Edg) (a_p.tab.map Row.cells) a_p.i 0) rfl ?_
  refine kA1 (v:=AV.fptr (Row.w Edg) (a_p.tab.map Row.cells) a_p.i 1) rfl ?_
  refine kA1 (v:=iv a_.upto) (kC5 hp_a_ false 1 1) ?_
  refine kA1 (v:=AV.fptr (Row.w Edg) (b_p.tab.map Row.cells) b_p.i 0) rfl ?_
  refine kA1 (v:=AV.fptr (Row.w Edg) (b_p.tab.map Row.cells) b_p.i 1) rfl ?_
  refine kA1 (v:=iv b_.upto) (kC5 hp_b_ false 1 1) ?_
  refine kA1 (kCo _ _) ?_
  refine kAb (fun c3 => ?_) (fun c3 => ?_)
  ·refine kA1 (v:=AV.fptr (Row.w Edg) (a_p.tab.map Row.cells) a_p.i 0) rfl ?_
   refine kA1 (v:=AV.fptr (Row.w Edg) (a_p.tab.map Row.cells) a_p.i 1) rfl ?_
   refine kA1 (v:=iv a_.upto) (kC5 hp_a_ false 1 1) ?_
   refine kA1 (v:=AV.fptr (Row.w Edg) (b_p.tab.map Row.cells) b_p.i 0) rfl ?_
   refine kA1 (v:=AV.fptr (Row.w Edg) (b_p.tab.map Row.cells) b_p.i 1) rfl ?_
   refine kA1 (v:=iv b_.upto) (kC5 hp_b_ false 1 1) ?_
   refine kCb he_q82 (kAy _ _) (kAy _ _) (fun c4 => ?_)
   refine kAq (kAc (by rfl) _ _) ?_
   exact kA6 (kA5 (by rfl) _)
  ·refine kA1 (v:=AV.fptr (Row.w Edg) (a_p.tab.map Row.cells) a_p.i 0) rfl ?_
   refine kA1 (v:=AV.fptr (Row.w Edg) (a_p.tab.map Row.cells) a_p.i 2) rfl ?_
   refine kA1 (v:=sv a_.label) (kC5 hp_a_ false 1 2) ?_
   refine kA1 (v:=AV.fptr (Row.w Edg) (b_p.tab.map Row.cells) b_p.i 0) rfl ?_
   refine kA1 (v:=AV.fptr (Row.w Edg) (b_p.tab.map Row.cells) b_p.i 2) rfl ?_
   refine kA1 (v:=sv b_.label) (kC5 hp_b_ false 1 2) ?_
   refine kA1 (v:=bv (ltS a_.label b_.label)) (str_lss _ _) ?_
   refine kAb (fun c5 => ?_) (fun c5 => ?_)
   ·exact kA6 (kA5 (by rfl) _)
   ·refine kA1 (v:=AV.fptr (Row.w Edg) (a_p.tab.map Row.cells) a_p.i 0) rfl ?_
    refine kA1 (v:=AV.fptr (Row.w Edg) (a_p.tab.map Row.cells) a_p.i 2) rfl ?_
    refine kA1 (v:=sv a_.label) (kC5 hp_a_ false 1 2) ?_
    refine kA1 (v:=AV.fptr (Row.w Edg) (b_p.tab.map Row.cells) b_p.i 0) rfl ?_
    refine kA1 (v:=AV.fptr (Row.w Edg) (b_p.tab.map Row.cells) b_p.i 2) rfl ?_
    refine kA1 (v:=sv b_.label) (kC5 hp_b_ false 1 2) ?_
    refine kA1 (v:=bv (!(ltS a_.label b_.label || decide (a_.label=b_.label)))) (str_gtr _ _) ?_
    refine kAb (fun c6 => ?_) (fun c6 => ?_)
    ·exact kA6 (kA5 (by rfl) _)
    ·exact kA6 (kA5 (by rfl) _)
theorem tt_q81:kAn Tryz.prog n_q81 (C2 (fun c:Int=>enc c) tp_q81):=kCe (kBc tt_q82 E0) kBd hb_q81 fun a_p b_p=>kCj fun a_ hp_a_=>kCj fun b_ hp_b_=>ts_q81 _ (by simp [kBx]) a_ b_ hp_a_ hp_b_
def s0_q80 (l_:Lattice):Int→Option (Sum Int (Sum Unit Bool)):=fun w7 =>
 bif decide (w7<(((l_.edges.getD []).length:Nat):Int)) then
  kA0 (kC7 (l_.edges.getD []) w7) fun a17 =>
  kA0 (t_q79 l_ a17) fun c21 =>
  kA0 (bif !c21 then some false else (kA0 (kC7 (l_.edges.getD []) w7) fun a23=>kA0 (some (kDk a23.label)) fun c27=>some (!c27))) fun c28 =>
  kA0 (bif (bif !c21 then true else c28) then some false else (some (decide (0<w7)))) fun c39 =>
  kA0 (bif (!(bif !c21 then true else c28) && c39) then (kA0 (kC7 (l_.edges.getD []) (wr (w7 - 1))) fun a43=>kA0 (kC7 (l_.edges.getD []) w7) fun a47=>kA0 (t_q81 a43 a47) fun c51=>some (decide (0≤c51))) else some false) fun c52 =>
  kA0 (bif (bif !c21 then true else c28) then some false else (some (bif c39 then c52 else false))) fun c68 =>
  bif (bif (bif !c21 then true else c28) then true else c68) then
   some (.inr (.inr false))
  else
   some (.inl (wr (w7+1)))
 else
  some (.inr (.inl ()))
def t_q80 (l_:Lattice):Option Bool :=
 kA0 (some (kBb l_.nodes 1 20)) fun c1 =>
 kA0 (bif !c1 then some false else (some (decide (200<(((l_.edges.getD []).length:Nat):Int))))) fun c3 =>
 bif (bif !c1 then true else c3) then
  some false
 else
  kA0 (kBg (s0_q80 l_) 0) fun qq74=>match qq74 with
  | (.inl _) =>
    some true
  | (.inr q14) =>
    some q14
def tp_q80 (l_p:Pt Lattice):Option Bool:=kA0 l_p.get fun l_=>t_q80 l_
theorem tl0_q80 (env:Nat→Contract) {B:Base} (he_q73:env n_q73=.pure (T1 kDk)) (he_q75:env kH5=.pure (T3 kBb)) (he_q79:env n_q79=.pure (C2 (fun c:Bool=>enc c) tp_q79)) (he_q81:env n_q81=.pure (C2 (fun c:Int=>enc c) tp_q81)) (l_:Lattice) (l_p:Pt Lattice) (hp_l_:l_p.get=some l_) (c1:Bool) (c3:Bool) :kFq (fun (st:Int) tm h5=>match st with | w7=>tm=((AV.fptr (Row.w Lattice) (l_p.tab.map Row.cells) l_p.i 0)::und::.top::(iv w7)::(AV.fptr (Row.w Lattice) (l_p.tab.map Row.cells) l_p.i 0)::(AV.fptr (Row.w Lattice) (l_p.tab.map Row.cells) l_p.i 0)::(AV.fptr (Row.w Lattice) (l_p.tab.map Row.cells) l_p.i 0)::(iv l_.nodes)::(bv c1)::(bv (!c1))::(bv (!c1))::.top::.top::.top::.top::.top::(cond (!c1) und (bv c3))::(bv (bif !c1 then true else c3))::tZ9 51 [])∧Hold B h5 []) hm0_q80 xm0_q80 (lb0_q80 env) (s0_q80 l_) (fun (q:Sum Unit Bool) (r:Res)=>match q with | .inl _=>∃ (q11:Int) (z10:AV) (h8:kA9),r=(.exit 0,((AV.fptr (Row.w Lattice) (l_p.tab.map Row.cells) l_p.i 0)::und::z10::(iv q11)::(AV.fptr (Row.w Lattice) (l_p.tab.map Row.cells) l_p.i 0)::(AV.fptr (Row.w Lattice) (l_p.tab.map Row.cells) l_p.i 0)::(AV.fptr (Row.w Lattice) (l_p.tab.map Row.cells) l_p.i 0)::(iv l_.nodes)::(bv c1)::(bv (!c1))::(bv (!c1))::.top::.top::.top::.top::.top::(cond (!c1) und (bv c3))::(bv (bif !c1 then true else c3))::tZ9 51 []),h8)∧Hold B h8 [] | .inr q14=>∃ (q15:Int) (h12:kA9),r=(.ret,((AV.fptr (Row.w Lattice) (l_p.tab.map Row.cells) l_p.i 0)::und::(bv q14)::(iv q15)::(AV.fptr (Row.w Lattice) (l_p.tab.map Row.cells) l_p.i 0)::(AV.fptr (Row.w Lattice) (l_p.tab.map Row.cells) l_p.i 0)::(AV.fptr (Row.w Lattice) (l_p.tab.map Row.cells) l_p.i 0)::(iv l_.nodes)::(bv c1)::(bv (!c1))::(bv (!c1))::.top::.top::.top::.top::.top::(cond (!c1) und (bv c3))::(bv (bif !c1 then true else c3))::tZ9 51 []),h12)∧Hold B h12 []):=by
 refine @kG0 _ _ _ _ _ _ _ _ (fun w7 tm h5 R => ?_)
 obtain ⟨rfl,O6⟩:=R
 rw [e_lb0_q80]
 unfold s0_q80
 dsimp only
 refine kA1 (v:=AV.fptr (Row.w Lattice) (l_p.tab.map Row.cells) l_p.i 0) rfl ?_
 refine kA1 (v:=AV.fptr (Row.w Lattice) (l_p.tab.map Row.cells) l_p.i 1) rfl ?_
 refine kA1 (v:=Sl.enc l_.edges) (kC5 hp_l_ false 1 1) ?_
 refine kA1 (Tab.enc h5 l_.edges).len ?_
 refine kA1 (kAl _ _) ?_
 refine kAb (fun c16 => ?_) (fun c16 => ?_)
 ·refine kA1 (v:=AV.fptr (Row.w Lattice) (l_p.tab.map Row.cells) l_p.i 0) rfl ?_
  refine kA1 (v:=AV.fptr (Row.w Lattice) (l_p.tab.map Row.cells) l_p.i 1) rfl ?_
  refine kA1 (v:=Sl.enc l_.edges) (kC5 hp_l_ false 1 1) ?_
  refine kAr (Tab.enc h5 l_.edges) (fun m18 a17 hi19 hm20 => ?_)
  refine kE3 (y':=tp_q79 l_p ⟨l_.edges.getD [],m18⟩) (by simp only [tp_q79,kFm hm20,hp_l_,kA4]) ?_
  refine kCb he_q79 (kDz _ _ _ _ rfl) (kEm _ l_.edges hm20) (fun c21 => ?_)
  refine kAq (kAc (by rfl) _ _) ?_
  refine kA1 (v:=bv (!c21)) (kBu _) ?_
  refine sim_g10F (e:=bv) (fun hb22 => ?_) (fun y29 y30 y31 y32 y33 y34 y35 y36 y37 c28 => ?_)
  ·refine kAd ?_
   refine kAp ?_
   refine kA1 (v:=AV.fptr (Row.w Lattice) (l_p.tab.map Row.cells) l_p.i 0) rfl ?_
   refine kAd ?_
   refine kAp ?_
   refine kA1 (v:=AV.fptr (Row.w Lattice) (l_p.tab.map Row.cells) l_p.i 1) rfl ?_
   refine kAd ?_
   refine kAp ?_
   refine kA1 (v:=Sl.enc l_.edges) (kC5 hp_l_ false 1 1) ?_
   refine kAd ?_
   refine kAd ?_
   refine kAp ?_
   refine kAr (Tab.enc h5 l_.edges) (fun m24 a23 hi25 hm26 => ?_)
   refine kAd ?_
   refine kAp ?_
   refine kA1 (v:=elp (Sl.enc l_.edges) m24 2) ((Tab.enc h5 l_.edges).fld _ _ _) ?_
   refine kAd ?_
   refine kAp ?_
   refine kA1 (v:=sv a23.label) ((Tab.enc h5 l_.edges).ld hm26 false 1 2) ?_
   refine kAd ?_
   refine kKh ?_
   refine kJ6 (t:=kDk) he_q73 (kC4 _ _) (fun c27 => ?_)
   refine kAd ?_
   refine kA1 (v:=bv (!c27)) (kBu _) ?_
   exact kA6 rfl
  ·refine kA1 (v:=bv (bif !c21 then true else c28)) (kCh _ _ _) ?_
   refine sim_g3F (e:=bv) (fun hb38 => ?_) (fun y40 y41 c39 => ?_)
   ·refine kAd ?_
    refine kAp ?_
    refine kA1 (kDa _ _) ?_
    refine kAd ?_
    exact kA6 rfl
   ·simp only [gv_FT]
    refine sim_g15T (e:=bv) (fun hb42 => ?_) (fun y53 y54 y55 y56 y57 y58 y59 y60 y61 y62 y63 y64 y65 y66 c52 => ?_)
    ·refine kAd ?_
     refine kAp ?_
     refine kA1 (v:=AV.fptr (Row.w Lattice) (l_p.tab.map Row.cells) l_p.i 0) rfl ?_
     refine kAd ?_
     refine kAp ?_
     refine kA1 (v:=AV.fptr (Row.w Lattice) (l_p.tab.map Row.cells) l_p.i 1) rfl ?_
     refine kAd ?_
     refine kAp ?_
     refine kA1 (v:=Sl.enc l_.edges) (kC5 hp_l_ false 1 1) ?_
     refine kAd ?_
     refine kAd ?_
     refine kAp ?_
     refine kA1 (kCa _ _) ?_
     refine kAd ?_
     refine kAp ?_
     refine kAr (Tab.enc h5 l_.edges) (fun m44 a43 hi45 hm46 => ?_)
     refine kAd ?_
     refine kAd ?_
     refine kAp ?_
     refine kA1 (v:=AV.fptr (Row.w Lattice) (l_p.tab.map Row.cells) l_p.i 0) rfl ?_
     refine kAd ?_
     refine kAp ?_
     refine kA1 (v:=AV.fptr (Row.w Lattice) (l_p.tab.map Row.cells) l_p.i 1) rfl ?_
     refine kAd ?_
     refine kAp ?_
     refine kA1 (v:=Sl.enc l_.edges) (kC5 hp_l_ false 1 1) ?_
     refine kAd ?_
     refine kAd ?_
     refine kAp ?_
     refine kAr (Tab.enc h5 l_.edges) (fun m48 a47 hi49 hm50 => ?_)
     refine kAd ?_
     refine kKh ?_
     refine kE3 (y':=tp_q81 ⟨l_.edges.getD [],m44⟩ ⟨l_.edges.getD [],m48⟩) (by simp only [tp_q81,kFm hm46,kFm hm50,kA4]) ?_
     refine kCb he_q81 (kEm _ l_.edges hm46) (kEm _ l_.edges hm50) (fun c51 => ?_)
     refine kAq (kAc (by rfl) _ _) ?_
     refine kAd ?_
     refine kA1 (kG8 _ _) ?_
     exact kA6 rfl
    ·refine kBt (e:=bv) (fun hb67 => ?_) (fun c68 => ?_)
     ·simp only [hb67,cond_true,cond_false,Bool.not_true,Bool.not_false,Bool.true_and,Bool.and_true,Bool.false_and,Bool.not_not]
      refine kA1 (v:=bv (bif c39 then c52 else false)) (kD3 _ _ _) ?_
      exact kA6 rfl
     ·refine kA1 (v:=bv (bif (bif !c21 then true else c28) then true else c68)) (kCh _ _ _) ?_
      refine kAb (fun c69 => ?_) (fun c69 => ?_)
      ·exact kA6 ⟨nofun,_,_,rfl,O6⟩
      ·refine kA1 (kAj _ _) ?_
       exact kA6 ⟨rfl,rfl,O6⟩
 ·exact kA6 ⟨nofun,_,_,_,rfl,O6⟩
theorem ts_q80 (env:Nat→Contract) (he_q73:env n_q73=.pure (T1 kDk)) (he_q75:env kH5=.pure (T3 kBb)) (he_q79:env n_q79=.pure (C2 (fun c:Bool=>enc c) tp_q79)) (he_q81:env n_q81=.pure (C2 (fun c:Int=>enc c) tp_q81)) (l_:Lattice) {l_p:Pt Lattice} (hp_l_:l_p.get=some l_):Sim (kAm Tryz.prog env n_q80 [AV.fptr (Row.w Lattice) (l_p.tab.map Row.cells) l_p.i 0] []) (t_q80 l_) fun c p=>release p.2 depth p.1=some ((fun c:Bool=>enc c) c):=by
 have O:=Hold.nil []
 generalize hB:(⟨[],[]⟩:Base)=B at O
 clear hB
 rw [e_q80]
 unfold t_q80
 refine kA1 (v:=AV.fptr (Row.w Lattice) (l_p.tab.map Row.cells) l_p.i 0) rfl ?_
 refine kA1 (v:=AV.fptr (Row.w Lattice) (l_p.tab.map Row.cells) l_p.i 0) rfl ?_
 refine kA1 (v:=iv l_.nodes) (kC5 hp_l_ false 1 0) ?_
 refine kGg (t:=kBb) he_q75 (kAy _ _) (kAy _ _) (kAy _ _) (fun c1 => ?_)
 refine kA1 (v:=bv (!c1)) (kBu _) ?_
 refine kBt (e:=bv) (fun hb2 => ?_) (fun c3 => ?_)
 ·refine kA1 (v:=AV.fptr (Row.w Lattice) (l_p.tab.map Row.cells) l_p.i 0) rfl ?_
  refine kA1 (v:=AV.fptr (Row.w Lattice) (l_p.tab.map Row.cells) l_p.i 1) rfl ?_
  refine kA1 (v:=Sl.enc l_.edges) (kC5 hp_l_ false 1 1) ?_
  refine kA1 (v:=iv (((l_.edges.getD []).length:Nat):Int)) (Tab.enc [] l_.edges).len ?_
  refine kA1 (kDa _ _) ?_
  exact kA6 rfl
 ·refine kA1 (v:=bv (bif !c1 then true else c3)) (kCh _ _ _) ?_
  refine kAb (fun c4 => ?_) (fun c4 => ?_)
  ·exact kA6 (kA5 (by rfl) _)
  ·refine kB6 ((tl0_q80 env he_q73 he_q75 he_q79 he_q81 l_ l_p hp_l_ c1 c3) ⟨rfl,O⟩) (fun qq74 r hq => ?_)
   rcases qq74 with _ | q14
   ·obtain ⟨q11,z10,h8,rfl,O9⟩:=hq
    rw [e_lk0x0_q80]
    exact kA6 (kA5 (by rfl) _)
   ·obtain ⟨q15,h12,rfl,O13⟩:=hq
    rw [e_lk0r_q80]
    exact kA6 (kA5 (by rfl) _)
theorem tt_q80:kAn Tryz.prog n_q80 (C1 (fun c:Bool=>enc c) tp_q80):=kDl (kBc ok_q73 (kBc ok_q75 (kBc tt_q79 (kBc tt_q81 E0)))) kBd hb_q80 fun l_p=>kCj fun l_ hp_l_=>ts_q80 _ (by simp [kBx]) (by simp [kBx]) (by simp [kBx]) (by simp [kBx]) l_ hp_l_
def kIq (list_:Sl Lattice):(Bool×Int)→Option (Sum (Bool×Int) Bool):=fun (w7,w8) =>
 bif decide (w8<(((list_.getD []).length:Nat):Int)) then
  kA0 (bif w7 then some false else (kA0 (kC7 (list_.getD []) w8) fun a17=>kA0 (t_q80 a17) fun c21=>some (!c21))) fun c22 =>
  some (.inl ((bif w7 then true else c22),wr (w8+1)))
 else
  some (.inr w7)
def t_q91 (list_:Sl Lattice) (x_:Lexicon) (m_:Model):Option Int :=
 kA0 (t_q86 x_) fun c1 =>
 kA0 (bif !c1 then some false else (kA0 (t_q95 m_) fun c3=>some (!c3))) fun c4 =>
 kA0 (kBg (kIq list_) ((bif !c1 then true else c4),0)) fun q11 =>
 bif q11 then
  some 1
 else
  bif decide (8<(((list_.getD []).length:Nat):Int)) then
   some 2
  else
   some 0
def tp_q91 (list_:Sl Lattice) (x_p:Pt Lexicon) (m_p:Pt Model):Option Int:=kA0 x_p.get fun x_=>kA0 m_p.get fun m_=>t_q91 list_ x_ m_
theorem tl0_q91 (env:Nat→Contract) {B:Base} (he_q80:env n_q80=.pure (C1 (fun c:Bool=>enc c) tp_q80)) (he_q86:env n_q86=.pure (C1 (fun c:Bool=>enc c) tp_q86)) (he_q95:env n_q95=.pure (C1 (fun c:Bool=>enc c) tp_q95)) (list_:Sl Lattice) (x_p:Pt Lexicon) (m_p:Pt Model) (c1:Bool) (c4:Bool) :kFq (fun (st:Bool×Int) tm h5=>match st with | (w7,w8)=>tm=((Sl.enc list_)::(AV.fptr (Row.w Lexicon) (x_p.tab.map Row.cells) x_p.i 0)::(AV.fptr (Row.w Model) (m_p.tab.map Row.cells) m_p.i 0)::und::und::und::(iv 0)::(bv w7)::(iv w8)::(AV.fptr (Row.w Lexicon) (x_p.tab.map Row.cells) x_p.i 0)::(bv c1)::(bv (!c1))::(bv (!c1))::.top::.top::(cond (!c1) und (bv c4))::(bv (bif !c1 then true else c4))::tZ9 14 [und,und,und,und])∧Hold B h5 []) hm0_q91 xm0_q91 (lb0_q91 env) (kIq list_) (fun (q:Bool) (r:Res)=>match q with | q11=>∃ (q12:Int) (h9:kA9),r=(.exit 0,((Sl.enc list_)::(AV.fptr (Row.w Lexicon) (x_p.tab.map Row.cells) x_p.i 0)::(AV.fptr (Row.w Model) (m_p.tab.map Row.cells) m_p.i 0)::und::und::und::(iv 0)::(bv q11)::(iv q12)::(AV.fptr (Row.w Lexicon) (x_p.tab.map Row.cells) x_p.i 0)::(bv c1)::(bv (!c1))::(bv (!c1))::.top::.top::(cond (!c1) und (bv c4))::(bv (bif !c1 then true else c4))::tZ9 14 [und,und,und,und]),h9)∧Hold B h9 []):=by
 refine @kG0 _ _ _ _ _ _ _ _ (fun st tm h5 R => ?_)
 obtain ⟨w7,w8⟩:=st
 obtain ⟨rfl,O6⟩:=R
 rw [e_lb0_q91]
 unfold kIq
 dsimp only
 refine kA1 (Tab.enc h5 list_).len ?_
 refine kA1 (kAl _ _) ?_
 refine kAb (fun c15 => ?_) (fun c15 => ?_)
 ·refine kBt (e:=bv) (fun hb16 => ?_) (fun c22 => ?_)
  ·refine kAr (Tab.enc h5 list_) (fun m18 a17 hi19 hm20 => ?_)
   refine kE3 (y':=tp_q80 ⟨list_.getD [],m18⟩) (by simp only [tp_q80,kFm hm20,kA4]) ?_
   refine kBz he_q80 (kEm _ list_ hm20) (fun c21 => ?_)
   refine kAq (kAc (by rfl) _ _) ?_
   refine kA1 (v:=bv (!c21)) (kBu _) ?_
   exact kA6 rfl
  ·refine kA1 (v:=bv (bif w7 then true else c22)) (kCh _ _ _) ?_
   refine kA1 (kAj _ _) ?_
   exact kA6 ⟨rfl,rfl,O6⟩
 ·exact kA6 ⟨nofun,_,_,rfl,O6⟩
theorem ts_q91 (env:Nat→Contract) (he_q80:env n_q80=.pure (C1 (fun c:Bool=>enc c) tp_q80)) (he_q86:env n_q86=.pure (C1 (fun c:Bool=>enc c) tp_q86)) (he_q95:env n_q95=.pure (C1 (fun c:Bool=>enc c) tp_q95)) (list_:Sl Lattice) (x_:Lexicon) (m_:Model) {x_p:Pt Lexicon} (hp_x_:x_p.get=some x_) {m_p:Pt Model} (hp_m_:m_p.get=some m_):Sim (kAm Tryz.prog env n_q91 [Sl.enc list_,AV.fptr (Row.w Lexicon) (x_p.tab.map Row.cells) x_p.i 0,AV.fptr (Row.w Model) (m_p.tab.map Row.cells) m_p.i 0] []) (t_q91 list_ x_ m_) fun c p=>release p.2 depth p.1=some ((fun c:Int=>enc c) c):=by
 have O:=Hold.nil []
 generalize hB:(⟨[],[]⟩:Base)=B at O
 clear hB
 rw [e_q91]
 unfold t_q91
 refine kE3 (y':=tp_q86 x_p) (by simp only [tp_q86,hp_x_,kA4]) ?_
 refine kBz he_q86 (kDz _ _ _ _ rfl) (fun c1 => ?_)
 refine kAq (kAc (by rfl) _ _) ?_
 refine kA1 (v:=bv (!c1)) (kBu _) ?_
 refine kBt (e:=bv) (fun hb2 => ?_) (fun c4 => ?_)
 ·refine kE3 (y':=tp_q95 m_p) (by simp only [tp_q95,hp_m_,kA4]) ?_
  refine kBz he_q95 (kDz _ _ _ _ rfl) (fun c3 => ?_)
  refine kAq (kAc (by rfl) _ _) ?_
  refine kA1 (v:=bv (!c3)) (kBu _) ?_
  exact kA6 rfl
 ·refine kA1 (v:=bv (bif !c1 then true else c4)) (kCh _ _ _) ?_
  refine kB6 ((tl0_q91 env he_q80 he_q86 he_q95 list_ x_p m_p c1 c4) ⟨rfl,O⟩) (fun qq26 r hq => ?_)
  revert hq
  revert qq26
  intro q11 hq
  obtain ⟨q12,h9,rfl,O10⟩:=hq
  rw [e_lk0x0_q91]
  refine kAb (fun c13 => ?_) (fun c13 => ?_)
  ·exact kA6 (kA5 (by rfl) _)
  ·refine kA1 (Tab.enc h9 list_).len ?_
   refine kA1 (kDa _ _) ?_
   refine kAb (fun c14 => ?_) (fun c14 => ?_)
   ·exact kA6 (kA5 (by rfl) _)
   ·exact kA6 (kA5 (by rfl) _)
theorem tt_q91:kAn Tryz.prog n_q91 (C3 (fun c:Int=>enc c) tp_q91):=kKa (kBc tt_q80 (kBc tt_q86 (kBc tt_q95 E0))) kBd hb_q91 fun list_ x_p m_p=>kCj fun x_ hp_x_=>kCj fun m_ hp_m_=>ts_q91 _ (by simp [kBx]) (by simp [kBx]) (by simp [kBx]) list_ x_ m_ hp_x_ hp_m_
def kIp (text_:ByteArray) (w23:Int) (a52:Edg):((Sl Int)×Int)→Option (Sum ((Sl Int)×Int) (Sl Int)):=fun (w56,w59) =>
 kA0 (bif decide ((wr (w59+1))<(wr ((text_.size:Int)+1))) then (some (decide (a52.frm=w23))) else some false) fun c68 =>
 bif (bif decide ((wr (w59+1))<(wr ((text_.size:Int)+1))) then c68 else false) then
  kA0 (kC7 (w56.getD []) (wr ((wr (w23*(wr ((text_.size:Int)+1))))+w59))) fun a70 =>
  kA0 (bif decide (a70<0) then some false else (kA0 (subB text_ (some w59) (some (wr (w59+1)))) fun s75=>some (!decide (s75=a52.label)))) fun c76 =>
  bif (bif decide (a70<0) then true else c76) then
   some (.inl (w56,wr (w59+1)))
  else
   kA0 (kC7 (w56.getD []) (wr ((wr ((wr (a52.upto*(wr ((text_.size:Int)+1))))+w59))+1))) fun a88 =>
   kA0 (bif decide (a88<0) then some false else (some (decide ((wr (a70+a52.cost))<a88)))) fun c93 =>
   bif (bif decide (a88<0) then true else c93) then
    kA0 (kC7 (w56.getD []) (wr ((wr ((wr (a52.upto*(wr ((text_.size:Int)+1))))+w59))+1))) fun a95 =>
    some (.inl ((kFe w56 (wr ((wr ((wr (a52.upto*(wr ((text_.size:Int)+1))))+w59))+1)) (wr (a70+a52.cost))),wr (w59+1)))
   else
    some (.inl (w56,wr (w59+1)))
 else
  some (.inr w56)
def s2_q83 (l_:Lattice) (text_:ByteArray) (w23:Int):((Sl Int)×Int)→Option (Sum ((Sl Int)×Int) (Sl Int)):=fun (w38,w41) =>
 bif decide (w41<(((l_.edges.getD []).length:Nat):Int)) then
  kA0 (kC7 (l_.edges.getD []) w41) fun a52 =>
  kA0 (kBg (kIp text_ w23 a52) (w38,0)) fun q62 =>
  some (.inl (q62,wr (w41+1)))
 else
  some (.inr w38)
def s1_q83 (l_:Lattice) (text_:ByteArray):((Sl Int)×Int)→Option (Sum ((Sl Int)×Int) (Sl Int)):=fun (w20,w23) =>
 bif decide (w23<l_.nodes) then
  kA0 (kBg (s2_q83 l_ text_ w23) (w20,0)) fun q44 =>
  some (.inl (q44,wr (w23+1)))
 else
  some (.inr w20)
def s0_q83 (l5:List Int):((Sl Int)×Int)→Option (Sum ((Sl Int)×Int) (Sl Int)):=fun (w6,w9) =>
 bif decide (w9<((((some l5).getD []).length:Nat):Int)) then
  kA0 (kC7 (w6.getD []) w9) fun a113 =>
  some (.inl ((kFe w6 w9 (-1)),wr (w9+1)))
 else
  some (.inr w6)
def t_q83 (l_:Lattice) (text_:ByteArray):Option Int :=
 kA0 (kJb 0 (wr (l_.nodes*(wr ((text_.size:Int)+1))))) fun l5 =>
 kA0 (kBg (s0_q83 l5) ((some l5),0)) fun q12 =>
 kA0 (kC7 (q12.getD []) 0) fun a14 =>
 kA0 (kBg (s1_q83 l_ text_) ((kFe q12 0 0),0)) fun q26 =>
 kA0 (kC7 (q26.getD []) (wr ((wr (l_.nodes*(wr ((text_.size:Int)+1)))) - 1))) fun a33 =>
 some a33
def tp_q83 (l_p:Pt Lattice) (text_:ByteArray):Option Int:=kA0 l_p.get fun l_=>t_q83 l_ text_
theorem tl3_q83 (env:Nat→Contract) {B:Base}  (l_:Lattice) (l_p:Pt Lattice) (text_:ByteArray) (x1:AV) (l5:List Int) (z13:AV) (m15:Nat) (w23:Int) (w41:Int) (a52:Edg) (m53:Nat) (hm55:(l_.edges.getD [])[m53]?=some a52) :kFq (fun (st:(Sl Int)×Int) tm h57=>match st with | (w56,w59)=>tm=((AV.fptr (Row.w Lattice) (l_p.tab.map Row.cells) l_p.i 0)::(sv text_)::und::und::(iv 0)::(iv (wr ((text_.size:Int)+1)))::x1::z13::(iv w23)::(iv w41)::(elp (Sl.enc l_.edges) m53 0)::(iv w59)::.top::.top::(sv text_)::(iv (text_.size:Int))::(iv (wr ((text_.size:Int)+1)))::(AV.fptr (Row.w Lattice) (l_p.tab.map Row.cells) l_p.i 0)::(AV.fptr (Row.w Lattice) (l_p.tab.map Row.cells) l_p.i 0)::(AV.fptr (Row.w Lattice) (l_p.tab.map Row.cells) l_p.i 0)::(iv l_.nodes)::(iv (wr ((text_.size:Int)+1)))::(iv (wr (l_.nodes*(wr ((text_.size:Int)+1)))))::x1::x1::(iv ((((some l5).getD []).length:Nat):Int))::.top::.top::.top::.top::.top::.top::.top::x1::(elp x1 m15 0)::(iv w23)::(AV.fptr (Row.w Lattice) (l_p.tab.map Row.cells) l_p.i 0)::(AV.fptr (Row.w Lattice) (l_p.tab.map Row.cells) l_p.i 0)::(AV.fptr (Row.w Lattice) (l_p.tab.map Row.cells) l_p.i 0)::(iv l_.nodes)::(bv (decide (w23<l_.nodes)))::.top::.top::(iv w41)::(AV.fptr (Row.w Lattice) (l_p.tab.map Row.cells) l_p.i 0)::(AV.fptr (Row.w Lattice) (l_p.tab.map Row.cells) l_p.i 0)::(AV.fptr (Row.w Lattice) (l_p.tab.map Row.cells) l_p.i 1)::(Sl.enc l_.edges)::(iv (((l_.edges.getD []).length:Nat):Int))::(bv (decide (w41<(((l_.edges.getD []).length:Nat):Int))))::.top::.top::(AV.fptr (Row.w Lattice) (l_p.tab.map Row.cells) l_p.i 0)::(AV.fptr (Row.w Lattice) (l_p.tab.map Row.cells) l_p.i 0)::(AV.fptr (Row.w Lattice) (l_p.tab.map Row.cells) l_p.i 1)::(Sl.enc l_.edges)::(iv w41)::(elp (Sl.enc l_.edges) m53 0)::tZ9 77 [und,und,und,und,und,und,und,und,und,und])∧Hold B h57 [(x1,obS (w56:Sl Int))]) hm3_q83 xm3_q83 (lb3_q83 env) (kIp text_ w23 a52) (fun (q:Sl Int) (r:Res)=>match q with | q62=>∃ (q63:Int) (z64:AV) (z65:AV) (h60:kA9),r=(.exit 6,((AV.fptr (Row.w Lattice) (l_p.tab.map Row.cells) l_p.i 0)::(sv text_)::und::und::(iv 0)::(iv (wr ((text_.size:Int)+1)))::x1::z13::(iv w23)::(iv w41)::(elp (Sl.enc l_.edges) m53 0)::(iv q63)::z64::z65::(sv text_)::(iv (text_.size:Int))::(iv (wr ((text_.size:Int)+1)))::(AV.fptr (Row.w Lattice) (l_p.tab.map Row.cells) l_p.i 0)::(AV.fptr (Row.w Lattice) (l_p.tab.map Row.cells) l_p.i 0)::(AV.fptr (Row.w Lattice) (l_p.tab.map Row.cells) l_p.i 0)::(iv l_.nodes)::(iv (wr ((text_.size:Int)+1)))::(iv (wr (l_.nodes*(wr ((text_.size:Int)+1)))))::x1::x1::(iv ((((some l5).getD []).length:Nat):Int))::.top::.top::.top::.top::.top::.top::.top::x1::(elp x1 m15 0)::(iv w23)::(AV.fptr (Row.w Lattice) (l_p.tab.map Row.cells) l_p.i 0)::(AV.fptr (Row.w Lattice) (l_p.tab.map Row.cells) l_p.i 0)::(AV.fptr (Row.w Lattice) (l_p.tab.map Row.cells) l_p.i 0)::(iv l_.nodes)::(bv (decide (w23<l_.nodes)))::.top::.top::(iv w41)::(AV.fptr (Row.w Lattice) (l_p.tab.map Row.cells) l_p.i 0)::(AV.fptr (Row.w Lattice) (l_p.tab.map Row.cells) l_p.i 0)::(AV.fptr (Row.w Lattice) (l_p.tab.map Row.cells) l_p.i 1)::(Sl.enc l_.edges)::(iv (((l_.edges.getD []).length:Nat):Int))::(bv (decide (w41<(((l_.edges.getD []).length:Nat):Int))))::.top::.top::(AV.fptr (Row.w Lattice) (l_p.tab.map Row.cells) l_p.i 0)::(AV.fptr (Row.w Lattice) (l_p.tab.map Row.cells) l_p.i 0)::(AV.fptr (Row.w Lattice) (l_p.tab.map Row.cells) l_p.i 1)::(Sl.enc l_.edges)::(iv w41)::(elp (Sl.enc l_.edges) m53 0)::tZ9 77 [und,und,und,und,und,und,und,und,und,und]),h60)∧Hold B h60 [(x1,obS (q62:Sl Int))]):=by
 refine @kG0 _ _ _ _ _ _ _ _ (fun st tm h57 R => ?_)
 obtain ⟨w56,w59⟩:=st
 obtain ⟨rfl,O58⟩:=R
 rw [e_lb3_q83]
 unfold kIp
 dsimp only
 refine kA1 (kAj _ _) ?_
 refine kA1 (kAl _ _) ?_
 refine kC3 (e:=bv) (fun hb67 => ?_) (fun c68 => ?_)
 ·refine kA1 (v:=elp (Sl.enc l_.edges) m53 0) (kKd _ _ _) ?_
  refine kA1 (v:=elp (Sl.enc l_.edges) m53 0) ((Tab.enc h57 l_.edges).fld _ _ _) ?_
  refine kA1 (v:=iv a52.frm) ((Tab.enc h57 l_.edges).ld hm55 false 1 0) ?_
  refine kA1 (kHu _ _) ?_
  exact kA6 rfl
 ·refine kA1 (v:=bv (bif decide ((wr (w59+1))<(wr ((text_.size:Int)+1))) then c68 else false)) (kD3 _ _ _) ?_
  refine kAb (fun c69 => ?_) (fun c69 => ?_)
  ·refine kA1 (kK9 _ _) ?_
   refine kA1 (kAj _ _) ?_
   refine kAr (O58.tab (A:=Int) (s:=w56) 0 rfl) (fun m71 a70 hi72 hm73 => ?_)
   refine kA1 (v:=iv a70) ((O58.tab (A:=Int) (s:=w56) 0 rfl).ld hm73 false 1 0) ?_
   refine kA1 (kAl _ _) ?_
   refine sim_g10F (e:=bv) (fun hb74 => ?_) (fun y77 y78 y79 y80 y81 y82 y83 y84 y85 c76 => ?_)
   ·refine kAd ?_
    refine kAd ?_
    refine kAd ?_
    refine kAp ?_
    refine kA1 (kAj _ _) ?_
    refine kAd ?_
    refine kAp ?_
    refine sim_subB11 (fun s75 => ?_)
    refine kAd ?_
    refine kAd ?_
    refine kAp ?_
    refine kA1 (v:=elp (Sl.enc l_.edges) m53 0) (kKd _ _ _) ?_
    refine kAd ?_
    refine kAp ?_
    refine kA1 (v:=elp (Sl.enc l_.edges) m53 2) ((Tab.enc h57 l_.edges).fld _ _ _) ?_
    refine kAd ?_
    refine kAp ?_
    refine kA1 (v:=sv a52.label) ((Tab.enc h57 l_.edges).ld hm55 false 1 2) ?_
    refine kAd ?_
    refine kA1 (kI7 _ _) ?_
    exact kA6 rfl
   ·refine kA1 (v:=bv (bif decide (a70<0) then true else c76)) (kCh _ _ _) ?_
    refine kAb (fun c86 => ?_) (fun c86 => ?_)
    ·refine kA1 (kAj _ _) ?_
     exact kA6 ⟨rfl,rfl,O58⟩
    ·refine kA1 (v:=elp (Sl.enc l_.edges) m53 0) (kKd _ _ _) ?_
     refine kA1 (v:=elp (Sl.enc l_.edges) m53 1) ((Tab.enc h57 l_.edges).fld _ _ _) ?_
     refine kA1 (v:=iv a52.upto) ((Tab.enc h57 l_.edges).ld hm55 false 1 1) ?_
     refine kA1 (kK9 _ _) ?_
     refine kA1 (kAj _ _) ?_
     refine kA1 (kAj _ _) ?_
     refine kAr (O58.tab (A:=Int) (s:=w56) 0 rfl) (fun m89 a88 hi90 hm91 => ?_)
     refine kA1 (v:=iv a88) ((O58.tab (A:=Int) (s:=w56) 0 rfl).ld hm91 false 1 0) ?_
     refine kA1 (kAl _ _) ?_
     refine kBt (e:=bv) (fun hb92 => ?_) (fun c93 => ?_)
     ·refine kA1 (v:=elp (Sl.enc l_.edges) m53 0) (kKd _ _ _) ?_
      refine kA1 (v:=elp (Sl.enc l_.edges) m53 3) ((Tab.enc h57 l_.edges).fld _ _ _) ?_
      refine kA1 (v:=iv a52.cost) ((Tab.enc h57 l_.edges).ld hm55 false 1 3) ?_
      refine kA1 (kAj _ _) ?_
      refine kA1 (kAl _ _) ?_
      exact kA6 rfl
     ·refine kA1 (v:=bv (bif decide (a88<0) then true else c93)) (kCh _ _ _) ?_
      refine kAb (fun c94 => ?_) (fun c94 => ?_)
      ·refine kA1 (v:=elp (Sl.enc l_.edges) m53 0) (kKd _ _ _) ?_
       refine kA1 (v:=elp (Sl.enc l_.edges) m53 1) ((Tab.enc h57 l_.edges).fld _ _ _) ?_
       refine kA1 (v:=iv a52.upto) ((Tab.enc h57 l_.edges).ld hm55 false 1 1) ?_
       refine kA1 (kK9 _ _) ?_
       refine kA1 (kAj _ _) ?_
       refine kA1 (kAj _ _) ?_
       refine kA1 (v:=elp (Sl.enc l_.edges) m53 0) (kKd _ _ _) ?_
       refine kA1 (v:=elp (Sl.enc l_.edges) m53 3) ((Tab.enc h57 l_.edges).fld _ _ _) ?_
       refine kA1 (v:=iv a52.cost) ((Tab.enc h57 l_.edges).ld hm55 false 1 3) ?_
       refine kA1 (kAj _ _) ?_
       refine kAr (O58.tab (A:=Int) (s:=w56) 0 rfl) (fun m96 a95 hi97 hm98 => ?_)
       refine kG9 (A:=Int) O58 0 (wr (a70+a52.cost)) rfl hi97 hm98 rfl (by simp) (by first | rfl | simp) (by first | rfl | simp [kAx]) (fun h99 O100 => ?_)
       replace O100:Hold B h99 [(x1,obS ((kFe w56 (wr ((wr ((wr (a52.upto*(wr ((text_.size:Int)+1))))+w59))+1)) (wr (a70+a52.cost))):Sl Int))]:=O100
       refine kA1 (kAj _ _) ?_
       exact kA6 ⟨rfl,rfl,O100⟩
      ·refine kA1 (kAj _ _) ?_
       exact kA6 ⟨rfl,rfl,O58⟩
  ·exact kA6 ⟨nofun,_,_,_,_,rfl,O58⟩
theorem tl2_q83 (env:Nat→Contract) {B:Base}  (l_:Lattice) (l_p:Pt Lattice) (hp_l_:l_p.get=some l_) (text_:ByteArray) (x1:AV) (l5:List Int) (z13:AV) (m15:Nat) (w23:Int) :kFq (fun (st:(Sl Int)×Int) tm h39=>match st with | (w38,w41)=>tm=((AV.fptr (Row.w Lattice) (l_p.tab.map Row.cells) l_p.i 0)::(sv text_)::und::und::(iv 0)::(iv (wr ((text_.size:Int)+1)))::x1::z13::(iv w23)::(iv w41)::tZ9 4 ((sv text_)::(iv (text_.size:Int))::(iv (wr ((text_.size:Int)+1)))::(AV.fptr (Row.w Lattice) (l_p.tab.map Row.cells) l_p.i 0)::(AV.fptr (Row.w Lattice) (l_p.tab.map Row.cells) l_p.i 0)::(AV.fptr (Row.w Lattice) (l_p.tab.map Row.cells) l_p.i 0)::(iv l_.nodes)::(iv (wr ((text_.size:Int)+1)))::(iv (wr (l_.nodes*(wr ((text_.size:Int)+1)))))::x1::x1::(iv ((((some l5).getD []).length:Nat):Int))::.top::.top::.top::.top::.top::.top::.top::x1::(elp x1 m15 0)::(iv w23)::(AV.fptr (Row.w Lattice) (l_p.tab.map Row.cells) l_p.i 0)::(AV.fptr (Row.w Lattice) (l_p.tab.map Row.cells) l_p.i 0)::(AV.fptr (Row.w Lattice) (l_p.tab.map Row.cells) l_p.i 0)::(iv l_.nodes)::(bv (decide (w23<l_.nodes)))::.top::.top::tZ9 92 [und,und,und,und,und,und,und,und,und,und]))∧Hold B h39 [(x1,obS (w38:Sl Int))]) hm2_q83 xm2_q83 (lb2_q83 env) (s2_q83 l_ text_ w23) (fun (q:Sl Int) (r:Res)=>match q with | q44=>∃ (q45:Int) (z46:AV) (z47:AV) (z48:AV) (z49:AV) (h42:kA9),r=(.exit 4,((AV.fptr (Row.w Lattice) (l_p.tab.map Row.cells) l_p.i 0)::(sv text_)::und::und::(iv 0)::(iv (wr ((text_.size:Int)+1)))::x1::z13::(iv w23)::(iv q45)::z46::z47::z48::z49::(sv text_)::(iv (text_.size:Int))::(iv (wr ((text_.size:Int)+1)))::(AV.fptr (Row.w Lattice) (l_p.tab.map Row.cells) l_p.i 0)::(AV.fptr (Row.w Lattice) (l_p.tab.map Row.cells) l_p.i 0)::(AV.fptr (Row.w Lattice) (l_p.tab.map Row.cells) l_p.i 0)::(iv l_.nodes)::(iv (wr ((text_.size:Int)+1)))::(iv (wr (l_.nodes*(wr ((text_.size:Int)+1)))))::x1::x1::(iv ((((some l5).getD []).length:Nat):Int))::.top::.top::.top::.top::.top::.top::.top::x1::(elp x1 m15 0)::(iv w23)::(AV.fptr (Row.w Lattice) (l_p.tab.map Row.cells) l_p.i 0)::(AV.fptr (Row.w Lattice) (l_p.tab.map Row.cells) l_p.i 0)::(AV.fptr (Row.w Lattice) (l_p.tab.map Row.cells) l_p.i 0)::(iv l_.nodes)::(bv (decide (w23<l_.nodes)))::.top::.top::tZ9 92 [und,und,und,und,und,und,und,und,und,und]),h42)∧Hold B h42 [(x1,obS (q44:Sl Int))]):=by
 refine @kG0 _ _ _ _ _ _ _ _ (fun st tm h39 R => ?_)
 obtain ⟨w38,w41⟩:=st
 obtain ⟨rfl,O40⟩:=R
 rw [e_lb2_q83]
 unfold s2_q83
 dsimp only
 refine kA1 (v:=AV.fptr (Row.w Lattice) (l_p.tab.map Row.cells) l_p.i 0) rfl ?_
 refine kA1 (v:=AV.fptr (Row.w Lattice) (l_p.tab.map Row.cells) l_p.i 1) rfl ?_
 refine kA1 (v:=Sl.enc l_.edges) (kC5 hp_l_ false 1 1) ?_
 refine kA1 (Tab.enc h39 l_.edges).len ?_
 refine kA1 (kAl _ _) ?_
 refine kAb (fun c51 => ?_) (fun c51 => ?_)
 ·refine kA1 (v:=AV.fptr (Row.w Lattice) (l_p.tab.map Row.cells) l_p.i 0) rfl ?_
  refine kA1 (v:=AV.fptr (Row.w Lattice) (l_p.tab.map Row.cells) l_p.i 1) rfl ?_
  refine kA1 (v:=Sl.enc l_.edges) (kC5 hp_l_ false 1 1) ?_
  refine kAr (Tab.enc h39 l_.edges) (fun m53 a52 hi54 hm55 => ?_)
  refine kB6 ((tl3_q83 env l_ l_p text_ x1 l5 z13 m15 w23 w41 a52 m53 hm55) ⟨rfl,O40⟩) (fun qq105 r hq => ?_)
  revert hq
  revert qq105
  intro q62 hq
  obtain ⟨q63,z64,z65,h60,rfl,O61⟩:=hq
  rw [e_lk3x6_q83]
  refine kA1 (kAj _ _) ?_
  exact kA6 ⟨rfl,rfl,O61⟩
 ·exact kA6 ⟨nofun,_,_,_,_,_,_,rfl,O40⟩
theorem tl1_q83 (env:Nat→Contract) {B:Base}  (l_:Lattice) (l_p:Pt Lattice) (hp_l_:l_p.get=some l_) (text_:ByteArray) (x1:AV) (l5:List Int) (z13:AV) (m15:Nat) :kFq (fun (st:(Sl Int)×Int) tm h21=>match st with | (w20,w23)=>tm=((AV.fptr (Row.w Lattice) (l_p.tab.map Row.cells) l_p.i 0)::(sv text_)::und::und::(iv 0)::(iv (wr ((text_.size:Int)+1)))::x1::z13::(iv w23)::tZ9 5 ((sv text_)::(iv (text_.size:Int))::(iv (wr ((text_.size:Int)+1)))::(AV.fptr (Row.w Lattice) (l_p.tab.map Row.cells) l_p.i 0)::(AV.fptr (Row.w Lattice) (l_p.tab.map Row.cells) l_p.i 0)::(AV.fptr (Row.w Lattice) (l_p.tab.map Row.cells) l_p.i 0)::(iv l_.nodes)::(iv (wr ((text_.size:Int)+1)))::(iv (wr (l_.nodes*(wr ((text_.size:Int)+1)))))::x1::x1::(iv ((((some l5).getD []).length:Nat):Int))::.top::.top::.top::.top::.top::.top::.top::x1::(elp x1 m15 0)::tZ9 100 [und,und,und,und,und,und,und,und,und,und]))∧Hold B h21 [(x1,obS (w20:Sl Int))]) hm1_q83 xm1_q83 (lb1_q83 env) (s1_q83 l_ text_) (fun (q:Sl Int) (r:Res)=>match q with | q26=>∃ (q27:Int) (z28:AV) (z29:AV) (z30:AV) (z31:AV) (z32:AV) (h24:kA9),r=(.exit 2,((AV.fptr (Row.w Lattice) (l_p.tab.map Row.cells) l_p.i 0)::(sv text_)::und::und::(iv 0)::(iv (wr ((text_.size:Int)+1)))::x1::z13::(iv q27)::z28::z29::z30::z31::z32::(sv text_)::(iv (text_.size:Int))::(iv (wr ((text_.size:Int)+1)))::(AV.fptr (Row.w Lattice) (l_p.tab.map Row.cells) l_p.i 0)::(AV.fptr (Row.w Lattice) (l_p.tab.map Row.cells) l_p.i 0)::(AV.fptr (Row.w Lattice) (l_p.tab.map Row.cells) l_p.i 0)::(iv l_.nodes)::(iv (wr ((text_.size:Int)+1)))::(iv (wr (l_.nodes*(wr ((text_.size:Int)+1)))))::x1::x1::(iv ((((some l5).getD []).length:Nat):Int))::.top::.top::.top::.top::.top::.top::.top::x1::(elp x1 m15 0)::tZ9 100 [und,und,und,und,und,und,und,und,und,und]),h24)∧Hold B h24 [(x1,obS (q26:Sl Int))]):=by
 refine @kG0 _ _ _ _ _ _ _ _ (fun st tm h21 R => ?_)
 obtain ⟨w20,w23⟩:=st
 obtain ⟨rfl,O22⟩:=R
 rw [e_lb1_q83]
 unfold s1_q83
 dsimp only
 refine kA1 (v:=AV.fptr (Row.w Lattice) (l_p.tab.map Row.cells) l_p.i 0) rfl ?_
 refine kA1 (v:=AV.fptr (Row.w Lattice) (l_p.tab.map Row.cells) l_p.i 0) rfl ?_
 refine kA1 (v:=iv l_.nodes) (kC5 hp_l_ false 1 0) ?_
 refine kA1 (kAl _ _) ?_
 refine kAb (fun c37 => ?_) (fun c37 => ?_)
 ·refine kB6 ((tl2_q83 env l_ l_p hp_l_ text_ x1 l5 z13 m15 w23) ⟨rfl,O22⟩) (fun qq108 r hq => ?_)
  revert hq
  revert qq108
  intro q44 hq
  obtain ⟨q45,z46,z47,z48,z49,h42,rfl,O43⟩:=hq
  rw [e_lk2x4_q83]
  refine kA1 (kAj _ _) ?_
  exact kA6 ⟨rfl,rfl,O43⟩
 ·exact kA6 ⟨nofun,_,_,_,_,_,_,_,rfl,O22⟩
theorem tl0_q83 (env:Nat→Contract) {B:Base}  (l_:Lattice) (l_p:Pt Lattice) (text_:ByteArray) (x1:AV) (l5:List Int) :kFq (fun (st:(Sl Int)×Int) tm h7=>match st with | (w6,w9)=>tm=((AV.fptr (Row.w Lattice) (l_p.tab.map Row.cells) l_p.i 0)::(sv text_)::und::und::(iv 0)::(iv (wr ((text_.size:Int)+1)))::x1::.top::und::und::und::und::und::und::(sv text_)::(iv (text_.size:Int))::(iv (wr ((text_.size:Int)+1)))::(AV.fptr (Row.w Lattice) (l_p.tab.map Row.cells) l_p.i 0)::(AV.fptr (Row.w Lattice) (l_p.tab.map Row.cells) l_p.i 0)::(AV.fptr (Row.w Lattice) (l_p.tab.map Row.cells) l_p.i 0)::(iv l_.nodes)::(iv (wr ((text_.size:Int)+1)))::(iv (wr (l_.nodes*(wr ((text_.size:Int)+1)))))::x1::x1::(iv ((((some l5).getD []).length:Nat):Int))::(iv w9)::tZ9 6 [und,und,und,und,und,und,und,und,und,und,und,und,und,und,und,und,und,und,und,und,und,und,und,und,und,und,und,und,und,und,und,und,und,und,und,und,und,und,und,und,und,und,und,und,und,und,und,und,und,und,und,und,und,und,und,und,und,und,und,und,und,und,und,und,und,und,und,und,und,und,und,und,und,und,und,und,und,und,und,und,und,und,und,und,und,und,und,und,und,und,und,und,und,und,und,und,und,und,und,und,und,und,und,und,und,und,und,und,und,und,und,und])∧Hold B h7 [(x1,obS (w6:Sl Int))]) hm0_q83 xm0_q83 (lb0_q83 env) (s0_q83 l5) (fun (q:Sl Int) (r:Res)=>match q with | q12=>∃ (z13:AV) (h10:kA9),r=(.exit 0,((AV.fptr (Row.w Lattice) (l_p.tab.map Row.cells) l_p.i 0)::(sv text_)::und::und::(iv 0)::(iv (wr ((text_.size:Int)+1)))::x1::z13::und::und::und::und::und::und::(sv text_)::(iv (text_.size:Int))::(iv (wr ((text_.size:Int)+1)))::(AV.fptr (Row.w Lattice) (l_p.tab.map Row.cells) l_p.i 0)::(AV.fptr (Row.w Lattice) (l_p.tab.map Row.cells) l_p.i 0)::(AV.fptr (Row.w Lattice) (l_p.tab.map Row.cells) l_p.i 0)::(iv l_.nodes)::(iv (wr ((text_.size:Int)+1)))::(iv (wr (l_.nodes*(wr ((text_.size:Int)+1)))))::x1::x1::(iv ((((some l5).getD []).length:Nat):Int))::tZ9 7 [und,und,und,und,und,und,und,und,und,und,und,und,und,und,und,und,und,und,und,und,und,und,und,und,und,und,und,und,und,und,und,und,und,und,und,und,und,und,und,und,und,und,und,und,und,und,und,und,und,und,und,und,und,und,und,und,und,und,und,und,und,und,und,und,und,und,und,und,und,und,und,und,und,und,und,und,und,und,und,und,und,und,und,und,und,und,und,und,und,und,und,und,und,und,und,und,und,und,und,und,und,und,und,und,und,und,und,und,und,und,und,und]),h10)∧Hold B h10 [(x1,obS (q12:Sl Int))]):=by
 refine @kG0 _ _ _ _ _ _ _ _ (fun st tm h7 R => ?_)
 obtain ⟨w6,w9⟩:=st
 obtain ⟨rfl,O8⟩:=R
 rw [e_lb0_q83]
 unfold s0_q83
 dsimp only
 refine kA1 (kAl _ _) ?_
 refine kAb (fun c112 => ?_) (fun c112 => ?_)
 ·refine kAr (O8.tab (A:=Int) (s:=w6) 0 rfl) (fun m114 a113 hi115 hm116 => ?_)
  refine kG9 (A:=Int) O8 0 (-1) rfl hi115 hm116 rfl (by simp) (by first | rfl | simp) (by first | rfl | simp [kAx]) (fun h117 O118 => ?_)
  replace O118:Hold B h117 [(x1,obS ((kFe w6 w9 (-1)):Sl Int))]:=O118
  refine kA1 (kAj _ _) ?_
  exact kA6 ⟨rfl,rfl,O118⟩
 ·exact kA6 ⟨nofun,_,_,rfl,O8⟩
theorem ts_q83 (env:Nat→Contract)  (l_:Lattice) (text_:ByteArray) {l_p:Pt Lattice} (hp_l_:l_p.get=some l_):Sim (kAm Tryz.prog env n_q83 [AV.fptr (Row.w Lattice) (l_p.tab.map Row.cells) l_p.i 0,sv text_] []) (t_q83 l_ text_) fun c p=>release p.2 depth p.1=some ((fun c:Int=>enc c) c):=by
 have O:=Hold.nil []
 generalize hB:(⟨[],[]⟩:Base)=B at O
 clear hB
 rw [e_q83]
 unfold t_q83
 refine kA1 (v:=iv (text_.size:Int)) rfl ?_
 refine kA1 (kAj _ _) ?_
 refine kA1 (v:=AV.fptr (Row.w Lattice) (l_p.tab.map Row.cells) l_p.i 0) rfl ?_
 refine kA1 (v:=AV.fptr (Row.w Lattice) (l_p.tab.map Row.cells) l_p.i 0) rfl ?_
 refine kA1 (v:=iv l_.nodes) (kC5 hp_l_ false 1 0) ?_
 refine kA1 (kK9 _ _) ?_
 refine kIc (A:=Int) O 0 rfl (by decide) (fun l5 x1 h2 O3 => ?_)
 replace O3:Hold B h2 [(x1,obS ((some l5):Sl Int))]:=O3
 refine kA1 (v:=iv ((((some l5).getD []).length:Nat):Int)) (O3.tab (A:=Int) (s:=(some l5)) 0 rfl).len ?_
 refine kB6 ((tl0_q83 env l_ l_p text_ x1 l5) ⟨rfl,O3⟩) (fun qq122 r hq => ?_)
 revert hq
 revert qq122
 intro q12 hq
 obtain ⟨z13,h10,rfl,O11⟩:=hq
 rw [e_lk0x0_q83]
 refine kAr (O11.tab (A:=Int) (s:=q12) 0 rfl) (fun m15 a14 hi16 hm17 => ?_)
 refine kG9 (A:=Int) O11 0 0 rfl hi16 hm17 rfl (by simp) (by first | rfl | simp) (by first | rfl | simp [kAx]) (fun h18 O19 => ?_)
 replace O19:Hold B h18 [(x1,obS ((kFe q12 0 0):Sl Int))]:=O19
 refine kB6 ((tl1_q83 env l_ l_p hp_l_ text_ x1 l5 z13 m15) ⟨rfl,O19⟩) (fun qq111 r hq => ?_)
 revert hq
 revert qq111
 intro q26 hq
 obtain ⟨q27,z28,z29,z30,z31,z32,h24,rfl,O25⟩:=hq
 rw [e_lk1x2_q83]
 refine kA1 (v:=AV.fptr (Row.w Lattice) (l_p.tab.map Row.cells) l_p.i 0) rfl ?_
 refine kA1 (v:=AV.fptr (Row.w Lattice) (l_p.tab.map Row.cells) l_p.i 0) rfl ?_
 refine kA1 (v:=iv l_.nodes) (kC5 hp_l_ false 1 0) ?_
 refine kA1 (kK9 _ _) ?_
 refine kA1 (kCa _ _) ?_
 refine kAr (O25.tab (A:=Int) (s:=q26) 0 rfl) (fun m34 a33 hi35 hm36 => ?_)
 refine kA1 (v:=iv a33) ((O25.tab (A:=Int) (s:=q26) 0 rfl).ld hm36 false 1 0) ?_
 exact kA6 (kA5 (by rfl) _)
theorem tt_q83:kAn Tryz.prog n_q83 (C2 (fun c:Int=>enc c) tp_q83):=kCe E0 kBd hb_q83 fun l_p text_=>kCj fun l_ hp_l_=>ts_q83 _  l_ text_ hp_l_
def kJq (f_:Fnd):Option Int :=
 some (wr (f_.path+f_.own))
theorem ts_q87 (env:Nat→Contract)  (f_:Fnd):Sim (kAm Tryz.prog env n_q87 [AV.agg [sv f_.word,iv f_.path,iv f_.own]] []) (kJq f_) fun c p=>release p.2 depth p.1=some ((fun c:Int=>enc c) c):=by
 have O:=Hold.nil []
 generalize hB:(⟨[],[]⟩:Base)=B at O
 clear hB
 rw [e_q87]
 unfold kJq
 refine kAs O (cs:=[sv f_.word,iv f_.path,iv f_.own]) (by first | rfl | simp) (fun o1 h2 O3 => ?_)
 replace O3:Hold B h2 [pZ9 o1 3 [sv f_.word,iv f_.path,iv f_.own]]:=O3
 refine kA1 (v:=AV.ptr o1 1 0 1) rfl ?_
 refine kA1 (v:=iv f_.path) (O3.ld 0 rfl false 1 1) ?_
 refine kA1 (v:=AV.ptr o1 1 0 2) rfl ?_
 refine kA1 (v:=iv f_.own) (O3.ld 0 rfl false 1 2) ?_
 refine kA1 (kAj _ _) ?_
 exact kA6 (kA5 (by rfl) _)
theorem tt_q87:kAn Tryz.prog n_q87 (C1 (fun c:Int=>enc c) kJq):=kDl E0 kBd hb_q87 fun f_=>ts_q87 _  f_
def t_q78 (a_:Reading) (b_:Reading):Option Bool :=
 bif !decide (a_.cost=b_.cost) then
  some (decide (a_.cost<b_.cost))
 else
  bif !decide ((a_.text.size:Int)=(b_.text.size:Int)) then
   some (decide ((a_.text.size:Int)<(b_.text.size:Int)))
  else
   some (ltS a_.text b_.text)
theorem ts_q78 (env:Nat→Contract)  (a_:Reading) (b_:Reading):Sim (kAm Tryz.prog env n_q78 [AV.agg [sv a_.text,iv a_.cost],AV.agg [sv b_.text,iv b_.cost]] []) (t_q78 a_ b_) fun c p=>release p.2 depth p.1=some ((fun c:Bool=>enc c) c):=by
 have O:=Hold.nil []
 generalize hB:(⟨[],[]⟩:Base)=B at O
 clear hB
 rw [e_q78]
 unfold t_q78
 refine kAs O (cs:=[sv a_.text,iv a_.cost]) (by first | rfl | simp) (fun o1 h2 O3 => ?_)
 replace O3:Hold B h2 [pZ9 o1 2 [sv a_.text,iv a_.cost]]:=O3
 refine kAs O3 (cs:=[sv b_.text,iv b_.cost]) (by first | rfl | simp) (fun o5 h6 O7 => ?_)
 replace O7:Hold B h6 [pZ9 o1 2 [sv a_.text,iv a_.cost],pZ9 o5 2 [sv b_.text,iv b_.cost]]:=O7
 refine kA1 (v:=AV.ptr o1 1 0 1) rfl ?_
 refine kA1 (v:=iv a_.cost) (O7.ld 0 rfl false 1 1) ?_
 refine kA1 (v:=AV.ptr o5 1 0 1) rfl ?_
 refine kA1 (v:=iv b_.cost) (O7.ld 1 rfl false 1 1) ?_
 refine kA1 (kCo _ _) ?_
 refine kAb (fun c9 => ?_) (fun c9 => ?_)
 ·refine kA1 (v:=AV.ptr o1 1 0 1) rfl ?_
  refine kA1 (v:=iv a_.cost) (O7.ld 0 rfl false 1 1) ?_
  refine kA1 (v:=AV.ptr o5 1 0 1) rfl ?_
  refine kA1 (v:=iv b_.cost) (O7.ld 1 rfl false 1 1) ?_
  refine kA1 (kAl _ _) ?_
  exact kA6 (kA5 (by rfl) _)
 ·refine kA1 (v:=AV.ptr o1 1 0 0) rfl ?_
  refine kA1 (v:=sv a_.text) (O7.ld 0 rfl false 1 0) ?_
  refine kA1 (v:=iv (a_.text.size:Int)) rfl ?_
  refine kA1 (v:=AV.ptr o5 1 0 0) rfl ?_
  refine kA1 (v:=sv b_.text) (O7.ld 1 rfl false 1 0) ?_
  refine kA1 (v:=iv (b_.text.size:Int)) rfl ?_
  refine kA1 (kCo _ _) ?_
  refine kAb (fun c10 => ?_) (fun c10 => ?_)
  ·refine kA1 (v:=AV.ptr o1 1 0 0) rfl ?_
   refine kA1 (v:=sv a_.text) (O7.ld 0 rfl false 1 0) ?_
   refine kA1 (v:=iv (a_.text.size:Int)) rfl ?_
   refine kA1 (v:=AV.ptr o5 1 0 0) rfl ?_
   refine kA1 (v:=sv b_.text) (O7.ld 1 rfl false 1 0) ?_
   refine kA1 (v:=iv (b_.text.size:Int)) rfl ?_
   refine kA1 (kAl _ _) ?_
   exact kA6 (kA5 (by rfl) _)
  ·refine kA1 (v:=AV.ptr o1 1 0 0) rfl ?_
   refine kA1 (v:=sv a_.text) (O7.ld 0 rfl false 1 0) ?_
   refine kA1 (v:=AV.ptr o5 1 0 0) rfl ?_
   refine kA1 (v:=sv b_.text) (O7.ld 1 rfl false 1 0) ?_
   refine kA1 (v:=bv (ltS a_.text b_.text)) (str_lss _ _) ?_
   exact kA6 (kA5 (by rfl) _)
theorem tt_q78:kAn Tryz.prog n_q78 (C2 (fun c:Bool=>enc c) t_q78):=kCe E0 kBd hb_q78 fun a_ b_=>ts_q78 _  a_ b_
def t_q85 (a_:Fnd) (b_:Fnd):Option Bool :=
 kA0 (kJq a_) fun c9 =>
 kA0 (kJq b_) fun c10 =>
 kA0 (t_q78 (⟨a_.word,c9⟩:Reading) (⟨b_.word,c10⟩:Reading)) fun c11 =>
 some c11
theorem ts_q85 (env:Nat→Contract) (he_q78:env n_q78=.pure (C2 (fun c:Bool=>enc c) t_q78)) (he_q87:env n_q87=.pure (C1 (fun c:Int=>enc c) kJq)) (a_:Fnd) (b_:Fnd):Sim (kAm Tryz.prog env n_q85 [AV.agg [sv a_.word,iv a_.path,iv a_.own],AV.agg [sv b_.word,iv b_.path,iv b_.own]] []) (t_q85 a_ b_) fun c p=>release p.2 depth p.1=some ((fun c:Bool=>enc c) c):=by
 have O:=Hold.nil []
 generalize hB:(⟨[],[]⟩:Base)=B at O
 clear hB
 rw [e_q85]
 unfold t_q85
 refine kAs O (cs:=[sv a_.word,iv a_.path,iv a_.own]) (by first | rfl | simp) (fun o1 h2 O3 => ?_)
 replace O3:Hold B h2 [pZ9 o1 3 [sv a_.word,iv a_.path,iv a_.own]]:=O3
 refine kAs O3 (cs:=[sv b_.word,iv b_.path,iv b_.own]) (by first | rfl | simp) (fun o5 h6 O7 => ?_)
 replace O7:Hold B h6 [pZ9 o1 3 [sv a_.word,iv a_.path,iv a_.own],pZ9 o5 3 [sv b_.word,iv b_.path,iv b_.own]]:=O7
 refine kA1 (v:=AV.ptr o1 1 0 0) rfl ?_
 refine kA1 (v:=sv a_.word) (O7.ld 0 rfl false 1 0) ?_
 refine kA1 (v:=AV.agg [sv a_.word,iv a_.path,iv a_.own]) (O7.ld 0 rfl true 3 0) ?_
 refine kCc he_q87 (kAz _ a_ rfl) (fun c9 => ?_)
 refine kAq (kAc (by rfl) _ _) ?_
 refine kA1 (v:=AV.agg [sv a_.word,iv c9]) (by first | rfl | simp [kCm,kGf,kAx]) ?_
 refine kA1 (v:=AV.ptr o5 1 0 0) rfl ?_
 refine kA1 (v:=sv b_.word) (O7.ld 1 rfl false 1 0) ?_
 refine kA1 (v:=AV.agg [sv b_.word,iv b_.path,iv b_.own]) (O7.ld 1 rfl true 3 0) ?_
 refine kCc he_q87 (kAz _ b_ rfl) (fun c10 => ?_)
 refine kAq (kAc (by rfl) _ _) ?_
 refine kA1 (v:=AV.agg [sv b_.word,iv c10]) (by first | rfl | simp [kCm,kGf,kAx]) ?_
 refine kCb he_q78 (kAz _ (⟨a_.word,c9⟩:Reading) rfl) (kAz _ (⟨b_.word,c10⟩:Reading) rfl) (fun c11 => ?_)
 refine kAq (kAc (by rfl) _ _) ?_
 exact kA6 (kA5 (by rfl) _)
theorem tt_q85:kAn Tryz.prog n_q85 (C2 (fun c:Bool=>enc c) t_q85):=kCe (kBc tt_q78 (kBc tt_q87 E0)) kBd hb_q85 fun a_ b_=>ts_q85 _ (by simp [kBx]) (by simp [kBx]) a_ b_
def s1_q84 (w6:Sl Fnd) (c24:Int) (a27:Entry) (a31:Entry):Int→Option (Sum Int Int):=fun w43 =>
 kA0 (bif decide (0<w43) then (kA0 (kC7 (w6.getD []) (wr (w43 - 1))) fun a79=>kA0 (t_q85 (⟨a27.word,c24,a31.cost⟩:Fnd) a79) fun c83=>some c83) else some false) fun c84 =>
 bif (bif decide (0<w43) then c84 else false) then
  some (.inl (wr (w43 - 1)))
 else
  some (.inr w43)
def s0_q84 (l_:Lattice) (x_:Lexicon):((Sl Fnd)×Int)→Option (Sum ((Sl Fnd)×Int) (Sl Fnd)):=fun (w6,w9) =>
 bif decide (w9<(((x_.entries.getD []).length:Nat):Int)) then
  kA0 (kC7 (x_.entries.getD []) w9) fun a20 =>
  kA0 (t_q83 l_ a20.word) fun c24 =>
  bif decide (c24<0) then
   some (.inl (w6,wr (w9+1)))
  else
   kA0 (kC7 (x_.entries.getD []) w9) fun a27 =>
   kA0 (kC7 (x_.entries.getD []) w9) fun a31 =>
   kA0 (kBg (s1_q84 w6 c24 a27 a31) (((w6.getD []).length:Nat):Int)) fun q46 =>
   kA0 (subS w6 none (some q46)) fun s52 =>
   kA0 (appO (some ([]:List Fnd)) (s52.getD [])) fun _ =>
   kA0 (appO (kBv (some ([]:List Fnd)) (s52.getD [])) ([(⟨a27.word,c24,a31.cost⟩:Fnd)]:List Fnd)) fun _ =>
   kA0 (subS w6 (some q46) none) fun s70 =>
   kA0 (appO (kBv (kBv (some ([]:List Fnd)) (s52.getD [])) ([(⟨a27.word,c24,a31.cost⟩:Fnd)]:List Fnd)) (s70.getD [])) fun _ =>
   some (.inl ((kBv (kBv (kBv (some ([]:List Fnd)) (s52.getD [])) ([(⟨a27.word,c24,a31.cost⟩:Fnd)]:List Fnd)) (s70.getD [])),wr (w9+1)))
 else
  some (.inr w6)
def t_q84 (l_:Lattice) (x_:Lexicon):Option (Sl Fnd) :=
 kA0 (kBg (s0_q84 l_ x_) ((some ([]:List Fnd)),0)) fun q13 =>
 some q13
def tp_q84 (l_p:Pt Lattice) (x_p:Pt Lexicon):Option (Sl Fnd):=kA0 l_p.get fun l_=>kA0 x_p.get fun x_=>t_q84 l_ x_
end Go.Proofs.YtccoloclaocinaaGreat
