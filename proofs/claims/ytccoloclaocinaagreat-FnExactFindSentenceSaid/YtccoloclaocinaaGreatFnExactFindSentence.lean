import Derived.Test.YtccoloclaocinaaGreatFnExactFindSentencePartC
import Derived.Test.YtccoloclaocinaaGreatRows
namespace Go.Proofs.YtccoloclaocinaaGreat
open Go Go.Eng Go.Eng.Cod
set_option maxRecDepth 100000
set_option linter.unusedVariables false
set_option linter.unusedSimpArgs false
def okEnt (e:Entry):Bool:=kG7 e.word && kBb e.cost 0 1000000
def ltEnt (a b:Entry):Bool := !(ltS b.word a.word || decide (b.word=a.word))
def lexB (x:Lexicon):Bool:=adj okEnt ltEnt (x.entries.getD []) && decide ((x.entries.getD []).length≤60)
def kHz (x:Lexicon):Prop:=(x.entries.getD []).length≤4294967296∧∀ e∈x.entries.getD [],e.word.size≤4294967296
theorem pred_get {l:List Entry} {k:Nat} (h0:k≠0) (hk:k<l.length) (hl:l.length≤4294967296):∃ b,l[k - 1]?=some b∧kC7 l (wr ((k:Int) - 1))=some b:=by
 obtain ⟨b,hb⟩:∃ b,l[k - 1]?=some b:=⟨_,List.getElem?_eq_getElem (by omega)⟩
 refine ⟨b,hb,?_⟩
 have:wr ((k:Int) - 1)=((k - 1:Nat):Int):=by rw [kC9 (by omega) (by omega)];omega
 rw [this]
 exact kAi hb
theorem implLex_ok {x:Lexicon} (hs:kHz x):t_q9 x=some (lexB x):=by
 obtain ⟨hl,hw⟩:=hs
 have lp:=adjLoop okEnt ltEnt (x.entries.getD []) hl (step:=s0_q9 x) (fun k a ha _=>by
   have hk:=kCv ha
   have c:(k:Int)<(((x.entries.getD []).length:Nat):Int):=by omega
   have w:=kJ5 (hw a (List.mem_of_getElem? ha))
   unfold s0_q9 okEnt
   simp only [c,decide_true,cond_true,kAi ha,kA4,w]
   cases kG7 a.word with
   | false=>rfl
   | true =>
    cases kBb a.cost 0 1000000 with
    | false=>rfl
    | true =>
     by_cases k0:k=0
     ·subst k0
      rfl
     ·obtain ⟨b,hb,gb⟩:=pred_get k0 hk hl
      have d:decide ((0:Int)<(k:Int))=true:=decide_eq_true (by omega)
      have d2:decide (k=0)=false:=decide_eq_false k0
      simp only [Bool.not_true,cond_false,kA4,d,d2,Bool.and_self,Bool.not_false,cond_true,gb,hb,Bool.true_and,Bool.false_or,ltEnt]
      cases ltS a.word b.word || decide (a.word=b.word) <;> rfl)
  (by
   unfold s0_q9
   simp only [Int.lt_irrefl,decide_false,cond_false])
 unfold t_q9 lexB
 rw [lp]
 have d:decide ((((x.entries.getD []).length:Nat):Int)≤60)=decide ((x.entries.getD []).length≤60):=decide_eq_decide.2 (by omega)
 rw [d]
 cases adj okEnt ltEnt (x.entries.getD []) with
 | false=>rfl
 | true=>rfl
theorem specLex_ok {x:Lexicon} (hs:kHz x):t_q86 x=some (lexB x):=by
 obtain ⟨hl,hw⟩:=hs
 have lp:=adjLoop okEnt ltEnt (x.entries.getD []) hl (step:=s0_q86 x) (fun k a ha _=>by
   have hk:=kCv ha
   have c:(k:Int)<(((x.entries.getD []).length:Nat):Int):=by omega
   have w:=kIw (hw a (List.mem_of_getElem? ha))
   unfold s0_q86 okEnt
   simp only [c,decide_true,cond_true,kAi ha,kA4,w]
   cases kG7 a.word with
   | false=>rfl
   | true =>
    cases kBb a.cost 0 1000000 with
    | false=>rfl
    | true =>
     by_cases k0:k=0
     ·subst k0
      rfl
     ·obtain ⟨b,hb,gb⟩:=pred_get k0 hk hl
      have d:decide ((0:Int)<(k:Int))=true:=decide_eq_true (by omega)
      have d2:decide (k=0)=false:=decide_eq_false k0
      simp only [Bool.not_true,cond_false,kA4,d,d2,Bool.and_self,Bool.not_false,cond_true,gb,hb,Bool.true_and,Bool.false_or,ltEnt]
      cases ltS a.word b.word || decide (a.word=b.word) <;> rfl)
  (by
   unfold s0_q86
   simp only [Int.lt_irrefl,decide_false,cond_false])
 unfold t_q86 lexB
 rw [lp]
 have d:decide ((((x.entries.getD []).length:Nat):Int)≤60)=decide ((x.entries.getD []).length≤60):=decide_eq_decide.2 (by omega)
 rw [d]
 cases adj okEnt ltEnt (x.entries.getD []) with
 | false=>rfl
 | true=>rfl
theorem kJs {A:Type} {l:List A} {k:Nat} (h0:k≠0) (hk:k<l.length) (hl:l.length≤4294967296):∃ b,l[k - 1]?=some b∧kC7 l (wr ((k:Int) - 1))=some b:=by
 obtain ⟨b,hb⟩:∃ b,l[k - 1]?=some b:=⟨_,List.getElem?_eq_getElem (by omega)⟩
 refine ⟨b,hb,?_⟩
 have:wr ((k:Int) - 1)=((k - 1:Nat):Int):=by rw [kC9 (by omega) (by omega)];omega
 rw [this]
 exact kAi hb
theorem implBig_ok {b:Bigram} (h1:b.first.size≤4294967296) (h2:b.second.size≤4294967296):t_q21 b=some (kCl b):=by
 unfold t_q21 kCl isFirst
 rw [kJ5 h1,kJ5 h2]
 cases kG7 b.second <;> cases decide (b.first=(⟨#[]⟩:ByteArray)) <;> cases kG7 b.first <;> rfl
theorem specFirst_ok {s:ByteArray} (h1:s.size≤4294967296):t_q92 s=some (isFirst s):=by
 unfold t_q92 isFirst
 rw [kIw h1]
 cases decide (s=(⟨#[]⟩:ByteArray)) <;> rfl
theorem specBig_ok {b:Bigram} (h1:b.first.size≤4294967296) (h2:b.second.size≤4294967296):t_q90 b=some (kCl b):=by
 unfold t_q90 kCl
 rw [specFirst_ok h1,kIw h2]
 cases kG7 b.second <;> cases isFirst b.first <;> rfl
theorem specBefore_ok (a b:Bigram):t_q88 a b=some (kC6 a b):=by
 unfold t_q88 kC6
 cases ltS a.first b.first <;> cases decide (a.first=b.first) <;> rfl
def modB (m:Model):Bool:=adj kCl kC6 (m.bigrams.getD []) && (kBb m.default 0 1000000 && decide ((m.bigrams.getD []).length≤60))
def kHr (m:Model):Prop:=(m.bigrams.getD []).length≤4294967296∧∀ b∈m.bigrams.getD [],b.first.size≤4294967296∧b.second.size≤4294967296
theorem implMod_ok {m:Model} (hs:kHr m):t_q10 m=some (modB m):=by
 obtain ⟨hl,hw⟩:=hs
 have lp:=adjLoop kCl kC6 (m.bigrams.getD []) hl (step:=s0_q10 m) (fun k a ha _=>by
   have hk:=kCv ha
   have c:(k:Int)<(((m.bigrams.getD []).length:Nat):Int):=by omega
   have w:=implBig_ok (hw a (List.mem_of_getElem? ha)).1 (hw a (List.mem_of_getElem? ha)).2
   unfold s0_q10
   simp only [c,decide_true,cond_true,kAi ha,kA4,w]
   cases kCl a with
   | false=>rfl
   | true =>
    by_cases k0:k=0
    ·subst k0
     rfl
    ·obtain ⟨b,hb,gb⟩:=kJs k0 hk hl
     have d:decide ((0:Int)<(k:Int))=true:=decide_eq_true (by omega)
     have d2:decide (k=0)=false:=decide_eq_false k0
     simp only [Bool.not_true,cond_false,kA4,d,d2,Bool.not_false,Bool.and_self,cond_true,gb,hb,Bool.true_and,Bool.false_or,cmpB_before]
     cases kC6 b a <;> rfl)
  (by
   unfold s0_q10
   simp only [Int.lt_irrefl,decide_false,cond_false])
 unfold t_q10 modB
 rw [lp]
 have d:decide ((((m.bigrams.getD []).length:Nat):Int)≤60)=decide ((m.bigrams.getD []).length≤60):=decide_eq_decide.2 (by omega)
 rw [d]
 cases adj kCl kC6 (m.bigrams.getD []) with
 | false=>rfl
 | true =>
  simp only [cond_true,kA4,Bool.true_and]
  cases kBb m.default 0 1000000 <;> rfl
theorem specMod_ok {m:Model} (hs:kHr m):t_q95 m=some (modB m):=by
 obtain ⟨hl,hw⟩:=hs
 have lp:=adjLoop kCl kC6 (m.bigrams.getD []) hl (step:=s0_q95 m) (fun k a ha _=>by
   have hk:=kCv ha
   have c:(k:Int)<(((m.bigrams.getD []).length:Nat):Int):=by omega
   have w:=specBig_ok (hw a (List.mem_of_getElem? ha)).1 (hw a (List.mem_of_getElem? ha)).2
   unfold s0_q95
   simp only [c,decide_true,cond_true,kAi ha,kA4,w]
   cases kCl a with
   | false=>rfl
   | true =>
    by_cases k0:k=0
    ·subst k0
     rfl
    ·obtain ⟨b,hb,gb⟩:=kJs k0 hk hl
     have d:decide ((0:Int)<(k:Int))=true:=decide_eq_true (by omega)
     have d2:decide (k=0)=false:=decide_eq_false k0
     simp only [Bool.not_true,cond_false,kA4,d,d2,Bool.not_false,Bool.and_self,cond_true,gb,hb,Bool.true_and,Bool.false_or,specBefore_ok]
     cases kC6 b a <;> rfl)
  (by
   unfold s0_q95
   simp only [Int.lt_irrefl,decide_false,cond_false])
 unfold t_q95 modB
 rw [lp]
 have d:decide ((((m.bigrams.getD []).length:Nat):Int)≤60)=decide ((m.bigrams.getD []).length≤60):=decide_eq_decide.2 (by omega)
 rw [d]
 cases adj kCl kC6 (m.bigrams.getD []) with
 | false=>rfl
 | true =>
  simp only [cond_true,kA4,Bool.true_and]
  cases kBb m.default 0 1000000 <;> rfl
theorem mod_srt {m:Model} (h:modB m=true):srtB (m.bigrams.getD [])=true:=by
 unfold modB at h
 rw [Bool.and_eq_true] at h
 have k:=(kJm h.1).2
 unfold srtB
 rw [List.all_eq_true]
 intro i hi
 rw [List.mem_range] at hi
 by_cases h0:i=0
 ·rw [decide_eq_true h0]
  rfl
 ·obtain ⟨a,ha⟩:∃ a,(m.bigrams.getD [])[i - 1]?=some a:=⟨_,List.getElem?_eq_getElem (by omega)⟩
  obtain ⟨b,hb⟩:∃ b,(m.bigrams.getD [])[i]?=some b:=⟨_,List.getElem?_eq_getElem hi⟩
  have e:i - 1+1=i:=by omega
  have:=k (i - 1) a b ha (by rw [e];exact hb)
  unfold beforeAt
  rw [ha,hb]
  show (decide (i=0) || kC6 a b)=true
  rw [this,Bool.or_true]
def fitE (N:Int) (e:Edg):Bool:=decide (0≤e.frm) && (decide (e.frm<e.upto) && (decide (e.upto<N) && kBb e.cost 0 1000000))
def ordE (a b:Edg):Int:=bif !decide (cmpI a.frm b.frm=0) then cmpI a.frm b.frm else bif !decide (cmpI a.upto b.upto=0) then cmpI a.upto b.upto else cmpS a.label b.label
def okE (N:Int) (e:Edg):Bool:=fitE N e && kDk e.label
def ltE (a b:Edg):Bool := !decide (0≤ordE a b)
def latB (l:Lattice):Bool:=adj (okE l.nodes) ltE (l.edges.getD []) && (kBb l.nodes 1 20 && decide ((l.edges.getD []).length≤200))
theorem implFit_ok (l:Lattice) (e:Edg):t_q14 l e=some (fitE l.nodes e):=by
 unfold t_q14 fitE
 cases decide (0≤e.frm) <;> cases decide (e.frm<e.upto) <;> cases decide (e.upto<l.nodes) <;> rfl
theorem specFit_ok (l:Lattice) (e:Edg) (h:kBb l.nodes 1 20=true):t_q79 l e=some (fitE l.nodes e):=by
 have hn:1≤l.nodes∧l.nodes≤20:=by
  unfold kBb at h
  rw [Bool.and_eq_true] at h
  exact ⟨of_decide_eq_true h.1,of_decide_eq_true h.2⟩
 have d:decide (e.upto≤wr (l.nodes - 1))=decide (e.upto<l.nodes):=by
  rw [kC9 (by omega) (by omega)]
  exact decide_eq_decide.2 (by omega)
 unfold t_q79 fitE
 rw [d]
 cases decide (0≤e.frm) <;> cases decide (e.frm<e.upto) <;> cases decide (e.upto<l.nodes) <;> rfl
theorem or3 (a b c:Int):t_q2 (some [a,b,c])=some (bif !decide (a=0) then a else bif !decide (b=0) then b else c):=by
 have w1:wr ((0:Int)+1)=1:=kC9 (by omega) (by omega)
 have w2:wr ((1:Int)+1)=2:=kC9 (by omega) (by omega)
 have w3:wr ((2:Int)+1)=3:=kC9 (by omega) (by omega)
 have g0:kC7 [a,b,c] 0=some a:=kAi (m:=0) rfl
 have g1:kC7 [a,b,c] 1=some b:=kAi (m:=1) rfl
 have g2:kC7 [a,b,c] 2=some c:=kAi (m:=2) rfl
 have e0:s0_q2 (some [a,b,c]) 0=bif !decide (a=0) then some (.inr (.inr a)) else some (.inl 1):=by
  have h:(0:Int)<((([a,b,c]:List Int).length:Nat):Int):=by simp
  unfold s0_q2
  simp only [Option.getD_some,h,decide_true,cond_true,g0,kA4,w1]
 have e1:s0_q2 (some [a,b,c]) 1=bif !decide (b=0) then some (.inr (.inr b)) else some (.inl 2):=by
  have h:(1:Int)<((([a,b,c]:List Int).length:Nat):Int):=by simp
  unfold s0_q2
  simp only [Option.getD_some,h,decide_true,cond_true,g1,kA4,w2]
 have e2:s0_q2 (some [a,b,c]) 2=bif !decide (c=0) then some (.inr (.inr c)) else some (.inl 3):=by
  have h:(2:Int)<((([a,b,c]:List Int).length:Nat):Int):=by simp
  unfold s0_q2
  simp only [Option.getD_some,h,decide_true,cond_true,g2,kA4,w3]
 have e3:s0_q2 (some [a,b,c]) 3=some (.inr (.inl ())):=rfl
 unfold t_q2
 cases ha : !decide (a=0) with
 | true =>
  rw [ha] at e0
  rw [kC8 e0]
  rfl
 | false =>
  rw [ha] at e0
  rw [kCx e0]
  cases hb : !decide (b=0) with
  | true =>
   rw [hb] at e1
   rw [kC8 e1]
   rfl
  | false =>
   rw [hb] at e1
   rw [kCx e1]
   cases hc : !decide (c=0) with
   | true =>
    rw [hc] at e2
    rw [kC8 e2]
    rfl
   | false =>
    rw [hc] at e2
    rw [kCx e2,kC8 e3]
    have:c=0:=by
     rw [Bool.not_eq_false'] at hc
     exact of_decide_eq_true hc
    rw [this]
    rfl
theorem implOrd_ok (a b:Edg):t_q13 a b=some (ordE a b):=by
 unfold t_q13 ordE
 simp only [kA4,or3]
theorem specSign_ok (a b:Int):t_q82 a b=some (cmpI a b):=by
 unfold t_q82 cmpI
 cases decide (a<b) <;> cases decide (b<a) <;> rfl
theorem cmpI_zero (a b:Int):decide (cmpI a b=0)=decide (a=b):=by
 unfold cmpI
 by_cases h1:a<b
 ·rw [decide_eq_true h1,cond_true,decide_eq_false (by omega:¬ a=b)]
  rfl
 ·rw [decide_eq_false h1,cond_false]
  by_cases h2:b<a
  ·rw [decide_eq_true h2,cond_true,decide_eq_false (by omega:¬ a=b)]
   rfl
  ·rw [decide_eq_false h2,cond_false,decide_eq_true (by omega:a=b)]
   rfl
theorem specOrd_ok (a b:Edg):t_q81 a b=some (ordE a b):=by
 unfold t_q81 ordE cmpS
 rw [specSign_ok,specSign_ok,cmpI_zero,cmpI_zero]
 cases decide (a.frm=b.frm) <;> cases decide (a.upto=b.upto) <;> cases ltS a.label b.label <;> cases decide (a.label=b.label) <;> rfl
theorem implLat_ok {l:Lattice} (hl:(l.edges.getD []).length≤4294967296):t_q8 l=some (latB l):=by
 have lp:=adjLoop (okE l.nodes) ltE (l.edges.getD []) hl (step:=s0_q8 l) (fun k a ha _=>by
   have hk:=kCv ha
   have c:(k:Int)<(((l.edges.getD []).length:Nat):Int):=by omega
   unfold s0_q8 okE
   simp only [c,decide_true,cond_true,kAi ha,kA4,implFit_ok]
   cases fitE l.nodes a with
   | false=>rfl
   | true =>
    cases kDk a.label with
    | false=>rfl
    | true =>
     by_cases k0:k=0
     ·subst k0
      rfl
     ·obtain ⟨b,hb,gb⟩:=kJs k0 hk hl
      have d:decide ((0:Int)<(k:Int))=true:=decide_eq_true (by omega)
      have d2:decide (k=0)=false:=decide_eq_false k0
      simp only [Bool.not_true,cond_false,kA4,d,d2,Bool.not_false,Bool.and_self,cond_true,gb,hb,Bool.true_and,Bool.false_or,implOrd_ok,ltE]
      cases decide (0≤ordE b a) <;> rfl)
  (by
   unfold s0_q8
   simp only [Int.lt_irrefl,decide_false,cond_false])
 unfold t_q8 latB
 rw [lp]
 have d:decide ((((l.edges.getD []).length:Nat):Int)≤200)=decide ((l.edges.getD []).length≤200):=decide_eq_decide.2 (by omega)
 rw [d]
 cases adj (okE l.nodes) ltE (l.edges.getD []) with
 | false=>rfl
 | true =>
  simp only [cond_true,kA4,Bool.true_and]
  cases kBb l.nodes 1 20 <;> rfl
theorem specLat_ok {l:Lattice} (hl:(l.edges.getD []).length≤4294967296):t_q80 l=some (latB l):=by
 unfold t_q80 latB
 rw [kA4]
 have d:decide (200<(((l.edges.getD []).length:Nat):Int)) = !decide ((l.edges.getD []).length≤200):=by
  rw [← decide_not]
  exact decide_eq_decide.2 (by omega)
 rw [d]
 cases hw:kBb l.nodes 1 20 with
 | false=>rw [Bool.false_and,Bool.and_false];rfl
 | true =>
  cases decide ((l.edges.getD []).length≤200) with
  | false=>rw [Bool.and_false,Bool.and_false];rfl
  | true =>
   have lp:=adjLoop (okE l.nodes) ltE (l.edges.getD []) hl (step:=s0_q80 l) (fun k a ha _=>by
     have hk:=kCv ha
     have c:(k:Int)<(((l.edges.getD []).length:Nat):Int):=by omega
     unfold s0_q80 okE
     simp only [c,decide_true,cond_true,kAi ha,kA4,specFit_ok l a hw]
     cases fitE l.nodes a with
     | false=>rfl
     | true =>
      cases kDk a.label with
      | false=>rfl
      | true =>
       by_cases k0:k=0
       ·subst k0
        rfl
       ·obtain ⟨b,hb,gb⟩:=kJs k0 hk hl
        have d:decide ((0:Int)<(k:Int))=true:=decide_eq_true (by omega)
        have d2:decide (k=0)=false:=decide_eq_false k0
        simp only [Bool.not_true,cond_false,kA4,d,d2,Bool.not_false,Bool.and_self,cond_true,gb,hb,Bool.true_and,Bool.false_or,specOrd_ok,ltE]
        cases decide (0≤ordE b a) <;> rfl)
    (by
     unfold s0_q80
     simp only [Int.lt_irrefl,decide_false,cond_false])
   show kA0 (kBg (s0_q80 l) 0) _=_
   rw [lp]
   cases adj (okE l.nodes) ltE (l.edges.getD []) <;> rfl
def kB1 (q:Sl Lattice) (x:Lexicon) (m:Model):Int:=bif !(lexB x && (modB m && (q.getD []).all latB)) then 1 else bif decide (8<(((q.getD []).length:Nat):Int)) then 2 else 0
def smallLats (q:Sl Lattice):Prop:=(q.getD []).length≤4294967296∧∀ l∈q.getD [],(l.edges.getD []).length≤4294967296
theorem cf_Lat {p:Lattice→Option Bool} {f:Lattice→Bool} (s:Sl Lattice) (hl:(s.getD []).length≤4294967296) (hp:∀ a∈s.getD [],p a=some (f a)):t_q70 p s=some ((s.getD []).any f):=by
 unfold t_q70 t_q71
 have h:=kFv (step:=s0_q71 p s) (s.getD []) (fun k a=>bif f a then some (k:Int) else none) (.inl ()) .inr
  (fun k a ha=>by
   have hk:=kCv ha
   have c:(k:Int)<((s.getD []).length:Nat):=by omega
   have w:=kBw hk hl
   unfold s0_q71
   simp only [c,decide_true,cond_true,kAi ha,kA4,hp a (List.mem_of_getElem? ha),w]
   cases f a <;> rfl)
  (by
   unfold s0_q71
   simp only [Int.lt_irrefl,decide_false,cond_false])
 have key:∀ (l:List Lattice) (k:Nat) (x:Option Int),kEu (fun (k:Nat) a=>bif f a then some (k:Int) else none) l k=x→(x=none∧l.any f=false)∨∃ r,x=some r∧0≤r∧l.any f=true:=by
  intro l
  induction l with
  | nil=>intro k x hx;exact .inl ⟨hx.symm,rfl⟩
  | cons a l ih =>
   intro k x hx
   unfold kEu at hx
   cases e:f a with
   | true =>
    rw [e] at hx
    exact .inr ⟨(k:Int),hx.symm,by omega,by simp [e]⟩
   | false =>
    rw [e] at hx
    rcases ih (k+1) x hx with h | ⟨r,h1,h2,h3⟩
    ·exact .inl ⟨h.1,by simp [e,h.2]⟩
    ·exact .inr ⟨r,h1,h2,by simp [e,h3]⟩
 rcases key (s.getD []) 0 _ rfl with ⟨h1,h2⟩ | ⟨r,h1,h2,h3⟩
 ·rw [h1] at h
  rw [h,h2]
  rfl
 ·rw [h1] at h
  rw [h,h3]
  show some (decide (0≤r))=_
  rw [decide_eq_true h2]
theorem any_not {A:Type} (f:A→Bool):∀ l:List A,l.any (fun a => !f a) = !l.all f
 | []=>rfl
 | a::l=>by
  rw [List.any_cons,List.all_cons,any_not f l]
  cases f a <;> rfl
theorem sentenced_ok {q:Sl Lattice} {x:Lexicon} {m:Model} (hq:smallLats q) (hx:kHz x) (hm:kHr m):t_q18 q x m=some (kB1 q x m):=by
 have h3:=cf_Lat (p:=t_q19) (f:=fun l => !latB l) q hq.1 fun l hl=>by
  unfold t_q19
  rw [implLat_ok (hq.2 l hl)]
  rfl
 unfold t_q18 kB1
 rw [implLex_ok hx,implMod_ok hm,h3,any_not]
 cases lexB x with
 | false=>rfl
 | true =>
  cases modB m with
  | false=>rfl
  | true=>cases (q.getD []).all latB <;> cases decide (8<(((q.getD []).length:Nat):Int)) <;> rfl
theorem specCode_ok {q:Sl Lattice} {x:Lexicon} {m:Model} (hq:smallLats q) (hx:kHz x) (hm:kHr m):t_q91 q x m=some (kB1 q x m):=by
 have lp:∀ b:Bool,kBg (kIq q) (b,0)=some (b || !(q.getD []).all latB):=by
  intro b
  obtain ⟨r,h1,h2⟩:=kCt (step:=kIq q) (s:=(b,0)) (fun k s=>s=(b || !((q.getD []).take k).all latB,(k:Int))) (q.getD []).length (fun r=>r=(b || !(q.getD []).all latB))
   (fun k s hk hs=>by
    subst hs
    left
    obtain ⟨a,ha⟩:∃ a,(q.getD [])[k]?=some a:=⟨_,List.getElem?_eq_getElem hk⟩
    have c:(k:Int)<(((q.getD []).length:Nat):Int):=by omega
    have ht:(q.getD []).take (k+1)=(q.getD []).take k++[a]:=by rw [List.take_add_one,ha];rfl
    refine ⟨_,?_,rfl⟩
    unfold kIq
    simp only [c,decide_true,cond_true,kAi ha,kA4,specLat_ok (hq.2 a (List.mem_of_getElem? ha)),kBw hk hq.1,ht,List.all_append,List.all_cons,List.all_nil,Bool.and_true]
    cases b <;> cases ((q.getD []).take k).all latB <;> cases latB a <;> rfl)
   (fun s hs=>by
    subst hs
    refine ⟨_,?_,rfl⟩
    unfold kIq
    simp only [Int.lt_irrefl,decide_false,cond_false,List.take_length])
   (by cases b <;> rfl)
  rw [h1,h2]
 unfold t_q91 kB1
 rw [specLex_ok hx,specMod_ok hm]
 cases lexB x with
 | false =>
  show kA0 (kBg (kIq q) (true,0)) _=_
  rw [lp]
  rfl
 | true =>
  cases modB m with
  | false =>
   show kA0 (kBg (kIq q) (true,0)) _=_
   rw [lp]
   rfl
  | true =>
   show kA0 (kBg (kIq q) (false,0)) _=_
   rw [lp]
   cases (q.getD []).all latB <;> cases decide (8<(((q.getD []).length:Nat):Int)) <;> rfl
theorem mid_ok {i j:Nat} (h:i+j≤9000000000000000000):wr (Int.fdiv (IntKind.u64.wrap (wr ((i:Int)+(j:Int)))) (2 ^ 1))=(((i+j) / 2:Nat):Int):=by
 have e1:wr ((i:Int)+(j:Int))=((i+j:Nat):Int):=by
  rw [kC9 (by omega) (by omega)]
  omega
 have e2:IntKind.u64.wrap ((i+j:Nat):Int)=((i+j:Nat):Int):=by
  simp only [IntKind.wrap,IntKind.bits,IntKind.signed]
  first | omega | (simp;omega)
 have e3:Int.fdiv ((i+j:Nat):Int) (2 ^ 1)=(((i+j) / 2:Nat):Int):=by
  rw [Int.fdiv_eq_ediv_of_nonneg _ (by decide)]
  omega
 rw [e1,e2,e3,kC9 (by omega) (by omega)]
theorem bsLoop {step:(Int×Int)→Option (Sum (Int×Int) Int)} {n p:Nat} (hn:n≤4294967296)
  (next:∀ i j:Nat,i<j→j≤n→step ((i:Int),(j:Int))=some (bif decide ((i+j) / 2<p) then .inl (wr ((((i+j) / 2:Nat):Int)+1),(j:Int)) else .inl ((i:Int),(((i+j) / 2:Nat):Int))))
  (fin:∀ i:Nat,step ((i:Int),(i:Int))=some (.inr (i:Int))):∀ d i j:Nat,j - i≤d→i≤p→p≤j→j≤n→kBg step ((i:Int),(j:Int))=some (p:Int)
 | 0,i,j,hd,hi,hj,_=>by
  have e1:j=p:=by omega
  have e2:i=p:=by omega
  subst e1
  subst e2
  exact kC8 (fin _)
 | d+1,i,j,hd,hi,hj,hJ=>by
  by_cases hlt:i<j
  ·have e:=next i j hlt hJ
   by_cases hm:(i+j) / 2<p
   ·rw [decide_eq_true hm,cond_true,kBw (n:=n) (by omega) hn] at e
    rw [kCx e]
    exact bsLoop hn next fin d _ _ (by omega) (by omega) hj hJ
   ·rw [decide_eq_false hm,cond_false] at e
    rw [kCx e]
    exact bsLoop hn next fin d _ _ (by omega) hi (by omega) (by omega)
  ·have e1:j=p:=by omega
   have e2:i=p:=by omega
   subst e1
   subst e2
   exact kC8 (fin _)
theorem ipair_ok {m:Model} (h:srtB (m.bigrams.getD [])=true) (hl:(m.bigrams.getD []).length≤4294967296) (f s:ByteArray):t_q17 m f s=some (kAk m f s):=by
 have neg:∀ a:Bigram,decide (cmpB a ⟨f,s,0⟩<0)=kC6 a ⟨f,s,0⟩:=fun a=>by
  have:=cmpB_before a ⟨f,s,0⟩
  rw [← Bool.not_not (kC6 a _),← this,← decide_not]
  exact decide_eq_decide.2 (by omega)
 have lp:=bsLoop (step:=s0_q69 m.bigrams ⟨f,s,0⟩) (n:=(m.bigrams.getD []).length) (p:=posB (m.bigrams.getD []) ⟨f,s,0⟩) hl
  (fun i j hij hj=>by
   have c:(i:Int)<(j:Int):=by omega
   have hm:(i+j) / 2<(m.bigrams.getD []).length:=by omega
   have ha:(m.bigrams.getD [])[(i+j) / 2]?=some ((m.bigrams.getD [])[(i+j) / 2]):=List.getElem?_eq_getElem hm
   unfold s0_q69
   simp only [c,decide_true,cond_true,mid_ok (show i+j≤9000000000000000000 by omega),kAi ha,kA4,neg,pos_ok h ⟨f,s,0⟩ hm]
   cases decide ((i+j) / 2<posB (m.bigrams.getD []) ⟨f,s,0⟩) <;> rfl)
  (fun i=>by
   unfold s0_q69
   simp only [Int.lt_irrefl,decide_false,cond_false])
  (m.bigrams.getD []).length 0 (m.bigrams.getD []).length (by omega) (by omega) (pos_le _ _) (by omega)
 have z:((0:Nat):Int)=0:=rfl
 rw [z] at lp
 unfold t_q17 t_q69 kAk
 rw [lp,hit_find h]
 simp only [kA4]
 unfold hitB
 by_cases hp:posB (m.bigrams.getD []) ⟨f,s,0⟩<(m.bigrams.getD []).length
 ·obtain ⟨a,ha⟩:∃ a,(m.bigrams.getD [])[posB (m.bigrams.getD []) ⟨f,s,0⟩]?=some a:=⟨_,List.getElem?_eq_getElem hp⟩
  have c:(posB (m.bigrams.getD []) ⟨f,s,0⟩:Int)<(((m.bigrams.getD []).length:Nat):Int):=by omega
  simp only [c,decide_true,cond_true,kAi ha,kA4,cmpB_zero,ha]
  cases kGz a ⟨f,s,0⟩ <;> rfl
 ·have c:¬ (posB (m.bigrams.getD []) ⟨f,s,0⟩:Int)<(((m.bigrams.getD []).length:Nat):Int):=by omega
  simp only [c,decide_false,cond_false,kA4,List.getElem?_eq_none (Nat.not_lt.1 hp)]
  rfl
theorem spair_ok {m:Model} (hl:(m.bigrams.getD []).length≤4294967296) (f s:ByteArray):t_q96 m f s=some (kAk m f s):=by
 have lp:=kFv (step:=s0_q96 m f s) (m.bigrams.getD []) (fun _ (a:Bigram)=>bif kGz a ⟨f,s,0⟩ then some a.cost else none) (.inl ()) .inr
  (fun k a ha=>by
   have hk:=kCv ha
   have c:(k:Int)<(((m.bigrams.getD []).length:Nat):Int):=by omega
   unfold s0_q96 kGz
   simp only [c,decide_true,cond_true,kAi ha,kA4,kBw hk hl]
   cases decide (a.first=f) <;> cases decide (a.second=s) <;> rfl)
  (by
   unfold s0_q96
   simp only [Int.lt_irrefl,decide_false,cond_false])
 have key:∀ (l:List Bigram) (k:Nat),kEu (fun _ (a:Bigram)=>bif kGz a ⟨f,s,0⟩ then some a.cost else none) l k=(l.find? fun b=>kGz b ⟨f,s,0⟩).map Bigram.cost:=by
  intro l
  induction l with
  | nil=>intro k;rfl
  | cons a l ih =>
   intro k
   unfold kEu
   rw [List.find?_cons]
   cases kGz a ⟨f,s,0⟩ with
   | true=>rfl
   | false=>exact ih (k+1)
 unfold t_q96 kAk
 rw [lp,key]
 cases (m.bigrams.getD []).find? fun b=>kGz b ⟨f,s,0⟩ <;> rfl
inductive Wy (E:List Edg) (lab:Nat→ByteArray):Nat→Nat→Int→Prop
 | start:Wy E lab 0 0 0
 | step {k u v:Nat} {c:Int} {i:Nat} {e:Edg}:Wy E lab k u c→E[i]?=some e→e.frm=(u:Int)→e.upto=(v:Int)→e.label=lab k→Wy E lab (k+1) v (c+e.cost)
def VE (E:List Edg) (N:Nat):Prop:=∀ (i:Nat) e,E[i]?=some e→∃ u v:Nat,e.frm=(u:Int)∧e.upto=(v:Int)∧u<v∧v<N∧0≤e.cost∧e.cost≤1000000
theorem Wy.bound {E:List Edg} {lab:Nat→ByteArray} {N:Nat} (hE:VE E N) (h0:0<N) {k v:Nat} {c:Int} (h:Wy E lab k v c):v<N∧0≤c∧c≤(k:Int)*1000000:=by
 induction h with
 | start=>exact ⟨h0,by omega,by omega⟩
 | step hw he hf hu hl ih =>
  obtain ⟨u',v',e1,e2,e3,e4,e5,e6⟩:=hE _ _ he
  refine ⟨by omega,by omega,?_⟩
  have:=ih.2.2
  rw [Int.natCast_add,Int.add_mul]
  omega
def LeW (W:Int) (S:Int→Prop) (x:Int):Prop:=(x=W∧∀ c,¬ S c)∨(S x∧∀ c,S c→x≤c)
theorem LeW.same {W:Int} {S T:Int→Prop} {x:Int} (h:LeW W S x) (hs:∀ c,S c↔T c):LeW W T x:=by
 rcases h with ⟨h1,h2⟩ | ⟨h1,h2⟩
 ·exact .inl ⟨h1,fun c hc=>h2 c ((hs c).2 hc)⟩
 ·exact .inr ⟨(hs x).1 h1,fun c hc=>h2 c ((hs c).2 hc)⟩
theorem LeW.join {W:Int} {S T:Int→Prop} {x y:Int} (h:LeW W S x) (hy:T y) (hm:∀ c,T c→y≤c) (hW:y<W) (hS:∀ c,S c→c<W):LeW W (fun c=>S c∨T c) (min x y):=by
 rcases h with ⟨h1,h2⟩ | ⟨h1,h2⟩
 ·right
  rw [Int.min_eq_right (by omega)]
  exact ⟨.inr hy,fun c hc=>hc.elim (fun k=>absurd k (h2 c)) (hm c)⟩
 ·right
  have:=hS x h1
  rcases Int.le_total x y with k | k
  ·rw [Int.min_eq_left k]
   exact ⟨.inl h1,fun c hc=>hc.elim (h2 c) fun t=>Int.le_trans k (hm c t)⟩
  ·rw [Int.min_eq_right k]
   exact ⟨.inr hy,fun c hc=>hc.elim (fun t=>Int.le_trans k (h2 c t)) (hm c)⟩
theorem fillLoop (W:Int) (n:Nat) (hn:n≤4294967296) {l:List Int} (hl:l.length=n) {step:(Sl Int×Int)→Option (Sum (Sl Int×Int) (Sl Int))}
  (hs:∀ w i,step (w,i)=bif decide (i<((n:Nat):Int)) then kA0 (kC7 (w.getD []) i) fun _=>some (.inl (kFe w i W,wr (i+1))) else some (.inr w)):kBg step (some l,0)=some (some (List.replicate n W)):=by
 obtain ⟨r,h1,h2⟩:=kCt (step:=step) (s:=(some l,0)) (fun k s=>∃ L:List Int,s=(some L,(k:Int))∧L.length=n∧∀ i,i<k→L[i]?=some W) n (fun r=>r=some (List.replicate n W))
  (fun k s hk hi=>by
   obtain ⟨L,rfl,h3,h4⟩:=hi
   left
   obtain ⟨a,ha⟩:∃ a,L[k]?=some a:=⟨_,List.getElem?_eq_getElem (by omega)⟩
   have c:(k:Int)<((n:Nat):Int):=by omega
   refine ⟨(some (L.set k W),((k+1:Nat):Int)),?_,_,rfl,by rw [List.length_set];exact h3,fun i hi => ?_⟩
   ·rw [hs,decide_eq_true c,cond_true]
    show kA0 (kC7 L (k:Int)) _=_
    rw [kAi ha,kA4,kBw hk hn]
    rfl
   ·by_cases e:i=k
    ·subst e
     rw [List.getElem?_set_self (by omega)]
    ·rw [List.getElem?_set_ne (by omega)]
     exact h4 i (by omega))
  (fun s hi=>by
   obtain ⟨L,rfl,h3,h4⟩:=hi
   refine ⟨_,by rw [hs,decide_eq_false (Int.lt_irrefl _),cond_false],?_⟩
   congr 1
   refine List.ext_getElem? fun i => ?_
   by_cases hi:i<n
   ·rw [h4 i hi,List.getElem?_replicate,if_pos hi]
   ·rw [List.getElem?_eq_none (by omega),List.getElem?_eq_none (by rw [List.length_replicate];omega)])
  ⟨l,rfl,hl,fun i hi=>by omega⟩
 rw [h1,h2]
theorem subB_one {t:ByteArray} {k:Nat} (hk:k<t.size) (ht:t.size≤4294967296):subB t (some (k:Int)) (some (wr ((k:Int)+1)))=some (t.extract k (k+1)):=by
 rw [kBw hk ht]
 unfold subB
 have e1:bndI (some ((k+1:Nat):Int)) t.size t.size=some (k+1):=kHa (show k+1<t.size+1 by omega)
 have e2:bndI (some (k:Int)) 0 (k+1)=some k:=kHa (show k<k+1+1 by omega)
 rw [e1,kA4,e2,kA4]
def kFj (t:ByteArray) (k:Nat):ByteArray:=t.extract k (k+1)
abbrev noWay:Int:=1099511627776
theorem kHs {L:List Int} {v:Nat} {x y:Int} (h:L[v]?=some x) (i:Nat):(L.set v y)[i]?=if i=v then some y else L[i]?:=by
 by_cases e:i=v
 ·subst e
  rw [if_pos rfl,List.getElem?_set_self (kCv h)]
 ·rw [if_neg e,List.getElem?_set_ne (fun k=>e k.symm)]
def RowW (N:Nat) (S:Nat→Int→Prop) (L:List Int):Prop:=∀ v,v<N→∃ x,L[v]?=some x∧LeW noWay (S v) x
def Nxt (E:List Edg) (lab:Nat→ByteArray) (k j:Nat) (v:Nat) (c:Int):Prop:=∃ i e u c',i<j∧E[i]?=some e∧e.frm=((u:Nat):Int)∧e.upto=(v:Int)∧e.label=lab k∧Wy E lab k u c'∧c=c'+e.cost
theorem Nxt.all {E:List Edg} {lab:Nat→ByteArray} {k v:Nat} {c:Int}:Nxt E lab k E.length v c↔Wy E lab (k+1) v c:=by
 constructor
 ·rintro ⟨i,e,u,c',_,he,hf,hu,hl,hw,rfl⟩
  exact .step hw he hf hu hl
 ·intro h
  cases h with
  | step hw he hf hu hl=>exact ⟨_,_,_,_,kCv he,he,hf,hu,hl,hw,rfl⟩
theorem rowStep {E:List Edg} {t:ByteArray} {N k:Nat} (hE:VE E N) (hN:N≤20) (hl:E.length≤4294967296) (ht:t.size≤4294967296) (hk:k<t.size) {l:Lattice} (el:l.edges.getD []=E) {L:List Int} (hL:L.length=N) (hw:t.size≤10→RowW N (Wy E (kFj t) k) L) :
  ∃ L' al,kBg (s3_q20 l t (some L) (k:Int)) (some (List.replicate N noWay),false,0)=some (some L',al)∧L'.length=N∧(t.size≤10→RowW N (Wy E (kFj t) (k+1)) L'∧(al=false→∀ v c,¬ Wy E (kFj t) (k+1) v c)):=by
 obtain ⟨r,h1,L',al,rfl,h2,h3⟩:=kCt (step:=s3_q20 l t (some L) (k:Int)) (s:=(some (List.replicate N noWay),false,0))
  (fun j s=>∃ L' al,s=(some L',al,(j:Int))∧L'.length=N∧(t.size≤10→RowW N (Nxt E (kFj t) k j) L'∧(al=false→∀ v c,¬ Nxt E (kFj t) k j v c))) E.length
  (fun r=>∃ L' al,r=(some L',al)∧L'.length=N∧(t.size≤10→RowW N (Nxt E (kFj t) k E.length) L'∧(al=false→∀ v c,¬ Nxt E (kFj t) k E.length v c)))
  (fun j s hj hi=>by
   obtain ⟨L',al,rfl,h2,h3⟩:=hi
   left
   obtain ⟨e,he⟩:∃ a,E[j]?=some a:=⟨_,List.getElem?_eq_getElem hj⟩
   obtain ⟨u,v,f1,f2,f3,f4,f5,f6⟩:=hE j e he
   obtain ⟨a,ha⟩:∃ a,L[u]?=some a:=⟨_,List.getElem?_eq_getElem (by omega)⟩
   obtain ⟨b,hb⟩:∃ a,L'[v]?=some a:=⟨_,List.getElem?_eq_getElem (by omega)⟩
   have c:(j:Int)<((E.length:Nat):Int):=by omega
   have split:∀ v' c,Nxt E (kFj t) k (j+1) v' c↔(Nxt E (kFj t) k j v' c∨(v'=v∧e.label=kFj t k∧∃ c',Wy E (kFj t) k u c'∧c=c'+e.cost)):=by
    intro v' c
    constructor
    ·rintro ⟨i,e',u',c',hi,he',hf,hu,hlb,hwy,rfl⟩
     by_cases hij:i=j
     ·subst hij
      rw [he] at he'
      cases he'
      have:u'=u:=by omega
      subst this
      exact .inr ⟨by omega,hlb,c',hwy,rfl⟩
     ·exact .inl ⟨i,e',u',c',by omega,he',hf,hu,hlb,hwy,rfl⟩
    ·rintro (⟨i,e',u',c',hi,he',hf,hu,hlb,hwy,rfl⟩ | ⟨rfl,hlb,c',hwy,rfl⟩)
     ·exact ⟨i,e',u',c',by omega,he',hf,hu,hlb,hwy,rfl⟩
     ·exact ⟨j,e,u,c',by omega,he,f1,f2,hlb,hwy,rfl⟩
   have sub:=subB_one hk ht
   have bnd:t.size≤10→∀ c',Wy E (kFj t) k u c'→0≤c'∧c'≤10000000:=fun hs c' hc=>by
    have:=hc.bound hE (by omega)
    omega
   by_cases hc:e.label=kFj t k∧a<noWay
   ·refine ⟨(some (L'.set v (min b (wr (a+e.cost)))),true,((j+1:Nat):Int)),?_,_,_,rfl,by rw [List.length_set];exact h2,fun hs=>⟨fun v' hv' => ?_,fun k=>by cases k⟩⟩
    ·unfold s3_q20
     have d1:decide (e.label=t.extract k (k+1))=true:=decide_eq_true hc.1
     have d2:decide (a<1099511627776)=true:=decide_eq_true hc.2
     simp only [c,decide_true,cond_true,el,kAi he,kA4,sub,d1,f1,f2,Option.getD_some,kAi ha,kAi hb,d2,kBw hj hl]
     rfl
    ·obtain ⟨x,hx,hx2⟩:=(h3 hs).1 v' hv'
     obtain ⟨a2,ha2,ha3⟩:=hw hs u (by omega)
     rw [ha] at ha2
     cases ha2
     have way:Wy E (kFj t) k u a∧∀ c,Wy E (kFj t) k u c→a≤c:=by
      rcases ha3 with ⟨h,_⟩ | h
      ·exact absurd hc.2 (by omega)
      ·exact h
     have ba:=bnd hs a way.1
     rw [kHs hb]
     by_cases e1:v'=v
     ·subst e1
      rw [if_pos rfl]
      rw [hb] at hx
      cases hx
      rw [kC9 (by omega) (by omega)]
      refine ⟨_,rfl,LeW.same (LeW.join (T:=fun c=>e.label=kFj t k∧∃ c',Wy E (kFj t) k u c'∧c=c'+e.cost) hx2 ⟨hc.1,a,way.1,rfl⟩ ?_ ?_ ?_) fun c => ?_⟩
      ·rintro c ⟨_,c',hc',rfl⟩
       have:=way.2 c' hc'
       omega
      ·show _<(1099511627776:Int)
       omega
      ·rintro c ⟨i,e',u',c',hi,he',hf,hu,hlb,hwy,rfl⟩
       obtain ⟨_,_,_,_,_,_,_,g6⟩:=hE i e' he'
       have:=hwy.bound hE (by omega)
       show _<(1099511627776:Int)
       omega
      ·rw [split]
       exact ⟨fun h=>h.elim .inl fun h=>.inr ⟨rfl,h⟩,fun h=>h.elim .inl fun h=>.inr h.2⟩
     ·rw [if_neg e1]
      exact ⟨x,hx,hx2.same fun c=>by
       rw [split]
       exact ⟨.inl,fun h=>h.elim id fun h=>absurd h.1 e1⟩⟩
   ·refine ⟨(some L',al,((j+1:Nat):Int)),?_,_,_,rfl,h2,fun hs => ?_⟩
    ·unfold s3_q20
     simp only [c,decide_true,cond_true,el,kAi he,kA4,sub,f1,Option.getD_some,kAi ha,kBw hj hl]
     by_cases d1:e.label=t.extract k (k+1)
     ·have d2:¬ a<1099511627776:=fun h=>hc ⟨d1,h⟩
      rw [decide_eq_true d1,decide_eq_false d2]
      rfl
     ·rw [decide_eq_false d1]
      rfl
    ·have none:∀ v' c,¬ (v'=v∧e.label=kFj t k∧∃ c',Wy E (kFj t) k u c'∧c=c'+e.cost):=by
      rintro v' c ⟨_,hlb,c',hwy,_⟩
      obtain ⟨a2,ha2,ha3⟩:=hw hs u (by omega)
      rw [ha] at ha2
      cases ha2
      have:¬ a<noWay:=fun h=>hc ⟨hlb,h⟩
      rcases ha3 with ⟨_,h⟩ | ⟨h,_⟩
      ·exact h c' hwy
      ·have ba:=bnd hs a h
       apply this
       show _<(1099511627776:Int)
       omega
     have same:∀ v' c,Nxt E (kFj t) k (j+1) v' c↔Nxt E (kFj t) k j v' c:=fun v' c=>by
      rw [split]
      exact ⟨fun h=>h.elim id fun h=>absurd h (none v' c),.inl⟩
     refine ⟨fun v' hv' => ?_,fun hal v' c hn=>(h3 hs).2 hal v' c ((same v' c).1 hn)⟩
     obtain ⟨x,hx,hx2⟩:=(h3 hs).1 v' hv'
     exact ⟨x,hx,hx2.same fun c=>(same v' c).symm⟩)
  (fun s hi=>by
   obtain ⟨L',al,rfl,h2,h3⟩:=hi
   refine ⟨_,?_,L',al,rfl,h2,h3⟩
   unfold s3_q20
   simp only [el,Int.lt_irrefl,decide_false,cond_false])
  ⟨_,_,rfl,List.length_replicate,fun _=>⟨fun v hv=>⟨noWay,by rw [List.getElem?_replicate,if_pos hv],.inl ⟨rfl,fun c h=>by
   obtain ⟨i,_,_,_,hi,_⟩:=h
   omega⟩⟩,fun _ v c h=>by
   obtain ⟨i,_,_,_,hi,_⟩:=h
   omega⟩⟩
 refine ⟨L',al,h1,h2,fun hs=>⟨fun v hv => ?_,fun hal v c hn=>(h3 hs).2 hal v c (Nxt.all.2 hn)⟩⟩
 obtain ⟨x,hx,hx2⟩:=(h3 hs).1 v hv
 exact ⟨x,hx,hx2.same fun c=>Nxt.all⟩
theorem Wy.none_up {E:List Edg} {lab:Nat→ByteArray} {k:Nat} (h:∀ v c,¬ Wy E lab k v c):∀ d v c,¬ Wy E lab (k+d) v c
 | 0,v,c=>h v c
 | d+1,v,c=>fun hw=>by
  cases hw with
  | step hw he hf hu hl=>exact Wy.none_up h d _ _ hw
theorem implText_ok {l:Lattice} {t:ByteArray} {N:Nat} (eN:l.nodes=(N:Int)) (h0:0<N) (hN:N≤20) (hE:VE (l.edges.getD []) N) (hl:(l.edges.getD []).length≤4294967296) (ht:t.size≤4294967296) :
  ∃ x,kJp l t=some x∧(t.size≤10→LeW noWay (Wy (l.edges.getD []) (kFj t) t.size (N - 1)) x):=by
 have mk:kJb (0:Int) l.nodes=some (List.replicate N 0):=by
  rw [eN]
  exact kH2 0 (by omega)
 have fill:=fillLoop 1099511627776 N (by omega) (l:=List.replicate N 0) List.length_replicate (step:=s0_q20 (List.replicate N 0)) fun w i=>by
  unfold s0_q20
  simp only [Option.getD_some,List.length_replicate]
 have fill2:=fillLoop 1099511627776 N (by omega) (l:=List.replicate N 0) List.length_replicate (step:=s2_q20 (List.replicate N 0)) fun w i=>by
  unfold s2_q20
  simp only [Option.getD_some,List.length_replicate]
 have g0:(List.replicate N (1099511627776:Int))[0]?=some 1099511627776:=by rw [List.getElem?_replicate,if_pos h0]
 obtain ⟨r,h1,h2⟩:=kCt (step:=s1_q20 l t) (s:=(some ((List.replicate N (1099511627776:Int)).set 0 0),0,0))
  (fun k s=>∃ L w,s=(some L,w,(k:Int))∧L.length=N∧(t.size≤10→RowW N (Wy (l.edges.getD []) (kFj t) k) L)) t.size
  (fun r=>match r with
   | .inl q=>∃ L,q=some L∧L.length=N∧(t.size≤10→RowW N (Wy (l.edges.getD []) (kFj t) t.size) L)
   | .inr x=>x=noWay∧(t.size≤10→∀ v c,¬ Wy (l.edges.getD []) (kFj t) t.size v c))
  (fun k s hk hi=>by
   obtain ⟨L,w,rfl,h2,h3⟩:=hi
   obtain ⟨L',al,h4,h5,h6⟩:=rowStep hE hN hl ht hk rfl h2 h3
   have c:(k:Int)<(t.size:Int):=by omega
   cases al with
   | true =>
    left
    refine ⟨(some L',w,((k+1:Nat):Int)),?_,L',w,rfl,h5,fun hs=>(h6 hs).1⟩
    unfold s1_q20
    simp only [c,decide_true,cond_true,mk,kA4,fill2,h4,Bool.not_true,cond_false,kBw hk ht]
   | false =>
    right
    refine ⟨.inr 1099511627776,?_,rfl,fun hs v c => ?_⟩
    ·unfold s1_q20
     simp only [c,decide_true,cond_true,mk,kA4,fill2,h4,Bool.not_false]
    ·have:=Wy.none_up ((h6 hs).2 rfl) (t.size - (k+1)) v c
     rw [show k+1+(t.size - (k+1))=t.size by omega] at this
     exact this)
  (fun s hi=>by
   obtain ⟨L,w,rfl,h2,h3⟩:=hi
   refine ⟨.inl (some L),?_,L,rfl,h2,h3⟩
   unfold s1_q20
   simp only [Int.lt_irrefl,decide_false,cond_false])
  ⟨_,_,rfl,by rw [List.length_set,List.length_replicate],fun _ v hv=>by
   rw [kHs g0]
   by_cases e:v=0
   ·subst e
    rw [if_pos rfl]
    refine ⟨0,rfl,.inr ⟨.start,fun c hc => ?_⟩⟩
    have:=hc.bound hE h0
    omega
   ·rw [if_neg e,List.getElem?_replicate,if_pos hv]
    refine ⟨_,rfl,.inl ⟨rfl,fun c hc => ?_⟩⟩
    cases hc
    exact e rfl⟩
 have run:kJp l t=kA0 (kBg (s1_q20 l t) (some ((List.replicate N (1099511627776:Int)).set 0 0),0,0)) fun qq139=>match qq139 with
  | (.inl q35) =>
    kA0 (kC7 (q35.getD []) (wr (l.nodes - 1))) fun a42 =>
    some a42
  | (.inr q50) =>
    some q50:=by
  unfold kJp
  rw [mk,kA4,fill,kA4]
  show kA0 (kC7 (List.replicate N (1099511627776:Int)) ((0:Nat):Int)) _=_
  rw [kAi g0,kA4]
  rfl
 rw [run,h1]
 cases r with
 | inl q =>
  obtain ⟨L,rfl,h3,h4⟩:=h2
  obtain ⟨x,hx⟩:∃ a,L[N - 1]?=some a:=⟨_,List.getElem?_eq_getElem (by omega)⟩
  have e:wr (l.nodes - 1)=((N - 1:Nat):Int):=by
   rw [eN,kC9 (by omega) (by omega)]
   omega
  refine ⟨x,?_,fun hs => ?_⟩
  ·show kA0 (kC7 L (wr (l.nodes - 1))) _=_
   rw [e,kAi hx,kA4]
  ·obtain ⟨y,hy,hy2⟩:=h4 hs (N - 1) (by omega)
   rw [hx] at hy
   cases hy
   exact hy2
 | inr x =>
  obtain ⟨rfl,h3⟩:=h2
  exact ⟨_,rfl,fun hs=>.inl ⟨rfl,h3 hs _⟩⟩
theorem cell_inj {n v v' k k':Nat} (hk:k≤n) (hk':k'≤n) (h:v*(n+1)+k=v'*(n+1)+k'):v=v'∧k=k':=by
 have e:∀ a b:Nat,b≤n→(a*(n+1)+b) / (n+1)=a:=fun a b hb=>by
  rw [Nat.mul_comm,Nat.mul_add_div (by omega),Nat.div_eq_of_lt (by omega),Nat.add_zero]
 have h1:=e v k hk
 rw [h,e v' k' hk'] at h1
 subst h1
 exact ⟨rfl,by omega⟩
theorem cell_lt {n v k N:Nat} (hv:v<N) (hk:k≤n):v*(n+1)+k<N*(n+1):=by
 have:(v+1)*(n+1)≤N*(n+1):=Nat.mul_le_mul_right _ hv
 rw [Nat.add_mul] at this
 omega
structure TbS (E:List Edg) (lab:Nat→ByteArray) (N n:Nat) (L:List Int):Prop where
 len:L.length=N*(n+1)
 sound:∀ v k,v<N→k≤n→∃ x,L[v*(n+1)+k]?=some x∧(x = -1∨(0≤x∧Wy E lab k v x))
 start:L[0]?=some 0
def Cap (n:Nat) (L:List Int) (v k:Nat) (c:Int):Prop:=∃ x,L[v*(n+1)+k]?=some x∧0≤x∧x≤c
def Dn (E:List Edg) (lab:Nat→ByteArray) (n:Nat) (L:List Int) (D:Edg→Nat→Nat→Prop):Prop:=∀ i e k (u v:Nat) c,E[i]?=some e→k<n→D e i k→e.frm=(u:Int)→e.upto=(v:Int)→e.label=lab k→Wy E lab k u c→Cap n L v (k+1) (c+e.cost)
theorem Cap.mono {n:Nat} {L:List Int} {v k m:Nat} {c x y:Int} (h:Cap n L v k c) (hx:L[m]?=some x) (hy:x<0∨y<x) (h0:0≤y):Cap n (L.set m y) v k c:=by
 obtain ⟨z,h1,h2,h3⟩:=h
 unfold Cap
 rw [kHs hx]
 by_cases e:v*(n+1)+k=m
 ·rw [if_pos e]
  rw [e,hx] at h1
  cases h1
  exact ⟨y,rfl,h0,by omega⟩
 ·rw [if_neg e]
  exact ⟨z,h1,h2,h3⟩
theorem full {E:List Edg} {lab:Nat→ByteArray} {N n:Nat} {L:List Int} {D:Edg→Nat→Nat→Prop} (hT:TbS E lab N n L) (hD:Dn E lab n L D) {v:Nat} (hv:∀ i e k,E[i]?=some e→e.upto=(v:Int)→D e i k) {k:Nat} {c:Int} (hk:k≤n) (h:Wy E lab k v c):Cap n L v k c:=by
 cases h with
 | start=>exact ⟨0,by rw [Nat.zero_mul];exact hT.start,by omega,by omega⟩
 | step hw he hf hu hl=>exact hD _ _ _ _ _ _ he (by omega) (hv _ _ _ he hu) hf hu hl hw
theorem kLoop {E:List Edg} {t:ByteArray} {N u i:Nat} {e:Edg} (hE:VE E N) (hN:N≤20) (hn:t.size≤10) (hu:u<N) (he:E[i]?=some e) {L:List Int} {D:Edg→Nat→Nat→Prop} (hT:TbS E (kFj t) N t.size L) (hD:Dn E (kFj t) t.size L D)
  (hv:∀ i e k,E[i]?=some e→e.upto=(u:Int)→D e i k):∃ L',kBg (kIp t (u:Int) e) (some L,0)=some (some L')∧TbS E (kFj t) N t.size L'∧Dn E (kFj t) t.size L' (fun e' i' k'=>D e' i' k'∨(i'=i∧e'.frm=(u:Int))):=by
 obtain ⟨u',v,f1,f2,f3,f4,f5,f6⟩:=hE i e he
 by_cases hf:e.frm=(u:Int)
 ·have:u'=u:=by omega
  subst this
  obtain ⟨r,h1,L',rfl,h2,h3⟩:=kCt (step:=kIp t (u':Int) e) (s:=(some L,0))
   (fun q s=>∃ L',s=(some L',(q:Int))∧TbS E (kFj t) N t.size L'∧Dn E (kFj t) t.size L' (fun e' i' k'=>D e' i' k'∨(i'=i∧k'<q))) t.size
   (fun r=>∃ L',r=some L'∧TbS E (kFj t) N t.size L'∧Dn E (kFj t) t.size L' (fun e' i' k'=>D e' i' k'∨(i'=i∧k'<t.size)))
   (fun q s hq hi=>by
    obtain ⟨L',rfl,hT,hD⟩:=hi
    left
    have w1:wr ((t.size:Int)+1)=((t.size+1:Nat):Int):=by rw [kC9 (by omega) (by omega)];omega
    have w2:wr ((q:Int)+1)=((q+1:Nat):Int):=by rw [kC9 (by omega) (by omega)];omega
    have c:((q+1:Nat):Int)<((t.size+1:Nat):Int):=by omega
    have b1:=cell_lt (n:=t.size) (k:=q) hu (by omega)
    have b2:=cell_lt (n:=t.size) (k:=q+1) f4 (by omega)
    have b3:N*(t.size+1)≤20*11:=Nat.mul_le_mul hN (by omega)
    have m1:(u':Int)*((t.size+1:Nat):Int)=((u'*(t.size+1):Nat):Int):=(Int.natCast_mul _ _).symm
    have m2:(v:Int)*((t.size+1:Nat):Int)=((v*(t.size+1):Nat):Int):=(Int.natCast_mul _ _).symm
    have i1:wr (wr ((u':Int)*((t.size+1:Nat):Int))+(q:Int))=((u'*(t.size+1)+q:Nat):Int):=by
     rw [m1,kC9 (n:=((u'*(t.size+1):Nat):Int)) (by omega) (by omega),kC9 (by omega) (by omega)]
     omega
    have i2:wr (wr (wr ((v:Int)*((t.size+1:Nat):Int))+(q:Int))+1)=((v*(t.size+1)+(q+1):Nat):Int):=by
     rw [m2,kC9 (n:=((v*(t.size+1):Nat):Int)) (by omega) (by omega),kC9 (n:=((v*(t.size+1):Nat):Int)+(q:Int)) (by omega) (by omega),kC9 (by omega) (by omega)]
     omega
    obtain ⟨a,ha,ha2⟩:=hT.sound u' q hu (by omega)
    obtain ⟨b,hb,hb2⟩:=hT.sound v (q+1) f4 (by omega)
    have sub:=subB_one hq (show t.size≤4294967296 by omega)
    have fl:∀ c,Wy E (kFj t) q u' c→0≤a∧a≤c:=fun c hc=>by
     obtain ⟨x,g1,g2,g3⟩:=full hT hD (v:=u') (fun i' e' k' he' hu'=>.inl (hv i' e' k' he' hu')) (by omega) hc
     rw [ha] at g1
     cases g1
     exact ⟨g2,g3⟩
    rw [w2] at sub
    by_cases hskip:a<0∨¬ kFj t q=e.label
    ·refine ⟨(some L',((q+1:Nat):Int)),?_,L',rfl,hT,fun i' e' k' u2 v2 c2 he' hk' hD' hf' hu' hl' hw' => ?_⟩
     ·unfold kIp
      simp only [w1,w2,c,decide_true,cond_true,kA4,hf,i1,Option.getD_some,kAi ha,sub]
      rcases hskip with h | h
      ·rw [decide_eq_true h]
       rfl
      ·rw [decide_eq_false (show ¬ t.extract q (q+1)=e.label from h)]
       cases decide (a<0) <;> rfl
     ·rcases hD' with h | ⟨rfl,h⟩
      ·exact hD _ _ _ _ _ _ he' hk' (.inl h) hf' hu' hl' hw'
      ·by_cases hkq:k'=q
       ·subst hkq
        rw [he] at he'
        cases he'
        have:u2=u':=by omega
        subst this
        have:=fl c2 hw'
        rcases hskip with h | h
        ·omega
        ·exact absurd hl'.symm h
       ·exact hD _ _ _ _ _ _ he' hk' (.inr ⟨rfl,by omega⟩) hf' hu' hl' hw'
    ·have hs0:¬ a<0:=fun h=>hskip (.inl h)
     have hs1:kFj t q=e.label:=Classical.byContradiction fun h=>hskip (.inr h)
     have wa:Wy E (kFj t) q u' a:=by
      rcases ha2 with h | h
      ·omega
      ·exact h.2
     have ba:=wa.bound hE (by omega)
     have w3:wr (a+e.cost)=a+e.cost:=kC9 (by omega) (by omega)
     by_cases hup:b<0∨a+e.cost<b
     ·refine ⟨(some (L'.set (v*(t.size+1)+(q+1)) (a+e.cost)),((q+1:Nat):Int)),?_,_,rfl,⟨by rw [List.length_set];exact hT.len,fun v2 k2 hv2 hk2 => ?_,?_⟩,fun i' e' k' u2 v2 c2 he' hk' hD' hf' hu' hl' hw' => ?_⟩
      ·unfold kIp
       simp only [w1,w2,c,decide_true,cond_true,kA4,hf,f2,i1,i2,Option.getD_some,kAi ha,kAi hb,sub,w3]
       rw [decide_eq_false hs0,decide_eq_true (show t.extract q (q+1)=e.label from hs1)]
       have:(bif (bif decide (b<0) then true else decide (a+e.cost<b)) then true else false)=true:=by
        rcases hup with h | h
        ·rw [decide_eq_true h];rfl
        ·rw [decide_eq_true h];cases decide (b<0) <;> rfl
       cases d1:decide (b<0) with
       | true=>rfl
       | false =>
        rw [d1] at this
        cases d2:decide (a+e.cost<b) with
        | true=>rfl
        | false=>rw [d2] at this;cases this
      ·rw [kHs hb]
       by_cases ec:v2*(t.size+1)+k2=v*(t.size+1)+(q+1)
       ·rw [if_pos ec]
        obtain ⟨rfl,rfl⟩:=cell_inj hk2 (by omega) ec
        exact ⟨_,rfl,.inr ⟨by omega,.step wa he hf f2 hs1.symm⟩⟩
       ·rw [if_neg ec]
        exact hT.sound v2 k2 hv2 hk2
      ·rw [kHs hb,if_neg (by omega)]
       exact hT.start
      ·have old:∀ v2 k2 c,Cap t.size L' v2 k2 c→Cap t.size (L'.set (v*(t.size+1)+(q+1)) (a+e.cost)) v2 k2 c:=fun v2 k2 c h=>h.mono hb hup (by omega)
       rcases hD' with h | ⟨rfl,h⟩
       ·exact old _ _ _ (hD _ _ _ _ _ _ he' hk' (.inl h) hf' hu' hl' hw')
       ·by_cases hkq:k'=q
        ·subst hkq
         rw [he] at he'
         cases he'
         have:u2=u':=by omega
         subst this
         have:v2=v:=by omega
         subst this
         have:=fl c2 hw'
         refine ⟨a+e.cost,?_,by omega,by omega⟩
         rw [kHs hb,if_pos rfl]
        ·exact old _ _ _ (hD _ _ _ _ _ _ he' hk' (.inr ⟨rfl,by omega⟩) hf' hu' hl' hw')
     ·refine ⟨(some L',((q+1:Nat):Int)),?_,L',rfl,hT,fun i' e' k' u2 v2 c2 he' hk' hD' hf' hu' hl' hw' => ?_⟩
      ·unfold kIp
       simp only [w1,w2,c,decide_true,cond_true,kA4,hf,f2,i1,i2,Option.getD_some,kAi ha,kAi hb,sub,w3]
       rw [decide_eq_false hs0,decide_eq_true (show t.extract q (q+1)=e.label from hs1),decide_eq_false (fun h=>hup (.inl h):¬ b<0),decide_eq_false (fun h=>hup (.inr h):¬ a+e.cost<b)]
       rfl
      ·rcases hD' with h | ⟨rfl,h⟩
       ·exact hD _ _ _ _ _ _ he' hk' (.inl h) hf' hu' hl' hw'
       ·by_cases hkq:k'=q
        ·subst hkq
         rw [he] at he'
         cases he'
         have:u2=u':=by omega
         subst this
         have:v2=v:=by omega
         subst this
         have:=fl c2 hw'
         have h1:¬ b<0:=fun h=>hup (.inl h)
         have h2:¬ a+e.cost<b:=fun h=>hup (.inr h)
         exact ⟨b,hb,by omega,by omega⟩
        ·exact hD _ _ _ _ _ _ he' hk' (.inr ⟨rfl,by omega⟩) hf' hu' hl' hw')
   (fun s hi=>by
    obtain ⟨L',rfl,hT,hD⟩:=hi
    refine ⟨some L',?_,L',rfl,hT,hD⟩
    have w1:wr ((t.size:Int)+1)=((t.size+1:Nat):Int):=by rw [kC9 (by omega) (by omega)];omega
    unfold kIp
    simp only [w1,Int.lt_irrefl,decide_false,cond_false,kA4])
   ⟨L,rfl,hT,fun i' e' k' u2 v2 c he' hk' hD'=>by
    rcases hD' with h | h
    ·exact hD _ _ _ _ _ _ he' hk' h
    ·omega⟩
  refine ⟨L',h1,h2,fun i' e' k' u2 v2 c he' hk' hD' => ?_⟩
  rcases hD' with h | h
  ·exact h3 _ _ _ _ _ _ he' hk' (.inl h)
  ·exact h3 _ _ _ _ _ _ he' hk' (.inr ⟨h.1,hk'⟩)
 ·refine ⟨L,kC8 ?_,hT,fun i' e' k' u2 v2 c he' hk' hD' => ?_⟩
  ·unfold kIp
   simp only
   rw [decide_eq_false hf]
   cases decide (wr ((0:Int)+1)<wr ((t.size:Int)+1)) <;> rfl
  ·rcases hD' with h | ⟨rfl,h⟩
   ·exact hD _ _ _ _ _ _ he' hk' h
   ·rw [he] at he'
    cases he'
    exact absurd h hf
theorem eLoop {E:List Edg} {t:ByteArray} {N u:Nat} (hE:VE E N) (hN:N≤20) (hn:t.size≤10) (hu:u<N) (hl:E.length≤4294967296) {l:Lattice} (el:l.edges.getD []=E) {L:List Int} (hT:TbS E (kFj t) N t.size L) (hD:Dn E (kFj t) t.size L (fun e _ _=>e.frm<(u:Int))) :
  ∃ L',kBg (s2_q83 l t (u:Int)) (some L,0)=some (some L')∧TbS E (kFj t) N t.size L'∧Dn E (kFj t) t.size L' (fun e _ _=>e.frm<((u+1:Nat):Int)):=by
 obtain ⟨r,h1,L',rfl,h2,h3⟩:=kCt (step:=s2_q83 l t (u:Int)) (s:=(some L,0))
  (fun j s=>∃ L',s=(some L',(j:Int))∧TbS E (kFj t) N t.size L'∧Dn E (kFj t) t.size L' (fun e i _=>e.frm<(u:Int)∨(i<j∧e.frm=(u:Int)))) E.length
  (fun r=>∃ L',r=some L'∧TbS E (kFj t) N t.size L'∧Dn E (kFj t) t.size L' (fun e i _=>e.frm<(u:Int)∨(i<E.length∧e.frm=(u:Int))))
  (fun j s hj hi=>by
   obtain ⟨L',rfl,hT,hD⟩:=hi
   left
   obtain ⟨e,he⟩:∃ a,E[j]?=some a:=⟨_,List.getElem?_eq_getElem hj⟩
   obtain ⟨L2,h1,h2,h3⟩:=kLoop hE hN hn hu he hT hD (fun i' e' k' he' hu'=>by
    obtain ⟨_,_,g1,g2,g3,_⟩:=hE i' e' he'
    left
    omega)
   have c:(j:Int)<((E.length:Nat):Int):=by omega
   refine ⟨(some L2,((j+1:Nat):Int)),?_,L2,rfl,h2,fun i' e' k' u2 v2 c he' hk' hD' => ?_⟩
   ·unfold s2_q83
    simp only [el,c,decide_true,cond_true,kAi he,kA4,h1,kBw hj hl]
   ·refine h3 _ _ _ _ _ _ he' hk' ?_
    rcases hD' with h | ⟨h,h'⟩
    ·exact .inl (.inl h)
    ·by_cases e1:i'=j
     ·exact .inr ⟨e1,h'⟩
     ·exact .inl (.inr ⟨by omega,h'⟩))
  (fun s hi=>by
   obtain ⟨L',rfl,hT,hD⟩:=hi
   refine ⟨some L',?_,L',rfl,hT,hD⟩
   unfold s2_q83
   simp only [el,Int.lt_irrefl,decide_false,cond_false])
  ⟨L,rfl,hT,fun i' e' k' u2 v2 c he' hk' hD'=>by
   rcases hD' with h | h
   ·exact hD _ _ _ _ _ _ he' hk' h
   ·omega⟩
 refine ⟨L',h1,h2,fun i' e' k' u2 v2 c he' hk' hD'=>h3 _ _ _ _ _ _ he' hk' ?_⟩
 by_cases e1:e'.frm<(u:Int)
 ·exact .inl e1
 ·exact .inr ⟨kCv he',by omega⟩
theorem text_both {l:Lattice} {t:ByteArray} {N:Nat} (eN:l.nodes=(N:Int)) (h0:0<N) (hN:N≤20) (hE:VE (l.edges.getD []) N) (hl:(l.edges.getD []).length≤4294967296) (hn:t.size≤10) :
  ∃ x y,kJp l t=some x∧t_q83 l t=some y∧((x=noWay∧y<0)∨(x=y∧x≠noWay∧0≤y)):=by
 obtain ⟨x,hx,hx2⟩:=implText_ok eN h0 hN hE hl (show t.size≤4294967296 by omega)
 have hx3:=hx2 hn
 have w1:wr ((t.size:Int)+1)=((t.size+1:Nat):Int):=by rw [kC9 (by omega) (by omega)];omega
 have b3:N*(t.size+1)≤20*11:=Nat.mul_le_mul hN (by omega)
 have b4:1*1≤N*(t.size+1):=Nat.mul_le_mul h0 (by omega)
 have m1:(N:Int)*((t.size+1:Nat):Int)=((N*(t.size+1):Nat):Int):=(Int.natCast_mul _ _).symm
 have w2:wr (l.nodes*wr ((t.size:Int)+1))=((N*(t.size+1):Nat):Int):=by
  rw [w1,eN,m1,kC9 (by omega) (by omega)]
 have w3:wr (((N*(t.size+1):Nat):Int) - 1)=(((N - 1)*(t.size+1)+t.size:Nat):Int):=by
  rw [kC9 (by omega) (by omega)]
  obtain ⟨M,rfl⟩:∃ M,N=M+1:=⟨N - 1,by omega⟩
  rw [Nat.add_sub_cancel,Nat.add_mul]
  omega
 have fill:=fillLoop (-1) (N*(t.size+1)) (by omega) (l:=List.replicate (N*(t.size+1)) 0) List.length_replicate (step:=s0_q83 (List.replicate (N*(t.size+1)) 0)) fun w i=>by
  unfold s0_q83
  simp only [Option.getD_some,List.length_replicate]
 have g0:(List.replicate (N*(t.size+1)) (-1:Int))[0]?=some (-1):=by rw [List.getElem?_replicate,if_pos (by omega)]
 obtain ⟨r,h1,L,rfl,h2,h3⟩:=kCt (step:=s1_q83 l t) (s:=(some ((List.replicate (N*(t.size+1)) (-1:Int)).set 0 0),0))
  (fun u s=>∃ L,s=(some L,(u:Int))∧TbS (l.edges.getD []) (kFj t) N t.size L∧Dn (l.edges.getD []) (kFj t) t.size L (fun e _ _=>e.frm<(u:Int))) N
  (fun r=>∃ L,r=some L∧TbS (l.edges.getD []) (kFj t) N t.size L∧Dn (l.edges.getD []) (kFj t) t.size L (fun e _ _=>e.frm<(N:Int)))
  (fun u s hu hi=>by
   obtain ⟨L,rfl,hT,hD⟩:=hi
   left
   obtain ⟨L',h1,h2,h3⟩:=eLoop hE hN hn hu hl rfl hT hD
   have c:(u:Int)<(N:Int):=by omega
   refine ⟨(some L',((u+1:Nat):Int)),?_,L',rfl,h2,h3⟩
   unfold s1_q83
   simp only [eN,c,decide_true,cond_true,h1,kA4,kBw hu (show N≤4294967296 by omega)])
  (fun s hi=>by
   obtain ⟨L,rfl,hT,hD⟩:=hi
   refine ⟨some L,?_,L,rfl,hT,hD⟩
   unfold s1_q83
   simp only [eN,Int.lt_irrefl,decide_false,cond_false])
  ⟨_,rfl,⟨by rw [List.length_set,List.length_replicate],fun v k hv hk=>by
   rw [kHs g0]
   by_cases e:v*(t.size+1)+k=0
   ·rw [if_pos e]
    have e2:v*(t.size+1)+k=0*(t.size+1)+0:=by omega
    obtain ⟨rfl,rfl⟩:=cell_inj hk (by omega) e2
    exact ⟨0,rfl,.inr ⟨by omega,.start⟩⟩
   ·rw [if_neg e,List.getElem?_replicate,if_pos (cell_lt hv hk)]
    exact ⟨-1,rfl,.inl rfl⟩,by rw [kHs g0,if_pos rfl]⟩,fun i e k u v c he _ hD=>by
   obtain ⟨_,_,g1,_⟩:=hE i e he
   omega⟩
 obtain ⟨y,hy,hy2⟩:=h2.sound (N - 1) t.size (by omega) (Nat.le_refl _)
 have run:t_q83 l t=some y:=by
  unfold t_q83
  rw [w2,kH2 0 (by omega),kA4,fill,kA4]
  show kA0 (kC7 (List.replicate (N*(t.size+1)) (-1:Int)) ((0:Nat):Int)) _=_
  rw [kAi g0,kA4]
  show kA0 (kBg (s1_q83 l t) (some ((List.replicate (N*(t.size+1)) (-1:Int)).set 0 0),0)) _=_
  rw [h1,kA4,w3]
  show kA0 (kC7 L _) _=_
  rw [kAi hy,kA4]
 have fl:∀ c,Wy (l.edges.getD []) (kFj t) t.size (N - 1) c→0≤y∧y≤c:=fun c hc=>by
  obtain ⟨z,g1,g2,g3⟩:=full h2 h3 (v:=N - 1) (fun i e k he hu=>by
   obtain ⟨_,_,g1,g2,g3,g4,_⟩:=hE i e he
   omega) (Nat.le_refl _) hc
  rw [hy] at g1
  cases g1
  exact ⟨g2,g3⟩
 refine ⟨x,y,hx,run,?_⟩
 rcases hx3 with ⟨k1,k2⟩ | ⟨k1,k2⟩
 ·left
  rcases hy2 with h | h
  ·exact ⟨k1,by omega⟩
  ·exact absurd h.2 (k2 y)
 ·right
  have f1:=fl x k1
  have b:=k1.bound hE h0
  rcases hy2 with h | h
  ·omega
  ·have:=k2 y h.2
   refine ⟨by omega,?_,h.1⟩
   show ¬ x=(1099511627776:Int)
   omega
theorem lat_VE {l:Lattice} (h:latB l=true):∃ N:Nat,l.nodes=(N:Int)∧0<N∧N≤20∧VE (l.edges.getD []) N:=by
 unfold latB at h
 rw [Bool.and_eq_true,Bool.and_eq_true] at h
 obtain ⟨h1,h2,_⟩:=h
 unfold kBb at h2
 rw [Bool.and_eq_true] at h2
 have a1:=of_decide_eq_true h2.1
 have a2:=of_decide_eq_true h2.2
 refine ⟨l.nodes.toNat,by omega,by omega,by omega,fun i e he => ?_⟩
 have:=(kJm h1).1 e (List.mem_of_getElem? he)
 unfold okE fitE kBb at this
 simp only [Bool.and_eq_true,decide_eq_true_eq] at this
 obtain ⟨⟨b1,b2,b3,b4,b5⟩,_⟩:=this
 exact ⟨e.frm.toNat,e.upto.toNat,by omega,by omega,by omega,by omega,b4,b5⟩
theorem word_short {s:ByteArray} (h:kG7 s=true):s.size≤10:=by
 unfold kG7 at h
 simp only [Bool.and_eq_true,decide_eq_true_eq] at h
 exact h.2.2
theorem ent_short {x:Lexicon} (h:lexB x=true) {e:Entry} (he:e∈x.entries.getD []):e.word.size≤10:=by
 unfold lexB at h
 rw [Bool.and_eq_true] at h
 have:=(kJm h.1).1 e he
 unfold okEnt at this
 rw [Bool.and_eq_true] at this
 exact word_short this.1
theorem code_zero {q:Sl Lattice} {x:Lexicon} {m:Model} (h:kB1 q x m=0):lexB x=true∧modB m=true∧(∀ l∈q.getD [],latB l=true)∧(q.getD []).length≤8:=by
 unfold kB1 at h
 cases h1:lexB x with
 | false=>rw [h1] at h;cases h
 | true =>
  cases h2:modB m with
  | false=>rw [h1,h2] at h;cases h
  | true =>
   cases h3:(q.getD []).all latB with
   | false=>rw [h1,h2,h3] at h;cases h
   | true =>
    rw [h1,h2,h3] at h
    refine ⟨rfl,rfl,fun l hl=>List.all_eq_true.1 h3 l hl,?_⟩
    by_cases h4:8<(((q.getD []).length:Nat):Int)
    ·rw [decide_eq_true h4] at h
     cases h
    ·omega
theorem mem_len {A:Type} {wt:A→Nat} (s:Sl A):(s.getD []).length≤wtS wt s:=by
 unfold wtS
 omega
theorem wr_shift (x q:Int):wr (x+18446744073709551616*q)=wr x:=by
 simp only [wr,IntKind.wrap,IntKind.bits,IntKind.signed]
 first | omega | (simp;done)
theorem wr_mod (x:Int):∃ q,wr x=x+18446744073709551616*q:=by
 have h:∃ q,wr x=x - 18446744073709551616*q:=by
  simp only [wr,IntKind.wrap,IntKind.bits,IntKind.signed]
  by_cases h:x % 18446744073709551616 ≥ 9223372036854775808
  ·exact ⟨x / 18446744073709551616+1,by simp [h];omega⟩
  ·exact ⟨x / 18446744073709551616,by simp [h];omega⟩
 obtain ⟨q,hq⟩:=h
 exact ⟨-q,by rw [hq];omega⟩
theorem wr_add_l (x y:Int):wr (wr x+y)=wr (x+y):=by
 obtain ⟨q,h⟩:=wr_mod x
 rw [h,show x+18446744073709551616*q+y=x+y+18446744073709551616*q by omega,wr_shift]
def upd (base:Nat→Int) (S:Nat) (x:Int) (v:Nat):Int:=if v=S then x else base v
theorem upd_self (base:Nat→Int) (S:Nat) (x:Int):upd base S x S=x:=if_pos rfl
theorem upd_ne {base:Nat→Int} {S v:Nat} (x:Int) (h:v≠S):upd base S x v=base v:=if_neg h
structure PI (l:Sl Symbol) (n:Nat) (bx:Nat→Box) (c:Nat→Int) (p:Parser):Prop where
 list:p.list=l
 boxes:∀ v,v<n→(p.boxes.getD [])[v]?=some (bx v)
 best:(p.best.getD []).length=n
 clen:(p.count.getD []).length=n
 count:∀ v,v<n→(p.count.getD [])[v]?=some (c v)
structure CI (l:Sl Symbol) (n:Nat) (bx:Nat→Box) (c:Nat→Int) (p:Chart21):Prop where
 list:p.list=l
 len:(p.cells.getD []).length=n
 cells:∀ v,v<n→∃ x,(p.cells.getD [])[v]?=some x∧x.box=bx v∧x.ways=c v
theorem kK4 {A:Type} {s:Sl A} {v:Nat} {x y:A} (h:(s.getD [])[v]?=some x) (i:Nat):((kFe s (v:Int) y).getD [])[i]?=if i=v then some y else (s.getD [])[i]?:=by
 cases s with
 | none=>simp at h
 | some l =>
  show (l.set ((v:Int).toNat) y)[i]?=if i=v then some y else l[i]?
  rw [Int.toNat_natCast]
  have h':l[v]?=some x:=h
  by_cases e:i=v
  ·subst e
   rw [if_pos rfl,List.getElem?_set_self (kCv h')]
  ·rw [if_neg e,List.getElem?_set_ne (fun k=>e k.symm)]
theorem PI.add {l:Sl Symbol} {n:Nat} {bx:Nat→Box} {base:Nat→Int} {S:Nat} {X Y:Int} {p:Parser} (h:PI l n bx (upd base S (wr X)) p) (hS:S<n) (q:Sl Choice) (hq:(q.getD []).length=n):PI l n bx (upd base S (wr (X+Y))) ⟨p.list,p.boxes,q,kFe p.count (S:Int) (wr (wr X+Y))⟩:=by
 have hs:=h.count S hS
 refine ⟨h.list,h.boxes,hq,by show ((kFe p.count (S:Int) _).getD []).length=n;rw [setS_len];exact h.clen,fun v hv => ?_⟩
 show ((kFe p.count (S:Int) _).getD [])[v]?=_
 rw [kK4 hs]
 by_cases e:v=S
 ·subst e
  rw [if_pos rfl,upd_self,wr_add_l]
 ·rw [if_neg e,upd_ne _ e,h.count v hv,upd_ne _ e]
theorem CI.add {l:Sl Symbol} {n:Nat} {bx:Nat→Box} {base:Nat→Int} {S:Nat} {X Y Z:Int} {p:Chart21} (h:CI l n bx (upd base S (wr X)) p) (hS:S<n) (y:Cell21) (hb:y.box=bx S) (hw:y.ways=wr (wr X+Y)) (hZ:wr (X+Y)=wr (X+Z)):CI l n bx (upd base S (wr (X+Z))) ⟨p.list,kFe p.cells (S:Int) y⟩:=by
 obtain ⟨x,hx,_⟩:=h.cells S hS
 refine ⟨h.list,by show ((kFe p.cells (S:Int) _).getD []).length=n;rw [setS_len];exact h.len,fun v hv => ?_⟩
 show ∃ x,((kFe p.cells (S:Int) _).getD [])[v]?=some x∧_
 rw [kK4 hx]
 by_cases e:v=S
 ·subst e
  rw [if_pos rfl]
  exact ⟨y,rfl,hb,by rw [upd_self,hw,wr_add_l,hZ]⟩
 ·rw [if_neg e]
  obtain ⟨z,h1,h2,h3⟩:=h.cells v hv
  exact ⟨z,h1,h2,by rw [h3,upd_ne _ e,upd_ne _ e]⟩
def shrQ (S i:Nat):Int:=Int.fdiv (S:Int) (2 ^ (min (i:Int).toNat 64))
def outQ (S i:Nat):Bool:=decide (andI (shrQ S i) 1=0)
structure Way where
 kind:Int
 sign:Int
 a:Nat
 b:Nat
 cost:Int
 ways:Int
 deriving DecidableEq
abbrev posLt (x y:Way):Prop:=x.kind<y.kind∨(x.kind=y.kind∧(x.sign<y.sign∨(x.sign=y.sign∧x.a<y.a)))
abbrev lexLt (x y:Way):Prop:=x.cost<y.cost∨(x.cost=y.cost∧posLt x y)
def stepI (o:Option Way) (t:Way):Option Way:=if t.ways=0 then o else match o with
 | none=>some t
 | some x=>if lexLt t x then some t else some x
def stepS (o:Option Way) (t:Way):Option Way:=if t.ways=0 then o else match o with
 | none=>some t
 | some x=>if t.cost<x.cost then some t else some x
def chOf (t:Way):Choice:=⟨t.kind,t.sign,(t.a:Int),(t.b:Int),t.cost⟩
structure PB (l:Sl Symbol) (n:Nat) (bx:Nat→Box) (base:Nat→Int) (bc:Nat→Choice) (S:Nat) (X:Int) (o:Option Way) (p:Parser):Prop where
 pi:PI l n bx (upd base S (wr X)) p
 bst:∀ v,v<n→v≠S→(p.best.getD [])[v]?=some (bc v)
 own:∀ t,o=some t→(p.best.getD [])[S]?=some (chOf t)
 zero:o=none↔X=0
 pos:0≤X
def chC (x:Cell21):Choice:=⟨x.kind,x.sign,x.first,x.rest,x.cost⟩
structure CB (l:Sl Symbol) (n:Nat) (bx:Nat→Box) (base:Nat→Int) (cc:Nat→Choice) (S:Nat) (X:Int) (o:Option Way) (p:Chart21):Prop where
 ci:CI l n bx (upd base S (wr X)) p
 bst:∀ v,v<n→v≠S→∃ x,(p.cells.getD [])[v]?=some x∧chC x=cc v
 own:∀ t,o=some t→∃ x,(p.cells.getD [])[S]?=some x∧chC x=chOf t
 zero:o=none↔X=0
 pos:0≤X
theorem PB.same {l:Sl Symbol} {n:Nat} {bx:Nat→Box} {base:Nat→Int} {bc:Nat→Choice} {S:Nat} {X:Int} {o:Option Way} {p:Parser} (h:PB l n bx base bc S X o p) {t:Way} (ht:t.ways=0):PB l n bx base bc S (X+t.ways) (stepI o t) p:=by
 unfold stepI
 rw [if_pos ht,ht,Int.add_zero]
 exact h
theorem PB.take {l:Sl Symbol} {n:Nat} {bx:Nat→Box} {base:Nat→Int} {bc:Nat→Choice} {S:Nat} {X:Int} {o:Option Way} {p:Parser} (h:PB l n bx base bc S X o p) (hS:S<n) {t:Way} (hp:0<t.ways) (hs:stepI o t=some t):PB l n bx base bc S (X+t.ways) (stepI o t) ⟨p.list,p.boxes,kFe p.best (S:Int) (chOf t),kFe p.count (S:Int) (wr (wr X+t.ways))⟩:=by
 obtain ⟨y,hy⟩:∃ y,(p.best.getD [])[S]?=some y:=⟨_,List.getElem?_eq_getElem (by have:=h.pi.best;omega)⟩
 have pos:=h.pos
 refine ⟨h.pi.add hS _ (by rw [setS_len];exact h.pi.best),fun v hv hn => ?_,fun u hu => ?_,?_,by omega⟩
 ·show ((kFe p.best (S:Int) _).getD [])[v]?=_
  rw [kK4 hy,if_neg hn]
  exact h.bst v hv hn
 ·show ((kFe p.best (S:Int) _).getD [])[S]?=_
  rw [hs] at hu
  cases hu
  rw [kK4 hy,if_pos rfl]
 ·rw [hs]
  exact ⟨fun e=>(by cases e),fun e=>by omega⟩
theorem CB.same {l:Sl Symbol} {n:Nat} {bx:Nat→Box} {base:Nat→Int} {cc:Nat→Choice} {S:Nat} {X:Int} {o:Option Way} {p:Chart21} (h:CB l n bx base cc S X o p) {t:Way} (ht:t.ways=0):CB l n bx base cc S (X+t.ways) (stepS o t) p:=by
 unfold stepS
 rw [if_pos ht,ht,Int.add_zero]
 exact h
def lastIx (S:Nat):Nat→Nat
 | 0=>0
 | i+1=>bif outQ S i then lastIx S i else i
def Lnk (N:Nat) (base:Nat→Int) (v:Nat) (x y:Choice):Prop :=
 (v &&& (v - 1)=0∧y=⟨0,(lastIx v N:Int),0,0,0⟩)∨(v &&& (v - 1)≠0∧∃ t:Way,x=chOf t∧y=chOf t∧t.kind≠0∧0<t.a∧t.a<v∧t.b<v∧base t.a≠0∧(t.b=0∨base t.b≠0)∧t.a+t.b≤v)
theorem Lnk.mono {N v S:Nat} {base:Nat→Int} {x y:Choice} {u:Int} (h:Lnk N base v x y) (hv:v≤S) (hu:base S=0):Lnk N (upd base S u) v x y:=by
 rcases h with h | ⟨h1,t,h2,h3,h4,h5,h6,h7,h8,h9,h10⟩
 ·exact .inl h
 ·refine .inr ⟨h1,t,h2,h3,h4,h5,h6,h7,?_,?_,h10⟩
  ·rw [upd_ne _ (by omega)]
   exact h8
  ·rw [upd_ne _ (by omega)]
   exact h9
def mkC (x:WW) (n:Nat):Bigram:=⟨x.1,x.2,(n:Int)⟩
def cW (x:WW) (l:List WW):Nat:=l.countP fun y=>decide (y=x)
theorem cW_snoc (x y:WW) (l:List WW):cW x (l++[y])=cW x l+(if y=x then 1 else 0):=by
 unfold cW
 rw [List.countP_append,List.countP_cons,List.countP_nil]
 by_cases h:y=x <;> simp [h]
theorem before_irr (a:Bigram):kC6 a a=false:=kKj (by simp [kGz])
theorem mkC_inj {x y:WW} {m n:Nat} (h:mkC x m=mkC y n):x=y:=by
 obtain ⟨a,b⟩:=x
 obtain ⟨c,d⟩:=y
 have h1:a=c:=congrArg Bigram.first h
 have h2:b=d:=congrArg Bigram.second h
 rw [h1,h2]
structure GI (S:List WW) (k:Nat) (acc:List Bigram):Prop where
 srt:acc.Pairwise fun a b=>kC6 a b=true
 mem:∀ b∈acc,∃ x∈S.take k,b=mkC x (cW x (S.take k))
 all:∀ x∈S.take k,mkC x (cW x (S.take k))∈acc
 last:∀ y,0<k→S[k - 1]?=some y→acc.getLast?=some (mkC y (cW y (S.take k)))
 len:acc.length≤k
theorem take_snoc {S:List WW} {k:Nat} {x:WW} (hx:S[k]?=some x):S.take (k+1)=S.take k++[x]:=by
 obtain ⟨h,e⟩:=List.getElem?_eq_some_iff.1 hx
 rw [List.take_succ_eq_append_getElem h,e]
theorem GI.same {S:List WW} {k:Nat} {acc:List Bigram} {x:WW} (G:GI S k acc) (hx:S[k]?=some x) (hk:0<k) (hp:S[k - 1]?=some x):GI S (k+1) (acc.set (acc.length - 1) (mkC x (cW x (S.take k)+1)))∧acc[acc.length - 1]?=some (mkC x (cW x (S.take k))):=by
 have hl:=G.last x hk hp
 obtain ⟨ini,rfl⟩:=List.getLast?_eq_some_iff.1 hl
 have e1:(ini++[mkC x (cW x (S.take k))]).length - 1=ini.length:=by simp
 have e2:(ini++[mkC x (cW x (S.take k))]).set ini.length (mkC x (cW x (S.take k)+1))=ini++[mkC x (cW x (S.take k)+1)]:=by simp
 rw [e1,e2]
 have ts:=take_snoc hx
 have cx:cW x (S.take (k+1))=cW x (S.take k)+1:=by rw [ts,cW_snoc,if_pos rfl]
 have cy:∀ y,y≠x→cW y (S.take (k+1))=cW y (S.take k):=fun y h=>by rw [ts,cW_snoc,if_neg (fun e=>h e.symm)];rfl
 have sp:=List.pairwise_append.1 G.srt
 have lt:∀ b∈ini,kC6 b (mkC x (cW x (S.take k)))=true:=fun b hb=>sp.2.2 b hb _ List.mem_cons_self
 refine ⟨⟨?_,fun b hb => ?_,fun y hy => ?_,fun y _ hy => ?_,?_⟩,by simp⟩
 ·rw [List.pairwise_append]
  exact ⟨sp.1,List.pairwise_singleton _ _,fun b hb c hc=>by
   rw [List.mem_singleton] at hc
   subst hc
   exact lt b hb⟩
 ·rcases List.mem_append.1 hb with h | h
  ·obtain ⟨y,hy,e⟩:=G.mem b (List.mem_append_left _ h)
   have hne:y≠x:=fun c=>by
    have:=lt b h
    rw [e,c,before_irr] at this
    cases this
   exact ⟨y,by rw [ts];exact List.mem_append_left _ hy,by rw [cy y hne];exact e⟩
  ·rw [List.mem_singleton] at h
   exact ⟨x,by rw [ts];exact List.mem_append_right _ List.mem_cons_self,by rw [cx];exact h⟩
 ·by_cases c:y=x
  ·subst c
   rw [cx]
   exact List.mem_append_right _ List.mem_cons_self
  ·rw [ts] at hy
   rw [cy y c]
   rcases List.mem_append.1 hy with h | h
   ·rcases List.mem_append.1 (G.all y h) with k1 | k1
    ·exact List.mem_append_left _ k1
    ·rw [List.mem_singleton] at k1
     exact absurd (mkC_inj k1) c
   ·rw [List.mem_singleton] at h
    exact absurd h c
 ·rw [Nat.add_sub_cancel,hx] at hy
  cases hy
  rw [cx]
  simp
 ·have:=G.len
  simp at this ⊢
  omega
theorem mark_dig:∀ r:Fin 10,byteI (wr (48+((r.val:Nat):Int)))=(48+r.val).toUInt8:=by decide +kernel
theorem markLoop:∀ (k:Nat) (out:ByteArray),k+out.size≤1000000000→kBg s0_q48 ((k:Int),out)=some (digT k out):=by
 intro k out
 induction k,out using digT.induct with
 | case1 out =>
  intro _
  rw [digT,dif_pos rfl]
  refine kC8 ?_
  unfold s0_q48
  rfl
 | case2 k out h ih =>
  intro hs
  rw [digT,dif_neg h]
  have sz:((⟨#[(48+k % 10).toUInt8]⟩:ByteArray)++out).size=1+out.size:=size_one _ _
  have c:decide ((0:Int)<(k:Int))=true:=decide_eq_true (by omega)
  have m1:Int.tmod (k:Int) 10=((k % 10:Nat):Int):=rfl
  have m2:Int.tdiv (k:Int) 10=((k / 10:Nat):Int):=rfl
  have w:wr ((k / 10:Nat):Int)=((k / 10:Nat):Int):=kC9 (by omega) (by omega)
  have b:byteI (wr (48+((k % 10:Nat):Int)))=(48+k % 10).toUInt8:=mark_dig ⟨k % 10,by omega⟩
  have ct:catO (strL ((some ([(48+k % 10).toUInt8]:List UInt8)).getD [])) out=some ((⟨#[(48+k % 10).toUInt8]⟩:ByteArray)++out):=by
   unfold catO
   rw [if_pos (by
    show (((⟨#[(48+k % 10).toUInt8]⟩:ByteArray).size+out.size:Nat):Int)≤_
    have:(⟨#[(48+k % 10).toUInt8]⟩:ByteArray).size=1:=rfl
    omega)]
   rfl
  rw [kCx (s':=(((k / 10:Nat):Int),(⟨#[(48+k % 10).toUInt8]⟩:ByteArray)++out))]
  ·exact ih (by rw [sz];omega)
  ·unfold s0_q48
   simp only [c,cond_true,m1,m2,w,b,ct,kA4]
theorem markText_ok {k:Nat} (h:k≤100000000):t_q48 (k:Int)=some (kBr k):=by
 unfold t_q48 kBr
 by_cases h0:k=0
 ·subst h0
  rfl
 ·have c:decide ((k:Int)≤0)=false:=decide_eq_false (by omega)
  have d:decide (k=0)=false:=decide_eq_false h0
  have sz:=digT_size k ⟨#[]⟩
  have e:(⟨#[]⟩:ByteArray).size=0:=rfl
  have ct:catO (⟨#[109]⟩:ByteArray) (digT k ⟨#[]⟩)=some ((⟨#[109]⟩:ByteArray)++digT k ⟨#[]⟩):=by
   unfold catO
   rw [if_pos (by
    have:(⟨#[109]⟩:ByteArray).size=1:=rfl
    omega)]
  rw [c,d,cond_false,cond_false,markLoop k ⟨#[]⟩ (by omega),kA4,ct,kA4]
abbrev kEq:=List (ByteArray×Int)
inductive SPth (pc:ByteArray→ByteArray→Int):List kEq→ByteArray→List ByteArray→Int→Prop
 | nil {a:ByteArray}:SPth pc [] a [] 0
 | cons {C:kEq} {Cs:List kEq} {a w:ByteArray} {c r:Int} {ws:List ByteArray} (hw:(w,c)∈C) (h:SPth pc Cs w ws r):SPth pc (C::Cs) a (w::ws) (pc a w+(c+r))
def lexW:List ByteArray→List ByteArray→Bool
 | a::zas,b::bs=>bif decide (a=b) then lexW zas bs else ltS a b
 | _,_=>false
theorem lexW_irr:∀ a,lexW a a=false
 | []=>rfl
 | a::zas=>by simp only [lexW,decide_true,cond_true];exact lexW_irr zas
theorem kI9 {a b:ByteArray} (h:ltS a b=true):ltS b a=false:=by
 cases e:ltS b a with
 | false=>rfl
 | true=>have:=kI3 h e;rw [kGr] at this;cases this
theorem lexW_tri:∀ a b:List ByteArray,a.length=b.length→lexW a b=false→lexW b a=false→a=b
 | [],[],_,_,_=>rfl
 | [],_::_,h,_,_=>by cases h
 | _::_,[],h,_,_=>by cases h
 | a::zas,b::bs,h,h1,h2=>by
  simp only [lexW] at h1 h2
  by_cases e:a=b
  ·subst e
   simp only [decide_true,cond_true] at h1 h2
   rw [lexW_tri zas bs (by simpa using h) h1 h2]
  ·have e':¬ b=a:=fun h=>e h.symm
   simp only [e,e',decide_false,cond_false] at h1 h2
   rcases ltS_tri a b with h3 | h3 | h3
   ·rw [h3] at h1;cases h1
   ·exact absurd h3 e
   ·rw [h3] at h2;cases h2
theorem lexW_trans:∀ a b c:List ByteArray,a.length=b.length→b.length=c.length→lexW b a=false→lexW c b=false→lexW c a=false
 | [],[],[],_,_,_,_=>rfl
 | [],_::_,_,h,_,_,_=>by cases h
 | _::_,[],_,h,_,_,_=>by cases h
 | [],[],_::_,_,h,_,_=>by cases h
 | _::_,_::_,[],_,h,_,_=>by cases h
 | a::zas,b::bs,c::cs,h1,h2,h3,h4=>by
  simp only [lexW] at h3 h4 ⊢
  by_cases e1:b=a
  ·subst e1
   simp only [decide_true,cond_true] at h3
   by_cases e2:c=b
   ·subst e2
    simp only [decide_true,cond_true] at h4 ⊢
    exact lexW_trans zas bs cs (by simpa using h1) (by simpa using h2) h3 h4
   ·simp only [e2,decide_false,cond_false] at h4 ⊢
    exact h4
  ·simp only [e1,decide_false,cond_false] at h3
   have e0:ltS a b=true:=by
    rcases ltS_tri a b with h | h | h
    ·exact h
    ·exact absurd h.symm e1
    ·rw [h] at h3;cases h3
   by_cases e2:c=b
   ·subst e2
    simp only [e1,decide_false,cond_false]
    exact h3
   ·simp only [e2,decide_false,cond_false] at h4
    have e5:ltS b c=true:=by
     rcases ltS_tri b c with h | h | h
     ·exact h
     ·exact absurd h.symm e2
     ·rw [h] at h4;cases h4
    have e6:=kI3 e0 e5
    have e7:¬ c=a:=fun e=>by subst e;rw [kGr] at e6;cases e6
    simp only [e7,decide_false,cond_false]
    exact kI9 e6
theorem lexW_snoc (w:ByteArray):∀ a b:List ByteArray,a.length=b.length→lexW (a++[w]) (b++[w])=lexW a b
 | [],[],_=>by simp [lexW]
 | [],_::_,h=>by cases h
 | _::_,[],h=>by cases h
 | a::zas,b::bs,h=>by
  simp only [List.cons_append,lexW]
  rw [lexW_snoc w zas bs (by simpa using h)]
def leqS (c:Int) (ws:List ByteArray) (c':Int) (ws':List ByteArray):Prop:=c<c'∨(c=c'∧lexW ws' ws=false)
theorem kHv (c:Int) (ws:List ByteArray):leqS c ws c ws:=.inr ⟨rfl,lexW_irr ws⟩
theorem kIa {c1 c2 c3:Int} {a b c:List ByteArray} (h1:a.length=b.length) (h2:b.length=c.length) (h3:leqS c1 a c2 b) (h4:leqS c2 b c3 c):leqS c1 a c3 c:=by
 rcases h3 with h3 | ⟨h3,h5⟩ <;> rcases h4 with h4 | ⟨h4,h6⟩
 ·exact .inl (by omega)
 ·exact .inl (by omega)
 ·exact .inl (by omega)
 ·exact .inr ⟨by omega,lexW_trans a b c h1 h2 h5 h6⟩
theorem leqS_anti {c1 c2:Int} {a b:List ByteArray} (h1:a.length=b.length) (h3:leqS c1 a c2 b) (h4:leqS c2 b c1 a):c1=c2∧a=b:=by
 rcases h3 with h3 | ⟨h3,h5⟩ <;> rcases h4 with h4 | ⟨h4,h6⟩
 ·omega
 ·omega
 ·omega
 ·exact ⟨h3,lexW_tri a b h1 h6 h5⟩
theorem SPth.len {pc:ByteArray→ByteArray→Int} {Cs:List kEq} {a:ByteArray} {ws:List ByteArray} {c:Int} (h:SPth pc Cs a ws c):ws.length=Cs.length:=by
 induction h with
 | nil=>rfl
 | cons hw h ih=>simp [ih]
def kG1 (a:ByteArray) (ws:List ByteArray):ByteArray:=ws.getLast?.getD a
theorem lastW_snoc (a w:ByteArray) (ws:List ByteArray):kG1 a (ws++[w])=w:=by simp [kG1]
theorem lastW_cons (a w:ByteArray) (ws:List ByteArray):kG1 a (w::ws)=kG1 w ws:=by
 cases ws with
 | nil=>rfl
 | cons x r=>simp [kG1,List.getLast?_cons_cons,List.getLast?_cons]
theorem SPth.snoc {pc:ByteArray→ByteArray→Int} {Cs:List kEq} {C:kEq} {a w:ByteArray} {ws:List ByteArray} {c cw:Int} (h:SPth pc Cs a ws c) (hw:(w,cw)∈C):SPth pc (Cs++[C]) a (ws++[w]) (c+(cw+pc (kG1 a ws) w)):=by
 induction h with
 | @nil a =>
  have:=SPth.cons (pc:=pc) (a:=a) hw SPth.nil
  rw [show (0:Int)+(cw+pc (kG1 a []) w)=pc a w+(cw+0) by simp [kG1];omega]
  exact this
 | @cons C' Cs a w' c' r ws' hw' _ ih =>
  rw [lastW_cons,show pc a w'+(c'+r)+(cw+pc (kG1 w' ws') w)=pc a w'+(c'+(r+(cw+pc (kG1 w' ws') w))) by omega]
  exact .cons hw' ih
theorem SPth.unsnoc {pc:ByteArray→ByteArray→Int}:∀ {Cs:List kEq} {C:kEq} {a:ByteArray} {ws:List ByteArray} {c:Int},SPth pc (Cs++[C]) a ws c→∃ w cw ws' c',(w,cw)∈C∧SPth pc Cs a ws' c'∧ws=ws'++[w]∧c=c'+(cw+pc (kG1 a ws') w)
 | [],C,a,ws,c,h=>by
  cases h with
  | cons hw h =>
   rename_i w cw r ws
   cases h
   exact ⟨w,cw,[],0,hw,.nil,rfl,by simp [kG1];omega⟩
 | D::Cs,C,a,ws,c,h=>by
  cases h with
  | cons hw h =>
   rename_i w cw r ws
   obtain ⟨w2,cw2,ws2,c2,h1,h2,rfl,rfl⟩:=h.unsnoc
   exact ⟨w2,cw2,w::ws2,_,h1,.cons hw h2,rfl,by rw [lastW_cons];omega⟩
def fmW (pc:ByteArray→ByteArray→Int) (a:ByteArray):Option WordAt→List WordAt→Option WordAt
 | acc,[]=>acc
 | none,e::l=>fmW pc a (some ⟨e.word,pc a e.word+e.cost⟩) l
 | some b,e::l=>bif decide (pc a e.word+e.cost<b.cost) then fmW pc a (some ⟨e.word,pc a e.word+e.cost⟩) l else fmW pc a (some b) l
theorem fmW_cons {pc:ByteArray→ByteArray→Int} {a:ByteArray} {b:WordAt} {e:WordAt} {l:List WordAt}:fmW pc a (some b) (e::l)=bif decide (pc a e.word+e.cost<b.cost) then fmW pc a (some ⟨e.word,pc a e.word+e.cost⟩) l else fmW pc a (some b) l:=rfl
def srtW (l:List ByteArray):Prop:=l.Pairwise fun a b=>ltS a b=true
theorem fmW_some {pc:ByteArray→ByteArray→Int} {a:ByteArray}:∀ (l:List WordAt) (b0:WordAt),srtW (l.map (·.word))→∃ b,fmW pc a (some b0) l=some b ∧
  ((b=b0∧∀ e∈l,b0.cost≤pc a e.word+e.cost)∨∃ e∈l,b=⟨e.word,pc a e.word+e.cost⟩∧pc a e.word+e.cost<b0.cost∧∀ e'∈l,pc a e.word+e.cost<pc a e'.word+e'.cost∨(pc a e.word+e.cost=pc a e'.word+e'.cost∧ltS e'.word e.word=false))
 | [],b0,_=>⟨b0,rfl,.inl ⟨rfl,fun e h=>by cases h⟩⟩
 | x::l,b0,hs=>by
  have hs1:∀ e∈l,ltS x.word e.word=true:=fun e he=>(List.pairwise_cons.1 hs).1 _ (List.mem_map.2 ⟨e,he,rfl⟩)
  have hs2:srtW (l.map (·.word)):=(List.pairwise_cons.1 hs).2
  unfold fmW
  by_cases hc:pc a x.word+x.cost<b0.cost
  ·rw [decide_eq_true hc,cond_true]
   obtain ⟨b,h1,h2⟩:=fmW_some l ⟨x.word,pc a x.word+x.cost⟩ hs2
   refine ⟨b,h1,.inr ?_⟩
   rcases h2 with ⟨rfl,h3⟩ | ⟨e,he,rfl,h3,h4⟩
   ·refine ⟨x,by simp,rfl,hc,fun e' he' => ?_⟩
    rcases List.mem_cons.1 he' with rfl | he'
    ·exact .inr ⟨rfl,kGr _⟩
    ·have:=h3 e' he'
     simp only at this
     rcases Int.lt_or_eq_of_le this with h | h
     ·exact .inl h
     ·exact .inr ⟨h,kI9 (hs1 e' he')⟩
   ·simp only at h3
    refine ⟨e,by simp [he],rfl,by omega,fun e' he' => ?_⟩
    rcases List.mem_cons.1 he' with rfl | he'
    ·exact .inl h3
    ·exact h4 e' he'
  ·rw [decide_eq_false hc,cond_false]
   obtain ⟨b,h1,h2⟩:=fmW_some l b0 hs2
   refine ⟨b,h1,?_⟩
   rcases h2 with ⟨rfl,h3⟩ | ⟨e,he,rfl,h3,h4⟩
   ·exact .inl ⟨rfl,fun e' he'=>by
     rcases List.mem_cons.1 he' with rfl | he'
     ·omega
     ·exact h3 e' he'⟩
   ·exact .inr ⟨e,by simp [he],rfl,h3,fun e' he'=>by
     rcases List.mem_cons.1 he' with rfl | he'
     ·exact .inl (by omega)
     ·exact h4 e' he'⟩
theorem fmW_none {pc:ByteArray→ByteArray→Int} {a:ByteArray} {l:List WordAt} (hs:srtW (l.map (·.word))):(l=[]∧fmW pc a none l=none)∨∃ e∈l,fmW pc a none l=some ⟨e.word,pc a e.word+e.cost⟩∧∀ e'∈l,pc a e.word+e.cost<pc a e'.word+e'.cost∨(pc a e.word+e.cost=pc a e'.word+e'.cost∧ltS e'.word e.word=false):=by
 cases l with
 | nil=>exact .inl ⟨rfl,rfl⟩
 | cons x l =>
  right
  have hs1:∀ e∈l,ltS x.word e.word=true:=fun e he=>(List.pairwise_cons.1 hs).1 _ (List.mem_map.2 ⟨e,he,rfl⟩)
  have hs2:srtW (l.map (·.word)):=(List.pairwise_cons.1 hs).2
  unfold fmW
  obtain ⟨b,h1,h2⟩:=fmW_some (pc:=pc) (a:=a) l ⟨x.word,pc a x.word+x.cost⟩ hs2
  rcases h2 with ⟨rfl,h3⟩ | ⟨e,he,rfl,h3,h4⟩
  ·refine ⟨x,by simp,h1,fun e' he' => ?_⟩
   rcases List.mem_cons.1 he' with rfl | he'
   ·exact .inr ⟨rfl,kGr _⟩
   ·have:=h3 e' he'
    simp only at this
    rcases Int.lt_or_eq_of_le this with h | h
    ·exact .inl h
    ·exact .inr ⟨h,kI9 (hs1 e' he')⟩
  ·simp only at h3
   refine ⟨e,by simp [he],h1,fun e' he' => ?_⟩
   rcases List.mem_cons.1 he' with rfl | he'
   ·exact .inl h3
   ·exact h4 e' he'
def rstW (pc:ByteArray→ByteArray→Int):List kEq→ByteArray→Option Int
 | [],_=>some 0
 | C::Cs,a=>(fmW pc a none (C.filterMap fun p=>(rstW pc Cs p.1).map fun r=>⟨p.1,p.2+r⟩)).map (·.cost)
def stgW (pc:ByteArray→ByteArray→Int):List kEq→List WordAt
 | []=>[]
 | C::Cs=>C.filterMap fun p=>(rstW pc Cs p.1).map fun r=>⟨p.1,p.2+r⟩
theorem rstW_cons (pc:ByteArray→ByteArray→Int) (C:kEq) (Cs:List kEq) (a:ByteArray):rstW pc (C::Cs) a=(fmW pc a none (stgW pc (C::Cs))).map (·.cost):=rfl
def wlkW (pc:ByteArray→ByteArray→Int):List kEq→ByteArray→Option (List ByteArray)
 | [],_=>some []
 | C::Cs,a=>(fmW pc a none (stgW pc (C::Cs))).bind fun b=>(wlkW pc Cs b.word).map (b.word::·)
theorem stgW_srt {pc:ByteArray→ByteArray→Int} {C:kEq} {Cs:List kEq} (h:srtW (C.map (·.1))):srtW ((stgW pc (C::Cs)).map (·.word)):=by
 unfold stgW srtW at *
 rw [List.pairwise_map] at h ⊢
 rw [List.pairwise_filterMap]
 refine h.imp fun {p q} hpq b hb b' hb' => ?_
 obtain ⟨r,_,rfl⟩:=Option.map_eq_some_iff.1 hb
 obtain ⟨r',_,rfl⟩:=Option.map_eq_some_iff.1 hb'
 exact hpq
theorem stgW_mem {pc:ByteArray→ByteArray→Int} {C:kEq} {Cs:List kEq} {e:WordAt}:e∈stgW pc (C::Cs)↔∃ w c r,(w,c)∈C∧rstW pc Cs w=some r∧e=⟨w,c+r⟩:=by
 unfold stgW
 rw [List.mem_filterMap]
 constructor
 ·rintro ⟨⟨w,c⟩,h1,h2⟩
  obtain ⟨r,h3,rfl⟩:=Option.map_eq_some_iff.1 h2
  exact ⟨w,c,r,h1,h3,rfl⟩
 ·rintro ⟨w,c,r,h1,h2,rfl⟩
  exact ⟨(w,c),h1,by simp [h2]⟩
theorem best_ok {pc:ByteArray→ByteArray→Int}:∀ (Cs:List kEq),(∀ C∈Cs,srtW (C.map (·.1)))→∀ a,(rstW pc Cs a=none→∀ ws c,¬ SPth pc Cs a ws c) ∧
  ∀ r,rstW pc Cs a=some r→∃ ws,wlkW pc Cs a=some ws∧SPth pc Cs a ws r∧∀ ws' c',SPth pc Cs a ws' c'→leqS r ws c' ws'
 | [],_,a=>⟨fun h=>by simp [rstW] at h,fun r h=>by
   simp [rstW] at h
   subst h
   refine ⟨[],rfl,.nil,fun ws' c' h => ?_⟩
   cases h
   exact kHv _ _⟩
 | C::Cs,hs,a=>by
  have ih:=best_ok (pc:=pc) Cs fun C hC=>hs C (by simp [hC])
  have hsrt:=stgW_srt (pc:=pc) (Cs:=Cs) (hs C (by simp))
  rw [rstW_cons]
  rcases fmW_none (pc:=pc) (a:=a) hsrt with ⟨h1,h2⟩ | ⟨e,he,h1,h2⟩
  ·rw [h2]
   refine ⟨fun _ ws c h => ?_,fun r h=>by cases h⟩
   cases h with
   | cons hw h =>
    rename_i w c r ws
    cases hr:rstW pc Cs w with
    | none=>exact (ih w).1 hr ws r h
    | some r2 =>
     have:(⟨w,c+r2⟩:WordAt)∈stgW pc (C::Cs):=stgW_mem.2 ⟨w,c,r2,hw,hr,rfl⟩
     rw [h1] at this
     cases this
  ·rw [h1]
   refine ⟨fun h=>(by cases h),fun r hr => ?_⟩
   simp only [Option.map_some,Option.some.injEq] at hr
   subst hr
   obtain ⟨w,c,r,e1,e2,rfl⟩:=stgW_mem.1 he
   obtain ⟨ws,g1,g2,g3⟩:=(ih w).2 r e2
   refine ⟨w::ws,?_,.cons e1 g2,fun ws' c' h => ?_⟩
   ·unfold wlkW
    rw [h1]
    show (wlkW pc Cs w).map (w::·)=_
    rw [g1]
    rfl
   ·cases h with
    | cons hw h =>
     rename_i w' cw' r' ws'
     show leqS (pc a w+(c+r)) (w::ws) (pc a w'+(cw'+r')) (w'::ws')
     cases hr:rstW pc Cs w' with
     | none=>exact ((ih w').1 hr ws' r' h).elim
     | some r2 =>
      obtain ⟨ws2,k1,k2,k3⟩:=(ih w').2 r2 hr
      have k4:=k3 ws' r' h
      have k5:=h2 ⟨w',cw'+r2⟩ (stgW_mem.2 ⟨w',cw',r2,hw,hr,rfl⟩)
      simp only at k5
      have k6:r2≤r':=by rcases k4 with k | k <;> omega
      rcases k5 with k5 | ⟨k5,k7⟩
      ·exact .inl (by omega)
      ·rcases k4 with k4 | ⟨k4,k8⟩
       ·exact .inl (by omega)
       ·refine .inr ⟨by omega,?_⟩
        simp only [lexW]
        by_cases ew:w'=w
        ·subst ew
         rw [g1] at k1
         cases k1
         simp only [decide_true,cond_true]
         exact k8
        ·simp only [ew,decide_false,cond_false]
         exact k7
def tcvW (l:Lattice) (w:ByteArray):Int:=(kJp l w).getD 0
def cndW (l:Lattice) (e:Entry):Option (ByteArray×Int):=bif decide (tcvW l e.word<1099511627776) then some (e.word,tcvW l e.word+e.cost) else none
def cndL (x:Lexicon) (l:Lattice):kEq:=(x.entries.getD []).filterMap (cndW l)
theorem tc_both {x:Lexicon} {l:Lattice} (hx:lexB x=true) (hl:latB l=true) (hs:(l.edges.getD []).length≤4294967296) {e:Entry} (he:e∈x.entries.getD []) :
  ∃ y,kJp l e.word=some (tcvW l e.word)∧t_q83 l e.word=some y∧((tcvW l e.word=1099511627776∧y<0)∨(tcvW l e.word=y∧0≤y∧y≤10000000)):=by
 obtain ⟨N,eN,n0,n20,hE⟩:=lat_VE hl
 have short:=ent_short hx he
 obtain ⟨u,v,hu,hv,h⟩:=text_both eN n0 n20 hE hs short
 obtain ⟨u2,hu2,hb⟩:=implText_ok eN n0 n20 hE hs (show e.word.size≤4294967296 by omega)
 rw [hu] at hu2
 cases hu2
 have e1:tcvW l e.word=u:=by unfold tcvW;rw [hu];rfl
 rw [e1]
 refine ⟨v,hu,hv,?_⟩
 rcases h with ⟨h1,h2⟩ | ⟨h1,h2,h3⟩
 ·exact .inl ⟨h1,h2⟩
 ·right
  refine ⟨h1,h3,?_⟩
  rcases hb short with ⟨h4,_⟩ | ⟨h4,_⟩
  ·exact absurd h4 h2
  ·have h5:=(h4.bound hE n0).2.2
   have h6:(e.word.size:Int)*1000000≤10*1000000:=by omega
   omega
theorem ent_cost {x:Lexicon} (h:lexB x=true) {e:Entry} (he:e∈x.entries.getD []):0≤e.cost∧e.cost≤1000000:=by
 unfold lexB at h
 rw [Bool.and_eq_true] at h
 have:=(kJm h.1).1 e he
 unfold okEnt at this
 rw [Bool.and_eq_true] at this
 have h2:=this.2
 simp only [kBb,Bool.and_eq_true,decide_eq_true_eq] at h2
 exact h2
theorem ents_few {x:Lexicon} (h:lexB x=true):(x.entries.getD []).length≤60:=by
 unfold lexB at h
 rw [Bool.and_eq_true] at h
 exact of_decide_eq_true h.2
theorem ents_srt {x:Lexicon} (h:lexB x=true):srtW ((x.entries.getD []).map (·.word)):=by
 unfold lexB at h
 rw [Bool.and_eq_true] at h
 unfold srtW
 rw [List.pairwise_map]
 rw [List.pairwise_iff_getElem]
 intro i j hi hj hij
 have ht:∀ a b c:Entry,ltEnt a b=true→ltEnt b c=true→ltEnt a c=true:=fun a b c h1 h2=>by
  have k:∀ a b:Entry,ltEnt a b=true↔ltS a.word b.word=true:=fun a b=>by
   unfold ltEnt
   rcases ltS_tri a.word b.word with h | h | h
   ·rw [kI9 h]
    have:¬ b.word=a.word:=fun e=>by rw [e,kGr] at h;cases h
    simp [h,this]
   ·rw [h];simp [kGr]
   ·rw [h,kI9 h];simp
  rw [k] at *
  exact kI3 h1 h2
 have k2:=adj_lt ht h.1 (j - i - 1) i (x.entries.getD [])[i] (x.entries.getD [])[j] (List.getElem?_eq_getElem hi) (by rw [show i+(j - i - 1)+1=j by omega];exact List.getElem?_eq_getElem hj)
 unfold ltEnt at k2
 rcases ltS_tri (x.entries.getD [])[i].word (x.entries.getD [])[j].word with h3 | h3 | h3
 ·exact h3
 ·rw [h3] at k2;simp at k2
 ·rw [h3] at k2;simp at k2
theorem cndL_srt {x:Lexicon} (h:lexB x=true) (l:Lattice):srtW ((cndL x l).map (·.1)):=by
 have h1:=ents_srt h
 unfold srtW cndL at *
 rw [List.pairwise_map] at h1 ⊢
 rw [List.pairwise_filterMap]
 refine h1.imp fun {p q} hpq b hb b' hb' => ?_
 have k:∀ (e:Entry) p,cndW l e=some p→p.1=e.word:=fun e p hp=>by
  unfold cndW at hp
  cases hd:decide (tcvW l e.word<1099511627776) with
  | true=>rw [hd] at hp;simp only [cond_true,Option.some.injEq] at hp;rw [← hp]
  | false=>rw [hd] at hp;cases hp
 rw [k _ _ hb,k _ _ hb']
 exact hpq
theorem kIb {m:Model} (h:modB m=true) (a b:ByteArray):0≤kAk m a b∧kAk m a b≤1000000:=by
 unfold modB at h
 rw [Bool.and_eq_true,Bool.and_eq_true] at h
 unfold kAk
 split
 ·rename_i g hg
  have h1:=(kJm h.1).1 g (List.mem_of_find?_eq_some hg)
  unfold kCl at h1
  rw [Bool.and_eq_true,Bool.and_eq_true] at h1
  have h2:=h1.2.2
  simp only [kBb,Bool.and_eq_true,decide_eq_true_eq] at h2
  exact h2
 ·have h2:=h.2.1
  simp only [kBb,Bool.and_eq_true,decide_eq_true_eq] at h2
  exact h2
theorem SPth.bound {pc:ByteArray→ByteArray→Int} (hp:∀ a b,0≤pc a b∧pc a b≤1000000) {Cs:List kEq} {a:ByteArray} {ws:List ByteArray} {c:Int} (h:SPth pc Cs a ws c) (hc:∀ C∈Cs,∀ p∈C,0≤p.2∧p.2≤11000000):0≤c∧c≤12000000*(Cs.length:Int):=by
 induction h with
 | nil=>simp
 | @cons C Cs a w c r ws hw h ih =>
  have h1:=hc C (by simp) (w,c) hw
  have h2:=ih fun C hC=>hc C (by simp [hC])
  have h3:=hp a w
  simp only [List.length_cons] at *
  omega
theorem cndL_bound {x:Lexicon} {l:Lattice} (hx:lexB x=true) (hl:latB l=true) (hs:(l.edges.getD []).length≤4294967296):∀ p∈cndL x l,0≤p.2∧p.2≤11000000:=fun p hp=>by
 obtain ⟨e,he,h1⟩:=List.mem_filterMap.1 hp
 obtain ⟨y,_,_,h2⟩:=tc_both hx hl hs he
 have h3:=ent_cost hx he
 unfold cndW at h1
 rcases h2 with ⟨h2,_⟩ | ⟨h2,h4,h5⟩
 ·rw [h2] at h1;cases h1
 ·rw [decide_eq_true (by omega),cond_true] at h1
  cases h1
  simp only
  omega
theorem bestWord_ok {m:Model} (hm:modB m=true) (hl:(m.bigrams.getD []).length≤4294967296) (a:ByteArray) (L:Sl WordAt) (hL:(L.getD []).length≤4294967296) (hb:∀ e∈L.getD [],0≤e.cost∧e.cost≤1000000000) :
  t_q11 m a L=some (match fmW (kAk m) a none (L.getD []) with | none=>(⟨⟨#[]⟩,0⟩,false) | some b=>(b,true)):=by
 have stf:∀ acc:Option WordAt,∃ q:ByteArray×Int×Bool,q=(match acc with | none=>(⟨#[]⟩,0,false) | some b=>(b.word,b.cost,true)):=fun acc=>⟨_,rfl⟩
 obtain ⟨r,h1,h2⟩:=kCt (step:=s0_q11 m a L) (s:=(⟨#[]⟩,0,false,0))
  (fun k s=>∃ acc:Option WordAt,fmW (kAk m) a acc ((L.getD []).drop k)=fmW (kAk m) a none (L.getD [])∧s=(match acc with | none=>(⟨#[]⟩,0,false,(k:Int)) | some b=>(b.word,b.cost,true,(k:Int)))) (L.getD []).length
  (fun r=>r=(match fmW (kAk m) a none (L.getD []) with | none=>(⟨#[]⟩,0,false) | some b=>(b.word,b.cost,true)))
  (fun k s hk hi=>by
   obtain ⟨acc,h1,rfl⟩:=hi
   obtain ⟨e,he⟩:∃ e,(L.getD [])[k]?=some e:=⟨_,List.getElem?_eq_getElem hk⟩
   have cc:(k:Int)<(((L.getD []).length:Nat):Int):=by omega
   have hd:(L.getD []).drop k=e::(L.getD []).drop (k+1):=by
    rw [List.drop_eq_getElem_cons hk]
    congr 1
    rw [List.getElem?_eq_getElem hk] at he
    exact Option.some.inj he
   have b1:=hb e (List.mem_of_getElem? he)
   have b2:=kIb hm a e.word
   have w1:wr (kAk m a e.word+e.cost)=kAk m a e.word+e.cost:=kC9 (by omega) (by omega)
   rw [hd] at h1
   left
   cases acc with
   | none =>
    refine ⟨(e.word,kAk m a e.word+e.cost,true,((k+1:Nat):Int)),?_,some ⟨e.word,kAk m a e.word+e.cost⟩,h1,rfl⟩
    unfold s0_q11
    simp only [cc,decide_true,cond_true,kAi he,kA4,ipair_ok (mod_srt hm) hl,w1,Bool.not_false,kBw hk hL]
   | some b =>
    rw [fmW_cons] at h1
    by_cases c2:kAk m a e.word+e.cost<b.cost
    ·rw [decide_eq_true c2,cond_true] at h1
     refine ⟨(e.word,kAk m a e.word+e.cost,true,((k+1:Nat):Int)),?_,some ⟨e.word,kAk m a e.word+e.cost⟩,h1,rfl⟩
     unfold s0_q11
     simp only [cc,decide_true,cond_true,kAi he,kA4,ipair_ok (mod_srt hm) hl,w1,Bool.not_true,cond_false,c2,kBw hk hL]
    ·rw [decide_eq_false c2,cond_false] at h1
     refine ⟨(b.word,b.cost,true,((k+1:Nat):Int)),?_,some b,h1,rfl⟩
     unfold s0_q11
     simp only [cc,decide_true,cond_true,kAi he,kA4,ipair_ok (mod_srt hm) hl,w1,Bool.not_true,cond_false,c2,decide_false,kBw hk hL])
  (fun s hi=>by
   obtain ⟨acc,h1,rfl⟩:=hi
   rw [List.drop_length] at h1
   have h2:acc=fmW (kAk m) a none (L.getD []):=by rw [← h1];cases acc <;> rfl
   rw [← h2]
   refine ⟨_,?_,rfl⟩
   cases acc <;> (unfold s0_q11;simp only [Int.lt_irrefl,decide_false,cond_false]))
  ⟨none,by rw [List.drop_zero],rfl⟩
 unfold t_q11
 rw [h1,kA4,h2]
 cases fmW (kAk m) a none (L.getD []) <;> rfl
theorem stg_bound {pc:ByteArray→ByteArray→Int} (hp:∀ a b,0≤pc a b∧pc a b≤1000000) {Cs:List kEq} (hs:∀ C∈Cs,srtW (C.map (·.1))) (hc:∀ C∈Cs,∀ p∈C,0≤p.2∧p.2≤11000000):(∀ e∈stgW pc Cs,0≤e.cost∧e.cost≤12000000*(Cs.length:Int))∧∀ a r,rstW pc Cs a=some r→0≤r∧r≤12000000*(Cs.length:Int):=by
 have hr:∀ (Cs:List kEq),(∀ C∈Cs,srtW (C.map (·.1)))→(∀ C∈Cs,∀ p∈C,0≤p.2∧p.2≤11000000)→∀ a r,rstW pc Cs a=some r→0≤r∧r≤12000000*(Cs.length:Int):=fun Cs hs hc a r h=>by
  obtain ⟨ws,_,h2,_⟩:=(best_ok (pc:=pc) Cs hs a).2 r h
  exact h2.bound hp hc
 refine ⟨fun e he => ?_,hr Cs hs hc⟩
 cases Cs with
 | nil=>cases he
 | cons C Cs =>
  obtain ⟨w,c,r,h1,h2,rfl⟩:=stgW_mem.1 he
  have h3:=hr Cs (fun C hC=>hs C (by simp [hC])) (fun C hC=>hc C (by simp [hC])) w r h2
  have h4:=hc C (by simp) (w,c) h1
  simp only [List.length_cons] at *
  omega
theorem stg_few {pc:ByteArray→ByteArray→Int} {C:kEq} {Cs:List kEq}:(stgW pc (C::Cs)).length≤C.length:=by
 unfold stgW
 exact List.length_filterMap_le _ _
theorem cndL_few {x:Lexicon} (h:lexB x=true) (l:Lattice):(cndL x l).length≤60:=Nat.le_trans (List.length_filterMap_le _ _) (ents_few h)
structure SentOK (q:Sl Lattice) (x:Lexicon) (m:Model):Prop where
 hx:lexB x=true
 hm:modB m=true
 hq:∀ l∈q.getD [],latB l=true∧(l.edges.getD []).length≤4294967296
 few:(q.getD []).length≤8
 hml:(m.bigrams.getD []).length≤4294967296
def kDv (q:Sl Lattice) (x:Lexicon):List kEq:=(q.getD []).map (cndL x)
theorem cndS_srt {q:Sl Lattice} {x:Lexicon} {m:Model} (H:SentOK q x m) (k:Nat):∀ C∈(kDv q x).drop k,srtW (C.map (·.1)):=fun C hC=>by
 obtain ⟨l,_,rfl⟩:=List.mem_map.1 (List.mem_of_mem_drop hC)
 exact cndL_srt H.hx l
theorem cndS_bound {q:Sl Lattice} {x:Lexicon} {m:Model} (H:SentOK q x m) (k:Nat):∀ C∈(kDv q x).drop k,∀ p∈C,0≤p.2∧p.2≤11000000:=fun C hC=>by
 obtain ⟨l,hl,rfl⟩:=List.mem_map.1 (List.mem_of_mem_drop hC)
 exact cndL_bound H.hx (H.hq l hl).1 (H.hq l hl).2
theorem cndS_len (q:Sl Lattice) (x:Lexicon) (k:Nat):((kDv q x).drop k).length=(q.getD []).length - k:=by simp [kDv]
theorem stgS_facts {q:Sl Lattice} {x:Lexicon} {m:Model} (H:SentOK q x m) (k:Nat):(stgW (kAk m) ((kDv q x).drop k)).length≤60∧(∀ e∈stgW (kAk m) ((kDv q x).drop k),0≤e.cost∧e.cost≤1000000000)∧∀ a r,rstW (kAk m) ((kDv q x).drop k) a=some r→0≤r∧r≤100000000:=by
 have hb:=stg_bound (pc:=kAk m) (kIb H.hm) (cndS_srt H k) (cndS_bound H k)
 have hl:=cndS_len q x k
 have few:=H.few
 refine ⟨?_,fun e he => ?_,fun a r hr => ?_⟩
 ·cases h:(kDv q x).drop k with
  | nil=>exact Nat.zero_le _
  | cons C Cs =>
   have hC:C∈kDv q x:=List.mem_of_mem_drop (by rw [h];simp)
   obtain ⟨l,_,rfl⟩:=List.mem_map.1 hC
   exact Nat.le_trans stg_few (cndL_few H.hx l)
 ·have:=hb.1 e he
  rw [hl] at this
  omega
 ·have:=hb.2 a r hr
  rw [hl] at this
  omega
theorem cndS_drop {q:Sl Lattice} {x:Lexicon} {k:Nat} {l:Lattice} (hl:(q.getD [])[k]?=some l):(kDv q x).drop k=cndL x l::(kDv q x).drop (k+1):=by
 obtain ⟨h1,h2⟩:=List.getElem?_eq_some_iff.1 hl
 have h3:k<(kDv q x).length:=by simp [kDv];exact h1
 rw [List.drop_eq_getElem_cons h3]
 congr 1
 simp [kDv,h2]
theorem setS_lookF {A:Type} {s:Sl A} {v:Nat} {x y:A} (h:(s.getD [])[v]?=some x) (i:Nat):((kFe s (v:Int) y).getD [])[i]?=if i=v then some y else (s.getD [])[i]?:=by
 cases s with
 | none=>simp at h
 | some l =>
  have hl:v<l.length:=(List.getElem?_eq_some_iff.1 h).1
  simp only [kFe,Option.map_some,Option.getD_some,Int.toNat_natCast]
  by_cases e:i=v
  ·subst e
   simp [hl]
  ·rw [if_neg e,List.getElem?_set_ne (Ne.symm e)]
def entW (m:Model) (l:Lattice) (Cs:List kEq) (e:Entry):Option WordAt:=(cndW l e).bind fun p=>(rstW (kAk m) Cs p.1).map fun r=>⟨p.1,p.2+r⟩
theorem stg_ent {m:Model} {x:Lexicon} {l:Lattice} {Cs:List kEq}:stgW (kAk m) (cndL x l::Cs)=(x.entries.getD []).filterMap (entW m l Cs):=by
 show (cndL x l).filterMap _=_
 unfold cndL
 rw [List.filterMap_filterMap]
 rfl
theorem placeLoop {q:Sl Lattice} {x:Lexicon} {m:Model} (H:SentOK q x m) {k:Nat} {l:Lattice} (hl:(q.getD [])[k]?=some l) (S:Sl (Sl WordAt)) (hS:(S.getD []).length=(q.getD []).length+1) {a1:Sl WordAt} (h1:(S.getD [])[k+1]?=some a1) (e1:a1.getD []=stgW (kAk m) ((kDv q x).drop (k+1))) (h0:(S.getD [])[k]?=some none) :
  ∃ S',kBg (s1_q5 q x m (k:Int)) (S,0)=some S'∧(S'.getD []).length=(q.getD []).length+1∧(∀ j,j≠k→(S'.getD [])[j]?=(S.getD [])[j]?)∧∃ a,(S'.getD [])[k]?=some a∧a.getD []=stgW (kAk m) ((kDv q x).drop k):=by
 have few:=H.few
 have hk:=kCv hl
 have hf:=ents_few H.hx
 have w1:wr ((k:Int)+1)=((k+1:Nat):Int):=by rw [kC9 (by omega) (by omega)];omega
 have w2:wr ((((q.getD []).length:Nat):Int) - 1)=(((q.getD []).length - 1:Nat):Int):=by rw [kC9 (by omega) (by omega)];omega
 obtain ⟨vl,el⟩:=H.hq l (List.mem_of_getElem? hl)
 have SF:=stgS_facts H (k+1)
 obtain ⟨S',r1,r2,r3,a,r4,r5⟩:=kCt (step:=s1_q5 q x m (k:Int)) (s:=(S,0))
  (fun i s=>∃ S',s=(S',(i:Int))∧(S'.getD []).length=(q.getD []).length+1∧(∀ j,j≠k→(S'.getD [])[j]?=(S.getD [])[j]?)∧∃ a,(S'.getD [])[k]?=some a∧a.getD []=((x.entries.getD []).take i).filterMap (entW m l ((kDv q x).drop (k+1)))) (x.entries.getD []).length
  (fun S'=>(S'.getD []).length=(q.getD []).length+1∧(∀ j,j≠k→(S'.getD [])[j]?=(S.getD [])[j]?)∧∃ a,(S'.getD [])[k]?=some a∧a.getD []=(x.entries.getD []).filterMap (entW m l ((kDv q x).drop (k+1))))
  (fun i s hi hinv=>by
   obtain ⟨S',rfl,g1,g2,a,g3,g4⟩:=hinv
   obtain ⟨e,he⟩:∃ e,(x.entries.getD [])[i]?=some e:=⟨_,List.getElem?_eq_getElem hi⟩
   have hmem:=List.mem_of_getElem? he
   have cc:(i:Int)<(((x.entries.getD []).length:Nat):Int):=by omega
   obtain ⟨y,t1,_,t2⟩:=tc_both H.hx vl el hmem
   have ec:=ent_cost H.hx hmem
   have g5:(S'.getD [])[k+1]?=some a1:=by rw [g2 (k+1) (by omega)];exact h1
   have bw:=bestWord_ok H.hm H.hml e.word a1 (by rw [e1];omega) (by rw [e1];exact SF.2.1)
   rw [e1] at bw
   have tk:(x.entries.getD []).take (i+1)=(x.entries.getD []).take i++[e]:=by
    rw [List.take_add_one,he];rfl
   have alen:(a.getD []).length≤60:=by
    rw [g4]
    refine Nat.le_trans (List.length_filterMap_le _ _) ?_
    rw [List.length_take]
    omega
   left
   have hrst:rstW (kAk m) ((kDv q x).drop (k+1)) e.word=(match fmW (kAk m) e.word none (stgW (kAk m) ((kDv q x).drop (k+1))) with | none=>if k=(q.getD []).length - 1 then some 0 else none | some b=>some b.cost):=by
    by_cases hlast:k=(q.getD []).length - 1
    ·have:(kDv q x).drop (k+1)=[]:=List.eq_nil_of_length_eq_zero (by rw [cndS_len];omega)
     rw [this]
     simp [rstW,stgW,fmW,hlast]
    ·obtain ⟨l2,hl2⟩:∃ l2,(q.getD [])[k+1]?=some l2:=⟨_,List.getElem?_eq_getElem (by omega)⟩
     rw [cndS_drop hl2,rstW_cons,if_neg hlast]
     cases fmW (kAk m) e.word none (stgW (kAk m) (cndL x l2::(kDv q x).drop (k+1+1))) <;> rfl
   by_cases hn:tcvW l e.word<1099511627776
   ·have t3:0≤tcvW l e.word∧tcvW l e.word≤10000000:=by
     rcases t2 with ⟨h,_⟩ | h <;> omega
    have hc:cndW l e=some (e.word,tcvW l e.word+e.cost):=by unfold cndW;rw [decide_eq_true hn];rfl
    have hent:entW m l ((kDv q x).drop (k+1)) e=(rstW (kAk m) ((kDv q x).drop (k+1)) e.word).map fun r=>⟨e.word,tcvW l e.word+e.cost+r⟩:=by unfold entW;rw [hc];rfl
    have w3:wr (tcvW l e.word+e.cost)=tcvW l e.word+e.cost:=kC9 (by omega) (by omega)
    have push:∀ r:Int,rstW (kAk m) ((kDv q x).drop (k+1)) e.word=some r→∃ S2,S2=kFe S' (k:Int) (kBv a [⟨e.word,wr (wr (tcvW l e.word+e.cost)+r)⟩])∧(S2.getD []).length=(q.getD []).length+1∧(∀ j,j≠k→(S2.getD [])[j]?=(S.getD [])[j]?)∧∃ a,(S2.getD [])[k]?=some a∧a.getD []=((x.entries.getD []).take (i+1)).filterMap (entW m l ((kDv q x).drop (k+1))):=fun r hr=>by
     have hb:=SF.2.2 _ r hr
     refine ⟨_,rfl,?_,fun j hj => ?_,kBv a [⟨e.word,wr (wr (tcvW l e.word+e.cost)+r)⟩],?_,?_⟩
     ·rw [← g1];cases S' <;> simp [kFe]
     ·rw [setS_lookF g3,if_neg hj];exact g2 j hj
     ·rw [setS_lookF g3,if_pos rfl]
     ·rw [kCn,g4,tk,List.filterMap_append,w3,kC9 (by omega) (by omega)]
      simp [hent,hr]
    cases hf9:fmW (kAk m) e.word none (stgW (kAk m) ((kDv q x).drop (k+1))) with
    | some b =>
     rw [hf9] at bw hrst
     obtain ⟨S2,z1,z2,z3,z4⟩:=push b.cost hrst
     refine ⟨(S2,((i+1:Nat):Int)),?_,S2,rfl,z2,z3,z4⟩
     subst z1
     unfold s1_q5
     simp only [cc,decide_true,cond_true,kAi he,kAi hl,kA4,t1,w1,kAi g5,bw,hn,Bool.not_true,Bool.and_false,cond_false,kAi g3,kEt (show (a.getD []).length+([(⟨e.word,wr (wr (tcvW l e.word+e.cost)+b.cost)⟩:WordAt)]:List WordAt).length≤4294967296 by simp;omega),kBw hi (show (x.entries.getD []).length≤4294967296 by omega)]
    | none =>
     rw [hf9] at bw hrst
     by_cases hlast:k=(q.getD []).length - 1
     ·have dl:((k:Int)=(((q.getD []).length - 1:Nat):Int)):=by omega
      simp only [if_pos hlast] at hrst
      obtain ⟨S2,z1,z2,z3,z4⟩:=push 0 hrst
      refine ⟨(S2,((i+1:Nat):Int)),?_,S2,rfl,z2,z3,z4⟩
      subst z1
      unfold s1_q5
      simp only [cc,decide_true,cond_true,kAi he,kAi hl,kA4,t1,w1,kAi g5,bw,hn,Bool.not_false,Bool.and_true,w2,decide_eq_true dl,cond_false,kAi g3,kEt (show (a.getD []).length+([(⟨e.word,wr (wr (tcvW l e.word+e.cost)+0)⟩:WordAt)]:List WordAt).length≤4294967296 by simp;omega),kBw hi (show (x.entries.getD []).length≤4294967296 by omega)]
     ·have dl:¬ ((k:Int)=(((q.getD []).length - 1:Nat):Int)):=by omega
      simp only [if_neg hlast] at hrst
      refine ⟨(S',((i+1:Nat):Int)),?_,S',rfl,g1,g2,a,g3,?_⟩
      ·unfold s1_q5
       simp only [cc,decide_true,cond_true,kAi he,kAi hl,kA4,t1,w1,kAi g5,bw,hn,Bool.not_false,Bool.and_true,w2,decide_eq_false dl,cond_false,kBw hi (show (x.entries.getD []).length≤4294967296 by omega)]
      ·rw [g4,tk,List.filterMap_append]
       simp [hent,hrst]
   ·have hc:cndW l e=none:=by unfold cndW;rw [decide_eq_false hn];rfl
    have hent:entW m l ((kDv q x).drop (k+1)) e=none:=by unfold entW;rw [hc];rfl
    refine ⟨(S',((i+1:Nat):Int)),?_,S',rfl,g1,g2,a,g3,?_⟩
    ·unfold s1_q5
     simp only [cc,decide_true,cond_true,kAi he,kAi hl,kA4,t1,w1,kAi g5,bw,hn,decide_false,Bool.false_and,cond_false,kBw hi (show (x.entries.getD []).length≤4294967296 by omega)]
    ·rw [g4,tk,List.filterMap_append]
     simp [hent])
  (fun s hinv=>by
   obtain ⟨S',rfl,g1,g2,a,g3,g4⟩:=hinv
   refine ⟨S',?_,g1,g2,a,g3,by rw [g4,List.take_length]⟩
   unfold s1_q5
   simp only [Int.lt_irrefl,decide_false,cond_false])
  ⟨S,rfl,hS,fun _ _=>rfl,none,h0,by simp⟩
 exact ⟨S',r1,r2,r3,a,r4,by rw [r5,cndS_drop hl,stg_ent]⟩
theorem stagesLoop {q:Sl Lattice} {x:Lexicon} {m:Model} (H:SentOK q x m):∀ (k:Nat) (S:Sl (Sl WordAt)),k≤(q.getD []).length→(S.getD []).length=(q.getD []).length+1→(∀ j,j<k→(S.getD [])[j]?=some none)→(∀ j,k≤j→j≤(q.getD []).length→∃ a,(S.getD [])[j]?=some a∧a.getD []=stgW (kAk m) ((kDv q x).drop j)) →
  ∃ S',kBg (s0_q5 q x m) (S,wr ((k:Int) - 1))=some S'∧∀ j,j≤(q.getD []).length→∃ a,(S'.getD [])[j]?=some a∧a.getD []=stgW (kAk m) ((kDv q x).drop j)
 | 0,S,_,_,_,h=>by
  refine ⟨S,kC8 ?_,fun j hj=>h j (Nat.zero_le _) hj⟩
  have w:wr (((0:Nat):Int) - 1) = -1:=rfl
  unfold s0_q5
  rw [w]
  rfl
 | k+1,S,hk,hS,h0,h=>by
  have few:=H.few
  obtain ⟨l,hl⟩:∃ l,(q.getD [])[k]?=some l:=⟨_,List.getElem?_eq_getElem (by omega)⟩
  obtain ⟨a1,h1,e1⟩:=h (k+1) (Nat.le_refl _) hk
  obtain ⟨S',r1,r2,r3,r4⟩:=placeLoop H hl S hS h1 e1 (h0 k (by omega))
  have w:wr (((k+1:Nat):Int) - 1)=(k:Int):=by rw [kC9 (by omega) (by omega)];omega
  obtain ⟨S2,g1,g2⟩:=stagesLoop H k S' (by omega) r2 (fun j hj=>by rw [r3 j (by omega)];exact h0 j (by omega)) (fun j hj hj2=>by
   by_cases e:j=k
   ·subst e;exact r4
   ·obtain ⟨a,h2,h3⟩:=h j (by omega) hj2
    exact ⟨a,by rw [r3 j e];exact h2,h3⟩)
  refine ⟨S2,?_,g2⟩
  rw [w,kCx (s':=(S',wr ((k:Int) - 1)))]
  ·exact g1
  ·have cc:(0:Int)≤(k:Int):=by omega
   unfold s0_q5
   simp only [cc,decide_true,cond_true,r1,kA4]
theorem walkLoop {q:Sl Lattice} {x:Lexicon} {m:Model} (H:SentOK q x m) {S:Sl (Sl WordAt)} (hS:∀ j,j≤(q.getD []).length→∃ a,(S.getD [])[j]?=some a∧a.getD []=stgW (kAk m) ((kDv q x).drop j)):∀ (d k:Nat) (last:ByteArray) (cost:Int) (W:Sl ByteArray),k+d=(q.getD []).length→(W.getD []).length=k →
  ((k≠0∨d=0)→(wlkW (kAk m) ((kDv q x).drop k) last=none∧kBg (s2_q5 q m S) (cost,W,last,(k:Int))=some (.inr 3))∨∃ ws W',wlkW (kAk m) ((kDv q x).drop k) last=some ws∧kBg (s2_q5 q m S) (cost,W,last,(k:Int))=some (.inl (cost,W'))∧W'.getD []=W.getD []++ws) ∧
  (k=0→0<d→(rstW (kAk m) ((kDv q x).drop k) last=none∧kBg (s2_q5 q m S) (cost,W,last,(k:Int))=some (.inr 3))∨((∃ r,rstW (kAk m) ((kDv q x).drop k) last=some r∧wlkW (kAk m) ((kDv q x).drop k) last=none)∨∃ r ws W',rstW (kAk m) ((kDv q x).drop k) last=some r∧wlkW (kAk m) ((kDv q x).drop k) last=some ws∧kBg (s2_q5 q m S) (cost,W,last,(k:Int))=some (.inl (r,W'))∧W'.getD []=W.getD []++ws))
 | 0,k,last,cost,W,hk,hW=>by
  have:(kDv q x).drop k=[]:=List.eq_nil_of_length_eq_zero (by rw [cndS_len];omega)
  rw [this]
  refine ⟨fun _=>.inr ⟨[],W,rfl,kC8 ?_,by simp⟩,fun _ h=>by omega⟩
  have:k=(q.getD []).length:=by omega
  subst this
  unfold s2_q5
  simp only [Int.lt_irrefl,decide_false,cond_false]
 | d+1,k,last,cost,W,hk,hW=>by
  have few:=H.few
  have hlt:k<(q.getD []).length:=by omega
  have cc:(k:Int)<(((q.getD []).length:Nat):Int):=by omega
  obtain ⟨l,hl⟩:∃ l,(q.getD [])[k]?=some l:=⟨_,List.getElem?_eq_getElem hlt⟩
  obtain ⟨a,h1,e1⟩:=hS k (by omega)
  have SF:=stgS_facts H k
  have bw:=bestWord_ok H.hm H.hml last a (by rw [e1];omega) (by rw [e1];exact SF.2.1)
  rw [e1] at bw
  rw [cndS_drop hl] at bw ⊢
  rw [rstW_cons]
  have ap:∀ w:ByteArray,appO W ([w]:List ByteArray)=some (kBv W [w]):=fun w=>kEt (by simp;omega)
  cases hf:fmW (kAk m) last none (stgW (kAk m) (cndL x l::(kDv q x).drop (k+1))) with
  | none =>
   rw [hf] at bw
   have run:kBg (s2_q5 q m S) (cost,W,last,(k:Int))=some (.inr 3):=by
    refine kC8 ?_
    unfold s2_q5
    simp only [cc,decide_true,cond_true,kAi h1,kA4,bw,Bool.not_false]
   refine ⟨fun _=>.inl ⟨?_,run⟩,fun _ _=>.inl ⟨rfl,run⟩⟩
   unfold wlkW
   rw [hf]
   rfl
  | some b =>
   rw [hf] at bw
   have wl:wlkW (kAk m) (cndL x l::(kDv q x).drop (k+1)) last=(wlkW (kAk m) ((kDv q x).drop (k+1)) b.word).map (b.word::·):=by
    show (fmW (kAk m) last none (stgW (kAk m) (cndL x l::(kDv q x).drop (k+1)))).bind _=_
    rw [hf]
    rfl
   have cost':∃ c',c'=if k=0 then b.cost else cost:=⟨_,rfl⟩
   obtain ⟨c',hc'⟩:=cost'
   have step:s2_q5 q m S (cost,W,last,(k:Int))=some (.inl (c',kBv W [b.word],b.word,((k+1:Nat):Int))):=by
    unfold s2_q5
    by_cases hk0:k=0
    ·have:(k:Int)=0:=by omega
     rw [if_pos hk0] at hc'
     have hd:decide ((k:Int)=0)=true:=decide_eq_true this
     simp only [cc,decide_true,cond_true,kAi h1,kA4,bw,Bool.not_true,cond_false,hd,ap,hc',kBw hlt (show (q.getD []).length≤4294967296 by omega)]
    ·have:¬ (k:Int)=0:=by omega
     rw [if_neg hk0] at hc'
     simp only [cc,decide_true,cond_true,kAi h1,kA4,bw,Bool.not_true,cond_false,this,decide_false,ap,hc',kBw hlt (show (q.getD []).length≤4294967296 by omega)]
   have ih:=(walkLoop H hS d (k+1) b.word c' (kBv W [b.word]) (by omega) (by rw [kCn];simp;omega)).1 (.inl (by omega))
   rw [kCx step,wl]
   refine ⟨fun h => ?_,fun h _ => ?_⟩
   ·have hk0:k≠0:=by omega
    rw [if_neg hk0] at hc'
    subst hc'
    rcases ih with ⟨g1,g2⟩ | ⟨ws,W',g1,g2,g3⟩
    ·exact .inl ⟨by rw [g1];rfl,g2⟩
    ·exact .inr ⟨b.word::ws,W',by rw [g1];rfl,g2,by rw [g3,kCn];simp⟩
   ·rw [if_pos h] at hc'
    subst hc'
    right
    rcases ih with ⟨g1,g2⟩ | ⟨ws,W',g1,g2,g3⟩
    ·exact .inl ⟨b.cost,rfl,by rw [g1];rfl⟩
    ·exact .inr ⟨b.cost,b.word::ws,W',rfl,by rw [g1];rfl,g2,by rw [g3,kCn];simp⟩
theorem implFind_ok {q:Sl Lattice} {x:Lexicon} {m:Model} (H:SentOK q x m) (hc:t_q18 q x m=some 0):∃ s code,t_q5 q x m=some (s,code) ∧
  ((rstW (kAk m) (kDv q x) ⟨#[]⟩=none∧s=⟨none,0⟩∧code=3)∨∃ r ws,rstW (kAk m) (kDv q x) ⟨#[]⟩=some r∧wlkW (kAk m) (kDv q x) ⟨#[]⟩=some ws∧s.words.getD []=ws∧s.cost=r∧code=0):=by
 have few:=H.few
 have w1:wr ((((q.getD []).length:Nat):Int)+1)=(((q.getD []).length+1:Nat):Int):=by rw [kC9 (by omega) (by omega)];omega
 obtain ⟨S,r1,r2⟩:=stagesLoop H (q.getD []).length (some (List.replicate ((q.getD []).length+1) none)) (Nat.le_refl _) (by simp) (fun j hj=>by
  simp only [Option.getD_some]
  rw [List.getElem?_replicate,if_pos (by omega)]) (fun j h1 h2=>by
  have:j=(q.getD []).length:=by omega
  subst this
  refine ⟨none,by simp only [Option.getD_some];rw [List.getElem?_replicate,if_pos (by omega)],?_⟩
  have:(kDv q x).drop (q.getD []).length=[]:=List.eq_nil_of_length_eq_zero (by rw [cndS_len];omega)
  rw [this]
  rfl)
 have hw:=walkLoop H r2 (q.getD []).length 0 ⟨#[]⟩ 0 none (by omega) rfl
 rw [List.drop_zero] at hw
 have z:((0:Nat):Int)=0:=rfl
 rw [z] at hw
 unfold t_q5
 simp only [hc,kA4,decide_true,Bool.not_true,cond_false,w1,kH2 (none:Sl WordAt) (show (q.getD []).length+1≤4294967296 by omega),r1]
 have opt:=(best_ok (pc:=kAk m) (kDv q x) (fun C hC=>cndS_srt H 0 C (by rw [List.drop_zero];exact hC)) ⟨#[]⟩).2
 by_cases h0:(q.getD []).length=0
 ·have e0:kDv q x=[]:=List.eq_nil_of_length_eq_zero (by simp [kDv,h0])
  rcases hw.1 (.inr h0) with ⟨g1,_⟩ | ⟨ws,W',g1,g2,g3⟩
  ·rw [e0] at g1;cases g1
  ·rw [g2,e0]
   rw [e0] at g1
   cases g1
   exact ⟨_,_,rfl,.inr ⟨0,[],rfl,rfl,by simpa using g3,rfl,rfl⟩⟩
 ·rcases hw.2 rfl (by omega) with ⟨g1,g2⟩ | ⟨r,g1,g2⟩ | ⟨r,ws,W',g1,g2,g3,g4⟩
  ·rw [g2]
   exact ⟨_,_,rfl,.inl ⟨g1,rfl,rfl⟩⟩
  ·obtain ⟨ws,k1,_⟩:=opt r g1
   rw [g2] at k1
   cases k1
  ·rw [g3]
   exact ⟨_,_,rfl,.inr ⟨r,ws,g1,g2,by simpa using g4,rfl,rfl⟩⟩
theorem before_total (a b:Fnd):∃ r,t_q85 a b=some r:=by
 unfold t_q85 kJq t_q78
 simp only [kA4]
 by_cases h1:wr (a.path+a.own)=wr (b.path+b.own)
 ·by_cases h2:(a.word.size:Int)=(b.word.size:Int)
  ·simp [h1,h2,kA4]
  ·simp [h1,h2,kA4]
 ·simp [h1,kA4]
theorem placeAll (F:Sl Fnd) (hF:(F.getD []).length≤4294967296) (c:Int) (a b:Entry):∀ k:Nat,k≤(F.getD []).length→∃ r:Nat,r≤(F.getD []).length∧kBg (s1_q84 F c a b) (k:Int)=some (r:Int)
 | 0,_=>⟨0,Nat.zero_le _,kC8 (by unfold s1_q84;rfl)⟩
 | k+1,hk=>by
  obtain ⟨f,hf⟩:∃ f,(F.getD [])[k]?=some f:=⟨_,List.getElem?_eq_getElem (by omega)⟩
  obtain ⟨r,hr⟩:=before_total (⟨a.word,c,b.cost⟩:Fnd) f
  have w:wr (((k+1:Nat):Int) - 1)=(k:Int):=by rw [kC9 (by omega) (by omega)];omega
  have cc:(0:Int)<((k+1:Nat):Int):=by omega
  cases r with
  | true =>
   obtain ⟨r,r1,r2⟩:=placeAll F hF c a b k (by omega)
   refine ⟨r,r1,?_⟩
   rw [kCx (s':=(k:Int))]
   ·exact r2
   ·unfold s1_q84
    simp only [cc,decide_true,cond_true,w,kAi hf,kA4,hr]
  | false =>
   refine ⟨k+1,hk,kC8 ?_⟩
   unfold s1_q84
   simp only [cc,decide_true,cond_true,w,kAi hf,kA4,hr,cond_false]
theorem subS_toO {A:Type} (s:Sl A) {t:Nat} (h2:t≤(s.getD []).length):∃ r,subS s none (some (t:Int))=some r∧r.getD []=(s.getD []).take t:=by
 have e1:idx (iv (t:Int)) ((s.getD []).length+1)=some t:=kHa (by omega)
 refine ⟨s.map fun k=>(k.take t).drop 0,?_,?_⟩
 ·unfold subS bndI
  simp only [e1,kA4]
 ·cases s <;> simp
theorem subS_fromO {A:Type} (s:Sl A) {f:Nat} (h2:f≤(s.getD []).length):∃ r,subS s (some (f:Int)) none=some r∧r.getD []=(s.getD []).drop f:=by
 have e2:idx (iv (f:Int)) ((s.getD []).length+1)=some f:=kHa (by omega)
 refine ⟨s.map fun k=>(k.take (s.getD []).length).drop f,?_,?_⟩
 ·unfold subS bndI
  simp only [e2,kA4]
 ·cases s <;> simp
theorem all_ok {x:Lexicon} {l:Lattice} (hx:lexB x=true) (hl:latB l=true) (hs:(l.edges.getD []).length≤4294967296) :
  ∃ F,t_q84 l x=some F∧(F.getD []).length≤60∧(∀ f∈F.getD [],(f.word,f.path+f.own)∈cndL x l∧0≤f.path∧f.path≤10000000∧0≤f.own∧f.own≤1000000)∧∀ p∈cndL x l,∃ f∈F.getD [],f.word=p.1∧f.path+f.own=p.2:=by
 have few:=ents_few hx
 obtain ⟨F,r1,r2,r3,r4⟩:=kCt (step:=s0_q84 l x) (s:=(some [],0))
  (fun i s=>∃ F,s=(F,(i:Int))∧(F.getD []).length≤i∧(∀ f∈F.getD [],(f.word,f.path+f.own)∈cndL x l∧0≤f.path∧f.path≤10000000∧0≤f.own∧f.own≤1000000)∧∀ p∈((x.entries.getD []).take i).filterMap (cndW l),∃ f∈F.getD [],f.word=p.1∧f.path+f.own=p.2) (x.entries.getD []).length
  (fun F=>(F.getD []).length≤(x.entries.getD []).length∧(∀ f∈F.getD [],(f.word,f.path+f.own)∈cndL x l∧0≤f.path∧f.path≤10000000∧0≤f.own∧f.own≤1000000)∧∀ p∈cndL x l,∃ f∈F.getD [],f.word=p.1∧f.path+f.own=p.2)
  (fun i s hi hinv=>by
   obtain ⟨F,rfl,g1,g2,g3⟩:=hinv
   obtain ⟨e,he⟩:∃ e,(x.entries.getD [])[i]?=some e:=⟨_,List.getElem?_eq_getElem hi⟩
   have hmem:=List.mem_of_getElem? he
   have cc:(i:Int)<(((x.entries.getD []).length:Nat):Int):=by omega
   obtain ⟨y,_,t1,t2⟩:=tc_both hx hl hs hmem
   have ec:=ent_cost hx hmem
   have tk:(x.entries.getD []).take (i+1)=(x.entries.getD []).take i++[e]:=by
    rw [List.take_add_one,he];rfl
   left
   rcases t2 with ⟨h1,h2⟩ | ⟨h1,h2,h3⟩
   ·refine ⟨(F,((i+1:Nat):Int)),?_,F,rfl,by omega,g2,fun p hp => ?_⟩
    ·unfold s0_q84
     simp only [cc,decide_true,cond_true,kAi he,kA4,t1,h2,kBw hi (show (x.entries.getD []).length≤4294967296 by omega)]
    ·have hc:cndW l e=none:=by unfold cndW;rw [h1];rfl
     rw [tk,List.filterMap_append] at hp
     simp only [List.filterMap_cons,hc,List.filterMap_nil,List.append_nil] at hp
     exact g3 p hp
   ·have hn:¬ y<0:=by omega
    obtain ⟨r,q1,q2⟩:=placeAll F (by omega) y e e (F.getD []).length (Nat.le_refl _)
    obtain ⟨A,a1,a2⟩:=subS_toO F q1
    obtain ⟨B,b1,b2⟩:=subS_fromO F q1
    have hc:cndW l e=some (e.word,y+e.cost):=by unfold cndW;rw [h1,decide_eq_true (by omega)];rfl
    have hall:(kBv (kBv (kBv (some ([]:List Fnd)) (A.getD [])) [(⟨e.word,y,e.cost⟩:Fnd)]) (B.getD [])).getD []=(F.getD []).take r++[(⟨e.word,y,e.cost⟩:Fnd)]++(F.getD []).drop r:=by
     rw [kCn,kCn,kCn,a2,b2]
     simp
    have hmemE:∀ f,f∈(F.getD []).take r++[(⟨e.word,y,e.cost⟩:Fnd)]++(F.getD []).drop r↔f∈F.getD []∨f=⟨e.word,y,e.cost⟩:=fun f=>by
     have:f∈F.getD []↔f∈(F.getD []).take r∨f∈(F.getD []).drop r:=by
      rw [← List.mem_append,List.take_append_drop]
     rw [this]
     simp only [List.mem_append,List.mem_singleton]
     constructor
     ·rintro ((h | h) | h)
      ·exact .inl (.inl h)
      ·exact .inr h
      ·exact .inl (.inr h)
     ·rintro ((h | h) | h)
      ·exact .inl (.inl h)
      ·exact .inr h
      ·exact .inl (.inr h)
    refine ⟨(kBv (kBv (kBv (some ([]:List Fnd)) (A.getD [])) [(⟨e.word,y,e.cost⟩:Fnd)]) (B.getD []),((i+1:Nat):Int)),?_,_,rfl,?_,fun f hf => ?_,fun p hp => ?_⟩
    ·have o1:appO (some ([]:List Fnd)) (A.getD [])=some (kBv (some ([]:List Fnd)) (A.getD [])):=kEt (by rw [a2];simp;omega)
     have o2:appO (kBv (some ([]:List Fnd)) (A.getD [])) ([(⟨e.word,y,e.cost⟩:Fnd)]:List Fnd)=some (kBv (kBv (some ([]:List Fnd)) (A.getD [])) [(⟨e.word,y,e.cost⟩:Fnd)]):=kEt (by rw [kCn,a2];simp;omega)
     have o3:appO (kBv (kBv (some ([]:List Fnd)) (A.getD [])) [(⟨e.word,y,e.cost⟩:Fnd)]) (B.getD [])=some (kBv (kBv (kBv (some ([]:List Fnd)) (A.getD [])) [(⟨e.word,y,e.cost⟩:Fnd)]) (B.getD [])):=kEt (by rw [kCn,kCn,a2,b2];simp;omega)
     unfold s0_q84
     simp only [cc,decide_true,cond_true,kAi he,kA4,t1,hn,decide_false,cond_false,q2,a1,o1,o2,b1,o3,kBw hi (show (x.entries.getD []).length≤4294967296 by omega)]
    ·rw [hall];simp;omega
    ·rw [hall,hmemE] at hf
     rcases hf with hf | rfl
     ·exact g2 f hf
     ·exact ⟨List.mem_filterMap.2 ⟨e,hmem,hc⟩,h2,h3,ec.1,ec.2⟩
    ·rw [tk,List.filterMap_append,List.mem_append] at hp
     rw [hall]
     rcases hp with hp | hp
     ·obtain ⟨f,f1,f2⟩:=g3 p hp
      exact ⟨f,(hmemE f).2 (.inl f1),f2⟩
     ·simp only [List.filterMap_cons,hc,List.filterMap_nil,List.mem_singleton] at hp
      subst hp
      exact ⟨_,(hmemE _).2 (.inr rfl),rfl,rfl⟩)
  (fun s hinv=>by
   obtain ⟨F,rfl,g1,g2,g3⟩:=hinv
   refine ⟨F,?_,g1,g2,fun p hp=>g3 p (by rw [List.take_length];exact hp)⟩
   unfold s0_q84
   simp only [Int.lt_irrefl,decide_false,cond_false])
  ⟨some [],rfl,Nat.le_refl _,fun f hf=>(by cases hf),fun p hp=>by simp at hp⟩
 refine ⟨F,?_,by omega,r3,r4⟩
 unfold t_q84
 rw [r1,kA4]
theorem less_ok (a b:Sl ByteArray) (h:(a.getD []).length=(b.getD []).length) (hl:(a.getD []).length≤4294967296):t_q93 a b=some (lexW (a.getD []) (b.getD [])):=by
 obtain ⟨r,h1,h2⟩:=kCt (step:=s0_q93 a b) (s:=0)
  (fun k s=>s=(k:Int)∧lexW ((a.getD []).drop k) ((b.getD []).drop k)=lexW (a.getD []) (b.getD [])) (a.getD []).length
  (fun r=>(match r with | .inl _=>false | .inr q=>q)=lexW (a.getD []) (b.getD []))
  (fun k s hk hi=>by
   obtain ⟨rfl,h1⟩:=hi
   obtain ⟨x,hx⟩:∃ x,(a.getD [])[k]?=some x:=⟨_,List.getElem?_eq_getElem hk⟩
   obtain ⟨y,hy⟩:∃ y,(b.getD [])[k]?=some y:=⟨_,List.getElem?_eq_getElem (by omega)⟩
   have cc:(k:Int)<(((a.getD []).length:Nat):Int):=by omega
   have da:(a.getD []).drop k=x::(a.getD []).drop (k+1):=by
    rw [List.drop_eq_getElem_cons hk];congr 1;rw [List.getElem?_eq_getElem hk] at hx;exact Option.some.inj hx
   have db:(b.getD []).drop k=y::(b.getD []).drop (k+1):=by
    rw [List.drop_eq_getElem_cons (by omega)];congr 1;rw [List.getElem?_eq_getElem (by omega)] at hy;exact Option.some.inj hy
   rw [da,db] at h1
   simp only [lexW] at h1
   by_cases e:x=y
   ·left
    rw [decide_eq_true e,cond_true] at h1
    refine ⟨((k+1:Nat):Int),?_,rfl,h1⟩
    unfold s0_q93
    simp only [cc,decide_true,cond_true,kAi hx,kAi hy,kA4,decide_eq_true e,Bool.not_true,cond_false,kBw hk hl]
   ·right
    rw [decide_eq_false e,cond_false] at h1
    refine ⟨.inr (ltS x y),?_,h1⟩
    unfold s0_q93
    simp only [cc,decide_true,cond_true,kAi hx,kAi hy,kA4,decide_eq_false e,Bool.not_false])
  (fun s hi=>by
   obtain ⟨rfl,h1⟩:=hi
   rw [List.drop_length,h,List.drop_length] at h1
   refine ⟨.inl (),?_,h1⟩
   unfold s0_q93
   simp only [Int.lt_irrefl,decide_false,cond_false])
  ⟨rfl,by rw [List.drop_zero,List.drop_zero]⟩
 unfold t_q93
 rw [h1,kA4,← h2]
 cases r <;> rfl
def betS (a b:Sentence):Bool:=decide (a.cost<b.cost) || (decide (a.cost=b.cost) && lexW (a.words.getD []) (b.words.getD []))
theorem betS_ok (a b:Sentence) (h:(a.words.getD []).length=(b.words.getD []).length) (hl:(a.words.getD []).length≤4294967296):t_q89 a b=some (betS a b):=by
 unfold t_q89 betS
 rw [less_ok _ _ h hl]
 by_cases h1:a.cost<b.cost
 ·simp [h1,kA4]
 ·by_cases h2:a.cost=b.cost
  ·simp [h2,kA4]
  ·simp [h1,h2,kA4]
theorem betS_true {a b:Sentence} (h:betS a b=true):leqS a.cost (a.words.getD []) b.cost (b.words.getD []):=by
 unfold betS at h
 simp only [Bool.or_eq_true,Bool.and_eq_true,decide_eq_true_eq] at h
 rcases h with h | ⟨h1,h2⟩
 ·exact .inl h
 ·refine .inr ⟨h1,?_⟩
  cases e:lexW (b.words.getD []) (a.words.getD []) with
  | false=>rfl
  | true =>
   exfalso
   have k:∀ a b:List ByteArray,lexW a b=true→lexW b a=true→False:=fun a=>by
    induction a with
    | nil=>intro b h;cases b <;> cases h
    | cons x r ih =>
     intro b h h'
     cases b with
     | nil=>cases h
     | cons y s =>
      simp only [lexW] at h h'
      by_cases e:x=y
      ·subst e
       simp only [decide_true,cond_true] at h h'
       exact ih s h h'
      ·have e':¬ y=x:=fun k=>e k.symm
       simp only [e,e',decide_false,cond_false] at h h'
       rw [kI9 h] at h'
       cases h'
   exact k _ _ h2 e
theorem betS_false {a b:Sentence} (h:betS a b=false):leqS b.cost (b.words.getD []) a.cost (a.words.getD []):=by
 unfold betS at h
 simp only [Bool.or_eq_false_iff,Bool.and_eq_false_iff,decide_eq_false_iff_not] at h
 obtain ⟨h1,h2⟩:=h
 by_cases e:a.cost=b.cost
 ·rcases h2 with h2 | h2
  ·exact absurd e h2
  ·exact .inr ⟨e.symm,h2⟩
 ·exact .inl (by omega)
structure BestS (pc:ByteArray→ByteArray→Int) (Cs:List kEq) (B:List Sentence):Prop where
 path:∀ s∈B,SPth pc Cs ⟨#[]⟩ (s.words.getD []) s.cost
 all:∀ ws c,SPth pc Cs ⟨#[]⟩ ws c→∃ s∈B,kG1 ⟨#[]⟩ (s.words.getD [])=kG1 ⟨#[]⟩ ws∧leqS s.cost (s.words.getD []) c ws
 few:B.length≤60
def extW (s:Sentence) (f:Fnd):List ByteArray:=s.words.getD []++[f.word]
def extC (pc:ByteArray→ByteArray→Int) (s:Sentence) (f:Fnd):Int:=s.cost+(f.path+f.own+pc (kG1 ⟨#[]⟩ (s.words.getD [])) f.word)
theorem extOne {m:Model} (hm:modB m=true) (hml:(m.bigrams.getD []).length≤4294967296) {B:Sl Sentence} {F:Sl Fnd} {n i:Nat} {f:Fnd} (hf:(F.getD [])[i]?=some f) (hp:0≤f.path∧f.path≤10000000∧0≤f.own∧f.own≤1000000) (hB:(B.getD []).length≤60) (hw:∀ s∈B.getD [],(s.words.getD []).length=n∧0≤s.cost∧s.cost≤100000000) (hn:n≤8) (h0:0<(B.getD []).length) :
  ∃ c W,kBg (kHx B m F (i:Int)) (0,none,0)=some (c,W)∧(∃ s∈B.getD [],W.getD []=extW s f∧c=extC (kAk m) s f)∧∀ s∈B.getD [],leqS c (W.getD []) (extC (kAk m) s f) (extW s f):=by
 obtain ⟨r,h1,h2⟩:=kCt (step:=kHx B m F (i:Int)) (s:=(0,none,0))
  (fun k s=>∃ c W,s=(c,W,(k:Int))∧((k=0∧c=0∧W=none)∨((∃ s∈B.getD [],W.getD []=extW s f∧c=extC (kAk m) s f)∧∀ j s,j<k→(B.getD [])[j]?=some s→leqS c (W.getD []) (extC (kAk m) s f) (extW s f)))) (B.getD []).length
  (fun r=>(∃ s∈B.getD [],r.2.getD []=extW s f∧r.1=extC (kAk m) s f)∧∀ s∈B.getD [],leqS r.1 (r.2.getD []) (extC (kAk m) s f) (extW s f))
  (fun k s hk hi=>by
   obtain ⟨c,W,rfl,hi⟩:=hi
   obtain ⟨b,hb⟩:∃ b,(B.getD [])[k]?=some b:=⟨_,List.getElem?_eq_getElem hk⟩
   have hmem:=List.mem_of_getElem? hb
   have cc:(k:Int)<(((B.getD []).length:Nat):Int):=by omega
   obtain ⟨wl,wc⟩:=hw b hmem
   have pb:=kIb hm (kG1 ⟨#[]⟩ (b.words.getD [])) f.word
   have o1:appO (some ([]:List ByteArray)) (b.words.getD [])=some (kBv (some ([]:List ByteArray)) (b.words.getD [])):=kEt (by simp;omega)
   have o2:appO (kBv (some ([]:List ByteArray)) (b.words.getD [])) ([f.word]:List ByteArray)=some (kBv (kBv (some ([]:List ByteArray)) (b.words.getD [])) [f.word]):=kEt (by rw [kCn];simp;omega)
   have eW:(kBv (kBv (some ([]:List ByteArray)) (b.words.getD [])) [f.word]).getD []=extW b f:=by rw [kCn,kCn];simp [extW]
   have sum:kJq f=some (f.path+f.own):=by unfold kJq;rw [kC9 (by omega) (by omega)]
   have w1:wr (wr (b.cost+(f.path+f.own))+kAk m (kG1 ⟨#[]⟩ (b.words.getD [])) f.word)=extC (kAk m) b f:=by
    rw [kC9 (n:=b.cost+(f.path+f.own)) (by omega) (by omega),kC9 (by omega) (by omega)]
    unfold extC
    omega
   obtain ⟨V,hV⟩:∃ V,V=kBv (kBv (some ([]:List ByteArray)) (b.words.getD [])) [f.word]:=⟨_,rfl⟩
   rw [← hV] at o2 eW
   obtain ⟨t,ht⟩:∃ t:Bool,t=if k=0 then true else betS ⟨V,extC (kAk m) b f⟩ ⟨W,c⟩:=⟨_,rfl⟩
   have hstep:kHx B m F (i:Int) (c,W,(k:Int))=some (.inl (if t=true then (extC (kAk m) b f,V,((k+1:Nat):Int)) else (c,W,((k+1:Nat):Int)))):=by
    have bet:k≠0→t_q89 ⟨V,extC (kAk m) b f⟩ ⟨W,c⟩=some t:=fun hk0=>by
     rw [ht,if_neg hk0]
     rcases hi with ⟨h,_⟩ | ⟨⟨s,hs,hsW,_⟩,_⟩
     ·exact absurd h hk0
     ·refine betS_ok _ _ ?_ ?_
      ·show (V.getD []).length=(W.getD []).length
       rw [eW,hsW]
       simp [extW,wl,(hw s hs).1]
      ·show (V.getD []).length≤_
       rw [eW]
       simp [extW]
       omega
    have dk:k=0→decide ((k:Int)=0)=true:=fun h=>decide_eq_true (by omega)
    have dk':k≠0→decide ((k:Int)=0)=false:=fun h=>decide_eq_false (by omega)
    have ws:=kBw hk (show (B.getD []).length≤4294967296 by omega)
    by_cases hlen:0<(b.words.getD []).length
    ·have c2:(0:Int)<(((b.words.getD []).length:Nat):Int):=by omega
     have w2:wr ((((b.words.getD []).length:Nat):Int) - 1)=(((b.words.getD []).length - 1:Nat):Int):=by rw [kC9 (by omega) (by omega)];omega
     have hlast:(b.words.getD [])[(b.words.getD []).length - 1]?=some (kG1 ⟨#[]⟩ (b.words.getD [])):=by
      unfold kG1
      rw [← List.getLast?_eq_getElem?]
      cases h:(b.words.getD []).getLast? with
      | none=>rw [List.getLast?_eq_none_iff] at h;rw [h] at hlen;simp at hlen
      | some z=>rfl
     unfold kHx
     simp only [cc,decide_true,cond_true,kAi hb,kA4,c2,w2,kAi hlast,o1,kAi hf,o2,sum,spair_ok hml,w1,← hV]
     by_cases hk0:k=0
     ·rw [dk hk0]
      rw [if_pos hk0] at ht
      subst ht
      simp only [cond_true,kA4,ws,if_true]
     ·rw [dk' hk0]
      simp only [cond_false,bet hk0,kA4,ws]
      cases t <;> simp
    ·have c2:¬ (0:Int)<(((b.words.getD []).length:Nat):Int):=by omega
     have hlast:kG1 ⟨#[]⟩ (b.words.getD [])=⟨#[]⟩:=by
      have:b.words.getD []=[]:=List.eq_nil_of_length_eq_zero (by omega)
      rw [this]
      rfl
     rw [hlast] at w1
     unfold kHx
     simp only [cc,decide_true,cond_true,kAi hb,kA4,c2,decide_false,cond_false,o1,kAi hf,o2,sum,spair_ok hml,w1,← hV]
     by_cases hk0:k=0
     ·rw [dk hk0]
      rw [if_pos hk0] at ht
      subst ht
      simp only [cond_true,kA4,ws,if_true]
     ·rw [dk' hk0]
      simp only [cond_false,bet hk0,kA4,ws]
      cases t <;> simp
   left
   refine ⟨_,hstep,?_⟩
   cases t with
   | true =>
    refine ⟨extC (kAk m) b f,V,rfl,.inr ⟨⟨b,hmem,eW,rfl⟩,fun j s hj hs => ?_⟩⟩
    by_cases ej:j=k
    ·subst ej
     rw [hb] at hs
     cases hs
     rw [eW]
     exact kHv _ _
    ·have hk0:k≠0:=by omega
     rw [if_neg hk0] at ht
     rcases hi with ⟨h,_⟩ | ⟨⟨s',hs',hsW,_⟩,hall⟩
     ·exact absurd h hk0
     ·have k1:=betS_true ht.symm
      have k2:=hall j s (by omega) hs
      exact kIa (by show (V.getD []).length=(W.getD []).length;rw [eW,hsW];simp [extW,wl,(hw s' hs').1]) (by rw [hsW];simp [extW,(hw s' hs').1,(hw s (List.mem_of_getElem? hs)).1]) k1 k2
   | false =>
    have hk0:k≠0:=fun h=>by rw [if_pos h] at ht;cases ht
    rw [if_neg hk0] at ht
    rcases hi with ⟨h,_⟩ | ⟨hex,hall⟩
    ·exact absurd h hk0
    ·refine ⟨c,W,rfl,.inr ⟨hex,fun j s hj hs => ?_⟩⟩
     by_cases ej:j=k
     ·subst ej
      rw [hb] at hs
      cases hs
      have k1:=betS_false ht.symm
      rw [← eW]
      exact k1
     ·exact hall j s (by omega) hs)
  (fun s hi=>by
   obtain ⟨c,W,rfl,hi⟩:=hi
   refine ⟨(c,W),?_,?_⟩
   ·unfold kHx
    simp only [Int.lt_irrefl,decide_false,cond_false]
   ·rcases hi with ⟨h,_⟩ | ⟨hex,hall⟩
    ·omega
    ·exact ⟨hex,fun s hs=>by
      obtain ⟨j,hj⟩:=List.mem_iff_getElem?.1 hs
      exact hall j s (kCv hj) hj⟩)
  ⟨0,none,rfl,.inl ⟨rfl,rfl,rfl⟩⟩
 exact ⟨r.1,r.2,h1,h2⟩
theorem BestS.words {m:Model} (hm:modB m=true) {Cs:List kEq} {B:List Sentence} (H:BestS (kAk m) Cs B) (hc:∀ C∈Cs,∀ p∈C,0≤p.2∧p.2≤11000000) (hn:Cs.length≤8):∀ s∈B,(s.words.getD []).length=Cs.length∧0≤s.cost∧s.cost≤100000000:=fun s hs=>by
 have h1:=H.path s hs
 have h2:=h1.bound (kIb hm) hc
 exact ⟨h1.len,by omega,by omega⟩
theorem next_ok {x:Lexicon} {m:Model} {l:Lattice} (hx:lexB x=true) (hm:modB m=true) (hml:(m.bigrams.getD []).length≤4294967296) (hl:latB l=true) (hs:(l.edges.getD []).length≤4294967296) {Cs:List kEq} {B:Sl Sentence} (H:BestS (kAk m) Cs (B.getD [])) (hc:∀ C∈Cs,∀ p∈C,0≤p.2∧p.2≤11000000) (hn:Cs.length≤8) :
  ∃ B',t_q94 B l x m=some B'∧BestS (kAk m) (Cs++[cndL x l]) (B'.getD []):=by
 obtain ⟨F,f1,f2,f3,f4⟩:=all_ok hx hl hs
 have hw:=H.words hm hc hn
 obtain ⟨O,r1,r2,r3,r4⟩:=kCt (step:=s0_q94 B m F) (s:=(some [],0))
  (fun i s=>∃ O,s=(O,(i:Int))∧(O.getD []).length≤i∧(∀ s∈O.getD [],∃ f∈F.getD [],∃ b∈B.getD [],s.words.getD []=extW b f∧s.cost=extC (kAk m) b f)∧∀ j f,j<i→(F.getD [])[j]?=some f→0<(B.getD []).length→∃ s∈O.getD [],kG1 ⟨#[]⟩ (s.words.getD [])=f.word∧∀ b∈B.getD [],leqS s.cost (s.words.getD []) (extC (kAk m) b f) (extW b f)) (F.getD []).length
  (fun O=>(O.getD []).length≤(F.getD []).length∧(∀ s∈O.getD [],∃ f∈F.getD [],∃ b∈B.getD [],s.words.getD []=extW b f∧s.cost=extC (kAk m) b f)∧∀ f∈F.getD [],0<(B.getD []).length→∃ s∈O.getD [],kG1 ⟨#[]⟩ (s.words.getD [])=f.word∧∀ b∈B.getD [],leqS s.cost (s.words.getD []) (extC (kAk m) b f) (extW b f))
  (fun i s hi hinv=>by
   obtain ⟨O,rfl,g1,g2,g3⟩:=hinv
   obtain ⟨f,hf⟩:∃ f,(F.getD [])[i]?=some f:=⟨_,List.getElem?_eq_getElem hi⟩
   have hfm:=List.mem_of_getElem? hf
   have cc:(i:Int)<(((F.getD []).length:Nat):Int):=by omega
   left
   by_cases h0:0<(B.getD []).length
   ·obtain ⟨c,W,q1,q2,q3⟩:=extOne hm hml (B:=B) hf (f3 f hfm).2 H.few hw hn h0
    have c2:(0:Int)<(((B.getD []).length:Nat):Int):=by omega
    have ap:appO O ([(⟨W,c⟩:Sentence)]:List Sentence)=some (kBv O [(⟨W,c⟩:Sentence)]):=kEt (by simp;omega)
    refine ⟨(kBv O [(⟨W,c⟩:Sentence)],((i+1:Nat):Int)),?_,_,rfl,by rw [kCn];simp;omega,fun s hs => ?_,fun j f' hj hf' _ => ?_⟩
    ·unfold s0_q94
     simp only [cc,decide_true,cond_true,q1,kA4,c2,ap,kBw hi (show (F.getD []).length≤4294967296 by omega)]
    ·rw [kCn,List.mem_append,List.mem_singleton] at hs
     rcases hs with hs | rfl
     ·exact g2 s hs
     ·obtain ⟨b,hb,e1,e2⟩:=q2
      exact ⟨f,hfm,b,hb,e1,e2⟩
    ·rw [kCn]
     by_cases ej:j=i
     ·subst ej
      rw [hf] at hf'
      cases hf'
      obtain ⟨b,hb,e1,e2⟩:=q2
      refine ⟨⟨W,c⟩,by simp,?_,q3⟩
      show kG1 _ (W.getD [])=_
      rw [e1]
      exact lastW_snoc _ _ _
     ·obtain ⟨s,k1,k2⟩:=g3 j f' (by omega) hf' h0
      exact ⟨s,by simp [k1],k2⟩
   ·have c2:¬ (0:Int)<(((B.getD []).length:Nat):Int):=by omega
    have z:(B.getD []).length=0:=by omega
    refine ⟨(O,((i+1:Nat):Int)),?_,O,rfl,by omega,g2,fun j f' hj hf' h=>absurd h h0⟩
    have run:kBg (kHx B m F (i:Int)) (0,none,0)=some (0,none):=kC8 (by
     unfold kHx
     simp only [z]
     rfl)
    unfold s0_q94
    simp only [cc,decide_true,cond_true,run,kA4,c2,decide_false,cond_false,kBw hi (show (F.getD []).length≤4294967296 by omega)])
  (fun s hinv=>by
   obtain ⟨O,rfl,g1,g2,g3⟩:=hinv
   refine ⟨O,?_,g1,g2,fun f hf h => ?_⟩
   ·unfold s0_q94
    simp only [Int.lt_irrefl,decide_false,cond_false]
   ·obtain ⟨j,hj⟩:=List.mem_iff_getElem?.1 hf
    exact g3 j f (kCv hj) hj h)
  ⟨some [],rfl,Nat.le_refl _,fun s hs=>(by cases hs),fun j f hj=>by omega⟩
 refine ⟨O,?_,fun s hs => ?_,fun ws c h => ?_,by omega⟩
 ·unfold t_q94
  rw [f1,kA4,r1,kA4]
 ·obtain ⟨f,hf,b,hb,e1,e2⟩:=r3 s hs
  rw [e1,e2]
  exact (H.path b hb).snoc (f3 f hf).1
 ·obtain ⟨w,cw,ws',c',h1,h2,rfl,rfl⟩:=h.unsnoc
  obtain ⟨b,hb,e1,e2⟩:=H.all ws' c' h2
  obtain ⟨f,hf,e3,e4⟩:=f4 (w,cw) h1
  simp only at e3 e4
  obtain ⟨s,hs,k1,k2⟩:=r4 f hf (List.length_pos_of_mem hb)
  refine ⟨s,hs,by rw [k1,lastW_snoc,e3],?_⟩
  obtain ⟨f',_,b',hb',e5,_⟩:=r3 s hs
  have lb:=(H.path b hb).len
  have lw:=h2.len
  refine kIa (b:=extW b f) ?_ ?_ (k2 b hb) ?_
  ·rw [e5];simp [extW,(hw b' hb').1,lb]
  ·simp [extW,lb,lw]
  ·unfold extC extW
   rw [e1,e3,e4]
   rcases e2 with e2 | ⟨e2,e6⟩
   ·exact .inl (by omega)
   ·exact .inr ⟨by omega,by rw [lexW_snoc _ _ _ (by rw [lb,lw])];exact e6⟩
theorem specLoop {q:Sl Lattice} {x:Lexicon} {m:Model} (H:SentOK q x m):∃ B,kBg (s0_q72 q x m) (some [(⟨some [],0⟩:Sentence)],0)=some B∧BestS (kAk m) (kDv q x) (B.getD []):=by
 have few:=H.few
 exact kCt (step:=s0_q72 q x m) (s:=(some [(⟨some [],0⟩:Sentence)],0))
  (fun k s=>∃ B,s=(B,(k:Int))∧BestS (kAk m) ((kDv q x).take k) (B.getD [])) (q.getD []).length
  (fun B=>BestS (kAk m) (kDv q x) (B.getD []))
  (fun k s hk hi=>by
   obtain ⟨B,rfl,hB⟩:=hi
   obtain ⟨l,hl⟩:∃ l,(q.getD [])[k]?=some l:=⟨_,List.getElem?_eq_getElem hk⟩
   have cc:(k:Int)<(((q.getD []).length:Nat):Int):=by omega
   obtain ⟨vl,el⟩:=H.hq l (List.mem_of_getElem? hl)
   obtain ⟨B',b1,b2⟩:=next_ok H.hx H.hm H.hml vl el hB (fun C hC=>cndS_bound H 0 C (by rw [List.drop_zero];exact List.mem_of_mem_take hC)) (by rw [List.length_take];simp [kDv];omega)
   left
   refine ⟨(B',((k+1:Nat):Int)),?_,B',rfl,?_⟩
   ·unfold s0_q72
    simp only [cc,decide_true,cond_true,kAi hl,kA4,b1,kBw hk (show (q.getD []).length≤4294967296 by omega)]
   ·have:(kDv q x).take (k+1)=(kDv q x).take k++[cndL x l]:=by
     rw [List.take_add_one]
     congr 1
     simp [kDv,hl]
    rw [this]
    exact b2)
  (fun s hi=>by
   obtain ⟨B,rfl,hB⟩:=hi
   refine ⟨B,?_,?_⟩
   ·unfold s0_q72
    simp only [Int.lt_irrefl,decide_false,cond_false]
   ·rw [List.take_of_length_le (by simp [kDv])] at hB
    exact hB)
  ⟨_,rfl,by rw [List.take_zero];exact ⟨fun s hs=>by
    have:s=⟨some [],0⟩:=by simpa using hs
    subst this
    exact .nil,fun ws c h=>by
    cases h
    exact ⟨_,by simp;rfl,rfl,kHv _ _⟩,by simp⟩⟩
theorem bestLoop {B:Sl Sentence} {n:Nat} (hw:∀ s∈B.getD [],(s.words.getD []).length=n) (hn:n≤8) (hl:(B.getD []).length≤60) {b:Sentence} (hb:(B.getD [])[0]?=some b) :
  ∃ s,kBg (s1_q72 B) (b,b.cost,1)=some (s,s.cost)∧s∈B.getD []∧∀ t∈B.getD [],leqS s.cost (s.words.getD []) t.cost (t.words.getD []):=by
 obtain ⟨r,h1,s,rfl,h2,h3⟩:=kCt (step:=s1_q72 B) (s:=(b,b.cost,1))
  (fun k st=>∃ s,st=(s,s.cost,((k+1:Nat):Int))∧s∈B.getD []∧∀ j t,j<k+1→(B.getD [])[j]?=some t→leqS s.cost (s.words.getD []) t.cost (t.words.getD [])) ((B.getD []).length - 1)
  (fun r=>∃ s,r=(s,s.cost)∧s∈B.getD []∧∀ t∈B.getD [],leqS s.cost (s.words.getD []) t.cost (t.words.getD []))
  (fun k st hk hi=>by
   obtain ⟨s,rfl,g1,g2⟩:=hi
   have hlt:k+1<(B.getD []).length:=by omega
   obtain ⟨a,ha⟩:∃ a,(B.getD [])[k+1]?=some a:=⟨_,List.getElem?_eq_getElem hlt⟩
   have cc:((k+1:Nat):Int)<(((B.getD []).length:Nat):Int):=by omega
   have bt:=betS_ok a ⟨s.words,s.cost⟩ (by show _=(s.words.getD []).length;rw [hw a (List.mem_of_getElem? ha),hw s g1]) (by rw [hw a (List.mem_of_getElem? ha)];omega)
   left
   cases t:betS a ⟨s.words,s.cost⟩ with
   | true =>
    rw [t] at bt
    refine ⟨(a,a.cost,((k+1+1:Nat):Int)),?_,a,rfl,List.mem_of_getElem? ha,fun j u hj hu => ?_⟩
    ·unfold s1_q72
     simp only [cc,decide_true,cond_true,kAi ha,kA4,bt,kBw hlt (show (B.getD []).length≤4294967296 by omega)]
    ·by_cases ej:j=k+1
     ·subst ej
      rw [ha] at hu
      cases hu
      exact kHv _ _
     ·exact kIa (by rw [hw a (List.mem_of_getElem? ha)];exact (hw s g1).symm) (by rw [hw s g1,hw u (List.mem_of_getElem? hu)]) (betS_true t) (g2 j u (by omega) hu)
   | false =>
    rw [t] at bt
    refine ⟨(s,s.cost,((k+1+1:Nat):Int)),?_,s,rfl,g1,fun j u hj hu => ?_⟩
    ·unfold s1_q72
     simp only [cc,decide_true,cond_true,kAi ha,kA4,bt,cond_false,kBw hlt (show (B.getD []).length≤4294967296 by omega)]
    ·by_cases ej:j=k+1
     ·subst ej
      rw [ha] at hu
      cases hu
      exact betS_false t
     ·exact g2 j u (by omega) hu)
  (fun st hi=>by
   obtain ⟨s,rfl,g1,g2⟩:=hi
   have hp:=kCv hb
   have e:(B.getD []).length - 1+1=(B.getD []).length:=by omega
   rw [e] at g2 ⊢
   refine ⟨(s,s.cost),?_,s,rfl,g1,fun t ht => ?_⟩
   ·unfold s1_q72
    simp only [Int.lt_irrefl,decide_false,cond_false]
   ·obtain ⟨j,hj⟩:=List.mem_iff_getElem?.1 ht
    exact g2 j t (kCv hj) hj)
  ⟨b,rfl,List.mem_of_getElem? hb,fun j t hj ht=>by
   have:j=0:=by omega
   subst this
   rw [hb] at ht
   cases ht
   exact kHv _ _⟩
 exact ⟨s,h1,h2,h3⟩
theorem specFind_ok {q:Sl Lattice} {x:Lexicon} {m:Model} (H:SentOK q x m) (hc:t_q91 q x m=some 0):∃ s code,t_q72 q x m=some (s,code) ∧
  ((rstW (kAk m) (kDv q x) ⟨#[]⟩=none∧s=⟨none,0⟩∧code=3)∨∃ r ws,rstW (kAk m) (kDv q x) ⟨#[]⟩=some r∧wlkW (kAk m) (kDv q x) ⟨#[]⟩=some ws∧s.words.getD []=ws∧s.cost=r∧code=0):=by
 have few:=H.few
 obtain ⟨B,r1,hB⟩:=specLoop H
 have opt:=best_ok (pc:=kAk m) (kDv q x) (fun C hC=>cndS_srt H 0 C (by rw [List.drop_zero];exact hC)) ⟨#[]⟩
 have hn:(kDv q x).length≤8:=by simp [kDv];exact few
 have hbd:∀ C∈kDv q x,∀ p∈C,0≤p.2∧p.2≤11000000:=fun C hC=>cndS_bound H 0 C (by rw [List.drop_zero];exact hC)
 have hw:=hB.words H.hm hbd hn
 unfold t_q72
 simp only [hc,kA4,decide_true,Bool.not_true,cond_false,r1]
 by_cases h0:(B.getD []).length=0
 ·have d:decide ((((B.getD []).length:Nat):Int)=0)=true:=decide_eq_true (by omega)
  rw [d]
  refine ⟨_,_,rfl,.inl ⟨?_,rfl,rfl⟩⟩
  cases hr:rstW (kAk m) (kDv q x) ⟨#[]⟩ with
  | none=>rfl
  | some r =>
   obtain ⟨ws,_,k2,_⟩:=opt.2 r hr
   obtain ⟨s,hs,_⟩:=hB.all ws r k2
   rw [List.eq_nil_of_length_eq_zero h0] at hs
   cases hs
 ·have d:decide ((((B.getD []).length:Nat):Int)=0)=false:=decide_eq_false (by omega)
  obtain ⟨b,hb⟩:∃ b,(B.getD [])[0]?=some b:=⟨_,List.getElem?_eq_getElem (by omega)⟩
  obtain ⟨s,k1,k2,k3⟩:=bestLoop (fun s hs=>(hw s hs).1) hn hB.few hb
  have gb:kC7 (B.getD []) 0=some b:=kAi (m:=0) hb
  rw [d]
  simp only [cond_false,gb,kA4,k1]
  refine ⟨_,_,rfl,.inr ?_⟩
  have ps:=hB.path s k2
  cases hr:rstW (kAk m) (kDv q x) ⟨#[]⟩ with
  | none=>exact (opt.1 hr _ _ ps).elim
  | some r =>
   obtain ⟨ws,g1,g2,g3⟩:=opt.2 r hr
   obtain ⟨t,ht,_,k4⟩:=hB.all ws r g2
   have l1:=ps.len
   have l2:=g2.len
   have l3:=(hB.path t ht).len
   have k5:=kIa (by rw [l1,l3]) (by rw [l3,l2]) (k3 t ht) k4
   obtain ⟨e1,e2⟩:=leqS_anti (by rw [l1,l2]) k5 (g3 _ _ ps)
   exact ⟨r,ws,rfl,g1,e2,e1,rfl⟩
theorem mkSt_get:∀ (n k i:Nat),i<n→(mkSt k n)[i]?=some (kBr (k+i))
 | 0,_,_,h=>by omega
 | n+1,k,0,_=>by simp [mkSt]
 | n+1,k,i+1,h=>by
  have:=mkSt_get n (k+1) i (by omega)
  simp only [mkSt,List.getElem?_cons_succ,this]
  have e:k+1+i=k+(i+1):=by omega
  rw [e]
theorem heldSt_ok {s:Sl ByteArray} {n:Nat} (hs:s.getD []=mkSt 1 n) (hn:n≤2000000):t_q39 s 1=some (1+(n:Int)):=by
 have lp:=loopT_at (step:=s0_q39 s) n (fun k=>(((1+k:Nat):Int),(k:Int))) (.inl ((1+n:Nat):Int))
  (fun k hk=>by
   have c:(k:Int)<(((mkSt 1 n).length:Nat):Int):=by rw [mkSt_len];omega
   have ws:=kBw hk (by omega)
   have w1:wr (((1+k:Nat):Int)+1)=((1+(k+1):Nat):Int):=by rw [kC9 (by omega) (by omega)];omega
   unfold s0_q39
   simp only [hs,c,decide_true,cond_true,kAi (mkSt_get n 1 k hk),kA4,Bool.not_true,cond_false,ws,w1,markText_ok (show 1+k≤100000000 by omega)])
  (by
   have c:¬ (n:Int)<(((mkSt 1 n).length:Nat):Int):=by rw [mkSt_len];omega
   unfold s0_q39
   simp only [hs,c,decide_false,cond_false])
  0 (Nat.zero_le _)
 have lp':kBg (s0_q39 s) (1,0)=some (.inl ((1+n:Nat):Int)):=lp
 have e:((1+n:Nat):Int)=1+(n:Int):=by omega
 unfold t_q39
 rw [lp',kA4,e]
theorem markSent_ok (s:Sl ByteArray) (d:Int) (hl:(s.getD []).length≤1000):∃ v:Sl ByteArray,t_q47 s 1=some (1+(((s.getD []).length:Nat):Int),v)∧t_q38 ⟨v,d⟩ 1=some (1+(((s.getD []).length:Nat):Int)):=by
 refine ⟨s.map fun l=>mkSt 1 l.length,?_,?_⟩
 ·unfold t_q47
  have d2:decide (1+1*(((s.getD []).length:Nat):Int)≤100000000)=true:=decide_eq_true (by omega)
  rw [d2,show 1*(((s.getD []).length:Nat):Int)=(((s.getD []).length:Nat):Int) by omega]
  rfl
 ·have g:(s.map fun l=>mkSt 1 l.length).getD []=mkSt 1 (s.getD []).length:=by cases s <;> rfl
  have h:=heldSt_ok g (by omega)
  have d:decide (1+(((s.getD []).length:Nat):Int)<0)=false:=decide_eq_false (by omega)
  unfold t_q38
  simp only [h,kA4,d,cond_false]
def kHk (l:List Lattice):Nat:=(l.map fun a=>1+4*(a.edges.getD []).length).sum
theorem mkLL_ok:∀ (l:List Lattice) (k:Nat),k+kHk l≤100000000→∃ l',mkLL l (k:Int)=some (((k+kHk l:Nat):Int),l')
 | [],k,_=>⟨[],rfl⟩
 | a::l,k,h=>by
  have e:kHk (a::l)=(1+4*(a.edges.getD []).length)+kHk l:=by simp [kHk]
  rw [e] at h
  have w:wr ((k:Int)+1)=((k+1:Nat):Int):=by rw [kC9 (by omega) (by omega)];omega
  have m1:t_q41 a.edges ((k+1:Nat):Int)=some (((k+1+4*(a.edges.getD []).length:Nat):Int),a.edges.map fun l=>mkEd (k+1) l.length):=by
   unfold t_q41
   have d1:decide ((0:Int)≤((k+1:Nat):Int))=true:=decide_eq_true (by omega)
   have e3:((k+1:Nat):Int)+4*(((a.edges.getD []).length:Nat):Int)=((k+1+4*(a.edges.getD []).length:Nat):Int):=by omega
   have d2:decide (((k+1+4*(a.edges.getD []).length:Nat):Int)≤100000000)=true:=decide_eq_true (by omega)
   rw [d1,e3,d2]
   rfl
  obtain ⟨l',h'⟩:=mkLL_ok l (k+1+4*(a.edges.getD []).length) (by omega)
  refine ⟨⟨(k:Int),a.edges.map fun l=>mkEd (k+1) l.length⟩::l',?_⟩
  unfold mkLL
  rw [w,m1,kA4,h',kA4,e,show k+1+4*(a.edges.getD []).length+kHk l=k+(1+4*(a.edges.getD []).length+kHk l) by omega]
theorem marksLL_ok (s:Sl Lattice) (hl:(s.getD []).length≤4294967296) (ht:kHk (s.getD [])≤50000000):∃ (r:Nat) (v:Sl Lattice),t_q43 s 1=some ((r:Int),v)∧r≤1+kHk (s.getD []):=by
 unfold t_q43
 rw [decide_eq_true hl,cond_true]
 cases s with
 | none=>exact ⟨1,none,rfl,by omega⟩
 | some l =>
  obtain ⟨l',h⟩:=mkLL_ok l 1 (by simp only [Option.getD_some] at ht;omega)
  have h':mkLL l 1=some (((1+kHk l:Nat):Int),l'):=h
  refine ⟨1+kHk l,some l',?_,by simp⟩
  show kA0 (mkLL l 1) _=_
  rw [h',kA4]
theorem marksEnt_ok (s:Sl Entry) (k:Nat) (h:k+2*(s.getD []).length≤100000000):∃ v:Sl Entry,t_q42 s (k:Int)=some (((k+2*(s.getD []).length:Nat):Int),v):=by
 refine ⟨s.map fun l=>mkEn k l.length,?_⟩
 unfold t_q42
 have d1:decide ((0:Int)≤(k:Int))=true:=decide_eq_true (by omega)
 have e3:(k:Int)+2*(((s.getD []).length:Nat):Int)=((k+2*(s.getD []).length:Nat):Int):=by omega
 have d2:decide (((k+2*(s.getD []).length:Nat):Int)≤100000000)=true:=decide_eq_true (by omega)
 rw [d1,e3,d2]
 rfl
theorem marksBig_ok (s:Sl Bigram) (k:Nat) (h:k+3*(s.getD []).length≤100000000):∃ v:Sl Bigram,t_q40 s (k:Int)=some (((k+3*(s.getD []).length:Nat):Int),v):=by
 refine ⟨s.map fun l=>mkBg k l.length,?_⟩
 unfold t_q40
 have d1:decide ((0:Int)≤(k:Int))=true:=decide_eq_true (by omega)
 have e3:(k:Int)+3*(((s.getD []).length:Nat):Int)=((k+3*(s.getD []).length:Nat):Int):=by omega
 have d2:decide (((k+3*(s.getD []).length:Nat):Int)≤100000000)=true:=decide_eq_true (by omega)
 rw [d1,e3,d2]
 rfl
theorem find_both {q:Sl Lattice} {x:Lexicon} {m:Model} (hq:smallLats q) (hx:kHz x) (hm:kHr m) :
  ∃ s t code,t_q5 q x m=some (s,code)∧t_q72 q x m=some (t,code)∧s.words.getD []=t.words.getD []∧s.cost=t.cost∧(s.words.getD []).length≤8:=by
 have c1:=sentenced_ok hq hx hm
 have c2:=specCode_ok hq hx hm
 by_cases h0:kB1 q x m=0
 ·obtain ⟨b1,b2,b3,b4⟩:=code_zero h0
  rw [h0] at c1 c2
  have H:SentOK q x m:=⟨b1,b2,fun l hl=>⟨b3 l hl,hq.2 l hl⟩,b4,hm.1⟩
  obtain ⟨s,code,e1,e2⟩:=implFind_ok H c1
  obtain ⟨t,code',f1,f2⟩:=specFind_ok H c2
  have opt:=best_ok (pc:=kAk m) (kDv q x) (fun C hC=>cndS_srt H 0 C (by rw [List.drop_zero];exact hC)) ⟨#[]⟩
  rcases e2 with ⟨g1,rfl,rfl⟩ | ⟨r,ws,g1,g2,g3,g4,rfl⟩ <;> rcases f2 with ⟨k1,rfl,rfl⟩ | ⟨r',ws',k1,k2,k3,k4,rfl⟩
  ·exact ⟨_,_,_,e1,f1,rfl,rfl,by decide⟩
  ·rw [g1] at k1;cases k1
  ·rw [g1] at k1;cases k1
  ·rw [g1] at k1
   rw [g2] at k2
   cases k1
   cases k2
   refine ⟨s,t,0,e1,f1,by rw [g3,k3],by rw [g4,k4],?_⟩
   obtain ⟨ws2,j1,j2,_⟩:=opt.2 r g1
   rw [g2] at j1
   cases j1
   rw [g3,j2.len]
   simp [kDv]
   exact b4
 ·have e:decide (kB1 q x m=0)=false:=decide_eq_false h0
  refine ⟨⟨none,0⟩,⟨none,0⟩,kB1 q x m,?_,?_,rfl,rfl,by decide⟩
  ·unfold t_q5
   simp only [c1,kA4,e,Bool.not_false,cond_true]
  ·unfold t_q72
   simp only [c2,kA4,e,Bool.not_false,cond_true]
theorem kGj (a:Sl Lattice) (x:Lexicon) (m:Model) (ha:Wt.big a=true) (hx:Wt.big x=true) (hm:Wt.big m=true):t_q25 a x m=some true:=by
 have bx:Wt.big x.entries=true:=hx
 have bm:Wt.big m.bigrams=true:=hm
 have Z1:=szLatticeS_ok (s:=a) (big_len ha) (fun l hl=>by
  have b:Wt.big l.edges=true:=big_mem ha hl
  exact ⟨big_len b,fun e he=>of_decide_eq_true (p:=e.label.size≤maxLen) (big_mem b he)⟩) 1048576 (by omega) (by omega)
 have Z2:=szLexicon_ok (l:=x) (big_len bx) (fun e he=>of_decide_eq_true (p:=e.word.size≤maxLen) (big_mem bx he))
 have Z3:=szModel_ok (l:=m) (big_len bm) (fun e he=>by
  have h:(decide (e.first.size≤maxLen) && decide (e.second.size≤maxLen))=true:=big_mem bm he
  rw [Bool.and_eq_true] at h
  exact ⟨of_decide_eq_true h.1,of_decide_eq_true h.2⟩)
 have neg:decide ((-1:Int)<0)=true:=rfl
 unfold t_q25
 rcases Z1 with z1 | ⟨k1,z1⟩
 ·rw [z1,kA4,neg,cond_true]
 rw [z1,kA4,decide_eq_false (by omega),cond_false]
 rcases Z2 (1048576 - ((wtS wtLat a:Nat):Int)) (by omega) (by omega) with z2 | ⟨k2,z2⟩
 ·rw [z2,kA4,neg,cond_true]
 rw [z2,kA4,decide_eq_false (by omega),cond_false]
 rcases Z3 (1048576 - ((wtS wtLat a:Nat):Int) - ((wtLex x:Nat):Int)) (by omega) (by omega) with z3 | ⟨k3,z3⟩
 ·rw [z3,kA4,neg,cond_true]
 rw [z3,kA4,decide_eq_false (by omega),cond_false]
 have la:(a.getD []).length≤1048576:=by
  have:=mem_len (wt:=wtLat) a
  omega
 have ea:∀ l∈a.getD [],(l.edges.getD []).length≤1048576:=fun l hl=>by
  have h1:wtLat l≤wtS wtLat a:=wt_mem hl
  have h2:=mem_len (wt:=fun e:Edg=>e.label.size) l.edges
  have h3:wtLat l=wtS (fun e:Edg=>e.label.size) l.edges:=rfl
  omega
 have lx:(x.entries.getD []).length≤1048576:=by
  have:=mem_len (wt:=fun e:Entry=>e.word.size) x.entries
  unfold wtLex at k2
  omega
 have ex:∀ e∈x.entries.getD [],e.word.size≤1048576:=fun e he=>by
  have:e.word.size≤wtS (fun e:Entry=>e.word.size) x.entries:=wt_mem (wt:=fun e:Entry=>e.word.size) he
  unfold wtLex at k2
  omega
 have lm:(m.bigrams.getD []).length≤1048576:=by
  have:=mem_len (wt:=fun e:Bigram=>e.first.size+e.second.size) m.bigrams
  unfold wtMod at k3
  omega
 have em:∀ e∈m.bigrams.getD [],e.first.size≤1048576∧e.second.size≤1048576:=fun e he=>by
  have:e.first.size+e.second.size≤wtS (fun e:Bigram=>e.first.size+e.second.size) m.bigrams:=wt_mem (wt:=fun e:Bigram=>e.first.size+e.second.size) he
  unfold wtMod at k3
  omega
 have T1:=toLatticeS_ok a (by omega) (fun l hl=>by have:=ea l hl;omega)
 have T2:=toLexicon_ok x (by omega)
 have T3:=toModel_ok m (by omega)
 have own:∀ l∈(a.getD []).map kEx,(l.edges.getD []).length≤4294967296:=fun l hl=>by
  obtain ⟨l',h1,rfl⟩:=List.mem_map.1 hl
  have:=ea l' h1
  show (l'.edges.getD []).length≤_
  omega
 have Q1:=eqLatticeS_ok (a:=some ((a.getD []).map kEx)) (b:=some ((a.getD []).map kEx)) rfl (by show ((a.getD []).map kEx).length≤_;rw [List.length_map];omega) own
 have Q2:=eqLexicon_ok ⟨some (x.entries.getD [])⟩ (by show (x.entries.getD []).length≤_;omega)
 have Q3:=eqModel_ok ⟨m.default,some (m.bigrams.getD [])⟩ (by show (m.bigrams.getD []).length≤_;omega)
 have tot:kHk ((a.getD []).map kEx)≤5*1048576:=by
  have h:∀ l:List Lattice,kHk (l.map kEx)≤5*(l.length+(l.map wtLat).sum):=fun l=>by
   induction l with
   | nil=>exact Nat.zero_le _
   | cons y r ih =>
    have h2:=mem_len (wt:=fun e:Edg=>e.label.size) y.edges
    have h3:wtLat y=wtS (fun e:Edg=>e.label.size) y.edges:=rfl
    have e1:kHk ((y::r).map kEx)=(1+4*(y.edges.getD []).length)+kHk (r.map kEx):=by simp [kHk,kEx]
    rw [e1,List.map_cons,List.sum_cons,List.length_cons]
    omega
  have h2:=h (a.getD [])
  have h3:wtS wtLat a=(a.getD []).length+((a.getD []).map wtLat).sum:=rfl
  omega
 obtain ⟨n1,v1,M1,b1⟩:=marksLL_ok (some ((a.getD []).map kEx)) (by show ((a.getD []).map kEx).length≤_;rw [List.length_map];omega) (by show kHk ((a.getD []).map kEx)≤_;omega)
 have b1':n1≤1+5*1048576:=Nat.le_trans b1 (by show 1+kHk ((a.getD []).map kEx)≤_;omega)
 obtain ⟨v2,M2⟩:=marksEnt_ok (some (x.entries.getD [])) n1 (by show n1+2*(x.entries.getD []).length≤_;omega)
 obtain ⟨v3,M3⟩:=marksBig_ok (some (m.bigrams.getD [])) (n1+2*((some (x.entries.getD []):Sl Entry).getD []).length) (by show n1+2*(x.entries.getD []).length+3*(m.bigrams.getD []).length≤_;omega)
 obtain ⟨s,t,code,r1,r2,r3,r4,r5⟩:=find_both (q:=some ((a.getD []).map kEx)) (x:=⟨some (x.entries.getD [])⟩) (m:=⟨m.default,some (m.bigrams.getD [])⟩) ⟨by show ((a.getD []).map kEx).length≤_;rw [List.length_map];omega,own⟩ ⟨by show (x.entries.getD []).length≤_;omega,fun e he=>by have:=ex e he;omega⟩ ⟨by show (m.bigrams.getD []).length≤_;omega,fun e he=>by have:=em e he;omega⟩
 have E1:t_q36 s t=some true:=by
  unfold t_q36
  rw [eqStringS_ok r3 (by omega),kA4,r4,decide_eq_true rfl]
  rfl
 obtain ⟨v4,M4,H4⟩:=markSent_ok s.words s.cost (by omega)
 have z3:decide ((((n1+2*((some (x.entries.getD []):Sl Entry).getD []).length+3*((some (m.bigrams.getD []):Sl Bigram).getD []).length:Nat):Int))<0)=false:=decide_eq_false (by omega)
 have z4:decide (1+(((s.words.getD []).length:Nat):Int)<0)=false:=decide_eq_false (by omega)
 simp only [T1,T2,T3,kA4,r1,r2,E1,decide_true,Bool.not_true,cond_false,Q1,Q2,Q3,M1,M2,M3,z3,M4,H4,z4]
theorem ok_q25:kAn Tryz.prog n_q25 (G3 (fun (a:Sl Lattice) (x:Lexicon) (m:Model)=>Wt.big a && (Wt.big x && Wt.big m)) fun _ _ _=>bv true):=lawC3 tt_q25 fun a x m h=>by
 rw [Bool.and_eq_true,Bool.and_eq_true] at h
 exact kGj a x m h.1 h.2.1 h.2.2
theorem kH0 (a:Sl Lattice) (x:Lexicon) (m:Model) (ha:Row.fine a) (hx:Row.fine x) (hm:Row.fine m):G3 (fun (a:Sl Lattice) (x:Lexicon) (m:Model)=>Wt.big a && (Wt.big x && Wt.big m)) (fun _ _ _=>bv true) [enc a,enc x,enc m]=some (bv true):=G3_enc _ _ a x m (by rw [Wt.fb a ha,Wt.fb x hx,Wt.fb m hm];rfl)
theorem isC_2 {cs:List AV} (h:IsC Tryz.prog 2 cs):∃ x:Int,cs=Row.cells x∧Row.fine x:=by
 obtain ⟨n,rfl,hn⟩:=IsC.intE Tryz.underlying2 h
 exact ⟨n,rfl,fine_int hn⟩
theorem isC_9 {cs:List AV} (h:IsC Tryz.prog 9 cs):∃ x:ByteArray,cs=Row.cells x∧Row.fine x:=by
 obtain ⟨n,rfl,hn⟩:=IsC.strE Tryz.underlying9 h
 exact ⟨n,rfl,hn⟩
theorem isC_126 {cs:List AV} (h:IsC Tryz.prog 126 cs):∃ x:Edg,cs=Row.cells x∧Row.fine x:=by
 replace h:=IsC.structE Tryz.underlying126 h
 obtain ⟨c0,r0,rfl,q0,k0⟩:=IsFs.consE h
 obtain ⟨c1,r1,rfl,q1,k1⟩:=IsFs.consE k0
 obtain ⟨c2,r2,rfl,q2,k2⟩:=IsFs.consE k1
 obtain ⟨c3,r3,rfl,q3,k3⟩:=IsFs.consE k2
 cases IsFs.nilE k3
 obtain ⟨v0,rfl,w0⟩:=isC_2 q0
 obtain ⟨v1,rfl,w1⟩:=isC_2 q1
 obtain ⟨v2,rfl,w2⟩:=isC_9 q2
 obtain ⟨v3,rfl,w3⟩:=isC_2 q3
 exact ⟨⟨v0,v1,v2,v3⟩,rfl,w0,w1,w2,w3⟩
theorem isC_57 {cs:List AV} (h:IsC Tryz.prog 57 cs):∃ x:(Sl Edg),cs=Row.cells x∧Row.fine x:=by
 rcases IsC.sliceE Tryz.underlying57 h with rfl | ⟨rows,rfl,h1,h2⟩
 ·exact ⟨none,rfl,Sl.fineNil⟩
 ·exact Sl.isC (by kernel_rfl) h1 fun row hr=>isC_126 (h2 row hr)
theorem isC_59 {cs:List AV} (h:IsC Tryz.prog 59 cs):∃ x:Lattice,cs=Row.cells x∧Row.fine x:=by
 replace h:=IsC.structE Tryz.underlying59 h
 obtain ⟨c0,r0,rfl,q0,k0⟩:=IsFs.consE h
 obtain ⟨c1,r1,rfl,q1,k1⟩:=IsFs.consE k0
 cases IsFs.nilE k1
 obtain ⟨v0,rfl,w0⟩:=isC_2 q0
 obtain ⟨v1,rfl,w1⟩:=isC_57 q1
 exact ⟨⟨v0,v1⟩,rfl,w0,w1⟩
theorem isC_22 {cs:List AV} (h:IsC Tryz.prog 22 cs):∃ x:(Sl Lattice),cs=Row.cells x∧Row.fine x:=by
 rcases IsC.sliceE Tryz.underlying22 h with rfl | ⟨rows,rfl,h1,h2⟩
 ·exact ⟨none,rfl,Sl.fineNil⟩
 ·exact Sl.isC (by kernel_rfl) h1 fun row hr=>isC_59 (h2 row hr)
theorem isC_96 {cs:List AV} (h:IsC Tryz.prog 96 cs):∃ x:Entry,cs=Row.cells x∧Row.fine x:=by
 replace h:=IsC.structE Tryz.underlying96 h
 obtain ⟨c0,r0,rfl,q0,k0⟩:=IsFs.consE h
 obtain ⟨c1,r1,rfl,q1,k1⟩:=IsFs.consE k0
 cases IsFs.nilE k1
 obtain ⟨v0,rfl,w0⟩:=isC_9 q0
 obtain ⟨v1,rfl,w1⟩:=isC_2 q1
 exact ⟨⟨v0,v1⟩,rfl,w0,w1⟩
theorem isC_23 {cs:List AV} (h:IsC Tryz.prog 23 cs):∃ x:(Sl Entry),cs=Row.cells x∧Row.fine x:=by
 rcases IsC.sliceE Tryz.underlying23 h with rfl | ⟨rows,rfl,h1,h2⟩
 ·exact ⟨none,rfl,Sl.fineNil⟩
 ·exact Sl.isC (by kernel_rfl) h1 fun row hr=>isC_96 (h2 row hr)
theorem isC_25 {cs:List AV} (h:IsC Tryz.prog 25 cs):∃ x:Lexicon,cs=Row.cells x∧Row.fine x:=by
 replace h:=IsC.structE Tryz.underlying25 h
 obtain ⟨c0,r0,rfl,q0,k0⟩:=IsFs.consE h
 cases IsFs.nilE k0
 obtain ⟨v0,rfl,w0⟩:=isC_23 q0
 exact ⟨⟨v0⟩,rfl,w0⟩
theorem isC_99 {cs:List AV} (h:IsC Tryz.prog 99 cs):∃ x:Bigram,cs=Row.cells x∧Row.fine x:=by
 replace h:=IsC.structE Tryz.underlying99 h
 obtain ⟨c0,r0,rfl,q0,k0⟩:=IsFs.consE h
 obtain ⟨c1,r1,rfl,q1,k1⟩:=IsFs.consE k0
 obtain ⟨c2,r2,rfl,q2,k2⟩:=IsFs.consE k1
 cases IsFs.nilE k2
 obtain ⟨v0,rfl,w0⟩:=isC_9 q0
 obtain ⟨v1,rfl,w1⟩:=isC_9 q1
 obtain ⟨v2,rfl,w2⟩:=isC_2 q2
 exact ⟨⟨v0,v1,v2⟩,rfl,w0,w1,w2⟩
theorem isC_26 {cs:List AV} (h:IsC Tryz.prog 26 cs):∃ x:(Sl Bigram),cs=Row.cells x∧Row.fine x:=by
 rcases IsC.sliceE Tryz.underlying26 h with rfl | ⟨rows,rfl,h1,h2⟩
 ·exact ⟨none,rfl,Sl.fineNil⟩
 ·exact Sl.isC (by kernel_rfl) h1 fun row hr=>isC_99 (h2 row hr)
theorem isC_28 {cs:List AV} (h:IsC Tryz.prog 28 cs):∃ x:Model,cs=Row.cells x∧Row.fine x:=by
 replace h:=IsC.structE Tryz.underlying28 h
 obtain ⟨c0,r0,rfl,q0,k0⟩:=IsFs.consE h
 obtain ⟨c1,r1,rfl,q1,k1⟩:=IsFs.consE k0
 cases IsFs.nilE k1
 obtain ⟨v0,rfl,w0⟩:=isC_2 q0
 obtain ⟨v1,rfl,w1⟩:=isC_26 q1
 exact ⟨⟨v0,v1⟩,rfl,w0,w1⟩
theorem own:ownKnob Tryz.prog.godebug=none:=by kernel_rfl
theorem laidOut:laidOutB Tryz.prog=true:=by kernel_rfl
set_option maxRecDepth 100000 in
theorem holds:Rows.FnExactFindSentenceSaid :=
 OpenClaim.holds_of_wide 3 Tryz.f3 rfl rfl rfl rfl rfl rfl rfl ⟨rfl,rfl,rfl,rfl,rfl⟩ rfl rfl rfl rfl rfl (by kernel_rfl) Tryz.func3 (by kernel_rfl)
  (of_decide_eq_true (by kernel_rfl)) (by unfold Func.isWrapper;rw [if_neg (by decide +kernel)];exact ⟨rfl,rfl⟩)
  (fun os started H enc _=>law_lifted (C:=Tryz.checked) (s:=Rows.fnExactFindSentenceSpec) own started (by kernel_rfl) Tryz.func3
   (ChangeSpec.witness6 (enc:=enc) (C:=Tryz.checked) false ⟨#[],#[.slice none 0 0,.agg #[.slice none 0 0],.agg #[.int .i64 0,.slice none 0 0]],[]⟩ 8 (by kernel_rfl) (by kernel_rfl) (by kernel_rfl) (by kernel_rfl))
   laidOut rfl (tb:=4) rfl Tryz.underlying4 (ts:=[22,59,2,57,126,9,25,23,96,28,26,99]) (by kernel_rfl)
   (fun ds h=>by match ds,h with | [d0,d1,d2],_=>rfl)
   hb_q25 ok_q25 (by
  intro l h
  obtain ⟨a0,l0,rfl,g0,k0⟩:=h
  obtain ⟨a1,l1,rfl,g1,k1⟩:=k0
  obtain ⟨a2,l2,rfl,g2,k2⟩:=k1
  cases k2
  obtain ⟨b0,e0,w0⟩:=isC_22 (isV_one (by kernel_rfl) g0)
  obtain rfl:=one_enc e0
  obtain ⟨c1,rfl,m1⟩:=IsV.structE Tryz.underlying25 g1
  obtain ⟨b1,rfl,w1⟩:=isC_25 m1
  obtain ⟨c2,rfl,m2⟩:=IsV.structE Tryz.underlying28 g2
  obtain ⟨b2,rfl,w2⟩:=isC_28 m2
  exact kH0 b0 b1 b2 w0 w1 w2) (by kernel_rfl))
#print axioms holds
end Go.Proofs.YtccoloclaocinaaGreat
