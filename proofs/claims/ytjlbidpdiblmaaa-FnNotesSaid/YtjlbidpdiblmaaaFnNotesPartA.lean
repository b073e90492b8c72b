import Derived.Test.YtjlbidpdiblmaaaFnNotesGen
namespace Go.Proofs.Ytjlbidpdiblmaaa
open Go Go.Eng Go.Eng.Cod
set_option maxRecDepth 100000
set_option linter.unusedVariables false
set_option linter.unusedSimpArgs false
theorem nil_ok:kC5 Try.prog (kD7 []):=E0
def kBh (a b c:Int):Bool:=decide (b≤a) && decide (a≤c)
theorem ok_q11:kB6 Try.prog n_q11 (T3 kBh):=pureT3 nil_ok kCm hb_q11 fun a b c=>by
 simp [e_q11,kBh]
theorem ok_q23:kB6 Try.prog kFp (T3 kBh):=pureT3 nil_ok kCm hb_q23 fun a b c=>by
 simp [e_q23,kBh]
theorem ok_q24:kB6 Try.prog kEl (T2 fun a b:Int=>max a b):=pureT2 nil_ok kCm hb_q24 fun a b=>by
 simp [e_q24,maxI]
def kF3 (b:UInt8):Bool:=decide ((97:Int)≤(b.toNat:Int)) && decide ((b.toNat:Int)≤122)
theorem ok_q7:kB6 Try.prog n_q7 (T1 kF3):=pureT1 E0 kCm hb_q7 fun b=>by
 simp [e_q7,kF3]
theorem ok_q31:kB6 Try.prog n_q31 (T1 kF3):=pureT1 E0 kCm hb_q31 fun b=>by
 simp [e_q31,kF3]
def isDig (b:UInt8):Bool:=decide ((48:Int)≤(b.toNat:Int)) && decide ((b.toNat:Int)≤57)
theorem ok_q30:kB6 Try.prog n_q30 (T1 isDig):=pureT1 E0 kCm hb_q30 fun b=>by
 simp [e_q30,isDig]
structure SS where
 at_:Nat
 w:Int
def fromA (q:Sl UInt8):AV:=.np 3 [[Sl.enc q,iv 0,.sc (.int .u64 0)]] 0 0
theorem tt_q22:kB6 Try.prog n_q22 (C1 fromA (fun q:Sl UInt8=>some q)):=pureR1 E0 kCm hb_q22 fun q r h=>by
 cases h
 apply pureG
 rw [e_q22]
 cases q <;> rfl
abbrev P3:=Option (List (AV×PS (Sl Int)))
def j3 (p:AV×PS (Sl Int)):FRows:=⟨pj p.2⟩
def pj3 (qs:P3):Sl FRows:=qs.map (List.map j3)
def D3 (x:AV) (qs:P3):List Ent:=match qs with
 | none=>[(x,.nil)]
 | some q=>(x,.sl 1 (q.map fun p=>[p.1]))::q.flatMap fun p=>D2 p.1 p.2
def rT (s:Sl FRows):AV:=match s with
 | none=>kA3
 | some l=>.nw 1 (l.map fun a=>[rD a.values])
theorem D3.head {B:Base} {h:kA7} {l:List Ent} {x:AV} {q:List (AV×PS (Sl Int))} (O:Hold B h (l++D3 x (some q))):∃ o,x=.sl o q.length 0 q.length∧h[o]?=some ⟨1,q.map fun p=>[p.1]⟩:=by
 obtain ⟨o,h1,h2⟩:=O.sl (i:=l.length) (k:=1) (rows:=q.map fun p=>[p.1]) (x:=x) (by simp [D3])
 exact ⟨o,by simpa using h1,h2⟩
theorem D3.nil {B:Base} {h:kA7} {l:List Ent} {x:AV} (O:Hold B h (l++D3 x none)):x=kA3:=O.nilE (i:=l.length) (x:=x) (by simp [D3])
theorem D3.one {B:Base} {h:kA7} {l:List Ent} {x:AV} {qs:P3} (O:Hold B h (l++D3 x qs)):x.cells=[x]∧x.flat=true:=by
 cases qs with
 | none =>
  have:=D3.nil O
  subst this
  exact ⟨rfl,rfl⟩
 | some q =>
  obtain ⟨o,rfl,_⟩:=D3.head O
  exact ⟨rfl,rfl⟩
theorem D3.len {B:Base} {h:kA7} {l:List Ent} {x:AV} {qs:P3} (O:Hold B h (l++D3 x qs)):kBf .slice x=some (iv (((pj3 qs).getD []).length:Nat)):=by
 cases qs with
 | none =>
  have:=D3.nil O
  subst this
  rfl
 | some q =>
  obtain ⟨o,rfl,_⟩:=D3.head O
  simp [pj3]
theorem D3.mem {B:Base} {h:kA7} {l:List Ent} {x:AV} {q:List (AV×PS (Sl Int))} (O:Hold B h (l++D3 x (some q))) {p:AV×PS (Sl Int)} (hp:p∈q):∃ l',Hold B h (l'++D2 p.1 p.2):=by
 obtain ⟨q1,q2,rfl⟩:=List.append_of_mem hp
 refine ⟨l++(x,.sl 1 ((q1++p::q2).map fun p=>[p.1]))::(q1.flatMap (fun p=>D2 p.1 p.2)++q2.flatMap fun p=>D2 p.1 p.2),O.perm ?_⟩
 simp only [D3,List.flatMap_append,List.flatMap_cons]
 rw [List.append_assoc,List.cons_append]
 refine (List.Perm.cons _ ?_).append_left l
 rw [List.append_assoc]
 exact (List.perm_append_comm).append_left _
theorem D2.snapK {A C:Type} [Row A] [Row C] [Inn A C] [Eng.NR C] {B:Base} {h:kA7} {l:List Ent} {x:AV} {ps:PS A} (O:Hold B h (l++D2 x ps)) (d:Nat):Eng.snap h (d+2) x=some (Sl.enc (pj ps)):=by
 cases ps with
 | none =>
  have:=D2.nil O
  subst this
  rfl
 | some q =>
  obtain ⟨o,rfl,ho⟩:=D2.head O
  show (match h[o]? with | some ob=>if ob.rows.length=q.length∧0+q.length≤q.length then (match kB9 (kB9 (Eng.snap h (d+1))) ((ob.rows.drop 0).take q.length) with | some rows=>some (AV.fs ob.k rows) | none=>none) else none | none=>none)=_
  rw [ho]
  simp only [List.length_map]
  rw [if_pos ⟨trivial,by omega⟩,List.drop_zero,List.take_of_length_le (by simp),snap_rowsN q (d+1) fun p hp=>by
   obtain ⟨i,hi⟩:=D2.mem (l:=l) (x:=.sl o q.length 0 q.length) hp
   exact O.snap7 i hi d]
  rfl
theorem D3.snapK {B:Base} {h:kA7} {l:List Ent} {x:AV} {qs:P3} (O:Hold B h (l++D3 x qs)) (d:Nat):Eng.snap h (d+3) x=some (Sl.enc (pj3 qs)):=by
 cases qs with
 | none =>
  have:=D3.nil O
  subst this
  rfl
 | some q =>
  obtain ⟨o,rfl,ho⟩:=D3.head O
  have hr:∀ q':List (AV×PS (Sl Int)),(∀ p∈q',p∈q)→kB9 (kB9 (Eng.snap h (d+2))) (q'.map fun p=>[p.1])=some ((q'.map j3).map Row.cells):=by
   intro q' hq'
   induction q' with
   | nil=>rfl
   | cons p q' ih =>
    obtain ⟨l',O'⟩:=D3.mem O (hq' p (by simp))
    simp only [List.map_cons,kB9,D2.snapK O' d,ih fun p' hp'=>hq' p' (by simp [hp'])]
    rfl
  show (match h[o]? with | some ob=>if ob.rows.length=q.length∧0+q.length≤q.length then (match kB9 (kB9 (Eng.snap h (d+2))) ((ob.rows.drop 0).take q.length) with | some rows=>some (AV.fs ob.k rows) | none=>none) else none | none=>none)=_
  rw [ho]
  simp only [List.length_map]
  rw [if_pos ⟨trivial,by omega⟩,List.drop_zero,List.take_of_length_le (by simp),hr q fun _ h=>h]
  rfl
theorem D3.snapD {B:Base} {h:kA7} {l:List Ent} {x:AV} {qs:P3} (O:Hold B h (l++D3 x qs)) {s:Sl FRows} (hs:pj3 qs=s):Eng.snap h 7 x=some (Sl.enc s)∧Eng.snapD h x=some s:=by
 subst hs
 refine ⟨D3.snapK O 4,?_⟩
 unfold Eng.snapD
 rw [show depth=5+3 from rfl,D3.snapK O 5]
 exact Cod.de (pj3 qs:Sl FRows)
theorem D3.relN {B:Base} {h:kA7} {l:List Ent} {x:AV} {qs:P3} (O:Hold B h (l++D3 x qs)) {s:Sl FRows} (hs:pj3 qs=s) (d:Nat):Eng.rel h (d+3) x=some (rT s):=by
 subst hs
 cases qs with
 | none =>
  have:=D3.nil O
  subst this
  rfl
 | some q =>
  obtain ⟨o,rfl,ho⟩:=D3.head O
  have hr:∀ q':List (AV×PS (Sl Int)),(∀ p∈q',p∈q)→kB9 (kB9 (Eng.rel h (d+2))) (q'.map fun p=>[p.1])=some ((q'.map j3).map fun a=>[rD a.values]):=by
   intro q' hq'
   induction q' with
   | nil=>rfl
   | cons p q' ih =>
    obtain ⟨l',O'⟩:=D3.mem O (hq' p (by simp))
    simp only [List.map_cons,kB9,D2.relN O' rfl d,ih fun p' hp'=>hq' p' (by simp [hp'])]
    rfl
  show (match h[o]? with | some ob=>if ob.rows.length=q.length∧0=0∧q.length≤q.length then (match kB9 (kB9 (Eng.rel h (d+2))) (ob.rows.take q.length) with | some rows=>some (AV.nw ob.k rows) | none=>none) else none | none=>none)=_
  rw [ho]
  simp only [List.length_map]
  rw [if_pos ⟨trivial,trivial,Nat.le_refl _⟩,List.take_of_length_le (by simp),hr q fun _ h=>h]
  simp [rT,pj3]
theorem D3.idsN {B:Base} {h:kA7} {l:List Ent} {x:AV} {qs:P3} (O:Hold B h (l++D3 x qs)) (d:Nat):(Eng.ids h (d+3) x).map (·.1)=(D3 x qs).flatMap fun e=>(kEn e.1).toList:=by
 cases qs with
 | none =>
  have:=D3.nil O
  subst this
  rfl
 | some q =>
  obtain ⟨o,rfl,ho⟩:=D3.head O
  have hr:∀ q':List (AV×PS (Sl Int)),(∀ p∈q',p∈q)→((q'.map fun p=>[p.1]).flatMap fun r=>r.flatMap (Eng.ids h (d+2))).map (·.1)=(q'.flatMap fun p=>D2 p.1 p.2).flatMap fun e=>(kEn e.1).toList:=by
   intro q' hq'
   induction q' with
   | nil=>rfl
   | cons p q' ih =>
    obtain ⟨l',O'⟩:=D3.mem O (hq' p (by simp))
    simp only [List.map_cons,List.flatMap_cons,List.flatMap_nil,List.append_nil,List.map_append,List.flatMap_append,D2.idsN O' d,ih fun p' hp'=>hq' p' (by simp [hp'])]
  have e1:Eng.ids h (d+3) (.sl o q.length 0 q.length)=(o,q.length)::(q.map fun p=>[p.1]).flatMap fun r=>r.flatMap (Eng.ids h (d+2)):=by
   show (match h[o]? with | some ob=>(o,q.length)::(ob.rows.take q.length).flatMap (fun (r:List AV)=>r.flatMap (Eng.ids h (d+2))) | none=>[])=_
   rw [ho]
   simp only
   rw [List.take_of_length_le (by simp)]
  rw [e1,List.map_cons,hr q fun _ h=>h]
  simp [D3,kEn]
theorem perm_ends {α:Type} {a b:α} {D R:List α}:(a::(D++b::R)).Perm (b::(R++(D++[a]))):=by
 have h1:(a::(D++b::R)).Perm (b::a::(D++R)):=(List.Perm.cons a List.perm_middle).trans (List.Perm.swap b a _)
 refine h1.trans (List.Perm.cons b ?_)
 refine (List.perm_append_singleton a (D++R)).symm.trans ?_
 rw [← List.append_assoc R D [a]]
 exact List.Perm.append_right [a] List.perm_append_comm
theorem sim_push3 {γ δ:Type} {B:Base} {h:kA7} {l:List Ent} {x t y:AV} {ps:PS (Sl Int)} {qs:P3} {bytes:Nat} (O:Hold B h ((l++[(t,.sl 1 [[y]])])++D2 y ps++D3 x qs)) {s:Sl FRows} {r:Sl (Sl Int)} (hs:pj3 qs=s) (hp:pj ps=r) (hb:bytes≤1024)
  {F:AV→kA7→Option γ} {G:Option δ} {Q:δ→γ→Prop} (K:∀ x' qs' h',pj3 qs'=kB3 s [(⟨r⟩:FRows)]→Hold B h' (l++D3 x' qs')→Sim (F x' h') G Q):Sim (kA2 (kAr false 1 bytes x t h) F) (kA0 (kF9 s [(⟨r⟩:FRows)]) fun _=>G) Q:=by
 subst hs hp
 unfold kF9
 split
 ·rename_i hl
  obtain ⟨b1,b2⟩:=bytes_le hl hb
  obtain ⟨ot,rfl,hot⟩:=O.sl (i:=l.length) (x:=t) (k:=1) (rows:=[[y]]) (by simp)
  have hsrc:aSrc false 1 (.sl ot 1 0 1) h=some [[y]]:=by simp [aSrc,hot]
  obtain ⟨X,hX⟩:∃ X,X=(l++[((AV.sl ot 1 0 1,EV.sl 1 [[y]]):Ent)])++D2 y ps:=⟨_,rfl⟩
  have O1:Hold B h (X++D3 x qs):=by rw [hX];exact O
  have fin:∀ {h':kA7} {hd:Ent} {R:List Ent},Hold B h' (X++hd::R)→Hold B h' (l++hd::(R++D2 y ps)):=by
   intro h' hd R O'
   rw [hX] at O'
   refine (O'.perm (L':=(l++hd::(R++D2 y ps))++[((AV.sl ot 1 0 1,EV.sl 1 [[y]]):Ent)]) ?_).left
   simp only [List.append_assoc,List.cons_append,List.nil_append]
   exact List.Perm.append_left l perm_ends
  cases qs with
  | none =>
   have:=D3.nil O
   subst this
   have O':=O1.fill (i:=X.length) (.sl 1 [[y]]) rfl (by
    rw [List.getElem?_append_right (Nat.le_refl _),Nat.sub_self]
    rfl)
   have e:kAr false 1 bytes kA3 (.sl ot 1 0 1) h=some (.sl h.length 1 0 1,h++[⟨1,[[y]]⟩]):=by
    unfold kAr
    rw [hsrc]
    simp only [kA3]
    rw [if_neg (by simp)]
    simp only [pj3,Option.map_none,Option.getD_none,List.length_nil,List.length_cons,Nat.zero_add] at b1 b2
    have b3:bytes≤kBv:=by omega
    rw [if_pos (by simpa using ⟨b3,b2⟩)]
    rfl
   have e':kA2 (kAr false 1 bytes kA3 (.sl ot 1 0 1) h) F=F (.sl h.length 1 0 1) (h++[⟨1,[[y]]⟩]):=by rw [e];rfl
   show Sim (kA2 (kAr false 1 bytes kA3 (.sl ot 1 0 1) h) F) G Q
   rw [e']
   refine K _ (some [(y,ps)]) _ rfl ?_
   rw [List.set_append_right _ _ (Nat.le_refl _),Nat.sub_self] at O'
   have O2:=fin (hd:=((AV.sl h.length 1 0 1,EV.sl 1 [[y]]):Ent)) (R:=[]) O'
   simpa [D3] using O2
  | some q =>
   obtain ⟨o,rfl,ho⟩:=D3.head O
   have O':=O1.update (i:=X.length) (o:=o) (v':=.sl 1 ((q++[(y,ps)]).map fun p=>[p.1])) (x:=.sl o q.length 0 q.length) (by
    rw [List.getElem?_append_right (Nat.le_refl _),Nat.sub_self]
    rfl) rfl rfl
   have e:kAr false 1 bytes (.sl o q.length 0 q.length) (.sl ot 1 0 1) h=some (.sl o (q.length+1) 0 (q.length+1),h.set o ⟨1,(q++[(y,ps)]).map fun p=>[p.1]⟩):=by
    simp only [pj3,Option.map_some,Option.getD_some,List.length_map,List.length_cons,List.length_nil] at b1 b2
    unfold kAr
    rw [hsrc]
    simp only [ho,List.length_map,List.length_cons,List.length_nil]
    rw [if_pos ⟨trivial,trivial,trivial,b1,b2,Nat.le_refl _⟩]
    have e1:List.take q.length (q.map fun p=>[p.1])=q.map fun p=>[p.1]:=List.take_of_length_le (by simp)
    have e2:List.drop (q.length+(0+1)) (q.map fun p=>[p.1])=[]:=List.drop_eq_nil_of_le (by simp)
    rw [e1,e2]
    simp
   have e':kA2 (kAr false 1 bytes (.sl o q.length 0 q.length) (.sl ot 1 0 1) h) F=F (.sl o (q.length+1) 0 (q.length+1)) (h.set o ⟨1,(q++[(y,ps)]).map fun p=>[p.1]⟩):=by rw [e];rfl
   show Sim (kA2 (kAr false 1 bytes (.sl o q.length 0 q.length) (.sl ot 1 0 1) h) F) G Q
   rw [e']
   refine K _ (some (q++[(y,ps)])) _ (by simp [pj3,kB3,j3]) ?_
   rw [List.set_append_right _ _ (Nat.le_refl _),Nat.sub_self] at O'
   have O2:=fin (hd:=((AV.sl o (q.length+1) 0 (q.length+1),EV.sl 1 ((q++[(y,ps)]).map fun p=>[p.1])):Ent)) (R:=q.flatMap fun p=>D2 p.1 p.2) (by simpa [D3,EV.at] using O')
   simpa [D3] using O2
 ·exact kFc
theorem mat_rD {A C:Type} [Row A] [Row C] [Inn A C] [Scal C] (d:Nat) {B:Base} (s:Sl A) {h:kA7} {l:List Ent} (O:Hold B h l):∃ (y:AV) (ps:PS A) (o:kA7),mat (d+2) (rD s) h.length=(y,o)∧pj ps=s∧noF (d+2) (rD s)=true∧Hold B (h++o) (l++D2 y ps):=by
 cases s with
 | none=>exact ⟨kA3,none,[],rfl,rfl,rfl,by rw [List.append_nil];exact O.addnil⟩
 | some t =>
  have key:∀ (t:List A) (L:List Ent) (g:kA7),Hold B g L→∃ (q:List (A×AV)) (o:kA7),q.map Prod.fst=t∧kD8 (mat (d+1)) (t.map fun a=>Inn.row a (rS (Inn.sub a))) g.length=(q.map (fun p=>Inn.row p.1 p.2),o)∧Hold B (g++o) (L++q.map fun p=>(p.2,obS (Inn.sub p.1))):=by
   intro t
   induction t with
   | nil=>intro L g Og;exact ⟨[],[],rfl,rfl,by simpa using Og⟩
   | cons a t ih =>
    intro L g Og
    obtain ⟨q,o,h1,h2,h3⟩:=ih _ _ (Og.allocS (Inn.sub a))
    have hm:=Inn.mat (d+1) a g.length _ _ (mat_rS d g.length (Inn.sub a))
    refine ⟨(a,matS (Inn.sub a) g.length)::q,matH (Inn.sub a)++o,by simp [h1],?_,by simpa [List.append_assoc] using h3⟩
    rw [List.length_append] at h2
    simp only [List.map_cons,kD8,hm,h2]
  have hno:noF (d+2) (rD (some t))=true:=by
   show (t.map fun a=>Inn.row a (rS (Inn.sub a))).all (fun r=>r.all (noF (d+1)))=true
   rw [List.all_eq_true]
   intro r hr
   obtain ⟨a,_,rfl⟩:=List.mem_map.1 hr
   exact Inn.noF (d+1) a (noF_rS d _)
  obtain ⟨q0,o0,g1,g2,_⟩:=key t (l++[((EV.sl (Row.w A) []).at h.length,.sl (Row.w A) [])]) (h++[⟨Row.w A,[]⟩]) (O.alloc (.sl (Row.w A) []) rfl)
  obtain ⟨q,o,h1,h2,h3⟩:=key t (l++[((EV.sl (Row.w A) (q0.map fun p=>Inn.row p.1 p.2)).at h.length,.sl (Row.w A) (q0.map fun p=>Inn.row p.1 p.2))]) (h++[⟨Row.w A,q0.map fun p=>Inn.row p.1 p.2⟩]) (O.alloc (.sl (Row.w A) (q0.map fun p=>Inn.row p.1 p.2)) rfl)
  have hl:(h++[(⟨Row.w A,[]⟩:AObj)]).length=(h++[(⟨Row.w A,q0.map fun p=>Inn.row p.1 p.2⟩:AObj)]).length:=by simp
  rw [hl] at g2
  rw [g2] at h2
  have hq:q0.map (fun p=>Inn.row p.1 p.2)=q.map fun p=>Inn.row p.1 p.2:=congrArg Prod.fst h2
  have ho:o0=o:=congrArg Prod.snd h2
  have e0:mat (d+2) (rD (some t)) h.length=(.sl h.length t.length 0 t.length,⟨Row.w A,q0.map fun p=>Inn.row p.1 p.2⟩::o0):=by
   show (AV.sl h.length (t.map fun a=>Inn.row a (rS (Inn.sub a))).length 0 (t.map fun a=>Inn.row a (rS (Inn.sub a))).length,(⟨Row.w A,(kD8 (mat (d+1)) (t.map fun a=>Inn.row a (rS (Inn.sub a))) (h.length+1)).1⟩:AObj)::(kD8 (mat (d+1)) (t.map fun a=>Inn.row a (rS (Inn.sub a))) (h.length+1)).2)=_
   have:(h++[(⟨Row.w A,q0.map fun p=>Inn.row p.1 p.2⟩:AObj)]).length=h.length+1:=by simp
   rw [this] at g2
   rw [g2]
   simp
  have hlen2:q.length=t.length:=by rw [← h1];simp
  refine ⟨_,some q,_,e0,by simp [pj,h1],hno,?_⟩
  simp only [D2]
  rw [hq,ho]
  rw [hq] at h3
  simpa [EV.at,hlen2,List.append_assoc] using h3
theorem mat_rT (d:Nat) {B:Base} (s:Sl FRows) {h:kA7} {l:List Ent} (O:Hold B h l):∃ (y:AV) (qs:P3) (o:kA7),mat (d+3) (rT s) h.length=(y,o)∧pj3 qs=s∧noF (d+3) (rT s)=true∧Hold B (h++o) (l++D3 y qs):=by
 cases s with
 | none=>exact ⟨kA3,none,[],rfl,rfl,rfl,by rw [List.append_nil];exact O.addnil⟩
 | some t =>
  have key:∀ (t:List FRows) (L:List Ent) (g:kA7),Hold B g L→∃ (q:List (AV×PS (Sl Int))) (o:kA7),q.map j3=t∧kD8 (mat (d+2)) (t.map fun a=>[rD a.values]) g.length=(q.map (fun p=>[p.1]),o)∧(t.map fun a=>[rD a.values]).all (fun r=>r.all (noF (d+2)))=true∧Hold B (g++o) (L++q.flatMap fun p=>D2 p.1 p.2):=by
   intro t
   induction t with
   | nil=>intro L g Og;exact ⟨[],[],rfl,rfl,rfl,by simpa using Og⟩
   | cons a t ih =>
    intro L g Og
    obtain ⟨y,ps,o1,m1,m2,m3,O1⟩:=mat_rD d a.values Og
    obtain ⟨q,o,h1,h2,h4,h3⟩:=ih _ _ O1
    refine ⟨(y,ps)::q,o1++o,?_,?_,?_,?_⟩
    ·rw [List.map_cons,h1]
     unfold j3
     rw [m2]
    ·rw [List.length_append] at h2
     simp only [List.map_cons,kD8,kC2,m1,List.append_nil,List.length_append,List.length_nil,Nat.add_zero,h2]
    ·rw [List.map_cons,List.all_cons,h4]
     simp [m3]
    ·simpa [List.append_assoc] using h3
  obtain ⟨q0,o0,g1,g2,g3,_⟩:=key t (l++[((EV.sl 1 []).at h.length,.sl 1 [])]) (h++[⟨1,[]⟩]) (O.alloc (.sl 1 []) rfl)
  obtain ⟨q,o,h1,h2,_,h3⟩:=key t (l++[((EV.sl 1 (q0.map fun p=>[p.1])).at h.length,.sl 1 (q0.map fun p=>[p.1]))]) (h++[⟨1,q0.map fun p=>[p.1]⟩]) (O.alloc (.sl 1 (q0.map fun p=>[p.1])) rfl)
  have hl:(h++[(⟨1,[]⟩:AObj)]).length=(h++[(⟨1,q0.map fun p=>[p.1]⟩:AObj)]).length:=by simp
  rw [hl] at g2
  rw [g2] at h2
  have hq:q0.map (fun p=>[p.1])=q.map fun p=>[p.1]:=congrArg Prod.fst h2
  have ho:o0=o:=congrArg Prod.snd h2
  have e0:mat (d+3) (rT (some t)) h.length=(.sl h.length t.length 0 t.length,⟨1,q0.map fun p=>[p.1]⟩::o0):=by
   show (AV.sl h.length (t.map fun a=>[rD a.values]).length 0 (t.map fun a=>[rD a.values]).length,(⟨1,(kD8 (mat (d+2)) (t.map fun a=>[rD a.values]) (h.length+1)).1⟩:AObj)::(kD8 (mat (d+2)) (t.map fun a=>[rD a.values]) (h.length+1)).2)=_
   have:(h++[(⟨1,q0.map fun p=>[p.1]⟩:AObj)]).length=h.length+1:=by simp
   rw [this] at g2
   rw [g2]
   simp
  have hlen2:q.length=t.length:=by rw [← h1];simp
  refine ⟨_,some q,_,e0,by simp [pj3,h1],g3,?_⟩
  simp only [D3]
  rw [hq,ho]
  rw [hq] at h3
  simpa [EV.at,hlen2,List.append_assoc] using h3
def OutT (B0 B:Base) (x:AV) (s:Sl FRows):Prop:=∃ qs:P3,pj3 qs=s∧∀ h L,Hold B h L→Hold B0 h (L++D3 x qs)
def RdT (B:Base) (x:AV) (s:Sl FRows):Prop:=∀ h L,Hold B h L→Eng.snap h 7 x=some (Sl.enc s)∧kBf .slice x=some (iv ((s.getD []).length:Nat))∧x.cells=[x]∧x.flat=true
theorem out_nil (B:Base):OutT B B kA3 none:=⟨none,rfl,fun _ _ O=>O.addnil⟩
theorem kAy {B0 B:Base} {x:AV} {s:Sl FRows} (T:OutT B0 B x s):RdT B x s:=fun h L O=>by
 obtain ⟨qs,rfl,c⟩:=T
 have O':=c h L O
 exact ⟨D3.snapK O' 4,D3.len O',D3.one O'⟩
theorem rd_out {B B':Base} {x x':AV} {s s':Sl FRows} (R:RdT B x s) (T:OutT B B' x' s'):RdT B' x s:=fun h L O=>by
 obtain ⟨_,_,c⟩:=T
 exact R h _ (c h L O)
theorem RdT.snap7 {B:Base} {x:AV} {s:Sl FRows} (R:RdT B x s) {h:kA7} {L:List Ent} (O:Hold B h L):Eng.snap h 7 x=some (Sl.enc s):=(R h L O).1
theorem RdT.len {B:Base} {x:AV} {s:Sl FRows} (R:RdT B x s) {h:kA7} {L:List Ent} (O:Hold B h L):kBf .slice x=some (iv ((s.getD []).length:Nat)):=(R h L O).2.1
theorem RdT.one {B:Base} {x:AV} {s:Sl FRows} (R:RdT B x s) {h:kA7} {L:List Ent} (O:Hold B h L):x.cells=[x]∧x.flat=true:=(R h L O).2.2
theorem out_make {B:Base} {h:kA7} {L:List Ent} {x:AV} {qs:P3} (O:Hold B h (L++D3 x qs)) {s:Sl FRows} (hs:pj3 qs=s):∃ B',OutT B B' x s∧Hold B' h L:=⟨_,⟨qs,hs,fun _ _ O'=>O.mergeL O'⟩,O.startL⟩
theorem kG0 {γ δ:Type} {B0 B:Base} {h:kA7} {l:List Ent} {x t y:AV} {ps:PS (Sl Int)} {s:Sl FRows} {r:Sl (Sl Int)} {bytes:Nat} (T:OutT B0 B x s) (O:Hold B h ((l++[(t,.sl 1 [[y]])])++D2 y ps)) (hp:pj ps=r) (hb:bytes≤1024)
  {F:AV→kA7→Option γ} {G:Option δ} {Q:δ→γ→Prop} (K:∀ B' x' h',OutT B0 B' x' (kB3 s [(⟨r⟩:FRows)])→Hold B' h' l→Sim (F x' h') G Q):Sim (kA2 (kAr false 1 bytes x t h) F) (kA0 (kF9 s [(⟨r⟩:FRows)]) fun _=>G) Q:=by
 obtain ⟨qs,hs,c⟩:=T
 refine sim_push3 (c h _ O) hs hp hb fun x' qs' h' hs' O' => ?_
 obtain ⟨B',T',O2⟩:=out_make O' hs'
 exact K B' x' h' T' O2
def kFq (c:File):AV:=.agg [rS c.channels,rT c.strokes,rS c.notes]
theorem sim_handF {γ δ:Type} {B:Base} {h:kA7} {l:List Ent} (O:Hold B h l) (c:File) {ok:Bool} (d:Nat) (W:AV→AV) (hW:∀ b,mat depth (W (kFq c)) b=(W (mat (d+4) (kFq c) b).1,(mat (d+4) (kFq c) b).2)) (hn:noF (d+4) (kFq c)=true→noF depth (W (kFq c))=true)
  {F:AV→kA7→Option γ} {Y:Option δ} {Q:δ→γ→Prop} (K:∀ x1 x2 x3 B' h',OutT B B' x2 c.strokes→Hold B' h' (l++[(x1,obS c.channels),(x3,obS c.notes)])→Sim (F (W (.agg [x1,x2,x3])) h') Y Q):Sim (kA2 (kF2 (W (kFq c)) ok h) F) Y Q:=by
 obtain ⟨y,qs,o,m1,m2,m3,O2⟩:=mat_rT d c.strokes (O.allocS c.channels)
 have O3:=O2.allocS c.notes
 have hm:mat (d+4) (kFq c) h.length=(.agg [matS c.channels h.length,y,matS c.notes ((h++matH c.channels)++o).length],matH c.channels++(o++matH c.notes)):=by
  have e1:=mat_rS (d+2) h.length c.channels
  have e2:=mat_rS (d+2) ((h++matH c.channels)++o).length c.notes
  rw [List.length_append] at m1
  rw [List.length_append,List.length_append] at e2 ⊢
  show (AV.agg (kC2 (mat (d+3)) [rS c.channels,rT c.strokes,rS c.notes] h.length).1,(kC2 (mat (d+3)) [rS c.channels,rT c.strokes,rS c.notes] h.length).2)=_
  simp only [kC2,e1,m1,e2,List.append_nil]
 have hno:noF (d+4) (kFq c)=true:=by
  show [rS c.channels,rT c.strokes,rS c.notes].all (noF (d+3))=true
  simp only [List.all_cons,List.all_nil,noF_rS,m3,Bool.and_self]
 have e:kF2 (W (kFq c)) ok h=some (W (.agg [matS c.channels h.length,y,matS c.notes ((h++matH c.channels)++o).length]),h++(matH c.channels++(o++matH c.notes))):=by
  apply hand_of (hn hno)
  rw [hW,hm]
 rw [e,kFl]
 have O4:Hold B (h++(matH c.channels++(o++matH c.notes))) ((l++[(matS c.channels h.length,obS c.channels),(matS c.notes ((h++matH c.channels)++o).length,obS c.notes)])++D3 y qs):=by
  have e2:h++(matH c.channels++(o++matH c.notes))=((h++matH c.channels)++o)++matH c.notes:=by simp only [List.append_assoc]
  rw [e2]
  refine O3.perm ?_
  simp only [List.append_assoc,List.cons_append,List.nil_append]
  refine List.Perm.append_left l (List.Perm.cons _ ?_)
  exact List.perm_append_comm
 obtain ⟨B',T,O5⟩:=out_make O4 m2
 exact K _ _ _ B' _ T O5
theorem relF {B0 B:Base} {h:kA7} {x1 x2 x3:AV} {c:File} (T:OutT B0 B x2 c.strokes) (O:Hold B h [(x1,obS c.channels),(x3,obS c.notes)]) (d:Nat):((Eng.ids h (d+4) (.agg [x1,x2,x3])).map (·.1)).Nodup∧Eng.rel h (d+4) (.agg [x1,x2,x3])=some (kFq c):=by
 obtain ⟨qs,hs,k⟩:=T
 have O':=k h _ O
 constructor
 ·have e:(Eng.ids h (d+4) (.agg [x1,x2,x3]))=Eng.ids h (d+3) x1++(Eng.ids h (d+3) x2++Eng.ids h (d+3) x3):=by
   show [x1,x2,x3].flatMap (Eng.ids h (d+3))=_
   simp only [List.flatMap_cons,List.flatMap_nil,List.append_nil]
  rw [e,List.map_append,List.map_append,D3.idsN O' d,O.idsD (A:=Channel) (s:=c.channels) 0 rfl,O.idsD (A:=Note) (s:=c.notes) 1 rfl]
  have nd:=O'.nd2
  simp only [List.flatMap_append,List.flatMap_cons,List.flatMap_nil,List.append_nil] at nd
  refine List.Perm.nodup ?_ nd
  rw [List.append_assoc]
  exact List.Perm.append_left _ List.perm_append_comm
 ·show (match kB9 (Eng.rel h (d+3)) [x1,x2,x3] with | some cs=>some (AV.agg cs) | none=>none)=_
  simp only [kB9,D3.relN O' hs d,O.relD (A:=Channel) (s:=c.channels) 0 rfl,O.relD (A:=Note) (s:=c.notes) 1 rfl]
  rfl
theorem releaseF {B0 B:Base} {h:kA7} {x1 x2 x3:AV} {c:File} (T:OutT B0 B x2 c.strokes) (O:Hold B h [(x1,obS c.channels),(x3,obS c.notes)]):release h depth (.agg [x1,x2,x3])=some (kFq c):=kGi (relF T O 4).1 (relF T O 4).2
theorem releaseFT {B0 B:Base} {h:kA7} {x1 x2 x3:AV} {c:File} {n:Int} (T:OutT B0 B x2 c.strokes) (O:Hold B h [(x1,obS c.channels),(x3,obS c.notes)]):release h depth (.tup [.agg [x1,x2,x3],iv n])=some (.tup [kFq c,iv n]):=by
 obtain ⟨h1,h2⟩:=relF T O 3
 refine kGi ?_ ?_
 ·have e:Eng.ids h depth (.tup [.agg [x1,x2,x3],iv n])=Eng.ids h (3+4) (.agg [x1,x2,x3]):=by
   show [AV.agg [x1,x2,x3],iv n].flatMap (Eng.ids h 7)=_
   simp only [List.flatMap_cons,List.flatMap_nil,List.append_nil,ids_iv]
  rw [e]
  exact h1
 ·show (match kB9 (Eng.rel h 7) [AV.agg [x1,x2,x3],iv n] with | some cs=>some (AV.tup cs) | none=>none)=_
  have h2':Eng.rel h 7 (.agg [x1,x2,x3])=some (kFq c):=h2
  simp only [kB9,h2',rel_iv]
theorem sim_handF1 {γ δ:Type} {B:Base} {h:kA7} {l:List Ent} (O:Hold B h l) (c:File) {ok:Bool}
  {F:AV→kA7→Option γ} {Y:Option δ} {Q:δ→γ→Prop} (K:∀ x1 x2 x3 B' h',OutT B B' x2 c.strokes→Hold B' h' (l++[(x1,obS c.channels),(x3,obS c.notes)])→Sim (F (.agg [x1,x2,x3]) h') Y Q):Sim (kA2 (kF2 (kFq c) ok h) F) Y Q :=
 sim_handF O c 4 (fun a=>a) (fun _=>rfl) (fun h=>h) K
theorem sim_handF2 {γ δ:Type} {B:Base} {h:kA7} {l:List Ent} (O:Hold B h l) (c:File) (n:Int) {ok:Bool}
  {F:AV→kA7→Option γ} {Y:Option δ} {Q:δ→γ→Prop} (K:∀ x1 x2 x3 B' h',OutT B B' x2 c.strokes→Hold B' h' (l++[(x1,obS c.channels),(x3,obS c.notes)])→Sim (F (.tup [.agg [x1,x2,x3],iv n]) h') Y Q):Sim (kA2 (kF2 (.tup [kFq c,iv n]) ok h) F) Y Q:=by
 refine sim_handF O c 3 (fun a=>.tup [a,iv n]) (fun b => ?_) (fun hn => ?_) K
 ·show (AV.tup (kC2 (mat 7) [kFq c,iv n] b).1,(kC2 (mat 7) [kFq c,iv n] b).2)=_
  simp only [kC2,mat_iv,List.append_nil]
 ·show [kFq c,iv n].all (noF 7)=true
  have hn':noF 7 (kFq c)=true:=hn
  simp only [List.all_cons,List.all_nil,hn',noF_iv,Bool.and_self]
def t_q14 (code_:Sl UInt8) (more_:Sl UInt8):Option Bool :=
 kA0 (bif decide (3000<(((code_.getD []).length:Nat):Int)) then some false else (some (decide (3000<(((more_.getD []).length:Nat):Int))))) fun c2 =>
 some (bif decide (3000<(((code_.getD []).length:Nat):Int)) then true else c2)
theorem ts_q14 (env:Nat→Contract)  (code_:Sl UInt8) (more_:Sl UInt8):Sim (kAf Try.prog env n_q14 [Sl.enc code_,Sl.enc more_] []) (t_q14 code_ more_) fun c p=>release p.2 depth p.1=some ((fun c:Bool=>enc c) c):=by
 have O:=Hold.nil []
 generalize hB:(⟨[],[]⟩:Base)=B at O
 clear hB
 rw [e_q14]
 unfold t_q14
 refine kA1 (v:=iv (((code_.getD []).length:Nat):Int)) (Tab.enc [] code_).len ?_
 refine kA1 (kBd _ _) ?_
 refine kBc (e:=bv) (fun hb1 => ?_) (fun c2 => ?_)
 ·refine kA1 (v:=iv (((more_.getD []).length:Nat):Int)) (Tab.enc [] more_).len ?_
  refine kA1 (kBd _ _) ?_
  exact kA6 rfl
 ·refine kA1 (v:=bv (bif decide (3000<(((code_.getD []).length:Nat):Int)) then true else c2)) (kCn _ _ _) ?_
  exact kA6 (kA8 (by rfl) _)
theorem tt_q14:kB6 Try.prog n_q14 (C2 (fun c:Bool=>enc c) t_q14):=kFk E0 kCm hb_q14 fun code_ more_=>ts_q14 _  code_ more_
def t_q26 (s_:l00Src):Option (Int×l00Src) :=
 bif decide (s_.pos<(((s_.code.getD []).length:Nat):Int)) then
  kA0 (kF8 (s_.code.getD []) s_.pos) fun a2 =>
  bif decide ((wr (s_.pos+1))≤(((s_.code.getD []).length:Nat):Int)) then
   some ((a2.toNat:Int),(⟨s_.code,wr (s_.pos+1),IntKind.u64.wrap ((IntKind.u64.wrap ((IntKind.u64.wrap (s_.seed*6364136223846793005))+(IntKind.u64.wrap (a2.toNat:Int))))+1442695040888963407)⟩:l00Src))
  else
   some (wr (IntKind.u64.wrap ((BitVec.ofInt 64 (Int.fdiv (IntKind.u64.wrap ((IntKind.u64.wrap ((IntKind.u64.wrap (s_.seed*6364136223846793005))+(IntKind.u64.wrap (a2.toNat:Int))))+1442695040888963407)) (2 ^ 40)) &&& BitVec.ofInt 64 255).toNat:Nat)),(⟨s_.code,wr (s_.pos+1),IntKind.u64.wrap ((IntKind.u64.wrap ((IntKind.u64.wrap (s_.seed*6364136223846793005))+(IntKind.u64.wrap (a2.toNat:Int))))+1442695040888963407)⟩:l00Src))
 else
  bif decide ((wr (s_.pos+1))≤(((s_.code.getD []).length:Nat):Int)) then
   some (0,(⟨s_.code,wr (s_.pos+1),IntKind.u64.wrap ((IntKind.u64.wrap ((IntKind.u64.wrap (s_.seed*6364136223846793005))+(IntKind.u64.wrap 0)))+1442695040888963407)⟩:l00Src))
  else
   some (wr (IntKind.u64.wrap ((BitVec.ofInt 64 (Int.fdiv (IntKind.u64.wrap ((IntKind.u64.wrap ((IntKind.u64.wrap (s_.seed*6364136223846793005))+(IntKind.u64.wrap 0)))+1442695040888963407)) (2 ^ 40)) &&& BitVec.ofInt 64 255).toNat:Nat)),(⟨s_.code,wr (s_.pos+1),IntKind.u64.wrap ((IntKind.u64.wrap ((IntKind.u64.wrap (s_.seed*6364136223846793005))+(IntKind.u64.wrap 0)))+1442695040888963407)⟩:l00Src))
theorem ts_q26 (env:Nat→Contract)  {B:Base} {h:kA7} {o_:Nat} (s_:l00Src) (O:Hold B h [pZ9 o_ 3 [Sl.enc s_.code,iv s_.pos,AV.sc (.int .u64 s_.seed)]]):Sim (kAf Try.prog env kHb [AV.ptr o_ 1 0 0] h) (t_q26 s_) (fun c p=>p.1=iv c.1∧Hold B p.2 ([pZ9 o_ 3 [Sl.enc c.2.code,iv c.2.pos,AV.sc (.int .u64 c.2.seed)]])):=by
 rw [e_q26]
 unfold t_q26
 refine kA1 (v:=AV.ptr o_ 1 0 0) rfl ?_
 refine kA1 (v:=AV.ptr o_ 1 0 1) rfl ?_
 refine kA1 (v:=iv s_.pos) (O.ld 0 rfl false 1 1) ?_
 refine kA1 (v:=AV.ptr o_ 1 0 0) rfl ?_
 refine kA1 (v:=AV.ptr o_ 1 0 0) rfl ?_
 refine kA1 (v:=Sl.enc s_.code) (O.ld 0 rfl false 1 0) ?_
 refine kA1 (Tab.enc h s_.code).len ?_
 refine kA1 (kBi _ _) ?_
 refine kAa (fun c1 => ?_) (fun c1 => ?_)
 ·refine kA1 (v:=AV.ptr o_ 1 0 0) rfl ?_
  refine kA1 (v:=AV.ptr o_ 1 0 0) rfl ?_
  refine kA1 (v:=Sl.enc s_.code) (O.ld 0 rfl false 1 0) ?_
  refine kA1 (v:=AV.ptr o_ 1 0 0) rfl ?_
  refine kA1 (v:=AV.ptr o_ 1 0 1) rfl ?_
  refine kA1 (v:=iv s_.pos) (O.ld 0 rfl false 1 1) ?_
  refine kBm (Tab.enc h s_.code) (fun m3 a2 hi4 hm5 => ?_)
  refine kA1 (v:=bt a2) ((Tab.enc h s_.code).ld hm5 false 1 0) ?_
  refine kA1 (v:=iv (a2.toNat:Int)) (conv_byte _) ?_
  refine kA1 (v:=AV.ptr o_ 1 0 0) rfl ?_
  refine kA1 (v:=AV.ptr o_ 1 0 1) rfl ?_
  refine kA1 (v:=iv s_.pos) (O.ld 0 rfl false 1 1) ?_
  refine kA1 (kAg _ _) ?_
  refine kA1 (v:=AV.ptr o_ 1 0 0) rfl ?_
  refine kA1 (v:=AV.ptr o_ 1 0 1) rfl ?_
  refine kAj O 0 (cs':=[Sl.enc s_.code,iv (wr (s_.pos+1)),AV.sc (.int .u64 s_.seed)]) rfl (by first | rfl | simp) (by simp) (by first | rfl | simp) (by first | rfl | simp [kAo]) (fun h6 O7 => ?_)
  replace O7:Hold B h6 [pZ9 o_ 3 [Sl.enc s_.code,iv (wr (s_.pos+1)),AV.sc (.int .u64 s_.seed)]]:=O7
  refine kA1 (v:=AV.ptr o_ 1 0 0) rfl ?_
  refine kA1 (v:=AV.ptr o_ 1 0 2) rfl ?_
  refine kA1 (v:=AV.sc (.int .u64 s_.seed)) (O7.ld 0 rfl false 1 2) ?_
  refine kA1 (v:=AV.sc (.int .u64 (IntKind.u64.wrap (s_.seed*6364136223846793005)))) rfl ?_
  refine kA1 (v:=AV.sc (.int .u64 (IntKind.u64.wrap (a2.toNat:Int)))) rfl ?_
  refine kA1 (v:=AV.sc (.int .u64 (IntKind.u64.wrap ((IntKind.u64.wrap (s_.seed*6364136223846793005))+(IntKind.u64.wrap (a2.toNat:Int)))))) rfl ?_
  refine kA1 (v:=AV.sc (.int .u64 (IntKind.u64.wrap ((IntKind.u64.wrap ((IntKind.u64.wrap (s_.seed*6364136223846793005))+(IntKind.u64.wrap (a2.toNat:Int))))+1442695040888963407)))) rfl ?_
  refine kA1 (v:=AV.ptr o_ 1 0 0) rfl ?_
  refine kA1 (v:=AV.ptr o_ 1 0 2) rfl ?_
  refine kAj O7 0 (cs':=[Sl.enc s_.code,iv (wr (s_.pos+1)),AV.sc (.int .u64 (IntKind.u64.wrap ((IntKind.u64.wrap ((IntKind.u64.wrap (s_.seed*6364136223846793005))+(IntKind.u64.wrap (a2.toNat:Int))))+1442695040888963407)))]) rfl (by first | rfl | simp) (by simp) (by first | rfl | simp) (by first | rfl | simp [kAo]) (fun h8 O9 => ?_)
  replace O9:Hold B h8 [pZ9 o_ 3 [Sl.enc s_.code,iv (wr (s_.pos+1)),AV.sc (.int .u64 (IntKind.u64.wrap ((IntKind.u64.wrap ((IntKind.u64.wrap (s_.seed*6364136223846793005))+(IntKind.u64.wrap (a2.toNat:Int))))+1442695040888963407)))]]:=O9
  refine kA1 (v:=AV.ptr o_ 1 0 0) rfl ?_
  refine kA1 (v:=AV.ptr o_ 1 0 1) rfl ?_
  refine kA1 (v:=iv (wr (s_.pos+1))) (O9.ld 0 rfl false 1 1) ?_
  refine kA1 (v:=AV.ptr o_ 1 0 0) rfl ?_
  refine kA1 (v:=AV.ptr o_ 1 0 0) rfl ?_
  refine kA1 (v:=Sl.enc s_.code) (O9.ld 0 rfl false 1 0) ?_
  refine kA1 (Tab.enc h8 s_.code).len ?_
  refine kA1 (kF4 _ _) ?_
  refine kAa (fun c10 => ?_) (fun c10 => ?_)
  ·exact kA6 ⟨rfl,O9⟩
  ·refine kA1 (v:=AV.ptr o_ 1 0 0) rfl ?_
   refine kA1 (v:=AV.ptr o_ 1 0 2) rfl ?_
   refine kA1 (v:=AV.sc (.int .u64 (IntKind.u64.wrap ((IntKind.u64.wrap ((IntKind.u64.wrap (s_.seed*6364136223846793005))+(IntKind.u64.wrap (a2.toNat:Int))))+1442695040888963407)))) (O9.ld 0 rfl false 1 2) ?_
   refine kA1 (v:=AV.sc (.int .u64 (Int.fdiv (IntKind.u64.wrap ((IntKind.u64.wrap ((IntKind.u64.wrap (s_.seed*6364136223846793005))+(IntKind.u64.wrap (a2.toNat:Int))))+1442695040888963407)) (2 ^ 40)))) rfl ?_
   refine kA1 (v:=AV.sc (.int .u64 (IntKind.u64.wrap ((BitVec.ofInt 64 (Int.fdiv (IntKind.u64.wrap ((IntKind.u64.wrap ((IntKind.u64.wrap (s_.seed*6364136223846793005))+(IntKind.u64.wrap (a2.toNat:Int))))+1442695040888963407)) (2 ^ 40)) &&& BitVec.ofInt 64 255).toNat:Nat)))) rfl ?_
   refine kA1 (v:=iv (wr (IntKind.u64.wrap ((BitVec.ofInt 64 (Int.fdiv (IntKind.u64.wrap ((IntKind.u64.wrap ((IntKind.u64.wrap (s_.seed*6364136223846793005))+(IntKind.u64.wrap (a2.toNat:Int))))+1442695040888963407)) (2 ^ 40)) &&& BitVec.ofInt 64 255).toNat:Nat)))) rfl ?_
   exact kA6 ⟨rfl,O9⟩
 ·refine kA1 (v:=AV.ptr o_ 1 0 0) rfl ?_
  refine kA1 (v:=AV.ptr o_ 1 0 1) rfl ?_
  refine kA1 (v:=iv s_.pos) (O.ld 0 rfl false 1 1) ?_
  refine kA1 (kAg _ _) ?_
  refine kA1 (v:=AV.ptr o_ 1 0 0) rfl ?_
  refine kA1 (v:=AV.ptr o_ 1 0 1) rfl ?_
  refine kAj O 0 (cs':=[Sl.enc s_.code,iv (wr (s_.pos+1)),AV.sc (.int .u64 s_.seed)]) rfl (by first | rfl | simp) (by simp) (by first | rfl | simp) (by first | rfl | simp [kAo]) (fun h13 O14 => ?_)
  replace O14:Hold B h13 [pZ9 o_ 3 [Sl.enc s_.code,iv (wr (s_.pos+1)),AV.sc (.int .u64 s_.seed)]]:=O14
  refine kA1 (v:=AV.ptr o_ 1 0 0) rfl ?_
  refine kA1 (v:=AV.ptr o_ 1 0 2) rfl ?_
  refine kA1 (v:=AV.sc (.int .u64 s_.seed)) (O14.ld 0 rfl false 1 2) ?_
  refine kA1 (v:=AV.sc (.int .u64 (IntKind.u64.wrap (s_.seed*6364136223846793005)))) rfl ?_
  refine kA1 (v:=AV.sc (.int .u64 (IntKind.u64.wrap 0))) rfl ?_
  refine kA1 (v:=AV.sc (.int .u64 (IntKind.u64.wrap ((IntKind.u64.wrap (s_.seed*6364136223846793005))+(IntKind.u64.wrap 0))))) rfl ?_
  refine kA1 (v:=AV.sc (.int .u64 (IntKind.u64.wrap ((IntKind.u64.wrap ((IntKind.u64.wrap (s_.seed*6364136223846793005))+(IntKind.u64.wrap 0)))+1442695040888963407)))) rfl ?_
  refine kA1 (v:=AV.ptr o_ 1 0 0) rfl ?_
  refine kA1 (v:=AV.ptr o_ 1 0 2) rfl ?_
  refine kAj O14 0 (cs':=[Sl.enc s_.code,iv (wr (s_.pos+1)),AV.sc (.int .u64 (IntKind.u64.wrap ((IntKind.u64.wrap ((IntKind.u64.wrap (s_.seed*6364136223846793005))+(IntKind.u64.wrap 0)))+1442695040888963407)))]) rfl (by first | rfl | simp) (by simp) (by first | rfl | simp) (by first | rfl | simp [kAo]) (fun h15 O16 => ?_)
  replace O16:Hold B h15 [pZ9 o_ 3 [Sl.enc s_.code,iv (wr (s_.pos+1)),AV.sc (.int .u64 (IntKind.u64.wrap ((IntKind.u64.wrap ((IntKind.u64.wrap (s_.seed*6364136223846793005))+(IntKind.u64.wrap 0)))+1442695040888963407)))]]:=O16
  refine kA1 (v:=AV.ptr o_ 1 0 0) rfl ?_
  refine kA1 (v:=AV.ptr o_ 1 0 1) rfl ?_
  refine kA1 (v:=iv (wr (s_.pos+1))) (O16.ld 0 rfl false 1 1) ?_
  refine kA1 (v:=AV.ptr o_ 1 0 0) rfl ?_
  refine kA1 (v:=AV.ptr o_ 1 0 0) rfl ?_
  refine kA1 (v:=Sl.enc s_.code) (O16.ld 0 rfl false 1 0) ?_
  refine kA1 (Tab.enc h15 s_.code).len ?_
  refine kA1 (kF4 _ _) ?_
  refine kAa (fun c17 => ?_) (fun c17 => ?_)
  ·exact kA6 ⟨rfl,O16⟩
  ·refine kA1 (v:=AV.ptr o_ 1 0 0) rfl ?_
   refine kA1 (v:=AV.ptr o_ 1 0 2) rfl ?_
   refine kA1 (v:=AV.sc (.int .u64 (IntKind.u64.wrap ((IntKind.u64.wrap ((IntKind.u64.wrap (s_.seed*6364136223846793005))+(IntKind.u64.wrap 0)))+1442695040888963407)))) (O16.ld 0 rfl false 1 2) ?_
   refine kA1 (v:=AV.sc (.int .u64 (Int.fdiv (IntKind.u64.wrap ((IntKind.u64.wrap ((IntKind.u64.wrap (s_.seed*6364136223846793005))+(IntKind.u64.wrap 0)))+1442695040888963407)) (2 ^ 40)))) rfl ?_
   refine kA1 (v:=AV.sc (.int .u64 (IntKind.u64.wrap ((BitVec.ofInt 64 (Int.fdiv (IntKind.u64.wrap ((IntKind.u64.wrap ((IntKind.u64.wrap (s_.seed*6364136223846793005))+(IntKind.u64.wrap 0)))+1442695040888963407)) (2 ^ 40)) &&& BitVec.ofInt 64 255).toNat:Nat)))) rfl ?_
   refine kA1 (v:=iv (wr (IntKind.u64.wrap ((BitVec.ofInt 64 (Int.fdiv (IntKind.u64.wrap ((IntKind.u64.wrap ((IntKind.u64.wrap (s_.seed*6364136223846793005))+(IntKind.u64.wrap 0)))+1442695040888963407)) (2 ^ 40)) &&& BitVec.ofInt 64 255).toNat:Nat)))) rfl ?_
   exact kA6 ⟨rfl,O16⟩
noncomputable def ev_q26:Nat→Contract:=kD7 []
theorem kH1:kC5 Try.prog ev_q26:=E0
theorem tg_q26 {B:Base} {h:kA7} {o_:Nat} (s_:l00Src) (O:Hold B h [pZ9 o_ 3 [Sl.enc s_.code,iv s_.pos,AV.sc (.int .u64 s_.seed)]]):Sim (kAf Try.prog ev_q26 kHb [AV.ptr o_ 1 0 0] h) (t_q26 s_) (fun c p=>p.1=iv c.1∧Hold B p.2 ([pZ9 o_ 3 [Sl.enc c.2.code,iv c.2.pos,AV.sc (.int .u64 c.2.seed)]])):=ts_q26 ev_q26  s_  O
def kBp (s_:l00Src) (n_:Int):Option (Int×l00Src) :=
 bif decide (n_≤1) then
  some (0,(⟨s_.code,s_.pos,s_.seed⟩:l00Src))
 else
  kA0 (t_q26 s_) fun c3 =>
  bif decide (200<n_) then
   kA0 (t_q26 c3.2) fun c10 =>
   kA0 (remI (wr ((wr (c3.1*256))+c10.1)) n_) fun q16 =>
   some (q16,(⟨c10.2.code,c10.2.pos,c10.2.seed⟩:l00Src))
  else
   kA0 (remI c3.1 n_) fun q18 =>
   some (q18,(⟨c3.2.code,c3.2.pos,c3.2.seed⟩:l00Src))
theorem ts_q28 (env:Nat→Contract) (he_q26:env kHb=.gen (kAf Try.prog ev_q26 kHb)) {B:Base} {h:kA7} {o_:Nat} (s_:l00Src) (n_:Int) (O:Hold B h [pZ9 o_ 3 [Sl.enc s_.code,iv s_.pos,AV.sc (.int .u64 s_.seed)]]):Sim (kAf Try.prog env kB1 [AV.ptr o_ 1 0 0,iv n_] h) (kBp s_ n_) (fun c p=>p.1=iv c.1∧Hold B p.2 ([pZ9 o_ 3 [Sl.enc c.2.code,iv c.2.pos,AV.sc (.int .u64 c.2.seed)]])):=by
 rw [e_q28]
 unfold kBp
 refine kA1 (kF4 _ _) ?_
 refine kAa (fun c1 => ?_) (fun c1 => ?_)
 ·exact kA6 ⟨rfl,O⟩
 ·refine kAq he_q26 (tg_q26 s_ (O.start (i:=0) rfl rfl)) (fun c3 v4 h5 hq6 => ?_)
  obtain ⟨e_v4,O7⟩:=hq6
  dsimp only at e_v4
  subst v4
  have O8:Hold B h5 [pZ9 o_ 3 [Sl.enc c3.2.code,iv c3.2.pos,AV.sc (.int .u64 c3.2.seed)]]:=O.merge (i:=0) rfl rfl O7
  refine kA1 (kBd _ _) ?_
  refine kAa (fun c9 => ?_) (fun c9 => ?_)
  ·refine kA1 (aBin_mul _ _) ?_
   refine kAq he_q26 (tg_q26 c3.2 (O8.start (i:=0) rfl rfl)) (fun c10 v11 h12 hq13 => ?_)
   obtain ⟨e_v11,O14⟩:=hq13
   dsimp only at e_v11
   subst v11
   have O15:Hold B h12 [pZ9 o_ 3 [Sl.enc c10.2.code,iv c10.2.pos,AV.sc (.int .u64 c10.2.seed)]]:=O8.merge (i:=0) rfl rfl O14
   refine kA1 (kAg _ _) ?_
   refine sim_rem (fun q16 => ?_)
   exact kA6 ⟨rfl,O15⟩
  ·refine sim_rem (fun q18 => ?_)
   exact kA6 ⟨rfl,O8⟩
noncomputable def kC8:Nat→Contract:=kD7 [(kHb,.gen (kAf Try.prog ev_q26 kHb))]
theorem kCu:kC5 Try.prog kC8:=(kHf (kDq kH1 kCm hb_q26) E0)
theorem kBj {B:Base} {h:kA7} {o_:Nat} (s_:l00Src) (n_:Int) (O:Hold B h [pZ9 o_ 3 [Sl.enc s_.code,iv s_.pos,AV.sc (.int .u64 s_.seed)]]):Sim (kAf Try.prog kC8 kB1 [AV.ptr o_ 1 0 0,iv n_] h) (kBp s_ n_) (fun c p=>p.1=iv c.1∧Hold B p.2 ([pZ9 o_ 3 [Sl.enc c.2.code,iv c.2.pos,AV.sc (.int .u64 c.2.seed)]])):=ts_q28 kC8 (by simp [kC8,kD7]) s_ n_  O
def kG5 (s_:l00Src) (n_:Int):Option (Bool×l00Src) :=
 kA0 (kBp s_ n_) fun c1 =>
 some (decide (c1.1=0),(⟨c1.2.code,c1.2.pos,c1.2.seed⟩:l00Src))
theorem ts_q27 (env:Nat→Contract) (he_q28:env kB1=.gen (kAf Try.prog kC8 kB1)) {B:Base} {h:kA7} {o_:Nat} (s_:l00Src) (n_:Int) (O:Hold B h [pZ9 o_ 3 [Sl.enc s_.code,iv s_.pos,AV.sc (.int .u64 s_.seed)]]):Sim (kAf Try.prog env kCf [AV.ptr o_ 1 0 0,iv n_] h) (kG5 s_ n_) (fun c p=>p.1=bv c.1∧Hold B p.2 ([pZ9 o_ 3 [Sl.enc c.2.code,iv c.2.pos,AV.sc (.int .u64 c.2.seed)]])):=by
 rw [e_q27]
 unfold kG5
 refine kAq he_q28 (kBj s_ n_ (O.start (i:=0) rfl rfl)) (fun c1 v2 h3 hq4 => ?_)
 obtain ⟨e_v2,O5⟩:=hq4
 dsimp only at e_v2
 subst v2
 have O6:Hold B h3 [pZ9 o_ 3 [Sl.enc c1.2.code,iv c1.2.pos,AV.sc (.int .u64 c1.2.seed)]]:=O.merge (i:=0) rfl rfl O5
 refine kA1 (aCmp_eq _ _) ?_
 exact kA6 ⟨rfl,O6⟩
noncomputable def kE7:Nat→Contract:=kD7 [(kB1,.gen (kAf Try.prog kC8 kB1))]
theorem kHi:kC5 Try.prog kE7:=(kHf (kDq kCu kCm hb_q28) E0)
theorem kGc {B:Base} {h:kA7} {o_:Nat} (s_:l00Src) (n_:Int) (O:Hold B h [pZ9 o_ 3 [Sl.enc s_.code,iv s_.pos,AV.sc (.int .u64 s_.seed)]]):Sim (kAf Try.prog kE7 kCf [AV.ptr o_ 1 0 0,iv n_] h) (kG5 s_ n_) (fun c p=>p.1=bv c.1∧Hold B p.2 ([pZ9 o_ 3 [Sl.enc c.2.code,iv c.2.pos,AV.sc (.int .u64 c.2.seed)]])):=ts_q27 kE7 (by simp [kE7,kD7]) s_ n_  O
def t_q29 (s_:l00Src) (list_:Sl ByteArray):Option (ByteArray×l00Src) :=
 kA0 (kBp s_ (((list_.getD []).length:Nat):Int)) fun c1 =>
 kA0 (kF8 (list_.getD []) c1.1) fun a7 =>
 some (a7,(⟨c1.2.code,c1.2.pos,c1.2.seed⟩:l00Src))
theorem ts_q29 (env:Nat→Contract) (he_q28:env kB1=.gen (kAf Try.prog kC8 kB1)) {B:Base} {h:kA7} {o_:Nat} (s_:l00Src) (list_:Sl ByteArray) {list_x:AV} (T_list_:∀ h,(∀ o,o<B.h0.length→o ∉ B.F→h[o]?=B.h0[o]?)→Tab h list_x list_) (O:Hold B h [pZ9 o_ 3 [Sl.enc s_.code,iv s_.pos,AV.sc (.int .u64 s_.seed)]]):Sim (kAf Try.prog env kCd [AV.ptr o_ 1 0 0,list_x] h) (t_q29 s_ list_) (fun c p=>p.1=sv c.1∧Hold B p.2 ([pZ9 o_ 3 [Sl.enc c.2.code,iv c.2.pos,AV.sc (.int .u64 c.2.seed)]])):=by
 rw [e_q29]
 unfold t_q29
 refine kA1 (v:=iv (((list_.getD []).length:Nat):Int)) (T_list_ _ O.keep).len ?_
 refine kAq he_q28 (kBj s_ (((list_.getD []).length:Nat):Int) (O.start (i:=0) rfl rfl)) (fun c1 v2 h3 hq4 => ?_)
 obtain ⟨e_v2,O5⟩:=hq4
 dsimp only at e_v2
 subst v2
 have O6:Hold B h3 [pZ9 o_ 3 [Sl.enc c1.2.code,iv c1.2.pos,AV.sc (.int .u64 c1.2.seed)]]:=O.merge (i:=0) rfl rfl O5
 refine kBm (T_list_ _ O6.keep) (fun m8 a7 hi9 hm10 => ?_)
 refine kA1 (v:=sv a7) ((T_list_ _ O6.keep).ld hm10 false 1 0) ?_
 exact kA6 ⟨rfl,O6⟩
noncomputable def kCz:Nat→Contract:=kD7 [(kB1,.gen (kAf Try.prog kC8 kB1))]
theorem kGz:kC5 Try.prog kCz:=(kHf (kDq kCu kCm hb_q28) E0)
theorem tg_q29 {B:Base} {h:kA7} {o_:Nat} (s_:l00Src) (list_:Sl ByteArray) {list_x:AV} (T_list_:∀ h,(∀ o,o<B.h0.length→o ∉ B.F→h[o]?=B.h0[o]?)→Tab h list_x list_) (O:Hold B h [pZ9 o_ 3 [Sl.enc s_.code,iv s_.pos,AV.sc (.int .u64 s_.seed)]]):Sim (kAf Try.prog kCz kCd [AV.ptr o_ 1 0 0,list_x] h) (t_q29 s_ list_) (fun c p=>p.1=sv c.1∧Hold B p.2 ([pZ9 o_ 3 [Sl.enc c.2.code,iv c.2.pos,AV.sc (.int .u64 c.2.seed)]])):=ts_q29 kCz (by simp [kCz,kD7]) s_ list_ T_list_ O
def t_q25 (s_:l00Src) (list_:Sl Int):Option (Int×l00Src) :=
 kA0 (kBp s_ (((list_.getD []).length:Nat):Int)) fun c1 =>
 kA0 (kF8 (list_.getD []) c1.1) fun a7 =>
 some (a7,(⟨c1.2.code,c1.2.pos,c1.2.seed⟩:l00Src))
theorem ts_q25 (env:Nat→Contract) (he_q28:env kB1=.gen (kAf Try.prog kC8 kB1)) {B:Base} {h:kA7} {o_:Nat} (s_:l00Src) (list_:Sl Int) {list_x:AV} (T_list_:∀ h,(∀ o,o<B.h0.length→o ∉ B.F→h[o]?=B.h0[o]?)→Tab h list_x list_) (O:Hold B h [pZ9 o_ 3 [Sl.enc s_.code,iv s_.pos,AV.sc (.int .u64 s_.seed)]]):Sim (kAf Try.prog env kDd [AV.ptr o_ 1 0 0,list_x] h) (t_q25 s_ list_) (fun c p=>p.1=iv c.1∧Hold B p.2 ([pZ9 o_ 3 [Sl.enc c.2.code,iv c.2.pos,AV.sc (.int .u64 c.2.seed)]])):=by
 rw [e_q25]
 unfold t_q25
 refine kA1 (v:=iv (((list_.getD []).length:Nat):Int)) (T_list_ _ O.keep).len ?_
 refine kAq he_q28 (kBj s_ (((list_.getD []).length:Nat):Int) (O.start (i:=0) rfl rfl)) (fun c1 v2 h3 hq4 => ?_)
 obtain ⟨e_v2,O5⟩:=hq4
 dsimp only at e_v2
 subst v2
 have O6:Hold B h3 [pZ9 o_ 3 [Sl.enc c1.2.code,iv c1.2.pos,AV.sc (.int .u64 c1.2.seed)]]:=O.merge (i:=0) rfl rfl O5
 refine kBm (T_list_ _ O6.keep) (fun m8 a7 hi9 hm10 => ?_)
 refine kA1 (v:=iv a7) ((T_list_ _ O6.keep).ld hm10 false 1 0) ?_
 exact kA6 ⟨rfl,O6⟩
noncomputable def kE5:Nat→Contract:=kD7 [(kB1,.gen (kAf Try.prog kC8 kB1))]
theorem kGp:kC5 Try.prog kE5:=(kHf (kDq kCu kCm hb_q28) E0)
theorem tg_q25 {B:Base} {h:kA7} {o_:Nat} (s_:l00Src) (list_:Sl Int) {list_x:AV} (T_list_:∀ h,(∀ o,o<B.h0.length→o ∉ B.F→h[o]?=B.h0[o]?)→Tab h list_x list_) (O:Hold B h [pZ9 o_ 3 [Sl.enc s_.code,iv s_.pos,AV.sc (.int .u64 s_.seed)]]):Sim (kAf Try.prog kE5 kDd [AV.ptr o_ 1 0 0,list_x] h) (t_q25 s_ list_) (fun c p=>p.1=iv c.1∧Hold B p.2 ([pZ9 o_ 3 [Sl.enc c.2.code,iv c.2.pos,AV.sc (.int .u64 c.2.seed)]])):=ts_q25 kE5 (by simp [kE5,kD7]) s_ list_ T_list_ O
def t_q13 (code_:Sl UInt8) (at_:Int) (n_:Int):Option Int :=
 kA0 (bif decide ((((code_.getD []).length:Nat):Int)≤at_) then some false else (some (decide (n_<1)))) fun c2 =>
 bif (bif decide ((((code_.getD []).length:Nat):Int)≤at_) then true else c2) then
  some 0
 else
  kA0 (kF8 (code_.getD []) at_) fun a4 =>
  kA0 (remI (a4.toNat:Int) n_) fun q8 =>
  some q8
theorem ts_q13 (env:Nat→Contract)  (code_:Sl UInt8) (at_:Int) (n_:Int):Sim (kAf Try.prog env n_q13 [Sl.enc code_,iv at_,iv n_] []) (t_q13 code_ at_ n_) fun c p=>release p.2 depth p.1=some ((fun c:Int=>enc c) c):=by
 have O:=Hold.nil []
 generalize hB:(⟨[],[]⟩:Base)=B at O
 clear hB
 rw [e_q13]
 unfold t_q13
 refine kA1 (v:=iv (((code_.getD []).length:Nat):Int)) (Tab.enc [] code_).len ?_
 refine kA1 (kF6 _ _) ?_
 refine kBc (e:=bv) (fun hb1 => ?_) (fun c2 => ?_)
 ·refine kA1 (kBi _ _) ?_
  exact kA6 rfl
 ·refine kA1 (v:=bv (bif decide ((((code_.getD []).length:Nat):Int)≤at_) then true else c2)) (kCn _ _ _) ?_
  refine kAa (fun c3 => ?_) (fun c3 => ?_)
  ·exact kA6 (kA8 (by rfl) _)
  ·refine kBm (Tab.enc [] code_) (fun m5 a4 hi6 hm7 => ?_)
   refine kA1 (v:=bt a4) ((Tab.enc [] code_).ld hm7 false 1 0) ?_
   refine kA1 (v:=iv (a4.toNat:Int)) (conv_byte _) ?_
   refine sim_rem (fun q8 => ?_)
   exact kA6 (kA8 (by rfl) _)
theorem tt_q13:kB6 Try.prog n_q13 (C3 (fun c:Int=>enc c) t_q13):=pureC3 E0 kCm hb_q13 fun code_ at_ n_=>ts_q13 _  code_ at_ n_
def s0_q1 (l12:List UInt8):Int→Option (Sum Int (Sum Unit Bool)):=fun w15 =>
 bif decide (w15<((((some l12).getD []).length:Nat):Int)) then
  kA0 (kF8 ((some l12).getD []) w15) fun a25 =>
  kA0 (some (kF3 a25)) fun c29 =>
  kA0 (bif !c29 then (some (decide (48≤(a25.toNat:Int)))) else some false) fun c31 =>
  kA0 (bif ((!c29) && c31) then (some (decide ((a25.toNat:Int)≤57))) else some false) fun c33 =>
  kA0 (bif !c29 then (some (!(bif c31 then c33 else false))) else some false) fun c35 =>
  kA0 (bif (bif !c29 then c35 else false) then (some (!decide ((a25.toNat:Int)=45))) else some false) fun c37 =>
  bif (bif (bif !c29 then c35 else false) then c37 else false) then
   some (.inr (.inr false))
  else
   some (.inl (wr (w15+1)))
 else
  some (.inr (.inl ()))
def t_q1 (s_:ByteArray):Option Bool :=
 kA0 (bif decide ((s_.size:Int)<1) then some false else (some (decide (12<(s_.size:Int))))) fun c2 =>
 kA0 (bif (bif decide ((s_.size:Int)<1) then true else c2) then some false else (kA0 (getB s_ 0) fun b4=>kA0 (some (kF3 b4)) fun c5=>some (!c5))) fun c6 =>
 bif (bif (bif decide ((s_.size:Int)<1) then true else c2) then true else c6) then
  some false
 else
  kA0 (bytesO s_) fun l12 =>
  kA0 (kBo (s0_q1 l12) 0) fun qq43=>match qq43 with
  | (.inl _) =>
    some true
  | (.inr q22) =>
    some q22
theorem tl0_q1 (env:Nat→Contract) {B:Base} (he_q7:env n_q7=.pure (T1 kF3)) (s_:ByteArray) (c2:Bool) (c6:Bool) (x8:AV) (l12:List UInt8) :kGr (fun (st:Int) tm h13=>match st with | w15=>tm=((sv s_)::und::.top::und::.top::(sv s_)::(iv (s_.size:Int))::(bv (decide ((s_.size:Int)<1)))::(bv (decide ((s_.size:Int)<1)))::.top::.top::(cond (decide ((s_.size:Int)<1)) und (bv c2))::(bv (bif decide ((s_.size:Int)<1) then true else c2))::(bv (bif decide ((s_.size:Int)<1) then true else c2))::.top::.top::.top::(cond (bif decide ((s_.size:Int)<1) then true else c2) und (bv c6))::(bv (bif (bif decide ((s_.size:Int)<1) then true else c2) then true else c6))::(sv s_)::x8::(iv ((((some l12).getD []).length:Nat):Int))::(iv w15)::tZ9 20 [])∧Hold B h13 [(x8,obS ((some l12):Sl UInt8))]) hm0_q1 xm0_q1 (lb0_q1 env) (s0_q1 l12) (fun (q:Sum Unit Bool) (r:Res)=>match q with | .inl _=>∃ (z18:AV) (z19:AV) (h16:kA7),r=(.exit 0,((sv s_)::und::z18::und::z19::(sv s_)::(iv (s_.size:Int))::(bv (decide ((s_.size:Int)<1)))::(bv (decide ((s_.size:Int)<1)))::.top::.top::(cond (decide ((s_.size:Int)<1)) und (bv c2))::(bv (bif decide ((s_.size:Int)<1) then true else c2))::(bv (bif decide ((s_.size:Int)<1) then true else c2))::.top::.top::.top::(cond (bif decide ((s_.size:Int)<1) then true else c2) und (bv c6))::(bv (bif (bif decide ((s_.size:Int)<1) then true else c2) then true else c6))::(sv s_)::x8::(iv ((((some l12).getD []).length:Nat):Int))::tZ9 21 []),h16)∧Hold B h16 [(x8,obS ((some l12):Sl UInt8))] | .inr q22=>∃ (q23:UInt8) (h20:kA7),r=(.ret,((sv s_)::und::(bv q22)::und::(bt q23)::(sv s_)::(iv (s_.size:Int))::(bv (decide ((s_.size:Int)<1)))::(bv (decide ((s_.size:Int)<1)))::.top::.top::(cond (decide ((s_.size:Int)<1)) und (bv c2))::(bv (bif decide ((s_.size:Int)<1) then true else c2))::(bv (bif decide ((s_.size:Int)<1) then true else c2))::.top::.top::.top::(cond (bif decide ((s_.size:Int)<1) then true else c2) und (bv c6))::(bv (bif (bif decide ((s_.size:Int)<1) then true else c2) then true else c6))::(sv s_)::x8::(iv ((((some l12).getD []).length:Nat):Int))::tZ9 21 []),h20)∧Hold B h20 [(x8,obS ((some l12):Sl UInt8))]):=by
 refine @kH3 _ _ _ _ _ _ _ _ (fun w15 tm h13 R => ?_)
 obtain ⟨rfl,O14⟩:=R
 rw [e_lb0_q1]
 unfold s0_q1
 dsimp only
 refine kA1 (kBi _ _) ?_
 refine kAa (fun c24 => ?_) (fun c24 => ?_)
 ·refine kBm (O14.tab (A:=UInt8) (s:=(some l12)) 0 rfl) (fun m26 a25 hi27 hm28 => ?_)
  refine kA1 (v:=bt a25) ((O14.tab (A:=UInt8) (s:=(some l12)) 0 rfl).ld hm28 false 1 0) ?_
  refine kFm (t:=kF3) he_q7 (kFf _ _) (fun c29 => ?_)
  refine kA1 (v:=bv (!c29)) (kC3 _) ?_
  refine kBa (e:=bv) (fun hb30 => ?_) (fun c31 => ?_)
  ·refine kA1 (v:=bv (decide (48≤(a25.toNat:Int)))) rfl ?_
   exact kA6 rfl
  ·simp only [gv_TT]
   refine kBa (e:=bv) (fun hb32 => ?_) (fun c33 => ?_)
   ·refine kA1 (v:=bv (decide ((a25.toNat:Int)≤57))) rfl ?_
    exact kA6 rfl
   ·refine kBa (e:=bv) (fun hb34 => ?_) (fun c35 => ?_)
    ·simp only [hb34,cond_true,cond_false,Bool.not_true,Bool.not_false,Bool.true_and,Bool.and_true,Bool.false_and,Bool.not_not]
     refine kA1 (v:=bv (bif c31 then c33 else false)) (kCh _ _ _) ?_
     refine kA1 (v:=bv (!(bif c31 then c33 else false))) (kC3 _) ?_
     exact kA6 rfl
    ·refine kA1 (v:=bv (bif !c29 then c35 else false)) (kCh _ _ _) ?_
     refine kBa (e:=bv) (fun hb36 => ?_) (fun c37 => ?_)
     ·refine kA1 (v:=bv (!decide ((a25.toNat:Int)=45))) rfl ?_
      exact kA6 rfl
     ·refine kA1 (v:=bv (bif (bif !c29 then c35 else false) then c37 else false)) (kCh _ _ _) ?_
      refine kAa (fun c38 => ?_) (fun c38 => ?_)
      ·exact kA6 ⟨nofun,_,_,rfl,O14⟩
      ·refine kA1 (kAg _ _) ?_
       exact kA6 ⟨rfl,rfl,O14⟩
 ·exact kA6 ⟨nofun,_,_,_,rfl,O14⟩
theorem ts_q1 (env:Nat→Contract) (he_q7:env n_q7=.pure (T1 kF3)) (s_:ByteArray):Sim (kAf Try.prog env n_q1 [sv s_] []) (t_q1 s_) fun c p=>release p.2 depth p.1=some ((fun c:Bool=>enc c) c):=by
 have O:=Hold.nil []
 generalize hB:(⟨[],[]⟩:Base)=B at O
 clear hB
 rw [e_q1]
 unfold t_q1
 refine kA1 (v:=iv (s_.size:Int)) rfl ?_
 refine kA1 (kBi _ _) ?_
 refine kBc (e:=bv) (fun hb1 => ?_) (fun c2 => ?_)
 ·refine kA1 (v:=iv (s_.size:Int)) rfl ?_
  refine kA1 (kBd _ _) ?_
  exact kA6 rfl
 ·refine kA1 (v:=bv (bif decide ((s_.size:Int)<1) then true else c2)) (kCn _ _ _) ?_
  refine kBc (e:=bv) (fun hb3 => ?_) (fun c6 => ?_)
  ·refine kHp (fun b4 => ?_)
   refine kFm (t:=kF3) he_q7 (kFf _ _) (fun c5 => ?_)
   refine kA1 (v:=bv (!c5)) (kC3 _) ?_
   exact kA6 rfl
  ·refine kA1 (v:=bv (bif (bif decide ((s_.size:Int)<1) then true else c2) then true else c6)) (kCn _ _ _) ?_
   refine kAa (fun c7 => ?_) (fun c7 => ?_)
   ·exact kA6 (kA8 (by rfl) _)
   ·refine sim_bytes O (fun l12 x8 h9 O10 => ?_)
    replace O10:Hold B h9 [(x8,obS ((some l12):Sl UInt8))]:=O10
    refine kA1 (v:=iv ((((some l12).getD []).length:Nat):Int)) (O10.tab (A:=UInt8) (s:=(some l12)) 0 rfl).len ?_
    refine kBe ((tl0_q1 env he_q7 s_ c2 c6 x8 l12) ⟨rfl,O10⟩) (fun qq43 r hq => ?_)
    rcases qq43 with _ | q22
    ·obtain ⟨z18,z19,h16,rfl,O17⟩:=hq
     rw [e_lk0x0_q1]
     exact kA6 (kA8 (by rfl) _)
    ·obtain ⟨q23,h20,rfl,O21⟩:=hq
     rw [e_lk0r_q1]
     exact kA6 (kA8 (by rfl) _)
theorem tt_q1:kB6 Try.prog n_q1 (C1 (fun c:Bool=>enc c) t_q1):=kFx (kCl ok_q7 E0) kCm hb_q1 fun s_=>ts_q1 _ (by simp [kD7]) s_
def t_q9 (c_:Channel):Option Bool :=
 kA0 (t_q1 c_.name) fun c5 =>
 kA0 (bif c5 then (kA0 (t_q1 c_.unit) fun c7=>some c7) else some false) fun c8 =>
 kA0 (bif (bif c5 then c8 else false) then (kA0 (some (kBh c_.low (-1000000000) 1000000000)) fun c10=>some c10) else some false) fun c11 =>
 kA0 (bif (bif (bif c5 then c8 else false) then c11 else false) then (kA0 (some (kBh c_.high (-1000000000) 1000000000)) fun c13=>some c13) else some false) fun c14 =>
 kA0 (bif (bif (bif (bif c5 then c8 else false) then c11 else false) then c14 else false) then (some (decide (c_.low<c_.high))) else some false) fun c16 =>
 some (bif (bif (bif (bif c5 then c8 else false) then c11 else false) then c14 else false) then c16 else false)
theorem ts_q9 (env:Nat→Contract) (he_q1:env n_q1=.pure (C1 (fun c:Bool=>enc c) t_q1)) (he_q11:env n_q11=.pure (T3 kBh)) (c_:Channel):Sim (kAf Try.prog env n_q9 [AV.agg [sv c_.name,sv c_.unit,iv c_.low,iv c_.high]] []) (t_q9 c_) fun c p=>release p.2 depth p.1=some ((fun c:Bool=>enc c) c):=by
 have O:=Hold.nil []
 generalize hB:(⟨[],[]⟩:Base)=B at O
 clear hB
 rw [e_q9]
 unfold t_q9
 refine kBt O (cs:=[sv c_.name,sv c_.unit,iv c_.low,iv c_.high]) (by first | rfl | simp) (fun o1 h2 O3 => ?_)
 replace O3:Hold B h2 [pZ9 o1 4 [sv c_.name,sv c_.unit,iv c_.low,iv c_.high]]:=O3
 refine kA1 (v:=AV.ptr o1 1 0 0) rfl ?_
 refine kA1 (v:=sv c_.name) (O3.ld 0 rfl false 1 0) ?_
 refine kCx he_q1 (kDu _ _) (fun c5 => ?_)
 refine kBr (kAh (by rfl) _ _) ?_
 refine kBa (e:=bv) (fun hb6 => ?_) (fun c8 => ?_)
 ·refine kA1 (v:=AV.ptr o1 1 0 1) rfl ?_
  refine kA1 (v:=sv c_.unit) (O3.ld 0 rfl false 1 1) ?_
  refine kCx he_q1 (kDu _ _) (fun c7 => ?_)
  refine kBr (kAh (by rfl) _ _) ?_
  exact kA6 rfl
 ·refine kA1 (v:=bv (bif c5 then c8 else false)) (kCh _ _ _) ?_
  refine kBa (e:=bv) (fun hb9 => ?_) (fun c11 => ?_)
  ·refine kA1 (v:=AV.ptr o1 1 0 2) rfl ?_
   refine kA1 (v:=iv c_.low) (O3.ld 0 rfl false 1 2) ?_
   refine kEd (t:=kBh) he_q11 (kAe _ _) (kAe _ _) (kAe _ _) (fun c10 => ?_)
   exact kA6 rfl
  ·refine kA1 (v:=bv (bif (bif c5 then c8 else false) then c11 else false)) (kCh _ _ _) ?_
   refine kBa (e:=bv) (fun hb12 => ?_) (fun c14 => ?_)
   ·refine kA1 (v:=AV.ptr o1 1 0 3) rfl ?_
    refine kA1 (v:=iv c_.high) (O3.ld 0 rfl false 1 3) ?_
    refine kEd (t:=kBh) he_q11 (kAe _ _) (kAe _ _) (kAe _ _) (fun c13 => ?_)
    exact kA6 rfl
   ·refine kA1 (v:=bv (bif (bif (bif c5 then c8 else false) then c11 else false) then c14 else false)) (kCh _ _ _) ?_
    refine kBa (e:=bv) (fun hb15 => ?_) (fun c16 => ?_)
    ·refine kA1 (v:=AV.ptr o1 1 0 2) rfl ?_
     refine kA1 (v:=iv c_.low) (O3.ld 0 rfl false 1 2) ?_
     refine kA1 (v:=AV.ptr o1 1 0 3) rfl ?_
     refine kA1 (v:=iv c_.high) (O3.ld 0 rfl false 1 3) ?_
     refine kA1 (kBi _ _) ?_
     exact kA6 rfl
    ·refine kA1 (v:=bv (bif (bif (bif (bif c5 then c8 else false) then c11 else false) then c14 else false) then c16 else false)) (kCh _ _ _) ?_
     exact kA6 (kA8 (by rfl) _)
theorem tt_q9:kB6 Try.prog n_q9 (C1 (fun c:Bool=>enc c) t_q9):=kFx (kCl tt_q1 (kCl ok_q11 E0)) kCm hb_q9 fun c_=>ts_q9 _ (by simp [kD7]) (by simp [kD7]) c_
def t_q6 (c_:Channel) (cap0_:ByteArray):Option Bool :=
 some (decide (c_.name=cap0_))
def tp_q6 (c_:Channel) (cap0_p:Pt ByteArray):Option Bool:=kA0 cap0_p.get fun cap0_=>t_q6 c_ cap0_
theorem ts_q6 (env:Nat→Contract)  (c_:Channel) (cap0_:ByteArray) {cap0_p:Pt ByteArray} (hp_cap0_:cap0_p.get=some cap0_):Sim (kAf Try.prog env n_q6 [AV.agg [sv c_.name,sv c_.unit,iv c_.low,iv c_.high],AV.fptr (Row.w ByteArray) (cap0_p.tab.map Row.cells) cap0_p.i 0] []) (t_q6 c_ cap0_) fun c p=>release p.2 depth p.1=some ((fun c:Bool=>enc c) c):=by
 have O:=Hold.nil []
 generalize hB:(⟨[],[]⟩:Base)=B at O
 clear hB
 rw [e_q6]
 unfold t_q6
 refine kBt O (cs:=[sv c_.name,sv c_.unit,iv c_.low,iv c_.high]) (by first | rfl | simp) (fun o1 h2 O3 => ?_)
 replace O3:Hold B h2 [pZ9 o1 4 [sv c_.name,sv c_.unit,iv c_.low,iv c_.high]]:=O3
 refine kA1 (v:=AV.ptr o1 1 0 0) rfl ?_
 refine kA1 (v:=sv c_.name) (O3.ld 0 rfl false 1 0) ?_
 refine kA1 (v:=sv cap0_) (kE4 hp_cap0_ false 1 0) ?_
 refine kA1 (aCmp_eqS _ _) ?_
 exact kA6 (kA8 (by rfl) _)
theorem tt_q6:kB6 Try.prog n_q6 (C2 (fun c:Bool=>enc c) tp_q6):=kFk E0 kCm hb_q6 fun c_ cap0_p=>kFr fun cap0_ hp_cap0_=>ts_q6 _  c_ cap0_ hp_cap0_
def s0_q18 (p_:Channel→Option Bool) (s_:Sl Channel):Int→Option (Sum Int (Sum Unit Int)):=fun w3 =>
 bif decide (w3<(((s_.getD []).length:Nat):Int)) then
  kA0 (kF8 (s_.getD []) w3) fun a13 =>
  kA0 (p_ a13) fun c17 =>
  bif c17 then
   some (.inr (.inr w3))
  else
   some (.inl (wr (w3+1)))
 else
  some (.inr (.inl ()))
def t_q18 (p_:Channel→Option Bool) (s_:Sl Channel):Option Int :=
 kA0 (kBo (s0_q18 p_ s_) 0) fun qq26=>match qq26 with
 | (.inl _) =>
   some (-1)
 | (.inr q10) =>
   some q10
theorem tl0_q18 (env:Nat→Contract) {B:Base} {K:Type} [Cod K] {g:Nat} {caps:K→List AV} {P:K→Channel→Option Bool} (hp:∀ k (a:Channel) h,Sim (kAn (env g) (AV.agg (Row.cells a)::caps k) h) (P k a) fun b r=>r=(bv b,h))  (s_:Sl Channel) (f_:K) :kGr (fun (st:Int) tm h1=>match st with | w3=>tm=((Sl.enc s_)::(AV.fn g (caps f_))::und::und::.top::.top::(Sl.enc s_)::(iv (((s_.getD []).length:Nat):Int))::(iv w3)::tZ9 10 [])∧Hold B h1 []) hm0_q18 xm0_q18 (lb0_q18 env) (s0_q18 (P f_) s_) (fun (q:Sum Unit Int) (r:Res)=>match q with | .inl _=>∃ (z6:AV) (z7:AV) (h4:kA7),r=(.exit 0,((Sl.enc s_)::(AV.fn g (caps f_))::und::und::z6::z7::(Sl.enc s_)::(iv (((s_.getD []).length:Nat):Int))::tZ9 11 []),h4)∧Hold B h4 [] | .inr q10=>∃ (q11:Int) (h8:kA7),r=(.ret,((Sl.enc s_)::(AV.fn g (caps f_))::und::und::(iv q10)::(iv q11)::(Sl.enc s_)::(iv (((s_.getD []).length:Nat):Int))::tZ9 11 []),h8)∧Hold B h8 []):=by
 refine @kH3 _ _ _ _ _ _ _ _ (fun w3 tm h1 R => ?_)
 obtain ⟨rfl,O2⟩:=R
 rw [e_lb0_q18]
 unfold s0_q18
 dsimp only
 refine kA1 (kBi _ _) ?_
 refine kAa (fun c12 => ?_) (fun c12 => ?_)
 ·refine kBm (Tab.enc h1 s_) (fun m14 a13 hi15 hm16 => ?_)
  refine kA1 (v:=AV.agg [sv a13.name,sv a13.unit,iv a13.low,iv a13.high]) ((Tab.enc h1 s_).ld hm16 true 4 0) ?_
  refine kHu (hp f_ a13 _) (fun c17 v18 hh19 hq20 => ?_)
  cases hq20
  refine kAa (fun c21 => ?_) (fun c21 => ?_)
  ·exact kA6 ⟨nofun,_,_,rfl,O2⟩
  ·refine kA1 (kAg _ _) ?_
   exact kA6 ⟨rfl,rfl,O2⟩
 ·exact kA6 ⟨nofun,_,_,_,rfl,O2⟩
theorem ts_q18 (env:Nat→Contract) {K:Type} [Cod K] {g:Nat} {caps:K→List AV} {P:K→Channel→Option Bool} (hp:∀ k (a:Channel) h,Sim (kAn (env g) (AV.agg (Row.cells a)::caps k) h) (P k a) fun b r=>r=(bv b,h))  (s_:Sl Channel) (f_:K):Sim (kAf Try.prog env n_q18 [Sl.enc s_,AV.fn g (caps f_)] []) (t_q18 (P f_) s_) fun c p=>release p.2 depth p.1=some ((fun c:Int=>enc c) c):=by
 have O:=Hold.nil []
 generalize hB:(⟨[],[]⟩:Base)=B at O
 clear hB
 rw [e_q18]
 unfold t_q18
 refine kA1 (v:=iv (((s_.getD []).length:Nat):Int)) (Tab.enc [] s_).len ?_
 refine kBe ((tl0_q18 env hp s_ f_) ⟨rfl,O⟩) (fun qq26 r hq => ?_)
 rcases qq26 with _ | q10
 ·obtain ⟨z6,z7,h4,rfl,O5⟩:=hq
  rw [e_lk0x0_q18]
  exact kA6 (kA8 (by rfl) _)
 ·obtain ⟨q11,h8,rfl,O9⟩:=hq
  rw [e_lk0r_q18]
  exact kA6 (kA8 (by rfl) _)
theorem kCk {g:Nat} {X:Type} [Row X] {tp:Channel→Pt X→Option Bool} (hg:kB6 Try.prog g (C2 (fun c:Bool=>enc c) tp)):kB6 Try.prog n_q18 (C2 (fun c:Int=>enc c) (fun (q:Sl Channel) (k:Clo g (Pt X))=>t_q18 ((fun (k:Clo g (Pt X)) a=>tp a k.val) k) q)):=kFk (kCl hg E0) kCm hb_q18 fun q k=>ts_q18 _ (caps:=fun k:Clo g (Pt X)=>[enc k.val]) (P:=(fun (k:Clo g (Pt X)) a=>tp a k.val)) (fun k a h=>callP1 (by simp [kD7]) (kDw _ a rfl) (kFd _ _ _ _ rfl)) q k
def t_q5 (channels_:Sl Channel) (name_:ByteArray):Option Int :=
 kA0 (t_q18 (fun a=>t_q6 a name_) channels_) fun c5 =>
 some c5
theorem ts_q5 (env:Nat→Contract) (he_q18:env n_q18=.pure (C2 (fun c:Int=>enc c) (fun (q:Sl Channel) (k:Clo n_q6 (Pt ByteArray))=>t_q18 ((fun (k:Clo n_q6 (Pt ByteArray)) a=>tp_q6 a k.val) k) q))) (channels_:Sl Channel) (name_:ByteArray):Sim (kAf Try.prog env n_q5 [Sl.enc channels_,sv name_] []) (t_q5 channels_ name_) fun c p=>release p.2 depth p.1=some ((fun c:Int=>enc c) c):=by
 have O:=Hold.nil []
 generalize hB:(⟨[],[]⟩:Base)=B at O
 clear hB
 rw [e_q5]
 unfold t_q5
 refine kBt O (cs:=[sv name_]) (by first | rfl | simp) (fun o1 h2 O3 => ?_)
 replace O3:Hold B h2 [pZ9 o1 1 [sv name_]]:=O3
 refine kCv (t:=fun (q:Sl Channel) (k:Clo n_q6 (Pt ByteArray))=>t_q18 ((fun (k:Clo n_q6 (Pt ByteArray)) a=>tp_q6 a k.val) k) q) he_q18 (kCp _ _) (snapD_clo (⟨[name_],0⟩:Pt ByteArray) (O3.snapC 0 rfl name_ rfl rfl)) (fun c5 => ?_)
 refine kBr (kAh (by rfl) _ _) ?_
 exact kA6 (kA8 (by rfl) _)
theorem tt_q5:kB6 Try.prog n_q5 (C2 (fun c:Int=>enc c) t_q5):=kFk (kCl (kCk tt_q6) E0) kCm hb_q5 fun channels_ name_=>ts_q5 _ (by simp [kD7]) channels_ name_
def s1_q10 (channels_:Sl Channel) (a23:(Sl Int)):Int→Option (Sum Int (Sum Unit Bool)):=fun w31 =>
 bif decide (w31<(((a23.getD []).length:Nat):Int)) then
  kA0 (kF8 (a23.getD []) w31) fun a45 =>
  kA0 (kF8 (channels_.getD []) w31) fun a49 =>
  kA0 (kF8 (channels_.getD []) w31) fun a53 =>
  kA0 (some (kBh a45 a49.low a53.high)) fun c57 =>
  bif !c57 then
   some (.inr (.inr false))
  else
   some (.inl (wr (w31+1)))
 else
  some (.inr (.inl ()))
def s0_q10 (r_:FRows) (channels_:Sl Channel):Int→Option (Sum Int (Sum Unit Bool)):=fun w7 =>
 bif decide (w7<(((r_.values.getD []).length:Nat):Int)) then
  kA0 (kF8 (r_.values.getD []) w7) fun a23 =>
  bif !decide ((((a23.getD []).length:Nat):Int)=(((channels_.getD []).length:Nat):Int)) then
   some (.inr (.inr false))
  else
   kA0 (kBo (s1_q10 channels_ a23) 0) fun qq63=>match qq63 with
   | (.inl _) =>
     some (.inl (wr (w7+1)))
   | (.inr q40) =>
     some (.inr (.inr q40))
 else
  some (.inr (.inl ()))
def t_q10 (r_:FRows) (channels_:Sl Channel):Option Bool :=
 kA0 (kBo (s0_q10 r_ channels_) 0) fun qq66=>match qq66 with
 | (.inl _) =>
   kA0 (bif decide (1≤(((r_.values.getD []).length:Nat):Int)) then (some (decide ((((r_.values.getD []).length:Nat):Int)≤60))) else some false) fun c15 =>
   some (bif decide (1≤(((r_.values.getD []).length:Nat):Int)) then c15 else false)
 | (.inr q18) =>
   some q18
theorem tl1_q10 (env:Nat→Contract) {B:Base} (he_q11:env n_q11=.pure (T3 kBh)) (r_:FRows) (channels_:Sl Channel) (o1:Nat) (w7:Int) (a23:(Sl Int)) (m24:Nat) :kGr (fun (st:Int) tm h29=>match st with | w31=>tm=((AV.agg [Sl.enc r_.values])::(Sl.enc channels_)::(AV.ptr o1 1 0 0)::und::.top::und::(Sl.enc a23)::.top::.top::(AV.ptr o1 1 0 0)::(Sl.enc r_.values)::(iv (((r_.values.getD []).length:Nat):Int))::(iv w7)::(bv (decide (w7<(((r_.values.getD []).length:Nat):Int))))::(elp (Sl.enc r_.values) m24 0)::(Sl.enc a23)::(Sl.enc a23)::(iv (((a23.getD []).length:Nat):Int))::(Sl.enc channels_)::(iv (((channels_.getD []).length:Nat):Int))::(bv (!decide ((((a23.getD []).length:Nat):Int)=(((channels_.getD []).length:Nat):Int))))::(Sl.enc a23)::(iv (((a23.getD []).length:Nat):Int))::(iv w31)::tZ9 18 [.top,und,und,und,und,und,und,und,und,und,und])∧Hold B h29 [pZ9 o1 1 [Sl.enc r_.values]]) hm1_q10 xm1_q10 (lb1_q10 env) (s1_q10 channels_ a23) (fun (q:Sum Unit Bool) (r:Res)=>match q with | .inl _=>∃ (z34:AV) (z35:AV) (z36:AV) (h32:kA7),r=(.exit 2,((AV.agg [Sl.enc r_.values])::(Sl.enc channels_)::(AV.ptr o1 1 0 0)::und::z34::und::(Sl.enc a23)::z35::z36::(AV.ptr o1 1 0 0)::(Sl.enc r_.values)::(iv (((r_.values.getD []).length:Nat):Int))::(iv w7)::(bv (decide (w7<(((r_.values.getD []).length:Nat):Int))))::(elp (Sl.enc r_.values) m24 0)::(Sl.enc a23)::(Sl.enc a23)::(iv (((a23.getD []).length:Nat):Int))::(Sl.enc channels_)::(iv (((channels_.getD []).length:Nat):Int))::(bv (!decide ((((a23.getD []).length:Nat):Int)=(((channels_.getD []).length:Nat):Int))))::(Sl.enc a23)::(iv (((a23.getD []).length:Nat):Int))::tZ9 19 [.top,und,und,und,und,und,und,und,und,und,und]),h32)∧Hold B h32 [pZ9 o1 1 [Sl.enc r_.values]] | .inr q40=>∃ (q41:Int) (q42:Int) (h38:kA7),r=(.ret,((AV.agg [Sl.enc r_.values])::(Sl.enc channels_)::(AV.ptr o1 1 0 0)::und::(bv q40)::und::(Sl.enc a23)::(iv q41)::(iv q42)::(AV.ptr o1 1 0 0)::(Sl.enc r_.values)::(iv (((r_.values.getD []).length:Nat):Int))::(iv w7)::(bv (decide (w7<(((r_.values.getD []).length:Nat):Int))))::(elp (Sl.enc r_.values) m24 0)::(Sl.enc a23)::(Sl.enc a23)::(iv (((a23.getD []).length:Nat):Int))::(Sl.enc channels_)::(iv (((channels_.getD []).length:Nat):Int))::(bv (!decide ((((a23.getD []).length:Nat):Int)=(((channels_.getD []).length:Nat):Int))))::(Sl.enc a23)::(iv (((a23.getD []).length:Nat):Int))::tZ9 19 [.top,und,und,und,und,und,und,und,und,und,und]),h38)∧Hold B h38 [pZ9 o1 1 [Sl.enc r_.values]]):=by
 refine @kH3 _ _ _ _ _ _ _ _ (fun w31 tm h29 R => ?_)
 obtain ⟨rfl,O30⟩:=R
 rw [e_lb1_q10]
 unfold s1_q10
 dsimp only
 refine kA1 (kBi _ _) ?_
 refine kAa (fun c44 => ?_) (fun c44 => ?_)
 ·refine kBm (Tab.enc h29 a23) (fun m46 a45 hi47 hm48 => ?_)
  refine kA1 (v:=iv a45) ((Tab.enc h29 a23).ld hm48 false 1 0) ?_
  refine kBm (Tab.enc h29 channels_) (fun m50 a49 hi51 hm52 => ?_)
  refine kA1 (v:=elp (Sl.enc channels_) m50 2) ((Tab.enc h29 channels_).fld _ _ _) ?_
  refine kA1 (v:=iv a49.low) ((Tab.enc h29 channels_).ld hm52 false 1 2) ?_
  refine kBm (Tab.enc h29 channels_) (fun m54 a53 hi55 hm56 => ?_)
  refine kA1 (v:=elp (Sl.enc channels_) m54 3) ((Tab.enc h29 channels_).fld _ _ _) ?_
  refine kA1 (v:=iv a53.high) ((Tab.enc h29 channels_).ld hm56 false 1 3) ?_
  refine kH2 (t:=kBh) he_q11 (kAe _ _) (kAe _ _) (kAe _ _) (fun c57 => ?_)
  refine kA1 (v:=bv (!c57)) (kC3 _) ?_
  refine kAa (fun c58 => ?_) (fun c58 => ?_)
  ·exact kA6 ⟨nofun,_,_,_,rfl,O30⟩
  ·refine kA1 (kAg _ _) ?_
   exact kA6 ⟨rfl,rfl,O30⟩
 ·exact kA6 ⟨nofun,_,_,_,_,rfl,O30⟩
theorem tl0_q10 (env:Nat→Contract) {B:Base} (he_q11:env n_q11=.pure (T3 kBh)) (r_:FRows) (channels_:Sl Channel) (o1:Nat) :kGr (fun (st:Int) tm h5=>match st with | w7=>tm=((AV.agg [Sl.enc r_.values])::(Sl.enc channels_)::(AV.ptr o1 1 0 0)::und::.top::und::.top::.top::.top::(AV.ptr o1 1 0 0)::(Sl.enc r_.values)::(iv (((r_.values.getD []).length:Nat):Int))::(iv w7)::tZ9 30 [und,und,und,und,und,und,und,und,und,und])∧Hold B h5 [pZ9 o1 1 [Sl.enc r_.values]]) hm0_q10 xm0_q10 (lb0_q10 env) (s0_q10 r_ channels_) (fun (q:Sum Unit Bool) (r:Res)=>match q with | .inl _=>∃ (z10:AV) (z11:AV) (z12:AV) (z13:AV) (h8:kA7),r=(.exit 0,((AV.agg [Sl.enc r_.values])::(Sl.enc channels_)::(AV.ptr o1 1 0 0)::und::z10::und::z11::z12::z13::(AV.ptr o1 1 0 0)::(Sl.enc r_.values)::(iv (((r_.values.getD []).length:Nat):Int))::tZ9 31 [und,und,und,und,und,und,und,und,und,und]),h8)∧Hold B h8 [pZ9 o1 1 [Sl.enc r_.values]] | .inr q18=>∃ (q19:Sl Int) (z20:AV) (z21:AV) (h16:kA7),r=(.ret,((AV.agg [Sl.enc r_.values])::(Sl.enc channels_)::(AV.ptr o1 1 0 0)::und::(bv q18)::und::(Sl.enc q19)::z20::z21::(AV.ptr o1 1 0 0)::(Sl.enc r_.values)::(iv (((r_.values.getD []).length:Nat):Int))::tZ9 31 [und,und,und,und,und,und,und,und,und,und]),h16)∧Hold B h16 [pZ9 o1 1 [Sl.enc r_.values]]):=by
 refine @kH3 _ _ _ _ _ _ _ _ (fun w7 tm h5 R => ?_)
 obtain ⟨rfl,O6⟩:=R
 rw [e_lb0_q10]
 unfold s0_q10
 dsimp only
 refine kA1 (kBi _ _) ?_
 refine kAa (fun c22 => ?_) (fun c22 => ?_)
 ·refine kBm (Tab.enc h5 r_.values) (fun m24 a23 hi25 hm26 => ?_)
  refine kA1 (v:=Sl.enc a23) ((Tab.enc h5 r_.values).ld hm26 false 1 0) ?_
  refine kA1 (Tab.enc h5 a23).len ?_
  refine kA1 (Tab.enc h5 channels_).len ?_
  refine kA1 (kF0 _ _) ?_
  refine kAa (fun c27 => ?_) (fun c27 => ?_)
  ·exact kA6 ⟨nofun,_,_,_,_,rfl,O6⟩
  ·refine kA1 (Tab.enc h5 a23).len ?_
   refine kBe ((tl1_q10 env he_q11 r_ channels_ o1 w7 a23 m24) ⟨rfl,O6⟩) (fun qq63 r hq => ?_)
   rcases qq63 with _ | q40
   ·obtain ⟨z34,z35,z36,h32,rfl,O33⟩:=hq
    rw [e_lk1x2_q10]
    refine kA1 (kAg _ _) ?_
    exact kA6 ⟨rfl,rfl,O33⟩
   ·obtain ⟨q41,q42,h38,rfl,O39⟩:=hq
    rw [e_lk1r_q10]
    exact kA6 ⟨nofun,_,_,_,_,rfl,O39⟩
 ·exact kA6 ⟨nofun,_,_,_,_,_,rfl,O6⟩
theorem ts_q10 (env:Nat→Contract) (he_q11:env n_q11=.pure (T3 kBh)) (r_:FRows) (channels_:Sl Channel):Sim (kAf Try.prog env n_q10 [AV.agg [Sl.enc r_.values],Sl.enc channels_] []) (t_q10 r_ channels_) fun c p=>release p.2 depth p.1=some ((fun c:Bool=>enc c) c):=by
 have O:=Hold.nil []
 generalize hB:(⟨[],[]⟩:Base)=B at O
 clear hB
 rw [e_q10]
 unfold t_q10
 refine kBt O (cs:=[Sl.enc r_.values]) (by first | rfl | simp) (fun o1 h2 O3 => ?_)
 replace O3:Hold B h2 [pZ9 o1 1 [Sl.enc r_.values]]:=O3
 refine kA1 (v:=AV.ptr o1 1 0 0) rfl ?_
 refine kA1 (v:=Sl.enc r_.values) (O3.ld 0 rfl false 1 0) ?_
 refine kA1 (Tab.enc h2 r_.values).len ?_
 refine kBe ((tl0_q10 env he_q11 r_ channels_ o1) ⟨rfl,O3⟩) (fun qq66 r hq => ?_)
 rcases qq66 with _ | q18
 ·obtain ⟨z10,z11,z12,z13,h8,rfl,O9⟩:=hq
  rw [e_lk0x0_q10]
  refine kA1 (v:=AV.ptr o1 1 0 0) rfl ?_
  refine kA1 (v:=Sl.enc r_.values) (O9.ld 0 rfl false 1 0) ?_
  refine kA1 (Tab.enc h8 r_.values).len ?_
  refine kA1 (kF6 _ _) ?_
  refine kBa (e:=bv) (fun hb14 => ?_) (fun c15 => ?_)
  ·refine kA1 (v:=AV.ptr o1 1 0 0) rfl ?_
   refine kA1 (v:=Sl.enc r_.values) (O9.ld 0 rfl false 1 0) ?_
   refine kA1 (Tab.enc h8 r_.values).len ?_
   refine kA1 (kF4 _ _) ?_
   exact kA6 rfl
  ·refine kA1 (v:=bv (bif decide (1≤(((r_.values.getD []).length:Nat):Int)) then c15 else false)) (kCh _ _ _) ?_
   exact kA6 (kA8 (by rfl) _)
 ·obtain ⟨q19,z20,z21,h16,rfl,O17⟩:=hq
  rw [e_lk0r_q10]
  exact kA6 (kA8 (by rfl) _)
theorem tt_q10:kB6 Try.prog n_q10 (C2 (fun c:Bool=>enc c) t_q10):=kFk (kCl ok_q11 E0) kCm hb_q10 fun r_ channels_=>ts_q10 _ (by simp [kD7]) r_ channels_
def t_q8 (f_:File) (n_:Note):Option Bool :=
 kA0 (bif decide (0≤n_.frm) then (some (decide (n_.frm<n_.upto))) else some false) fun c10 =>
 kA0 (bif (bif decide (0≤n_.frm) then c10 else false) then (some (decide (n_.upto≤(((f_.strokes.getD []).length:Nat):Int)))) else some false) fun c12 =>
 some (bif (bif decide (0≤n_.frm) then c10 else false) then c12 else false)
theorem ts_q8 (env:Nat→Contract)  (f_:File) (n_:Note):Sim (kAf Try.prog env n_q8 [AV.agg [Sl.enc f_.channels,Sl.enc f_.strokes,Sl.enc f_.notes],AV.agg [iv n_.frm,iv n_.upto,sv n_.text]] []) (t_q8 f_ n_) fun c p=>release p.2 depth p.1=some ((fun c:Bool=>enc c) c):=by
 have O:=Hold.nil []
 generalize hB:(⟨[],[]⟩:Base)=B at O
 clear hB
 rw [e_q8]
 unfold t_q8
 refine kBt O (cs:=[Sl.enc f_.channels,Sl.enc f_.strokes,Sl.enc f_.notes]) (by first | rfl | simp) (fun o1 h2 O3 => ?_)
 replace O3:Hold B h2 [pZ9 o1 3 [Sl.enc f_.channels,Sl.enc f_.strokes,Sl.enc f_.notes]]:=O3
 refine kBt O3 (cs:=[iv n_.frm,iv n_.upto,sv n_.text]) (by first | rfl | simp) (fun o5 h6 O7 => ?_)
 replace O7:Hold B h6 [pZ9 o1 3 [Sl.enc f_.channels,Sl.enc f_.strokes,Sl.enc f_.notes],pZ9 o5 3 [iv n_.frm,iv n_.upto,sv n_.text]]:=O7
 refine kA1 (v:=AV.ptr o5 1 0 0) rfl ?_
 refine kA1 (v:=iv n_.frm) (O7.ld 1 rfl false 1 0) ?_
 refine kA1 (kF6 _ _) ?_
 refine kBa (e:=bv) (fun hb9 => ?_) (fun c10 => ?_)
 ·refine kA1 (v:=AV.ptr o5 1 0 0) rfl ?_
  refine kA1 (v:=iv n_.frm) (O7.ld 1 rfl false 1 0) ?_
  refine kA1 (v:=AV.ptr o5 1 0 1) rfl ?_
  refine kA1 (v:=iv n_.upto) (O7.ld 1 rfl false 1 1) ?_
  refine kA1 (kBi _ _) ?_
  exact kA6 rfl
 ·refine kA1 (v:=bv (bif decide (0≤n_.frm) then c10 else false)) (kCh _ _ _) ?_
  refine kBa (e:=bv) (fun hb11 => ?_) (fun c12 => ?_)
  ·refine kA1 (v:=AV.ptr o5 1 0 1) rfl ?_
   refine kA1 (v:=iv n_.upto) (O7.ld 1 rfl false 1 1) ?_
   refine kA1 (v:=AV.ptr o1 1 0 1) rfl ?_
   refine kA1 (v:=Sl.enc f_.strokes) (O7.ld 0 rfl false 1 1) ?_
   refine kA1 (Tab.enc h6 f_.strokes).len ?_
   refine kA1 (kF4 _ _) ?_
   exact kA6 rfl
  ·refine kA1 (v:=bv (bif (bif decide (0≤n_.frm) then c10 else false) then c12 else false)) (kCh _ _ _) ?_
   exact kA6 (kA8 (by rfl) _)
theorem tt_q8:kB6 Try.prog n_q8 (C2 (fun c:Bool=>enc c) t_q8):=kFk E0 kCm hb_q8 fun f_ n_=>ts_q8 _  f_ n_
def s2_q3 (f_:File):Int→Option (Sum Int (Sum Unit Bool)):=fun w29 =>
 bif decide (w29<(((f_.notes.getD []).length:Nat):Int)) then
  kA0 (kF8 (f_.notes.getD []) w29) fun a39 =>
  kA0 (t_q8 f_ a39) fun c49 =>
  kA0 (bif !c49 then some false else (kA0 (t_q1 a39.text) fun c51=>some (!c51))) fun c52 =>
  bif (bif !c49 then true else c52) then
   some (.inr (.inr false))
  else
   some (.inl (wr (w29+1)))
 else
  some (.inr (.inl ()))
def s1_q3 (f_:File):Int→Option (Sum Int (Sum Unit Bool)):=fun w22 =>
 bif decide (w22<(((f_.strokes.getD []).length:Nat):Int)) then
  kA0 (kF8 (f_.strokes.getD []) w22) fun a64 =>
  kA0 (t_q10 a64 f_.channels) fun c74 =>
  bif !c74 then
   some (.inr (.inr false))
  else
   some (.inl (wr (w22+1)))
 else
  some (.inr (.inl ()))
def s0_q3 (f_:File):Int→Option (Sum Int (Sum Unit Bool)):=fun w14 =>
 bif decide (w14<(((f_.channels.getD []).length:Nat):Int)) then
  kA0 (kF8 (f_.channels.getD []) w14) fun a87 =>
  kA0 (t_q9 a87) fun c97 =>
  kA0 (bif !c97 then some false else (kA0 (t_q5 f_.channels a87.name) fun c99=>some (!decide (c99=w14)))) fun c100 =>
  bif (bif !c97 then true else c100) then
   some (.inr (.inr false))
  else
   some (.inl (wr (w14+1)))
 else
  some (.inr (.inl ()))
def t_q3 (f_:File):Option Bool :=
 kA0 (bif decide ((((f_.channels.getD []).length:Nat):Int)<1) then some false else (some (decide (6<(((f_.channels.getD []).length:Nat):Int))))) fun c6 =>
 kA0 (bif (bif decide ((((f_.channels.getD []).length:Nat):Int)<1) then true else c6) then some false else (some (decide (16<(((f_.strokes.getD []).length:Nat):Int))))) fun c8 =>
 kA0 (bif (bif (bif decide ((((f_.channels.getD []).length:Nat):Int)<1) then true else c6) then true else c8) then some false else (some (decide (12<(((f_.notes.getD []).length:Nat):Int))))) fun c10 =>
 bif (bif (bif (bif decide ((((f_.channels.getD []).length:Nat):Int)<1) then true else c6) then true else c8) then true else c10) then
  some false
 else
  kA0 (kBo (s0_q3 f_) 0) fun qq106=>match qq106 with
  | (.inl _) =>
    kA0 (kBo (s1_q3 f_) 0) fun qq80=>match qq80 with
    | (.inl _) =>
      kA0 (kBo (s2_q3 f_) 0) fun qq58=>match qq58 with
      | (.inl _) =>
        some true
      | (.inr q36) =>
        some q36
    | (.inr q61) =>
      some q61
  | (.inr q83) =>
    some q83
theorem tl2_q3 (env:Nat→Contract) {B:Base} (he_q1:env n_q1=.pure (C1 (fun c:Bool=>enc c) t_q1)) (he_q5:env n_q5=.pure (C2 (fun c:Int=>enc c) t_q5)) (he_q8:env n_q8=.pure (C2 (fun c:Bool=>enc c) t_q8)) (he_q9:env n_q9=.pure (C1 (fun c:Bool=>enc c) t_q9)) (he_q10:env n_q10=.pure (C2 (fun c:Bool=>enc c) t_q10)) (f_:File) (o1:Nat) (c6:Bool) (c8:Bool) (c10:Bool) (z18:AV) (z19:AV) (z26:AV) :kGr (fun (st:Int) tm h27=>match st with | w29=>tm=((AV.agg [Sl.enc f_.channels,Sl.enc f_.strokes,Sl.enc f_.notes])::(AV.ptr o1 1 0 0)::.top::z18::z19::und::z26::und::.top::(AV.ptr o1 1 0 0)::(Sl.enc f_.channels)::(iv (((f_.channels.getD []).length:Nat):Int))::(bv (decide ((((f_.channels.getD []).length:Nat):Int)<1)))::(bv (decide ((((f_.channels.getD []).length:Nat):Int)<1)))::.top::.top::.top::(cond (decide ((((f_.channels.getD []).length:Nat):Int)<1)) und (bv c6))::(bv (bif decide ((((f_.channels.getD []).length:Nat):Int)<1) then true else c6))::(bv (bif decide ((((f_.channels.getD []).length:Nat):Int)<1) then true else c6))::.top::.top::.top::(cond (bif decide ((((f_.channels.getD []).length:Nat):Int)<1) then true else c6) und (bv c8))::(bv (bif (bif decide ((((f_.channels.getD []).length:Nat):Int)<1) then true else c6) then true else c8))::(bv (bif (bif decide ((((f_.channels.getD []).length:Nat):Int)<1) then true else c6) then true else c8))::.top::.top::.top::(cond (bif (bif decide ((((f_.channels.getD []).length:Nat):Int)<1) then true else c6) then true else c8) und (bv c10))::(bv (bif (bif (bif decide ((((f_.channels.getD []).length:Nat):Int)<1) then true else c6) then true else c8) then true else c10))::(AV.ptr o1 1 0 0)::(Sl.enc f_.channels)::(iv (((f_.channels.getD []).length:Nat):Int))::.top::.top::.top::.top::.top::.top::.top::.top::.top::.top::.top::.top::.top::.top::.top::.top::.top::.top::(AV.ptr o1 1 0 1)::(Sl.enc f_.strokes)::(iv (((f_.strokes.getD []).length:Nat):Int))::.top::.top::.top::.top::.top::.top::.top::.top::.top::.top::(AV.ptr o1 1 0 2)::(Sl.enc f_.notes)::(iv (((f_.notes.getD []).length:Nat):Int))::(iv w29)::tZ9 14 [])∧Hold B h27 [pZ9 o1 3 [Sl.enc f_.channels,Sl.enc f_.strokes,Sl.enc f_.notes]]) hm2_q3 xm2_q3 (lb2_q3 env) (s2_q3 f_) (fun (q:Sum Unit Bool) (r:Res)=>match q with | .inl _=>∃ (z32:AV) (z33:AV) (h30:kA7),r=(.exit 4,((AV.agg [Sl.enc f_.channels,Sl.enc f_.strokes,Sl.enc f_.notes])::(AV.ptr o1 1 0 0)::z32::z18::z19::und::z26::und::z33::(AV.ptr o1 1 0 0)::(Sl.enc f_.channels)::(iv (((f_.channels.getD []).length:Nat):Int))::(bv (decide ((((f_.channels.getD []).length:Nat):Int)<1)))::(bv (decide ((((f_.channels.getD []).length:Nat):Int)<1)))::.top::.top::.top::(cond (decide ((((f_.channels.getD []).length:Nat):Int)<1)) und (bv c6))::(bv (bif decide ((((f_.channels.getD []).length:Nat):Int)<1) then true else c6))::(bv (bif decide ((((f_.channels.getD []).length:Nat):Int)<1) then true else c6))::.top::.top::.top::(cond (bif decide ((((f_.channels.getD []).length:Nat):Int)<1) then true else c6) und (bv c8))::(bv (bif (bif decide ((((f_.channels.getD []).length:Nat):Int)<1) then true else c6) then true else c8))::(bv (bif (bif decide ((((f_.channels.getD []).length:Nat):Int)<1) then true else c6) then true else c8))::.top::.top::.top::(cond (bif (bif decide ((((f_.channels.getD []).length:Nat):Int)<1) then true else c6) then true else c8) und (bv c10))::(bv (bif (bif (bif decide ((((f_.channels.getD []).length:Nat):Int)<1) then true else c6) then true else c8) then true else c10))::(AV.ptr o1 1 0 0)::(Sl.enc f_.channels)::(iv (((f_.channels.getD []).length:Nat):Int))::.top::.top::.top::.top::.top::.top::.top::.top::.top::.top::.top::.top::.top::.top::.top::.top::.top::.top::(AV.ptr o1 1 0 1)::(Sl.enc f_.strokes)::(iv (((f_.strokes.getD []).length:Nat):Int))::.top::.top::.top::.top::.top::.top::.top::.top::.top::.top::(AV.ptr o1 1 0 2)::(Sl.enc f_.notes)::(iv (((f_.notes.getD []).length:Nat):Int))::tZ9 15 []),h30)∧Hold B h30 [pZ9 o1 3 [Sl.enc f_.channels,Sl.enc f_.strokes,Sl.enc f_.notes]] | .inr q36=>∃ (z37:AV) (h34:kA7),r=(.ret,((AV.agg [Sl.enc f_.channels,Sl.enc f_.strokes,Sl.enc f_.notes])::(AV.ptr o1 1 0 0)::(bv q36)::z18::z19::und::z26::und::z37::(AV.ptr o1 1 0 0)::(Sl.enc f_.channels)::(iv (((f_.channels.getD []).length:Nat):Int))::(bv (decide ((((f_.channels.getD []).length:Nat):Int)<1)))::(bv (decide ((((f_.channels.getD []).length:Nat):Int)<1)))::.top::.top::.top::(cond (decide ((((f_.channels.getD []).length:Nat):Int)<1)) und (bv c6))::(bv (bif decide ((((f_.channels.getD []).length:Nat):Int)<1) then true else c6))::(bv (bif decide ((((f_.channels.getD []).length:Nat):Int)<1) then true else c6))::.top::.top::.top::(cond (bif decide ((((f_.channels.getD []).length:Nat):Int)<1) then true else c6) und (bv c8))::(bv (bif (bif decide ((((f_.channels.getD []).length:Nat):Int)<1) then true else c6) then true else c8))::(bv (bif (bif decide ((((f_.channels.getD []).length:Nat):Int)<1) then true else c6) then true else c8))::.top::.top::.top::(cond (bif (bif decide ((((f_.channels.getD []).length:Nat):Int)<1) then true else c6) then true else c8) und (bv c10))::(bv (bif (bif (bif decide ((((f_.channels.getD []).length:Nat):Int)<1) then true else c6) then true else c8) then true else c10))::(AV.ptr o1 1 0 0)::(Sl.enc f_.channels)::(iv (((f_.channels.getD []).length:Nat):Int))::.top::.top::.top::.top::.top::.top::.top::.top::.top::.top::.top::.top::.top::.top::.top::.top::.top::.top::(AV.ptr o1 1 0 1)::(Sl.enc f_.strokes)::(iv (((f_.strokes.getD []).length:Nat):Int))::.top::.top::.top::.top::.top::.top::.top::.top::.top::.top::(AV.ptr o1 1 0 2)::(Sl.enc f_.notes)::(iv (((f_.notes.getD []).length:Nat):Int))::tZ9 15 []),h34)∧Hold B h34 [pZ9 o1 3 [Sl.enc f_.channels,Sl.enc f_.strokes,Sl.enc f_.notes]]):=by
 refine @kH3 _ _ _ _ _ _ _ _ (fun w29 tm h27 R => ?_)
 obtain ⟨rfl,O28⟩:=R
 rw [e_lb2_q3]
 unfold s2_q3
 dsimp only
 refine kA1 (kBi _ _) ?_
 refine kAa (fun c38 => ?_) (fun c38 => ?_)
 ·refine kBm (Tab.enc h27 f_.notes) (fun m40 a39 hi41 hm42 => ?_)
  refine kA1 (v:=AV.agg [iv a39.frm,iv a39.upto,sv a39.text]) ((Tab.enc h27 f_.notes).ld hm42 true 3 0) ?_
  refine kBt O28 (cs:=[iv 0,iv 0,sv (⟨#[]⟩:ByteArray)]) (by first | rfl | simp) (fun o43 h44 O45 => ?_)
  replace O45:Hold B h44 [pZ9 o1 3 [Sl.enc f_.channels,Sl.enc f_.strokes,Sl.enc f_.notes],pZ9 o43 3 [iv 0,iv 0,sv (⟨#[]⟩:ByteArray)]]:=O45
  refine kAj O45 1 (cs':=[iv a39.frm,iv a39.upto,sv a39.text]) rfl (by first | rfl | simp) (by simp) (by first | rfl | simp) (by first | rfl | simp [kAo]) (fun h47 O48 => ?_)
  replace O48:Hold B h47 [pZ9 o1 3 [Sl.enc f_.channels,Sl.enc f_.strokes,Sl.enc f_.notes],pZ9 o43 3 [iv a39.frm,iv a39.upto,sv a39.text]]:=O48
  refine kA1 (v:=AV.agg [Sl.enc f_.channels,Sl.enc f_.strokes,Sl.enc f_.notes]) (O48.ld 0 rfl true 3 0) ?_
  refine kA1 (v:=AV.agg [iv a39.frm,iv a39.upto,sv a39.text]) (O48.ld 1 rfl true 3 0) ?_
  refine kCv he_q8 (kDw _ f_ rfl) (kDw _ a39 rfl) (fun c49 => ?_)
  refine kBr (kAh (by rfl) _ _) ?_
  refine kA1 (v:=bv (!c49)) (kC3 _) ?_
  refine kBc (e:=bv) (fun hb50 => ?_) (fun c52 => ?_)
  ·refine kA1 (v:=AV.ptr o43 1 0 2) rfl ?_
   refine kA1 (v:=sv a39.text) (O48.ld 1 rfl false 1 2) ?_
   refine kCx he_q1 (kDu _ _) (fun c51 => ?_)
   refine kBr (kAh (by rfl) _ _) ?_
   refine kA1 (v:=bv (!c51)) (kC3 _) ?_
   exact kA6 rfl
  ·refine kA1 (v:=bv (bif !c49 then true else c52)) (kCn _ _ _) ?_
   refine kAa (fun c53 => ?_) (fun c53 => ?_)
   ·have O54:Hold B h47 [pZ9 o1 3 [Sl.enc f_.channels,Sl.enc f_.strokes,Sl.enc f_.notes]]:=O48.sel [0] (by decide) rfl
    exact kA6 ⟨nofun,_,_,rfl,O54⟩
   ·refine kA1 (kAg _ _) ?_
    have O55:Hold B h47 [pZ9 o1 3 [Sl.enc f_.channels,Sl.enc f_.strokes,Sl.enc f_.notes]]:=O48.sel [0] (by decide) rfl
    exact kA6 ⟨rfl,rfl,O55⟩
 ·exact kA6 ⟨nofun,_,_,_,rfl,O28⟩
theorem tl1_q3 (env:Nat→Contract) {B:Base} (he_q1:env n_q1=.pure (C1 (fun c:Bool=>enc c) t_q1)) (he_q5:env n_q5=.pure (C2 (fun c:Int=>enc c) t_q5)) (he_q8:env n_q8=.pure (C2 (fun c:Bool=>enc c) t_q8)) (he_q9:env n_q9=.pure (C1 (fun c:Bool=>enc c) t_q9)) (he_q10:env n_q10=.pure (C2 (fun c:Bool=>enc c) t_q10)) (f_:File) (o1:Nat) (c6:Bool) (c8:Bool) (c10:Bool) (z18:AV) (z19:AV) :kGr (fun (st:Int) tm h20=>match st with | w22=>tm=((AV.agg [Sl.enc f_.channels,Sl.enc f_.strokes,Sl.enc f_.notes])::(AV.ptr o1 1 0 0)::.top::z18::z19::und::.top::und::und::(AV.ptr o1 1 0 0)::(Sl.enc f_.channels)::(iv (((f_.channels.getD []).length:Nat):Int))::(bv (decide ((((f_.channels.getD []).length:Nat):Int)<1)))::(bv (decide ((((f_.channels.getD []).length:Nat):Int)<1)))::.top::.top::.top::(cond (decide ((((f_.channels.getD []).length:Nat):Int)<1)) und (bv c6))::(bv (bif decide ((((f_.channels.getD []).length:Nat):Int)<1) then true else c6))::(bv (bif decide ((((f_.channels.getD []).length:Nat):Int)<1) then true else c6))::.top::.top::.top::(cond (bif decide ((((f_.channels.getD []).length:Nat):Int)<1) then true else c6) und (bv c8))::(bv (bif (bif decide ((((f_.channels.getD []).length:Nat):Int)<1) then true else c6) then true else c8))::(bv (bif (bif decide ((((f_.channels.getD []).length:Nat):Int)<1) then true else c6) then true else c8))::.top::.top::.top::(cond (bif (bif decide ((((f_.channels.getD []).length:Nat):Int)<1) then true else c6) then true else c8) und (bv c10))::(bv (bif (bif (bif decide ((((f_.channels.getD []).length:Nat):Int)<1) then true else c6) then true else c8) then true else c10))::(AV.ptr o1 1 0 0)::(Sl.enc f_.channels)::(iv (((f_.channels.getD []).length:Nat):Int))::.top::.top::.top::.top::.top::.top::.top::.top::.top::.top::.top::.top::.top::.top::.top::.top::.top::.top::(AV.ptr o1 1 0 1)::(Sl.enc f_.strokes)::(iv (((f_.strokes.getD []).length:Nat):Int))::(iv w22)::tZ9 9 [und,und,und,und,und,und,und,und,und,und,und,und,und,und,und,und,und,und])∧Hold B h20 [pZ9 o1 3 [Sl.enc f_.channels,Sl.enc f_.strokes,Sl.enc f_.notes]]) hm1_q3 xm1_q3 (lb1_q3 env) (s1_q3 f_) (fun (q:Sum Unit Bool) (r:Res)=>match q with | .inl _=>∃ (z25:AV) (z26:AV) (h23:kA7),r=(.exit 2,((AV.agg [Sl.enc f_.channels,Sl.enc f_.strokes,Sl.enc f_.notes])::(AV.ptr o1 1 0 0)::z25::z18::z19::und::z26::und::und::(AV.ptr o1 1 0 0)::(Sl.enc f_.channels)::(iv (((f_.channels.getD []).length:Nat):Int))::(bv (decide ((((f_.channels.getD []).length:Nat):Int)<1)))::(bv (decide ((((f_.channels.getD []).length:Nat):Int)<1)))::.top::.top::.top::(cond (decide ((((f_.channels.getD []).length:Nat):Int)<1)) und (bv c6))::(bv (bif decide ((((f_.channels.getD []).length:Nat):Int)<1) then true else c6))::(bv (bif decide ((((f_.channels.getD []).length:Nat):Int)<1) then true else c6))::.top::.top::.top::(cond (bif decide ((((f_.channels.getD []).length:Nat):Int)<1) then true else c6) und (bv c8))::(bv (bif (bif decide ((((f_.channels.getD []).length:Nat):Int)<1) then true else c6) then true else c8))::(bv (bif (bif decide ((((f_.channels.getD []).length:Nat):Int)<1) then true else c6) then true else c8))::.top::.top::.top::(cond (bif (bif decide ((((f_.channels.getD []).length:Nat):Int)<1) then true else c6) then true else c8) und (bv c10))::(bv (bif (bif (bif decide ((((f_.channels.getD []).length:Nat):Int)<1) then true else c6) then true else c8) then true else c10))::(AV.ptr o1 1 0 0)::(Sl.enc f_.channels)::(iv (((f_.channels.getD []).length:Nat):Int))::.top::.top::.top::.top::.top::.top::.top::.top::.top::.top::.top::.top::.top::.top::.top::.top::.top::.top::(AV.ptr o1 1 0 1)::(Sl.enc f_.strokes)::(iv (((f_.strokes.getD []).length:Nat):Int))::tZ9 10 [und,und,und,und,und,und,und,und,und,und,und,und,und,und,und,und,und,und]),h23)∧Hold B h23 [pZ9 o1 3 [Sl.enc f_.channels,Sl.enc f_.strokes,Sl.enc f_.notes]] | .inr q61=>∃ (z62:AV) (h59:kA7),r=(.ret,((AV.agg [Sl.enc f_.channels,Sl.enc f_.strokes,Sl.enc f_.notes])::(AV.ptr o1 1 0 0)::(bv q61)::z18::z19::und::z62::und::und::(AV.ptr o1 1 0 0)::(Sl.enc f_.channels)::(iv (((f_.channels.getD []).length:Nat):Int))::(bv (decide ((((f_.channels.getD []).length:Nat):Int)<1)))::(bv (decide ((((f_.channels.getD []).length:Nat):Int)<1)))::.top::.top::.top::(cond (decide ((((f_.channels.getD []).length:Nat):Int)<1)) und (bv c6))::(bv (bif decide ((((f_.channels.getD []).length:Nat):Int)<1) then true else c6))::(bv (bif decide ((((f_.channels.getD []).length:Nat):Int)<1) then true else c6))::.top::.top::.top::(cond (bif decide ((((f_.channels.getD []).length:Nat):Int)<1) then true else c6) und (bv c8))::(bv (bif (bif decide ((((f_.channels.getD []).length:Nat):Int)<1) then true else c6) then true else c8))::(bv (bif (bif decide ((((f_.channels.getD []).length:Nat):Int)<1) then true else c6) then true else c8))::.top::.top::.top::(cond (bif (bif decide ((((f_.channels.getD []).length:Nat):Int)<1) then true else c6) then true else c8) und (bv c10))::(bv (bif (bif (bif decide ((((f_.channels.getD []).length:Nat):Int)<1) then true else c6) then true else c8) then true else c10))::(AV.ptr o1 1 0 0)::(Sl.enc f_.channels)::(iv (((f_.channels.getD []).length:Nat):Int))::.top::.top::.top::.top::.top::.top::.top::.top::.top::.top::.top::.top::.top::.top::.top::.top::.top::.top::(AV.ptr o1 1 0 1)::(Sl.enc f_.strokes)::(iv (((f_.strokes.getD []).length:Nat):Int))::tZ9 10 [und,und,und,und,und,und,und,und,und,und,und,und,und,und,und,und,und,und]),h59)∧Hold B h59 [pZ9 o1 3 [Sl.enc f_.channels,Sl.enc f_.strokes,Sl.enc f_.notes]]):=by
 refine @kH3 _ _ _ _ _ _ _ _ (fun w22 tm h20 R => ?_)
 obtain ⟨rfl,O21⟩:=R
 rw [e_lb1_q3]
 unfold s1_q3
 dsimp only
 refine kA1 (kBi _ _) ?_
 refine kAa (fun c63 => ?_) (fun c63 => ?_)
 ·refine kBm (Tab.enc h20 f_.strokes) (fun m65 a64 hi66 hm67 => ?_)
  refine kA1 (v:=AV.agg [Sl.enc a64.values]) ((Tab.enc h20 f_.strokes).ld hm67 true 1 0) ?_
  refine kBt O21 (cs:=[kA3]) (by first | rfl | simp) (fun o68 h69 O70 => ?_)
  replace O70:Hold B h69 [pZ9 o1 3 [Sl.enc f_.channels,Sl.enc f_.strokes,Sl.enc f_.notes],pZ9 o68 1 [kA3]]:=O70
  refine kAj O70 1 (cs':=[Sl.enc a64.values]) rfl (by first | rfl | simp) (by simp) (by first | rfl | simp) (by first | rfl | simp [kAo]) (fun h72 O73 => ?_)
  replace O73:Hold B h72 [pZ9 o1 3 [Sl.enc f_.channels,Sl.enc f_.strokes,Sl.enc f_.notes],pZ9 o68 1 [Sl.enc a64.values]]:=O73
  refine kA1 (v:=AV.agg [Sl.enc a64.values]) (O73.ld 1 rfl true 1 0) ?_
  refine kA1 (v:=AV.ptr o1 1 0 0) rfl ?_
  refine kA1 (v:=Sl.enc f_.channels) (O73.ld 0 rfl false 1 0) ?_
  refine kCv he_q10 (kDw _ a64 rfl) (kCp _ _) (fun c74 => ?_)
  refine kBr (kAh (by rfl) _ _) ?_
  refine kA1 (v:=bv (!c74)) (kC3 _) ?_
  refine kAa (fun c75 => ?_) (fun c75 => ?_)
  ·have O76:Hold B h72 [pZ9 o1 3 [Sl.enc f_.channels,Sl.enc f_.strokes,Sl.enc f_.notes]]:=O73.sel [0] (by decide) rfl
   exact kA6 ⟨nofun,_,_,rfl,O76⟩
  ·refine kA1 (kAg _ _) ?_
   have O77:Hold B h72 [pZ9 o1 3 [Sl.enc f_.channels,Sl.enc f_.strokes,Sl.enc f_.notes]]:=O73.sel [0] (by decide) rfl
   exact kA6 ⟨rfl,rfl,O77⟩
 ·exact kA6 ⟨nofun,_,_,_,rfl,O21⟩
theorem tl0_q3 (env:Nat→Contract) {B:Base} (he_q1:env n_q1=.pure (C1 (fun c:Bool=>enc c) t_q1)) (he_q5:env n_q5=.pure (C2 (fun c:Int=>enc c) t_q5)) (he_q8:env n_q8=.pure (C2 (fun c:Bool=>enc c) t_q8)) (he_q9:env n_q9=.pure (C1 (fun c:Bool=>enc c) t_q9)) (he_q10:env n_q10=.pure (C2 (fun c:Bool=>enc c) t_q10)) (f_:File) (o1:Nat) (c6:Bool) (c8:Bool) (c10:Bool) :kGr (fun (st:Int) tm h12=>match st with | w14=>tm=((AV.agg [Sl.enc f_.channels,Sl.enc f_.strokes,Sl.enc f_.notes])::(AV.ptr o1 1 0 0)::.top::.top::.top::und::und::und::und::(AV.ptr o1 1 0 0)::(Sl.enc f_.channels)::(iv (((f_.channels.getD []).length:Nat):Int))::(bv (decide ((((f_.channels.getD []).length:Nat):Int)<1)))::(bv (decide ((((f_.channels.getD []).length:Nat):Int)<1)))::.top::.top::.top::(cond (decide ((((f_.channels.getD []).length:Nat):Int)<1)) und (bv c6))::(bv (bif decide ((((f_.channels.getD []).length:Nat):Int)<1) then true else c6))::(bv (bif decide ((((f_.channels.getD []).length:Nat):Int)<1) then true else c6))::.top::.top::.top::(cond (bif decide ((((f_.channels.getD []).length:Nat):Int)<1) then true else c6) und (bv c8))::(bv (bif (bif decide ((((f_.channels.getD []).length:Nat):Int)<1) then true else c6) then true else c8))::(bv (bif (bif decide ((((f_.channels.getD []).length:Nat):Int)<1) then true else c6) then true else c8))::.top::.top::.top::(cond (bif (bif decide ((((f_.channels.getD []).length:Nat):Int)<1) then true else c6) then true else c8) und (bv c10))::(bv (bif (bif (bif decide ((((f_.channels.getD []).length:Nat):Int)<1) then true else c6) then true else c8) then true else c10))::(AV.ptr o1 1 0 0)::(Sl.enc f_.channels)::(iv (((f_.channels.getD []).length:Nat):Int))::(iv w14)::tZ9 17 [und,und,und,und,und,und,und,und,und,und,und,und,und,und,und,und,und,und,und,und,und,und,und,und,und,und,und,und,und,und,und])∧Hold B h12 [pZ9 o1 3 [Sl.enc f_.channels,Sl.enc f_.strokes,Sl.enc f_.notes]]) hm0_q3 xm0_q3 (lb0_q3 env) (s0_q3 f_) (fun (q:Sum Unit Bool) (r:Res)=>match q with | .inl _=>∃ (z17:AV) (z18:AV) (z19:AV) (h15:kA7),r=(.exit 0,((AV.agg [Sl.enc f_.channels,Sl.enc f_.strokes,Sl.enc f_.notes])::(AV.ptr o1 1 0 0)::z17::z18::z19::und::und::und::und::(AV.ptr o1 1 0 0)::(Sl.enc f_.channels)::(iv (((f_.channels.getD []).length:Nat):Int))::(bv (decide ((((f_.channels.getD []).length:Nat):Int)<1)))::(bv (decide ((((f_.channels.getD []).length:Nat):Int)<1)))::.top::.top::.top::(cond (decide ((((f_.channels.getD []).length:Nat):Int)<1)) und (bv c6))::(bv (bif decide ((((f_.channels.getD []).length:Nat):Int)<1) then true else c6))::(bv (bif decide ((((f_.channels.getD []).length:Nat):Int)<1) then true else c6))::.top::.top::.top::(cond (bif decide ((((f_.channels.getD []).length:Nat):Int)<1) then true else c6) und (bv c8))::(bv (bif (bif decide ((((f_.channels.getD []).length:Nat):Int)<1) then true else c6) then true else c8))::(bv (bif (bif decide ((((f_.channels.getD []).length:Nat):Int)<1) then true else c6) then true else c8))::.top::.top::.top::(cond (bif (bif decide ((((f_.channels.getD []).length:Nat):Int)<1) then true else c6) then true else c8) und (bv c10))::(bv (bif (bif (bif decide ((((f_.channels.getD []).length:Nat):Int)<1) then true else c6) then true else c8) then true else c10))::(AV.ptr o1 1 0 0)::(Sl.enc f_.channels)::(iv (((f_.channels.getD []).length:Nat):Int))::tZ9 18 [und,und,und,und,und,und,und,und,und,und,und,und,und,und,und,und,und,und,und,und,und,und,und,und,und,und,und,und,und,und,und]),h15)∧Hold B h15 [pZ9 o1 3 [Sl.enc f_.channels,Sl.enc f_.strokes,Sl.enc f_.notes]] | .inr q83=>∃ (q84:Int) (z85:AV) (h81:kA7),r=(.ret,((AV.agg [Sl.enc f_.channels,Sl.enc f_.strokes,Sl.enc f_.notes])::(AV.ptr o1 1 0 0)::(bv q83)::(iv q84)::z85::und::und::und::und::(AV.ptr o1 1 0 0)::(Sl.enc f_.channels)::(iv (((f_.channels.getD []).length:Nat):Int))::(bv (decide ((((f_.channels.getD []).length:Nat):Int)<1)))::(bv (decide ((((f_.channels.getD []).length:Nat):Int)<1)))::.top::.top::.top::(cond (decide ((((f_.channels.getD []).length:Nat):Int)<1)) und (bv c6))::(bv (bif decide ((((f_.channels.getD []).length:Nat):Int)<1) then true else c6))::(bv (bif decide ((((f_.channels.getD []).length:Nat):Int)<1) then true else c6))::.top::.top::.top::(cond (bif decide ((((f_.channels.getD []).length:Nat):Int)<1) then true else c6) und (bv c8))::(bv (bif (bif decide ((((f_.channels.getD []).length:Nat):Int)<1) then true else c6) then true else c8))::(bv (bif (bif decide ((((f_.channels.getD []).length:Nat):Int)<1) then true else c6) then true else c8))::.top::.top::.top::(cond (bif (bif decide ((((f_.channels.getD []).length:Nat):Int)<1) then true else c6) then true else c8) und (bv c10))::(bv (bif (bif (bif decide ((((f_.channels.getD []).length:Nat):Int)<1) then true else c6) then true else c8) then true else c10))::(AV.ptr o1 1 0 0)::(Sl.enc f_.channels)::(iv (((f_.channels.getD []).length:Nat):Int))::tZ9 18 [und,und,und,und,und,und,und,und,und,und,und,und,und,und,und,und,und,und,und,und,und,und,und,und,und,und,und,und,und,und,und]),h81)∧Hold B h81 [pZ9 o1 3 [Sl.enc f_.channels,Sl.enc f_.strokes,Sl.enc f_.notes]]):=by
 refine @kH3 _ _ _ _ _ _ _ _ (fun w14 tm h12 R => ?_)
 obtain ⟨rfl,O13⟩:=R
 rw [e_lb0_q3]
 unfold s0_q3
 dsimp only
 refine kA1 (kBi _ _) ?_
 refine kAa (fun c86 => ?_) (fun c86 => ?_)
 ·refine kBm (Tab.enc h12 f_.channels) (fun m88 a87 hi89 hm90 => ?_)
  refine kA1 (v:=AV.agg [sv a87.name,sv a87.unit,iv a87.low,iv a87.high]) ((Tab.enc h12 f_.channels).ld hm90 true 4 0) ?_
  refine kBt O13 (cs:=[sv (⟨#[]⟩:ByteArray),sv (⟨#[]⟩:ByteArray),iv 0,iv 0]) (by first | rfl | simp) (fun o91 h92 O93 => ?_)
  replace O93:Hold B h92 [pZ9 o1 3 [Sl.enc f_.channels,Sl.enc f_.strokes,Sl.enc f_.notes],pZ9 o91 4 [sv (⟨#[]⟩:ByteArray),sv (⟨#[]⟩:ByteArray),iv 0,iv 0]]:=O93
  refine kAj O93 1 (cs':=[sv a87.name,sv a87.unit,iv a87.low,iv a87.high]) rfl (by first | rfl | simp) (by simp) (by first | rfl | simp) (by first | rfl | simp [kAo]) (fun h95 O96 => ?_)
  replace O96:Hold B h95 [pZ9 o1 3 [Sl.enc f_.channels,Sl.enc f_.strokes,Sl.enc f_.notes],pZ9 o91 4 [sv a87.name,sv a87.unit,iv a87.low,iv a87.high]]:=O96
  refine kA1 (v:=AV.agg [sv a87.name,sv a87.unit,iv a87.low,iv a87.high]) (O96.ld 1 rfl true 4 0) ?_
  refine kCx he_q9 (kDw _ a87 rfl) (fun c97 => ?_)
  refine kBr (kAh (by rfl) _ _) ?_
  refine kA1 (v:=bv (!c97)) (kC3 _) ?_
  refine kBc (e:=bv) (fun hb98 => ?_) (fun c100 => ?_)
  ·refine kA1 (v:=AV.ptr o1 1 0 0) rfl ?_
   refine kA1 (v:=Sl.enc f_.channels) (O96.ld 0 rfl false 1 0) ?_
   refine kA1 (v:=AV.ptr o91 1 0 0) rfl ?_
   refine kA1 (v:=sv a87.name) (O96.ld 1 rfl false 1 0) ?_
   refine kCv he_q5 (kCp _ _) (kDu _ _) (fun c99 => ?_)
   refine kBr (kAh (by rfl) _ _) ?_
   refine kA1 (kF0 _ _) ?_
   exact kA6 rfl
  ·refine kA1 (v:=bv (bif !c97 then true else c100)) (kCn _ _ _) ?_
   refine kAa (fun c101 => ?_) (fun c101 => ?_)
   ·have O102:Hold B h95 [pZ9 o1 3 [Sl.enc f_.channels,Sl.enc f_.strokes,Sl.enc f_.notes]]:=O96.sel [0] (by decide) rfl
    exact kA6 ⟨nofun,_,_,_,rfl,O102⟩
   ·refine kA1 (kAg _ _) ?_
    have O103:Hold B h95 [pZ9 o1 3 [Sl.enc f_.channels,Sl.enc f_.strokes,Sl.enc f_.notes]]:=O96.sel [0] (by decide) rfl
    exact kA6 ⟨rfl,rfl,O103⟩
 ·exact kA6 ⟨nofun,_,_,_,_,rfl,O13⟩
theorem ts_q3 (env:Nat→Contract) (he_q1:env n_q1=.pure (C1 (fun c:Bool=>enc c) t_q1)) (he_q5:env n_q5=.pure (C2 (fun c:Int=>enc c) t_q5)) (he_q8:env n_q8=.pure (C2 (fun c:Bool=>enc c) t_q8)) (he_q9:env n_q9=.pure (C1 (fun c:Bool=>enc c) t_q9)) (he_q10:env n_q10=.pure (C2 (fun c:Bool=>enc c) t_q10)) (f_:File):Sim (kAf Try.prog env n_q3 [AV.agg [Sl.enc f_.channels,Sl.enc f_.strokes,Sl.enc f_.notes]] []) (t_q3 f_) fun c p=>release p.2 depth p.1=some ((fun c:Bool=>enc c) c):=by
 have O:=Hold.nil []
 generalize hB:(⟨[],[]⟩:Base)=B at O
 clear hB
 rw [e_q3]
 unfold t_q3
 refine kBt O (cs:=[Sl.enc f_.channels,Sl.enc f_.strokes,Sl.enc f_.notes]) (by first | rfl | simp) (fun o1 h2 O3 => ?_)
 replace O3:Hold B h2 [pZ9 o1 3 [Sl.enc f_.channels,Sl.enc f_.strokes,Sl.enc f_.notes]]:=O3
 refine kA1 (v:=AV.ptr o1 1 0 0) rfl ?_
 refine kA1 (v:=Sl.enc f_.channels) (O3.ld 0 rfl false 1 0) ?_
 refine kA1 (Tab.enc h2 f_.channels).len ?_
 refine kA1 (kBi _ _) ?_
 refine kBc (e:=bv) (fun hb5 => ?_) (fun c6 => ?_)
 ·refine kA1 (v:=AV.ptr o1 1 0 0) rfl ?_
  refine kA1 (v:=Sl.enc f_.channels) (O3.ld 0 rfl false 1 0) ?_
  refine kA1 (Tab.enc h2 f_.channels).len ?_
  refine kA1 (kBd _ _) ?_
  exact kA6 rfl
 ·refine kA1 (v:=bv (bif decide ((((f_.channels.getD []).length:Nat):Int)<1) then true else c6)) (kCn _ _ _) ?_
  refine kBc (e:=bv) (fun hb7 => ?_) (fun c8 => ?_)
  ·refine kA1 (v:=AV.ptr o1 1 0 1) rfl ?_
   refine kA1 (v:=Sl.enc f_.strokes) (O3.ld 0 rfl false 1 1) ?_
   refine kA1 (Tab.enc h2 f_.strokes).len ?_
   refine kA1 (kBd _ _) ?_
   exact kA6 rfl
  ·refine kA1 (v:=bv (bif (bif decide ((((f_.channels.getD []).length:Nat):Int)<1) then true else c6) then true else c8)) (kCn _ _ _) ?_
   refine kBc (e:=bv) (fun hb9 => ?_) (fun c10 => ?_)
   ·refine kA1 (v:=AV.ptr o1 1 0 2) rfl ?_
    refine kA1 (v:=Sl.enc f_.notes) (O3.ld 0 rfl false 1 2) ?_
    refine kA1 (Tab.enc h2 f_.notes).len ?_
    refine kA1 (kBd _ _) ?_
    exact kA6 rfl
   ·refine kA1 (v:=bv (bif (bif (bif decide ((((f_.channels.getD []).length:Nat):Int)<1) then true else c6) then true else c8) then true else c10)) (kCn _ _ _) ?_
    refine kAa (fun c11 => ?_) (fun c11 => ?_)
    ·exact kA6 (kA8 (by rfl) _)
    ·refine kA1 (v:=AV.ptr o1 1 0 0) rfl ?_
     refine kA1 (v:=Sl.enc f_.channels) (O3.ld 0 rfl false 1 0) ?_
     refine kA1 (Tab.enc h2 f_.channels).len ?_
     refine kBe ((tl0_q3 env he_q1 he_q5 he_q8 he_q9 he_q10 f_ o1 c6 c8 c10) ⟨rfl,O3⟩) (fun qq106 r hq => ?_)
     rcases qq106 with _ | q83
     ·obtain ⟨z17,z18,z19,h15,rfl,O16⟩:=hq
      rw [e_lk0x0_q3]
      refine kA1 (v:=AV.ptr o1 1 0 1) rfl ?_
      refine kA1 (v:=Sl.enc f_.strokes) (O16.ld 0 rfl false 1 1) ?_
      refine kA1 (Tab.enc h15 f_.strokes).len ?_
      refine kBe ((tl1_q3 env he_q1 he_q5 he_q8 he_q9 he_q10 f_ o1 c6 c8 c10 z18 z19) ⟨rfl,O16⟩) (fun qq80 r hq => ?_)
      rcases qq80 with _ | q61
      ·obtain ⟨z25,z26,h23,rfl,O24⟩:=hq
       rw [e_lk1x2_q3]
       refine kA1 (v:=AV.ptr o1 1 0 2) rfl ?_
       refine kA1 (v:=Sl.enc f_.notes) (O24.ld 0 rfl false 1 2) ?_
       refine kA1 (Tab.enc h23 f_.notes).len ?_
       refine kBe ((tl2_q3 env he_q1 he_q5 he_q8 he_q9 he_q10 f_ o1 c6 c8 c10 z18 z19 z26) ⟨rfl,O24⟩) (fun qq58 r hq => ?_)
       rcases qq58 with _ | q36
       ·obtain ⟨z32,z33,h30,rfl,O31⟩:=hq
        rw [e_lk2x4_q3]
        exact kA6 (kA8 (by rfl) _)
       ·obtain ⟨z37,h34,rfl,O35⟩:=hq
        rw [e_lk2r_q3]
        exact kA6 (kA8 (by rfl) _)
      ·obtain ⟨z62,h59,rfl,O60⟩:=hq
       rw [e_lk1r_q3]
       exact kA6 (kA8 (by rfl) _)
     ·obtain ⟨q84,z85,h81,rfl,O82⟩:=hq
      rw [e_lk0r_q3]
      exact kA6 (kA8 (by rfl) _)
theorem tt_q3:kB6 Try.prog n_q3 (C1 (fun c:Bool=>enc c) t_q3):=kFx (kCl tt_q1 (kCl tt_q5 (kCl tt_q8 (kCl tt_q9 (kCl tt_q10 E0))))) kCm hb_q3 fun f_=>ts_q3 _ (by simp [kD7]) (by simp [kD7]) (by simp [kD7]) (by simp [kD7]) (by simp [kD7]) f_
def t_q15 (s_:Sl Channel):Option (Sl Channel) :=
 bif s_.isNone then
  some (none:Sl Channel)
 else
  kA0 (kF9 (some ([]:List Channel)) (s_.getD [])) fun _ =>
  some (kB3 (some ([]:List Channel)) (s_.getD []))
theorem ts_q15 (env:Nat→Contract)  (s_:Sl Channel):Sim (kAf Try.prog env n_q15 [Sl.enc s_] []) (t_q15 s_) fun c p=>release p.2 depth p.1=some ((fun c:(Sl Channel)=>rS c) c):=by
 have O:=Hold.nil []
 generalize hB:(⟨[],[]⟩:Base)=B at O
 clear hB
 rw [e_q15]
 unfold t_q15
 refine kA1 (v:=bv s_.isNone) (cmp_eqN _) ?_
 refine kAa (fun c1 => ?_) (fun c1 => ?_)
 ·exact kA6 (kA8 (by rfl) _)
 ·refine kB7 (A:=Channel) O ([]:List Channel) rfl (by first | rfl | simp [kAk,kBz]) rfl (fun x2 h3 O4 => ?_)
  replace O4:Hold B h3 [(x2,obS ((some ([]:List Channel)):Sl Channel))]:=O4
  refine kBw (A:=Channel) (s:=(some ([]:List Channel))) O4 0 (s_.getD []) rfl (src_enc _ _) (by decide) (fun x7 h8 O9 => ?_)
  replace O9:Hold B h8 [(x7,obS ((kB3 (some ([]:List Channel)) (s_.getD [])):Sl Channel))]:=O9
  exact kA6 (O9.rel (A:=Channel) (s:=(kB3 (some ([]:List Channel)) (s_.getD []))) 0 rfl)
theorem tt_q15:kB6 Try.prog n_q15 (C1 (fun c:(Sl Channel)=>rS c) t_q15):=kFx E0 kCm hb_q15 fun s_=>ts_q15 _  s_
def t_q16 (s_:Sl Note):Option (Sl Note) :=
 bif s_.isNone then
  some (none:Sl Note)
 else
  kA0 (kF9 (some ([]:List Note)) (s_.getD [])) fun _ =>
  some (kB3 (some ([]:List Note)) (s_.getD []))
theorem ts_q16 (env:Nat→Contract)  (s_:Sl Note):Sim (kAf Try.prog env n_q16 [Sl.enc s_] []) (t_q16 s_) fun c p=>release p.2 depth p.1=some ((fun c:(Sl Note)=>rS c) c):=by
 have O:=Hold.nil []
 generalize hB:(⟨[],[]⟩:Base)=B at O
 clear hB
 rw [e_q16]
 unfold t_q16
 refine kA1 (v:=bv s_.isNone) (cmp_eqN _) ?_
 refine kAa (fun c1 => ?_) (fun c1 => ?_)
 ·exact kA6 (kA8 (by rfl) _)
 ·refine kB7 (A:=Note) O ([]:List Note) rfl (by first | rfl | simp [kAk,kBz]) rfl (fun x2 h3 O4 => ?_)
  replace O4:Hold B h3 [(x2,obS ((some ([]:List Note)):Sl Note))]:=O4
  refine kBw (A:=Note) (s:=(some ([]:List Note))) O4 0 (s_.getD []) rfl (src_enc _ _) (by decide) (fun x7 h8 O9 => ?_)
  replace O9:Hold B h8 [(x7,obS ((kB3 (some ([]:List Note)) (s_.getD [])):Sl Note))]:=O9
  exact kA6 (O9.rel (A:=Note) (s:=(kB3 (some ([]:List Note)) (s_.getD []))) 0 rfl)
theorem tt_q16:kB6 Try.prog n_q16 (C1 (fun c:(Sl Note)=>rS c) t_q16):=kFx E0 kCm hb_q16 fun s_=>ts_q16 _  s_
def t_q17 (s_:Sl Int):Option (Sl Int) :=
 bif s_.isNone then
  some (none:Sl Int)
 else
  kA0 (kF9 (some ([]:List Int)) (s_.getD [])) fun _ =>
  some (kB3 (some ([]:List Int)) (s_.getD []))
theorem ts_q17 (env:Nat→Contract)  (s_:Sl Int):Sim (kAf Try.prog env n_q17 [Sl.enc s_] []) (t_q17 s_) fun c p=>release p.2 depth p.1=some ((fun c:(Sl Int)=>rS c) c):=by
 have O:=Hold.nil []
 generalize hB:(⟨[],[]⟩:Base)=B at O
 clear hB
 rw [e_q17]
 unfold t_q17
 refine kA1 (v:=bv s_.isNone) (cmp_eqN _) ?_
 refine kAa (fun c1 => ?_) (fun c1 => ?_)
 ·exact kA6 (kA8 (by rfl) _)
 ·refine kB7 (A:=Int) O ([]:List Int) rfl (by first | rfl | simp [kAk,kBz]) rfl (fun x2 h3 O4 => ?_)
  replace O4:Hold B h3 [(x2,obS ((some ([]:List Int)):Sl Int))]:=O4
  refine kBw (A:=Int) (s:=(some ([]:List Int))) O4 0 (s_.getD []) rfl (src_enc _ _) (by decide) (fun x7 h8 O9 => ?_)
  replace O9:Hold B h8 [(x7,obS ((kB3 (some ([]:List Int)) (s_.getD [])):Sl Int))]:=O9
  exact kA6 (O9.rel (A:=Int) (s:=(kB3 (some ([]:List Int)) (s_.getD []))) 0 rfl)
theorem tt_q17:kB6 Try.prog n_q17 (C1 (fun c:(Sl Int)=>rS c) t_q17):=kFx E0 kCm hb_q17 fun s_=>ts_q17 _  s_
def s0_q20 (s_:ByteArray):Int→Option (Sum Int (Sum Unit Bool)):=fun w10 =>
 bif decide (w10<(s_.size:Int)) then
  kA0 (getB s_ w10) fun b20 =>
  kA0 (some (kF3 b20)) fun c21 =>
  kA0 (bif !c21 then (kA0 (getB s_ w10) fun b23=>kA0 (some (isDig b23)) fun c24=>some (!c24)) else some false) fun c25 =>
  kA0 (bif (bif !c21 then c25 else false) then (kA0 (getB s_ w10) fun b27=>some (!decide ((b27.toNat:Int)=45))) else some false) fun c28 =>
  bif (bif (bif !c21 then c25 else false) then c28 else false) then
   some (.inr (.inr false))
  else
   some (.inl (wr (w10+1)))
 else
  some (.inr (.inl ()))
def kHl (s_:ByteArray):Option Bool :=
 kA0 (bif decide (s_=(⟨#[]⟩:ByteArray)) then some false else (some (decide (12<(s_.size:Int))))) fun c2 =>
 kA0 (bif (bif decide (s_=(⟨#[]⟩:ByteArray)) then true else c2) then some false else (kA0 (getB s_ 0) fun b4=>kA0 (some (kF3 b4)) fun c5=>some (!c5))) fun c6 =>
 bif (bif (bif decide (s_=(⟨#[]⟩:ByteArray)) then true else c2) then true else c6) then
  some false
 else
  kA0 (kBo (s0_q20 s_) 0) fun qq34=>match qq34 with
  | (.inl _) =>
    some true
  | (.inr q17) =>
    some q17
theorem tl0_q20 (env:Nat→Contract) {B:Base} (he_q30:env n_q30=.pure (T1 isDig)) (he_q31:env n_q31=.pure (T1 kF3)) (s_:ByteArray) (c2:Bool) (c6:Bool) :kGr (fun (st:Int) tm h8=>match st with | w10=>tm=((sv s_)::und::.top::(iv w10)::(sv s_)::(bv (decide (s_=(⟨#[]⟩:ByteArray))))::(bv (decide (s_=(⟨#[]⟩:ByteArray))))::.top::.top::(cond (decide (s_=(⟨#[]⟩:ByteArray))) und (bv c2))::(bv (bif decide (s_=(⟨#[]⟩:ByteArray)) then true else c2))::(bv (bif decide (s_=(⟨#[]⟩:ByteArray)) then true else c2))::.top::.top::.top::(cond (bif decide (s_=(⟨#[]⟩:ByteArray)) then true else c2) und (bv c6))::(bv (bif (bif decide (s_=(⟨#[]⟩:ByteArray)) then true else c2) then true else c6))::tZ9 24 [])∧Hold B h8 []) hm0_q20 xm0_q20 (lb0_q20 env) (s0_q20 s_) (fun (q:Sum Unit Bool) (r:Res)=>match q with | .inl _=>∃ (q14:Int) (z13:AV) (h11:kA7),r=(.exit 0,((sv s_)::und::z13::(iv q14)::(sv s_)::(bv (decide (s_=(⟨#[]⟩:ByteArray))))::(bv (decide (s_=(⟨#[]⟩:ByteArray))))::.top::.top::(cond (decide (s_=(⟨#[]⟩:ByteArray))) und (bv c2))::(bv (bif decide (s_=(⟨#[]⟩:ByteArray)) then true else c2))::(bv (bif decide (s_=(⟨#[]⟩:ByteArray)) then true else c2))::.top::.top::.top::(cond (bif decide (s_=(⟨#[]⟩:ByteArray)) then true else c2) und (bv c6))::(bv (bif (bif decide (s_=(⟨#[]⟩:ByteArray)) then true else c2) then true else c6))::tZ9 24 []),h11)∧Hold B h11 [] | .inr q17=>∃ (q18:Int) (h15:kA7),r=(.ret,((sv s_)::und::(bv q17)::(iv q18)::(sv s_)::(bv (decide (s_=(⟨#[]⟩:ByteArray))))::(bv (decide (s_=(⟨#[]⟩:ByteArray))))::.top::.top::(cond (decide (s_=(⟨#[]⟩:ByteArray))) und (bv c2))::(bv (bif decide (s_=(⟨#[]⟩:ByteArray)) then true else c2))::(bv (bif decide (s_=(⟨#[]⟩:ByteArray)) then true else c2))::.top::.top::.top::(cond (bif decide (s_=(⟨#[]⟩:ByteArray)) then true else c2) und (bv c6))::(bv (bif (bif decide (s_=(⟨#[]⟩:ByteArray)) then true else c2) then true else c6))::tZ9 24 []),h15)∧Hold B h15 []):=by
 refine @kH3 _ _ _ _ _ _ _ _ (fun w10 tm h8 R => ?_)
 obtain ⟨rfl,O9⟩:=R
 rw [e_lb0_q20]
 unfold s0_q20
 dsimp only
 refine kA1 (v:=iv (s_.size:Int)) rfl ?_
 refine kA1 (kBi _ _) ?_
 refine kAa (fun c19 => ?_) (fun c19 => ?_)
 ·refine kHp (fun b20 => ?_)
  refine kFm (t:=kF3) he_q31 (kFf _ _) (fun c21 => ?_)
  refine kA1 (v:=bv (!c21)) (kC3 _) ?_
  refine kBa (e:=bv) (fun hb22 => ?_) (fun c25 => ?_)
  ·refine kHp (fun b23 => ?_)
   refine kFm (t:=isDig) he_q30 (kFf _ _) (fun c24 => ?_)
   refine kA1 (v:=bv (!c24)) (kC3 _) ?_
   exact kA6 rfl
  ·refine kA1 (v:=bv (bif !c21 then c25 else false)) (kCh _ _ _) ?_
   refine kBa (e:=bv) (fun hb26 => ?_) (fun c28 => ?_)
   ·refine kHp (fun b27 => ?_)
    refine kA1 (v:=bv (!decide ((b27.toNat:Int)=45))) rfl ?_
    exact kA6 rfl
   ·refine kA1 (v:=bv (bif (bif !c21 then c25 else false) then c28 else false)) (kCh _ _ _) ?_
    refine kAa (fun c29 => ?_) (fun c29 => ?_)
    ·exact kA6 ⟨nofun,_,_,rfl,O9⟩
    ·refine kA1 (kAg _ _) ?_
     exact kA6 ⟨rfl,rfl,O9⟩
 ·exact kA6 ⟨nofun,_,_,_,rfl,O9⟩
theorem ts_q20 (env:Nat→Contract) (he_q30:env n_q30=.pure (T1 isDig)) (he_q31:env n_q31=.pure (T1 kF3)) (s_:ByteArray):Sim (kAf Try.prog env n_q20 [sv s_] []) (kHl s_) fun c p=>release p.2 depth p.1=some ((fun c:Bool=>enc c) c):=by
 have O:=Hold.nil []
 generalize hB:(⟨[],[]⟩:Base)=B at O
 clear hB
 rw [e_q20]
 unfold kHl
 refine kA1 (aCmp_eqS _ _) ?_
 refine kBc (e:=bv) (fun hb1 => ?_) (fun c2 => ?_)
 ·refine kA1 (v:=iv (s_.size:Int)) rfl ?_
  refine kA1 (kBd _ _) ?_
  exact kA6 rfl
 ·refine kA1 (v:=bv (bif decide (s_=(⟨#[]⟩:ByteArray)) then true else c2)) (kCn _ _ _) ?_
  refine kBc (e:=bv) (fun hb3 => ?_) (fun c6 => ?_)
  ·refine kHp (fun b4 => ?_)
   refine kFm (t:=kF3) he_q31 (kFf _ _) (fun c5 => ?_)
   refine kA1 (v:=bv (!c5)) (kC3 _) ?_
   exact kA6 rfl
  ·refine kA1 (v:=bv (bif (bif decide (s_=(⟨#[]⟩:ByteArray)) then true else c2) then true else c6)) (kCn _ _ _) ?_
   refine kAa (fun c7 => ?_) (fun c7 => ?_)
   ·exact kA6 (kA8 (by rfl) _)
   ·refine kBe ((tl0_q20 env he_q30 he_q31 s_ c2 c6) ⟨rfl,O⟩) (fun qq34 r hq => ?_)
    rcases qq34 with _ | q17
    ·obtain ⟨q14,z13,h11,rfl,O12⟩:=hq
     rw [e_lk0x0_q20]
     exact kA6 (kA8 (by rfl) _)
    ·obtain ⟨q18,h15,rfl,O16⟩:=hq
     rw [e_lk0r_q20]
     exact kA6 (kA8 (by rfl) _)
theorem tt_q20:kB6 Try.prog n_q20 (C1 (fun c:Bool=>enc c) kHl):=kFx (kCl ok_q30 (kCl ok_q31 E0)) kCm hb_q20 fun s_=>ts_q20 _ (by simp [kD7]) (by simp [kD7]) s_
def t_q38 (n_:Int):Option Bool :=
 kA0 (some (kBh n_ (-1000000000) 1000000000)) fun c1 =>
 some c1
theorem ts_q38 (env:Nat→Contract) (he_q23:env kFp=.pure (T3 kBh)) (n_:Int):Sim (kAf Try.prog env n_q38 [iv n_] []) (t_q38 n_) fun c p=>release p.2 depth p.1=some ((fun c:Bool=>enc c) c):=by
 have O:=Hold.nil []
 generalize hB:(⟨[],[]⟩:Base)=B at O
 clear hB
 rw [e_q38]
 unfold t_q38
 refine kEd (t:=kBh) he_q23 (kAe _ _) (kAe _ _) (kAe _ _) (fun c1 => ?_)
 exact kA6 (kA8 (by rfl) _)
theorem tt_q38:kB6 Try.prog n_q38 (C1 (fun c:Bool=>enc c) t_q38):=kFx (kCl ok_q23 E0) kCm hb_q38 fun n_=>ts_q38 _ (by simp [kD7]) n_
def t_q32 (c_:Channel):Option Bool :=
 kA0 (kHl c_.name) fun c1 =>
 kA0 (bif c1 then (kA0 (kHl c_.unit) fun c3=>some c3) else some false) fun c4 =>
 kA0 (bif (bif c1 then c4 else false) then (kA0 (t_q38 c_.low) fun c10=>some c10) else some false) fun c11 =>
 kA0 (bif (bif (bif c1 then c4 else false) then c11 else false) then (kA0 (t_q38 c_.high) fun c17=>some c17) else some false) fun c18 =>
 kA0 (bif (bif (bif (bif c1 then c4 else false) then c11 else false) then c18 else false) then (some (decide (c_.low<c_.high))) else some false) fun c24 =>
 some (bif (bif (bif (bif c1 then c4 else false) then c11 else false) then c18 else false) then c24 else false)
def tp_q32 (c_p:Pt Channel):Option Bool:=kA0 c_p.get fun c_=>t_q32 c_
theorem ts_q32 (env:Nat→Contract) (he_q20:env n_q20=.pure (C1 (fun c:Bool=>enc c) kHl)) (he_q38:env n_q38=.pure (C1 (fun c:Bool=>enc c) t_q38)) (c_:Channel) {c_p:Pt Channel} (hp_c_:c_p.get=some c_):Sim (kAf Try.prog env n_q32 [AV.fptr (Row.w Channel) (c_p.tab.map Row.cells) c_p.i 0] []) (t_q32 c_) fun c p=>release p.2 depth p.1=some ((fun c:Bool=>enc c) c):=by
 have O:=Hold.nil []
 generalize hB:(⟨[],[]⟩:Base)=B at O
 clear hB
 rw [e_q32]
 unfold t_q32
 refine kA1 (v:=AV.fptr (Row.w Channel) (c_p.tab.map Row.cells) c_p.i 0) rfl ?_
 refine kA1 (v:=AV.fptr (Row.w Channel) (c_p.tab.map Row.cells) c_p.i 0) rfl ?_
 refine kA1 (v:=sv c_.name) (kE4 hp_c_ false 1 0) ?_
 refine kE9 he_q20 (kDu _ _) (fun c1 => ?_)
 refine kBr (kAh (by rfl) _ _) ?_
 refine sim_g5T (e:=bv) (fun hb2 => ?_) (fun y5 y6 y7 y8 c4 => ?_)
 ·refine kBy ?_
  refine kCg ?_
  refine kA1 (v:=AV.fptr (Row.w Channel) (c_p.tab.map Row.cells) c_p.i 0) rfl ?_
  refine kBy ?_
  refine kCg ?_
  refine kA1 (v:=AV.fptr (Row.w Channel) (c_p.tab.map Row.cells) c_p.i 1) rfl ?_
  refine kBy ?_
  refine kCg ?_
  refine kA1 (v:=sv c_.unit) (kE4 hp_c_ false 1 1) ?_
  refine kBy ?_
  refine kE9 he_q20 (kDu _ _) (fun c3 => ?_)
  refine kBr (kAh (by rfl) _ _) ?_
  exact kA6 rfl
 ·refine kA1 (v:=bv (bif c1 then c4 else false)) (kCh _ _ _) ?_
  refine sim_g5T (e:=bv) (fun hb9 => ?_) (fun y12 y13 y14 y15 c11 => ?_)
  ·refine kBy ?_
   refine kCg ?_
   refine kA1 (v:=AV.fptr (Row.w Channel) (c_p.tab.map Row.cells) c_p.i 0) rfl ?_
   refine kBy ?_
   refine kCg ?_
   refine kA1 (v:=AV.fptr (Row.w Channel) (c_p.tab.map Row.cells) c_p.i 2) rfl ?_
   refine kBy ?_
   refine kCg ?_
   refine kA1 (v:=iv c_.low) (kE4 hp_c_ false 1 2) ?_
   refine kBy ?_
   refine kE9 he_q38 (kAe _ _) (fun c10 => ?_)
   refine kBr (kAh (by rfl) _ _) ?_
   exact kA6 rfl
  ·refine kA1 (v:=bv (bif (bif c1 then c4 else false) then c11 else false)) (kCh _ _ _) ?_
   refine sim_g5T (e:=bv) (fun hb16 => ?_) (fun y19 y20 y21 y22 c18 => ?_)
   ·refine kBy ?_
    refine kCg ?_
    refine kA1 (v:=AV.fptr (Row.w Channel) (c_p.tab.map Row.cells) c_p.i 0) rfl ?_
    refine kBy ?_
    refine kCg ?_
    refine kA1 (v:=AV.fptr (Row.w Channel) (c_p.tab.map Row.cells) c_p.i 3) rfl ?_
    refine kBy ?_
    refine kCg ?_
    refine kA1 (v:=iv c_.high) (kE4 hp_c_ false 1 3) ?_
    refine kBy ?_
    refine kE9 he_q38 (kAe _ _) (fun c17 => ?_)
    refine kBr (kAh (by rfl) _ _) ?_
    exact kA6 rfl
   ·refine kA1 (v:=bv (bif (bif (bif c1 then c4 else false) then c11 else false) then c18 else false)) (kCh _ _ _) ?_
    refine sim_g9T (e:=bv) (fun hb23 => ?_) (fun y25 y26 y27 y28 y29 y30 y31 y32 c24 => ?_)
    ·refine kBy ?_
     refine kCg ?_
     refine kA1 (v:=AV.fptr (Row.w Channel) (c_p.tab.map Row.cells) c_p.i 0) rfl ?_
     refine kBy ?_
     refine kCg ?_
     refine kA1 (v:=AV.fptr (Row.w Channel) (c_p.tab.map Row.cells) c_p.i 2) rfl ?_
     refine kBy ?_
     refine kCg ?_
     refine kA1 (v:=iv c_.low) (kE4 hp_c_ false 1 2) ?_
     refine kBy ?_
     refine kBy ?_
     refine kCg ?_
     refine kA1 (v:=AV.fptr (Row.w Channel) (c_p.tab.map Row.cells) c_p.i 0) rfl ?_
     refine kBy ?_
     refine kCg ?_
     refine kA1 (v:=AV.fptr (Row.w Channel) (c_p.tab.map Row.cells) c_p.i 3) rfl ?_
     refine kBy ?_
     refine kCg ?_
     refine kA1 (v:=iv c_.high) (kE4 hp_c_ false 1 3) ?_
     refine kBy ?_
     refine kA1 (kBi _ _) ?_
     exact kA6 rfl
    ·refine kA1 (v:=bv (bif (bif (bif (bif c1 then c4 else false) then c11 else false) then c18 else false) then c24 else false)) (kCh _ _ _) ?_
     exact kA6 (kA8 (by rfl) _)
theorem tt_q32:kB6 Try.prog n_q32 (C1 (fun c:Bool=>enc c) tp_q32):=kFx (kCl tt_q20 (kCl tt_q38 E0)) kCm hb_q32 fun c_p=>kFr fun c_ hp_c_=>ts_q32 _ (by simp [kD7]) (by simp [kD7]) c_ hp_c_
def s0_q34 (f_:File) (name_:ByteArray):Int→Option (Sum Int (Sum Unit Int)):=fun w3 =>
 bif decide (w3<(((f_.channels.getD []).length:Nat):Int)) then
  kA0 (kF8 (f_.channels.getD []) w3) fun a13 =>
  bif decide (a13.name=name_) then
   some (.inr (.inr w3))
  else
   some (.inl (wr (w3+1)))
 else
  some (.inr (.inl ()))
def t_q34 (f_:File) (name_:ByteArray):Option Int :=
 kA0 (kBo (s0_q34 f_ name_) 0) fun qq22=>match qq22 with
 | (.inl _) =>
   some (-1)
 | (.inr q10) =>
   some q10
def tp_q34 (f_p:Pt File) (name_:ByteArray):Option Int:=kA0 f_p.get fun f_=>t_q34 f_ name_
theorem tl0_q34 (env:Nat→Contract) {B:Base}  (f_:File) (f_p:Pt File) (hp_f_:f_p.get=some f_) (name_:ByteArray) :kGr (fun (st:Int) tm h1=>match st with | w3=>tm=((AV.fptr (Row.w File) (f_p.tab.map Row.cells) f_p.i 0)::(sv name_)::und::und::.top::(iv w3)::tZ9 20 [])∧Hold B h1 []) hm0_q34 xm0_q34 (lb0_q34 env) (s0_q34 f_ name_) (fun (q:Sum Unit Int) (r:Res)=>match q with | .inl _=>∃ (q7:Int) (z6:AV) (h4:kA7),r=(.exit 0,((AV.fptr (Row.w File) (f_p.tab.map Row.cells) f_p.i 0)::(sv name_)::und::und::z6::(iv q7)::tZ9 20 []),h4)∧Hold B h4 [] | .inr q10=>∃ (q11:Int) (h8:kA7),r=(.ret,((AV.fptr (Row.w File) (f_p.tab.map Row.cells) f_p.i 0)::(sv name_)::und::und::(iv q10)::(iv q11)::tZ9 20 []),h8)∧Hold B h8 []):=by
 refine @kH3 _ _ _ _ _ _ _ _ (fun w3 tm h1 R => ?_)
 obtain ⟨rfl,O2⟩:=R
 rw [e_lb0_q34]
 unfold s0_q34
 dsimp only
 refine kA1 (v:=AV.fptr (Row.w File) (f_p.tab.map Row.cells) f_p.i 0) rfl ?_
 refine kA1 (v:=AV.fptr (Row.w File) (f_p.tab.map Row.cells) f_p.i 0) rfl ?_
 refine kA1 (v:=Sl.enc f_.channels) (kE4 hp_f_ false 1 0) ?_
 refine kA1 (Tab.enc h1 f_.channels).len ?_
 refine kA1 (kBi _ _) ?_
 refine kAa (fun c12 => ?_) (fun c12 => ?_)
 ·refine kA1 (v:=AV.fptr (Row.w File) (f_p.tab.map Row.cells) f_p.i 0) rfl ?_
  refine kA1 (v:=AV.fptr (Row.w File) (f_p.tab.map Row.cells) f_p.i 0) rfl ?_
  refine kA1 (v:=Sl.enc f_.channels) (kE4 hp_f_ false 1 0) ?_
  refine kBm (Tab.enc h1 f_.channels) (fun m14 a13 hi15 hm16 => ?_)
  refine kA1 (v:=elp (Sl.enc f_.channels) m14 0) ((Tab.enc h1 f_.channels).fld _ _ _) ?_
  refine kA1 (v:=sv a13.name) ((Tab.enc h1 f_.channels).ld hm16 false 1 0) ?_
  refine kA1 (aCmp_eqS _ _) ?_
  refine kAa (fun c17 => ?_) (fun c17 => ?_)
  ·exact kA6 ⟨nofun,_,_,rfl,O2⟩
  ·refine kA1 (kAg _ _) ?_
   exact kA6 ⟨rfl,rfl,O2⟩
 ·exact kA6 ⟨nofun,_,_,_,rfl,O2⟩
theorem ts_q34 (env:Nat→Contract)  (f_:File) (name_:ByteArray) {f_p:Pt File} (hp_f_:f_p.get=some f_):Sim (kAf Try.prog env n_q34 [AV.fptr (Row.w File) (f_p.tab.map Row.cells) f_p.i 0,sv name_] []) (t_q34 f_ name_) fun c p=>release p.2 depth p.1=some ((fun c:Int=>enc c) c):=by
 have O:=Hold.nil []
 generalize hB:(⟨[],[]⟩:Base)=B at O
 clear hB
 rw [e_q34]
 unfold t_q34
 refine kBe ((tl0_q34 env f_ f_p hp_f_ name_) ⟨rfl,O⟩) (fun qq22 r hq => ?_)
 rcases qq22 with _ | q10
 ·obtain ⟨q7,z6,h4,rfl,O5⟩:=hq
  rw [e_lk0x0_q34]
  exact kA6 (kA8 (by rfl) _)
 ·obtain ⟨q11,h8,rfl,O9⟩:=hq
  rw [e_lk0r_q34]
  exact kA6 (kA8 (by rfl) _)
theorem tt_q34:kB6 Try.prog n_q34 (C2 (fun c:Int=>enc c) tp_q34):=kFk E0 kCm hb_q34 fun f_p name_=>kFr fun f_ hp_f_=>ts_q34 _  f_ name_ hp_f_
def s0_q37 (f_:File) (row_:Sl Int):Int→Option (Sum Int (Sum Unit Bool)):=fun w4 =>
 bif decide (w4<(((row_.getD []).length:Nat):Int)) then
  kA0 (kF8 (row_.getD []) w4) fun a14 =>
  kA0 (kF8 (f_.channels.getD []) w4) fun a18 =>
  kA0 (kF8 (f_.channels.getD []) w4) fun a22 =>
  kA0 (some (kBh a14 a18.low a22.high)) fun c26 =>
  bif !c26 then
   some (.inr (.inr false))
  else
   some (.inl (wr (w4+1)))
 else
  some (.inr (.inl ()))
def t_q37 (f_:File) (row_:Sl Int):Option Bool :=
 bif !decide ((((row_.getD []).length:Nat):Int)=(((f_.channels.getD []).length:Nat):Int)) then
  some false
 else
  kA0 (kBo (s0_q37 f_ row_) 0) fun qq32=>match qq32 with
  | (.inl _) =>
    some true
  | (.inr q11) =>
    some q11
def tp_q37 (f_p:Pt File) (row_:Sl Int):Option Bool:=kA0 f_p.get fun f_=>t_q37 f_ row_
theorem tl0_q37 (env:Nat→Contract) {B:Base} (he_q23:env kFp=.pure (T3 kBh)) (f_:File) (f_p:Pt File) (hp_f_:f_p.get=some f_) (row_:Sl Int) :kGr (fun (st:Int) tm h2=>match st with | w4=>tm=((AV.fptr (Row.w File) (f_p.tab.map Row.cells) f_p.i 0)::(Sl.enc row_)::und::und::.top::(iv w4)::(Sl.enc row_)::(iv (((row_.getD []).length:Nat):Int))::(AV.fptr (Row.w File) (f_p.tab.map Row.cells) f_p.i 0)::(AV.fptr (Row.w File) (f_p.tab.map Row.cells) f_p.i 0)::(AV.fptr (Row.w File) (f_p.tab.map Row.cells) f_p.i 0)::(Sl.enc f_.channels)::(iv (((f_.channels.getD []).length:Nat):Int))::(bv (!decide ((((row_.getD []).length:Nat):Int)=(((f_.channels.getD []).length:Nat):Int))))::tZ9 28 [])∧Hold B h2 []) hm0_q37 xm0_q37 (lb0_q37 env) (s0_q37 f_ row_) (fun (q:Sum Unit Bool) (r:Res)=>match q with | .inl _=>∃ (q8:Int) (z7:AV) (h5:kA7),r=(.exit 0,((AV.fptr (Row.w File) (f_p.tab.map Row.cells) f_p.i 0)::(Sl.enc row_)::und::und::z7::(iv q8)::(Sl.enc row_)::(iv (((row_.getD []).length:Nat):Int))::(AV.fptr (Row.w File) (f_p.tab.map Row.cells) f_p.i 0)::(AV.fptr (Row.w File) (f_p.tab.map Row.cells) f_p.i 0)::(AV.fptr (Row.w File) (f_p.tab.map Row.cells) f_p.i 0)::(Sl.enc f_.channels)::(iv (((f_.channels.getD []).length:Nat):Int))::(bv (!decide ((((row_.getD []).length:Nat):Int)=(((f_.channels.getD []).length:Nat):Int))))::tZ9 28 []),h5)∧Hold B h5 [] | .inr q11=>∃ (q12:Int) (h9:kA7),r=(.ret,((AV.fptr (Row.w File) (f_p.tab.map Row.cells) f_p.i 0)::(Sl.enc row_)::und::und::(bv q11)::(iv q12)::(Sl.enc row_)::(iv (((row_.getD []).length:Nat):Int))::(AV.fptr (Row.w File) (f_p.tab.map Row.cells) f_p.i 0)::(AV.fptr (Row.w File) (f_p.tab.map Row.cells) f_p.i 0)::(AV.fptr (Row.w File) (f_p.tab.map Row.cells) f_p.i 0)::(Sl.enc f_.channels)::(iv (((f_.channels.getD []).length:Nat):Int))::(bv (!decide ((((row_.getD []).length:Nat):Int)=(((f_.channels.getD []).length:Nat):Int))))::tZ9 28 []),h9)∧Hold B h9 []):=by
 refine @kH3 _ _ _ _ _ _ _ _ (fun w4 tm h2 R => ?_)
 obtain ⟨rfl,O3⟩:=R
 rw [e_lb0_q37]
 unfold s0_q37
 dsimp only
 refine kA1 (Tab.enc h2 row_).len ?_
 refine kA1 (kBi _ _) ?_
 refine kAa (fun c13 => ?_) (fun c13 => ?_)
 ·refine kBm (Tab.enc h2 row_) (fun m15 a14 hi16 hm17 => ?_)
  refine kA1 (v:=iv a14) ((Tab.enc h2 row_).ld hm17 false 1 0) ?_
  refine kA1 (v:=AV.fptr (Row.w File) (f_p.tab.map Row.cells) f_p.i 0) rfl ?_
  refine kA1 (v:=AV.fptr (Row.w File) (f_p.tab.map Row.cells) f_p.i 0) rfl ?_
  refine kA1 (v:=Sl.enc f_.channels) (kE4 hp_f_ false 1 0) ?_
  refine kBm (Tab.enc h2 f_.channels) (fun m19 a18 hi20 hm21 => ?_)
  refine kA1 (v:=elp (Sl.enc f_.channels) m19 2) ((Tab.enc h2 f_.channels).fld _ _ _) ?_
  refine kA1 (v:=iv a18.low) ((Tab.enc h2 f_.channels).ld hm21 false 1 2) ?_
  refine kA1 (v:=AV.fptr (Row.w File) (f_p.tab.map Row.cells) f_p.i 0) rfl ?_
  refine kA1 (v:=AV.fptr (Row.w File) (f_p.tab.map Row.cells) f_p.i 0) rfl ?_
  refine kA1 (v:=Sl.enc f_.channels) (kE4 hp_f_ false 1 0) ?_
  refine kBm (Tab.enc h2 f_.channels) (fun m23 a22 hi24 hm25 => ?_)
  refine kA1 (v:=elp (Sl.enc f_.channels) m23 3) ((Tab.enc h2 f_.channels).fld _ _ _) ?_
  refine kA1 (v:=iv a22.high) ((Tab.enc h2 f_.channels).ld hm25 false 1 3) ?_
  refine kH2 (t:=kBh) he_q23 (kAe _ _) (kAe _ _) (kAe _ _) (fun c26 => ?_)
  refine kA1 (v:=bv (!c26)) (kC3 _) ?_
  refine kAa (fun c27 => ?_) (fun c27 => ?_)
  ·exact kA6 ⟨nofun,_,_,rfl,O3⟩
  ·refine kA1 (kAg _ _) ?_
   exact kA6 ⟨rfl,rfl,O3⟩
 ·exact kA6 ⟨nofun,_,_,_,rfl,O3⟩
theorem ts_q37 (env:Nat→Contract) (he_q23:env kFp=.pure (T3 kBh)) (f_:File) (row_:Sl Int) {f_p:Pt File} (hp_f_:f_p.get=some f_):Sim (kAf Try.prog env n_q37 [AV.fptr (Row.w File) (f_p.tab.map Row.cells) f_p.i 0,Sl.enc row_] []) (t_q37 f_ row_) fun c p=>release p.2 depth p.1=some ((fun c:Bool=>enc c) c):=by
 have O:=Hold.nil []
 generalize hB:(⟨[],[]⟩:Base)=B at O
 clear hB
 rw [e_q37]
 unfold t_q37
 refine kA1 (v:=iv (((row_.getD []).length:Nat):Int)) (Tab.enc [] row_).len ?_
 refine kA1 (v:=AV.fptr (Row.w File) (f_p.tab.map Row.cells) f_p.i 0) rfl ?_
 refine kA1 (v:=AV.fptr (Row.w File) (f_p.tab.map Row.cells) f_p.i 0) rfl ?_
 refine kA1 (v:=Sl.enc f_.channels) (kE4 hp_f_ false 1 0) ?_
 refine kA1 (v:=iv (((f_.channels.getD []).length:Nat):Int)) (Tab.enc [] f_.channels).len ?_
 refine kA1 (kF0 _ _) ?_
 refine kAa (fun c1 => ?_) (fun c1 => ?_)
 ·exact kA6 (kA8 (by rfl) _)
 ·refine kBe ((tl0_q37 env he_q23 f_ f_p hp_f_ row_) ⟨rfl,O⟩) (fun qq32 r hq => ?_)
  rcases qq32 with _ | q11
  ·obtain ⟨q8,z7,h5,rfl,O6⟩:=hq
   rw [e_lk0x0_q37]
   exact kA6 (kA8 (by rfl) _)
  ·obtain ⟨q12,h9,rfl,O10⟩:=hq
   rw [e_lk0r_q37]
   exact kA6 (kA8 (by rfl) _)
theorem tt_q37:kB6 Try.prog n_q37 (C2 (fun c:Bool=>enc c) tp_q37):=kFk (kCl ok_q23 E0) kCm hb_q37 fun f_p row_=>kFr fun f_ hp_f_=>ts_q37 _ (by simp [kD7]) f_ row_ hp_f_
def t_q36 (f_:File) (n_:Note):Option Bool :=
 kA0 (bif decide (0≤n_.frm) then (some (decide (n_.frm<n_.upto))) else some false) fun c2 =>
 kA0 (bif (bif decide (0≤n_.frm) then c2 else false) then (some (decide (n_.upto≤(((f_.strokes.getD []).length:Nat):Int)))) else some false) fun c12 =>
 some (bif (bif decide (0≤n_.frm) then c2 else false) then c12 else false)
def tp_q36 (f_p:Pt File) (n_p:Pt Note):Option Bool:=kA0 f_p.get fun f_=>kA0 n_p.get fun n_=>t_q36 f_ n_
theorem ts_q36 (env:Nat→Contract)  (f_:File) (n_:Note) {f_p:Pt File} (hp_f_:f_p.get=some f_) {n_p:Pt Note} (hp_n_:n_p.get=some n_):Sim (kAf Try.prog env n_q36 [AV.fptr (Row.w File) (f_p.tab.map Row.cells) f_p.i 0,AV.fptr (Row.w Note) (n_p.tab.map Row.cells) n_p.i 0] []) (t_q36 f_ n_) fun c p=>release p.2 depth p.1=some ((fun c:Bool=>enc c) c):=by
 have O:=Hold.nil []
 generalize hB:(⟨[],[]⟩:Base)=B at O
 clear hB
 rw [e_q36]
 unfold t_q36
 refine kA1 (v:=AV.fptr (Row.w Note) (n_p.tab.map Row.cells) n_p.i 0) rfl ?_
 refine kA1 (v:=AV.fptr (Row.w Note) (n_p.tab.map Row.cells) n_p.i 0) rfl ?_
 refine kA1 (v:=iv n_.frm) (kE4 hp_n_ false 1 0) ?_
 refine kA1 (kF6 _ _) ?_
 refine sim_g9T (e:=bv) (fun hb1 => ?_) (fun y3 y4 y5 y6 y7 y8 y9 y10 c2 => ?_)
 ·refine kBy ?_
  refine kCg ?_
  refine kA1 (v:=AV.fptr (Row.w Note) (n_p.tab.map Row.cells) n_p.i 0) rfl ?_
  refine kBy ?_
  refine kCg ?_
  refine kA1 (v:=AV.fptr (Row.w Note) (n_p.tab.map Row.cells) n_p.i 0) rfl ?_
  refine kBy ?_
  refine kCg ?_
  refine kA1 (v:=iv n_.frm) (kE4 hp_n_ false 1 0) ?_
  refine kBy ?_
  refine kBy ?_
  refine kCg ?_
  refine kA1 (v:=AV.fptr (Row.w Note) (n_p.tab.map Row.cells) n_p.i 0) rfl ?_
  refine kBy ?_
  refine kCg ?_
  refine kA1 (v:=AV.fptr (Row.w Note) (n_p.tab.map Row.cells) n_p.i 1) rfl ?_
  refine kBy ?_
  refine kCg ?_
  refine kA1 (v:=iv n_.upto) (kE4 hp_n_ false 1 1) ?_
  refine kBy ?_
  refine kA1 (kBi _ _) ?_
  exact kA6 rfl
 ·refine kA1 (v:=bv (bif decide (0≤n_.frm) then c2 else false)) (kCh _ _ _) ?_
  refine sim_g10T (e:=bv) (fun hb11 => ?_) (fun y13 y14 y15 y16 y17 y18 y19 y20 y21 c12 => ?_)
  ·refine kBy ?_
   refine kCg ?_
   refine kA1 (v:=AV.fptr (Row.w Note) (n_p.tab.map Row.cells) n_p.i 0) rfl ?_
   refine kBy ?_
   refine kCg ?_
   refine kA1 (v:=AV.fptr (Row.w Note) (n_p.tab.map Row.cells) n_p.i 1) rfl ?_
   refine kBy ?_
   refine kCg ?_
   refine kA1 (v:=iv n_.upto) (kE4 hp_n_ false 1 1) ?_
   refine kBy ?_
   refine kBy ?_
   refine kCg ?_
   refine kA1 (v:=AV.fptr (Row.w File) (f_p.tab.map Row.cells) f_p.i 0) rfl ?_
   refine kBy ?_
   refine kCg ?_
   refine kA1 (v:=AV.fptr (Row.w File) (f_p.tab.map Row.cells) f_p.i 1) rfl ?_
   refine kBy ?_
   refine kCg ?_
   refine kA1 (v:=Sl.enc f_.strokes) (kE4 hp_f_ false 1 1) ?_
   refine kBy ?_
   refine kCg ?_
   refine kA1 (v:=iv (((f_.strokes.getD []).length:Nat):Int)) (Tab.enc [] f_.strokes).len ?_
   refine kBy ?_
   refine kA1 (kF4 _ _) ?_
   exact kA6 rfl
  ·refine kA1 (v:=bv (bif (bif decide (0≤n_.frm) then c2 else false) then c12 else false)) (kCh _ _ _) ?_
   exact kA6 (kA8 (by rfl) _)
theorem tt_q36:kB6 Try.prog n_q36 (C2 (fun c:Bool=>enc c) tp_q36):=kFk E0 kCm hb_q36 fun f_p n_p=>kFr fun f_ hp_f_=>kFr fun n_ hp_n_=>ts_q36 _  f_ n_ hp_f_ hp_n_
def s3_q35 (f_:File):Int→Option (Sum Int (Sum Unit Bool)):=fun w19 =>
 bif decide (w19<(((f_.notes.getD []).length:Nat):Int)) then
  kA0 (kF8 (f_.notes.getD []) w19) fun a34 =>
  kA0 (t_q36 f_ a34) fun c38 =>
  kA0 (bif !c38 then some false else (kA0 (kF8 (f_.notes.getD []) w19) fun a40=>kA0 (kHl a40.text) fun c44=>some (!c44))) fun c45 =>
  bif (bif !c38 then true else c45) then
   some (.inr (.inr false))
  else
   some (.inl (wr (w19+1)))
 else
  some (.inr (.inl ()))
def s2_q35 (f_:File) (a59:FRows):Int→Option (Sum Int (Sum Unit Bool)):=fun w65 =>
 bif decide (w65<(((a59.values.getD []).length:Nat):Int)) then
  kA0 (kF8 (a59.values.getD []) w65) fun a80 =>
  kA0 (t_q37 f_ a80) fun c84 =>
  bif !c84 then
   some (.inr (.inr false))
  else
   some (.inl (wr (w65+1)))
 else
  some (.inr (.inl ()))
def s1_q35 (f_:File):Int→Option (Sum Int (Sum Unit Bool)):=fun w10 =>
 bif decide (w10<(((f_.strokes.getD []).length:Nat):Int)) then
  kA0 (kF8 (f_.strokes.getD []) w10) fun a59 =>
  kA0 (kBo (s2_q35 f_ a59) 0) fun qq90=>match qq90 with
  | (.inl _) =>
    kA0 (some (kBh (((a59.values.getD []).length:Nat):Int) 1 60)) fun c70 =>
    bif !c70 then
     some (.inr (.inr false))
    else
     some (.inl (wr (w10+1)))
  | (.inr q76) =>
    some (.inr (.inr q76))
 else
  some (.inr (.inl ()))
def s0_q35 (f_:File):Int→Option (Sum Int (Sum Unit Bool)):=fun w3 =>
 bif decide (w3<(((f_.channels.getD []).length:Nat):Int)) then
  kA0 (kF8 (f_.channels.getD []) w3) fun a99 =>
  kA0 (t_q32 a99) fun c103 =>
  kA0 (bif !c103 then some false else (kA0 (kF8 (f_.channels.getD []) w3) fun a105=>kA0 (t_q34 f_ a105.name) fun c109=>some (!decide (c109=w3)))) fun c110 =>
  bif (bif !c103 then true else c110) then
   some (.inr (.inr false))
  else
   some (.inl (wr (w3+1)))
 else
  some (.inr (.inl ()))
def t_q35 (f_:File):Option Bool :=
 kA0 (kBo (s0_q35 f_) 0) fun qq116=>match qq116 with
 | (.inl _) =>
   kA0 (kBo (s1_q35 f_) 0) fun qq93=>match qq93 with
   | (.inl _) =>
     kA0 (kBo (s3_q35 f_) 0) fun qq51=>match qq51 with
     | (.inl _) =>
       kA0 (some (kBh (((f_.channels.getD []).length:Nat):Int) 1 6)) fun c24 =>
       kA0 (bif c24 then (some (decide ((((f_.strokes.getD []).length:Nat):Int)≤16))) else some false) fun c26 =>
       kA0 (bif (bif c24 then c26 else false) then (some (decide ((((f_.notes.getD []).length:Nat):Int)≤12))) else some false) fun c28 =>
       some (bif (bif c24 then c26 else false) then c28 else false)
     | (.inr q31) =>
       some q31
   | (.inr q54) =>
     some q54
 | (.inr q96) =>
   some q96
def tp_q35 (f_p:Pt File):Option Bool:=kA0 f_p.get fun f_=>t_q35 f_
theorem tl3_q35 (env:Nat→Contract) {B:Base} (he_q20:env n_q20=.pure (C1 (fun c:Bool=>enc c) kHl)) (he_q23:env kFp=.pure (T3 kBh)) (he_q32:env n_q32=.pure (C1 (fun c:Bool=>enc c) tp_q32)) (he_q34:env n_q34=.pure (C2 (fun c:Int=>enc c) tp_q34)) (he_q36:env n_q36=.pure (C2 (fun c:Bool=>enc c) tp_q36)) (he_q37:env n_q37=.pure (C2 (fun c:Bool=>enc c) tp_q37)) (f_:File) (f_p:Pt File) (hp_f_:f_p.get=some f_) (q7:Int) (q14:Int) (z15:AV) (z16:AV) :kGr (fun (st:Int) tm h17=>match st with | w19=>tm=((AV.fptr (Row.w File) (f_p.tab.map Row.cells) f_p.i 0)::und::.top::(iv q7)::(iv q14)::z15::z16::(iv w19)::.top::.top::.top::.top::.top::.top::.top::.top::.top::.top::.top::.top::.top::.top::.top::.top::.top::.top::.top::.top::.top::.top::.top::.top::.top::.top::.top::.top::.top::.top::.top::.top::.top::.top::.top::.top::.top::.top::.top::.top::.top::.top::.top::.top::.top::.top::.top::.top::.top::.top::.top::.top::.top::.top::.top::.top::.top::.top::.top::.top::.top::.top::.top::.top::.top::tZ9 30 [und,und,und,und,und,und,und,und,und,und,und,und,und,und,und,und,und,und,und,und,und,und])∧Hold B h17 []) hm3_q35 xm3_q35 (lb3_q35 env) (s3_q35 f_) (fun (q:Sum Unit Bool) (r:Res)=>match q with | .inl _=>∃ (q23:Int) (z22:AV) (h20:kA7),r=(.exit 6,((AV.fptr (Row.w File) (f_p.tab.map Row.cells) f_p.i 0)::und::z22::(iv q7)::(iv q14)::z15::z16::(iv q23)::.top::.top::.top::.top::.top::.top::.top::.top::.top::.top::.top::.top::.top::.top::.top::.top::.top::.top::.top::.top::.top::.top::.top::.top::.top::.top::.top::.top::.top::.top::.top::.top::.top::.top::.top::.top::.top::.top::.top::.top::.top::.top::.top::.top::.top::.top::.top::.top::.top::.top::.top::.top::.top::.top::.top::.top::.top::.top::.top::.top::.top::.top::.top::.top::.top::tZ9 30 [und,und,und,und,und,und,und,und,und,und,und,und,und,und,und,und,und,und,und,und,und,und]),h20)∧Hold B h20 [] | .inr q31=>∃ (q32:Int) (h29:kA7),r=(.ret,((AV.fptr (Row.w File) (f_p.tab.map Row.cells) f_p.i 0)::und::(bv q31)::(iv q7)::(iv q14)::z15::z16::(iv q32)::.top::.top::.top::.top::.top::.top::.top::.top::.top::.top::.top::.top::.top::.top::.top::.top::.top::.top::.top::.top::.top::.top::.top::.top::.top::.top::.top::.top::.top::.top::.top::.top::.top::.top::.top::.top::.top::.top::.top::.top::.top::.top::.top::.top::.top::.top::.top::.top::.top::.top::.top::.top::.top::.top::.top::.top::.top::.top::.top::.top::.top::.top::.top::.top::.top::tZ9 30 [und,und,und,und,und,und,und,und,und,und,und,und,und,und,und,und,und,und,und,und,und,und]),h29)∧Hold B h29 []):=by
 refine @kH3 _ _ _ _ _ _ _ _ (fun w19 tm h17 R => ?_)
 obtain ⟨rfl,O18⟩:=R
 rw [e_lb3_q35]
 unfold s3_q35
 dsimp only
 refine kA1 (v:=AV.fptr (Row.w File) (f_p.tab.map Row.cells) f_p.i 0) rfl ?_
 refine kA1 (v:=AV.fptr (Row.w File) (f_p.tab.map Row.cells) f_p.i 2) rfl ?_
 refine kA1 (v:=Sl.enc f_.notes) (kE4 hp_f_ false 1 2) ?_
 refine kA1 (Tab.enc h17 f_.notes).len ?_
 refine kA1 (kBi _ _) ?_
 refine kAa (fun c33 => ?_) (fun c33 => ?_)
 ·refine kA1 (v:=AV.fptr (Row.w File) (f_p.tab.map Row.cells) f_p.i 0) rfl ?_
  refine kA1 (v:=AV.fptr (Row.w File) (f_p.tab.map Row.cells) f_p.i 2) rfl ?_
  refine kA1 (v:=Sl.enc f_.notes) (kE4 hp_f_ false 1 2) ?_
  refine kBm (Tab.enc h17 f_.notes) (fun m35 a34 hi36 hm37 => ?_)
  refine sim_eqO (y':=tp_q36 f_p ⟨f_.notes.getD [],m35⟩) (by simp only [tp_q36,get_ptAt hm37,hp_f_,kA5]) ?_
  refine kCv he_q36 (kFd _ _ _ _ rfl) (snapD_elpR _ f_.notes hm37) (fun c38 => ?_)
  refine kBr (kAh (by rfl) _ _) ?_
  refine kA1 (v:=bv (!c38)) (kC3 _) ?_
  refine kBc (e:=bv) (fun hb39 => ?_) (fun c45 => ?_)
  ·refine kA1 (v:=AV.fptr (Row.w File) (f_p.tab.map Row.cells) f_p.i 0) rfl ?_
   refine kA1 (v:=AV.fptr (Row.w File) (f_p.tab.map Row.cells) f_p.i 2) rfl ?_
   refine kA1 (v:=Sl.enc f_.notes) (kE4 hp_f_ false 1 2) ?_
   refine kBm (Tab.enc h17 f_.notes) (fun m41 a40 hi42 hm43 => ?_)
   refine kA1 (v:=elp (Sl.enc f_.notes) m41 2) ((Tab.enc h17 f_.notes).fld _ _ _) ?_
   refine kA1 (v:=sv a40.text) ((Tab.enc h17 f_.notes).ld hm43 false 1 2) ?_
   refine kCx he_q20 (kDu _ _) (fun c44 => ?_)
   refine kBr (kAh (by rfl) _ _) ?_
   refine kA1 (v:=bv (!c44)) (kC3 _) ?_
   exact kA6 rfl
  ·refine kA1 (v:=bv (bif !c38 then true else c45)) (kCn _ _ _) ?_
   refine kAa (fun c46 => ?_) (fun c46 => ?_)
   ·exact kA6 ⟨nofun,_,_,rfl,O18⟩
   ·refine kA1 (kAg _ _) ?_
    exact kA6 ⟨rfl,rfl,O18⟩
 ·exact kA6 ⟨nofun,_,_,_,rfl,O18⟩
theorem tl2_q35 (env:Nat→Contract) {B:Base} (he_q20:env n_q20=.pure (C1 (fun c:Bool=>enc c) kHl)) (he_q23:env kFp=.pure (T3 kBh)) (he_q32:env n_q32=.pure (C1 (fun c:Bool=>enc c) tp_q32)) (he_q34:env n_q34=.pure (C2 (fun c:Int=>enc c) tp_q34)) (he_q36:env n_q36=.pure (C2 (fun c:Bool=>enc c) tp_q36)) (he_q37:env n_q37=.pure (C2 (fun c:Bool=>enc c) tp_q37)) (f_:File) (f_p:Pt File) (hp_f_:f_p.get=some f_) (q7:Int) (w10:Int) (a59:FRows) (m60:Nat) :kGr (fun (st:Int) tm h63=>match st with | w65=>tm=((AV.fptr (Row.w File) (f_p.tab.map Row.cells) f_p.i 0)::und::.top::(iv q7)::(iv w10)::(Sl.enc a59.values)::(iv w65)::und::.top::.top::.top::.top::.top::.top::.top::.top::.top::.top::.top::.top::.top::.top::.top::.top::.top::.top::.top::.top::.top::.top::.top::.top::.top::.top::.top::.top::.top::.top::.top::(iv w10)::(AV.fptr (Row.w File) (f_p.tab.map Row.cells) f_p.i 0)::(AV.fptr (Row.w File) (f_p.tab.map Row.cells) f_p.i 0)::(AV.fptr (Row.w File) (f_p.tab.map Row.cells) f_p.i 1)::(Sl.enc f_.strokes)::(iv (((f_.strokes.getD []).length:Nat):Int))::(bv (decide (w10<(((f_.strokes.getD []).length:Nat):Int))))::.top::.top::(AV.fptr (Row.w File) (f_p.tab.map Row.cells) f_p.i 0)::(AV.fptr (Row.w File) (f_p.tab.map Row.cells) f_p.i 0)::(AV.fptr (Row.w File) (f_p.tab.map Row.cells) f_p.i 1)::(Sl.enc f_.strokes)::(iv w10)::(elp (Sl.enc f_.strokes) m60 0)::(elp (Sl.enc f_.strokes) m60 0)::(Sl.enc a59.values)::tZ9 13 [.top,.top,.top,.top,und,und,und,und,und,und,und,und,und,und,und,und,und,und,und,und,und,und,und,und,und,und,und,und,und,und,und,und,und,und,und,und,und,und,und,und,und,und,und,und,und,und,und,und,und,und,und,und,und,und,und,und])∧Hold B h63 []) hm2_q35 xm2_q35 (lb2_q35 env) (s2_q35 f_ a59) (fun (q:Sum Unit Bool) (r:Res)=>match q with | .inl _=>∃ (q69:Int) (z68:AV) (h66:kA7),r=(.exit 4,((AV.fptr (Row.w File) (f_p.tab.map Row.cells) f_p.i 0)::und::z68::(iv q7)::(iv w10)::(Sl.enc a59.values)::(iv q69)::und::.top::.top::.top::.top::.top::.top::.top::.top::.top::.top::.top::.top::.top::.top::.top::.top::.top::.top::.top::.top::.top::.top::.top::.top::.top::.top::.top::.top::.top::.top::.top::(iv w10)::(AV.fptr (Row.w File) (f_p.tab.map Row.cells) f_p.i 0)::(AV.fptr (Row.w File) (f_p.tab.map Row.cells) f_p.i 0)::(AV.fptr (Row.w File) (f_p.tab.map Row.cells) f_p.i 1)::(Sl.enc f_.strokes)::(iv (((f_.strokes.getD []).length:Nat):Int))::(bv (decide (w10<(((f_.strokes.getD []).length:Nat):Int))))::.top::.top::(AV.fptr (Row.w File) (f_p.tab.map Row.cells) f_p.i 0)::(AV.fptr (Row.w File) (f_p.tab.map Row.cells) f_p.i 0)::(AV.fptr (Row.w File) (f_p.tab.map Row.cells) f_p.i 1)::(Sl.enc f_.strokes)::(iv w10)::(elp (Sl.enc f_.strokes) m60 0)::(elp (Sl.enc f_.strokes) m60 0)::(Sl.enc a59.values)::tZ9 13 [.top,.top,.top,.top,und,und,und,und,und,und,und,und,und,und,und,und,und,und,und,und,und,und,und,und,und,und,und,und,und,und,und,und,und,und,und,und,und,und,und,und,und,und,und,und,und,und,und,und,und,und,und,und,und,und,und,und]),h66)∧Hold B h66 [] | .inr q76=>∃ (q77:Int) (h74:kA7),r=(.ret,((AV.fptr (Row.w File) (f_p.tab.map Row.cells) f_p.i 0)::und::(bv q76)::(iv q7)::(iv w10)::(Sl.enc a59.values)::(iv q77)::und::.top::.top::.top::.top::.top::.top::.top::.top::.top::.top::.top::.top::.top::.top::.top::.top::.top::.top::.top::.top::.top::.top::.top::.top::.top::.top::.top::.top::.top::.top::.top::(iv w10)::(AV.fptr (Row.w File) (f_p.tab.map Row.cells) f_p.i 0)::(AV.fptr (Row.w File) (f_p.tab.map Row.cells) f_p.i 0)::(AV.fptr (Row.w File) (f_p.tab.map Row.cells) f_p.i 1)::(Sl.enc f_.strokes)::(iv (((f_.strokes.getD []).length:Nat):Int))::(bv (decide (w10<(((f_.strokes.getD []).length:Nat):Int))))::.top::.top::(AV.fptr (Row.w File) (f_p.tab.map Row.cells) f_p.i 0)::(AV.fptr (Row.w File) (f_p.tab.map Row.cells) f_p.i 0)::(AV.fptr (Row.w File) (f_p.tab.map Row.cells) f_p.i 1)::(Sl.enc f_.strokes)::(iv w10)::(elp (Sl.enc f_.strokes) m60 0)::(elp (Sl.enc f_.strokes) m60 0)::(Sl.enc a59.values)::tZ9 13 [.top,.top,.top,.top,und,und,und,und,und,und,und,und,und,und,und,und,und,und,und,und,und,und,und,und,und,und,und,und,und,und,und,und,und,und,und,und,und,und,und,und,und,und,und,und,und,und,und,und,und,und,und,und,und,und,und,und]),h74)∧Hold B h74 []):=by
 refine @kH3 _ _ _ _ _ _ _ _ (fun w65 tm h63 R => ?_)
 obtain ⟨rfl,O64⟩:=R
 rw [e_lb2_q35]
 unfold s2_q35
 dsimp only
 refine kA1 (Tab.enc h63 a59.values).len ?_
 refine kA1 (kBi _ _) ?_
 refine kAa (fun c79 => ?_) (fun c79 => ?_)
 ·refine kBm (Tab.enc h63 a59.values) (fun m81 a80 hi82 hm83 => ?_)
  refine kA1 (v:=Sl.enc a80) ((Tab.enc h63 a59.values).ld hm83 false 1 0) ?_
  refine sim_eqO (y':=tp_q37 f_p a80) (by simp only [tp_q37,hp_f_,kA5]) ?_
  refine kCv he_q37 (kFd _ _ _ _ rfl) (kCp _ _) (fun c84 => ?_)
  refine kBr (kAh (by rfl) _ _) ?_
  refine kA1 (v:=bv (!c84)) (kC3 _) ?_
  refine kAa (fun c85 => ?_) (fun c85 => ?_)
  ·exact kA6 ⟨nofun,_,_,rfl,O64⟩
  ·refine kA1 (kAg _ _) ?_
   exact kA6 ⟨rfl,rfl,O64⟩
 ·exact kA6 ⟨nofun,_,_,_,rfl,O64⟩
theorem tl1_q35 (env:Nat→Contract) {B:Base} (he_q20:env n_q20=.pure (C1 (fun c:Bool=>enc c) kHl)) (he_q23:env kFp=.pure (T3 kBh)) (he_q32:env n_q32=.pure (C1 (fun c:Bool=>enc c) tp_q32)) (he_q34:env n_q34=.pure (C2 (fun c:Int=>enc c) tp_q34)) (he_q36:env n_q36=.pure (C2 (fun c:Bool=>enc c) tp_q36)) (he_q37:env n_q37=.pure (C2 (fun c:Bool=>enc c) tp_q37)) (f_:File) (f_p:Pt File) (hp_f_:f_p.get=some f_) (q7:Int) :kGr (fun (st:Int) tm h8=>match st with | w10=>tm=((AV.fptr (Row.w File) (f_p.tab.map Row.cells) f_p.i 0)::und::.top::(iv q7)::(iv w10)::.top::.top::und::.top::.top::.top::.top::.top::.top::.top::.top::.top::.top::.top::.top::.top::.top::.top::.top::.top::.top::.top::.top::.top::.top::.top::.top::.top::.top::.top::.top::.top::.top::.top::tZ9 34 [und,und,und,und,und,und,und,und,und,und,und,und,und,und,und,und,und,und,und,und,und,und,und,und,und,und,und,und,und,und,und,und,und,und,und,und,und,und,und,und,und,und,und,und,und,und,und,und,und,und,und,und])∧Hold B h8 []) hm1_q35 xm1_q35 (lb1_q35 env) (s1_q35 f_) (fun (q:Sum Unit Bool) (r:Res)=>match q with | .inl _=>∃ (q14:Int) (z13:AV) (z15:AV) (z16:AV) (h11:kA7),r=(.exit 2,((AV.fptr (Row.w File) (f_p.tab.map Row.cells) f_p.i 0)::und::z13::(iv q7)::(iv q14)::z15::z16::und::.top::.top::.top::.top::.top::.top::.top::.top::.top::.top::.top::.top::.top::.top::.top::.top::.top::.top::.top::.top::.top::.top::.top::.top::.top::.top::.top::.top::.top::.top::.top::tZ9 34 [und,und,und,und,und,und,und,und,und,und,und,und,und,und,und,und,und,und,und,und,und,und,und,und,und,und,und,und,und,und,und,und,und,und,und,und,und,und,und,und,und,und,und,und,und,und,und,und,und,und,und,und]),h11)∧Hold B h11 [] | .inr q54=>∃ (q55:Int) (q56:Sl (Sl Int)) (q57:Int) (h52:kA7),r=(.ret,((AV.fptr (Row.w File) (f_p.tab.map Row.cells) f_p.i 0)::und::(bv q54)::(iv q7)::(iv q55)::(Sl.enc q56)::(iv q57)::und::.top::.top::.top::.top::.top::.top::.top::.top::.top::.top::.top::.top::.top::.top::.top::.top::.top::.top::.top::.top::.top::.top::.top::.top::.top::.top::.top::.top::.top::.top::.top::tZ9 34 [und,und,und,und,und,und,und,und,und,und,und,und,und,und,und,und,und,und,und,und,und,und,und,und,und,und,und,und,und,und,und,und,und,und,und,und,und,und,und,und,und,und,und,und,und,und,und,und,und,und,und,und]),h52)∧Hold B h52 []):=by
 refine @kH3 _ _ _ _ _ _ _ _ (fun w10 tm h8 R => ?_)
 obtain ⟨rfl,O9⟩:=R
 rw [e_lb1_q35]
 unfold s1_q35
 dsimp only
 refine kA1 (v:=AV.fptr (Row.w File) (f_p.tab.map Row.cells) f_p.i 0) rfl ?_
 refine kA1 (v:=AV.fptr (Row.w File) (f_p.tab.map Row.cells) f_p.i 1) rfl ?_
 refine kA1 (v:=Sl.enc f_.strokes) (kE4 hp_f_ false 1 1) ?_
 refine kA1 (Tab.enc h8 f_.strokes).len ?_
 refine kA1 (kBi _ _) ?_
 refine kAa (fun c58 => ?_) (fun c58 => ?_)
 ·refine kA1 (v:=AV.fptr (Row.w File) (f_p.tab.map Row.cells) f_p.i 0) rfl ?_
  refine kA1 (v:=AV.fptr (Row.w File) (f_p.tab.map Row.cells) f_p.i 1) rfl ?_
  refine kA1 (v:=Sl.enc f_.strokes) (kE4 hp_f_ false 1 1) ?_
  refine kBm (Tab.enc h8 f_.strokes) (fun m60 a59 hi61 hm62 => ?_)
  refine kA1 (v:=elp (Sl.enc f_.strokes) m60 0) ((Tab.enc h8 f_.strokes).fld _ _ _) ?_
  refine kA1 (v:=Sl.enc a59.values) ((Tab.enc h8 f_.strokes).ld hm62 false 1 0) ?_
  refine kBe ((tl2_q35 env he_q20 he_q23 he_q32 he_q34 he_q36 he_q37 f_ f_p hp_f_ q7 w10 a59 m60) ⟨rfl,O9⟩) (fun qq90 r hq => ?_)
  rcases qq90 with _ | q76
  ·obtain ⟨q69,z68,h66,rfl,O67⟩:=hq
   rw [e_lk2x4_q35]
   refine kA1 (Tab.enc h66 a59.values).len ?_
   refine kEd (t:=kBh) he_q23 (kAe _ _) (kAe _ _) (kAe _ _) (fun c70 => ?_)
   refine kA1 (v:=bv (!c70)) (kC3 _) ?_
   refine kAa (fun c71 => ?_) (fun c71 => ?_)
   ·exact kA6 ⟨nofun,_,_,_,_,rfl,O67⟩
   ·refine kA1 (kAg _ _) ?_
    exact kA6 ⟨rfl,rfl,O67⟩
  ·obtain ⟨q77,h74,rfl,O75⟩:=hq
   rw [e_lk2r_q35]
   exact kA6 ⟨nofun,_,_,_,_,rfl,O75⟩
 ·exact kA6 ⟨nofun,_,_,_,_,_,rfl,O9⟩
theorem tl0_q35 (env:Nat→Contract) {B:Base} (he_q20:env n_q20=.pure (C1 (fun c:Bool=>enc c) kHl)) (he_q23:env kFp=.pure (T3 kBh)) (he_q32:env n_q32=.pure (C1 (fun c:Bool=>enc c) tp_q32)) (he_q34:env n_q34=.pure (C2 (fun c:Int=>enc c) tp_q34)) (he_q36:env n_q36=.pure (C2 (fun c:Bool=>enc c) tp_q36)) (he_q37:env n_q37=.pure (C2 (fun c:Bool=>enc c) tp_q37)) (f_:File) (f_p:Pt File) (hp_f_:f_p.get=some f_) :kGr (fun (st:Int) tm h1=>match st with | w3=>tm=((AV.fptr (Row.w File) (f_p.tab.map Row.cells) f_p.i 0)::und::.top::(iv w3)::und::und::und::und::tZ9 31 [und,und,und,und,und,und,und,und,und,und,und,und,und,und,und,und,und,und,und,und,und,und,und,und,und,und,und,und,und,und,und,und,und,und,und,und,und,und,und,und,und,und,und,und,und,und,und,und,und,und,und,und,und,und,und,und,und,und,und,und,und,und,und,und,und,und,und,und,und,und,und,und,und,und,und,und,und,und,und,und,und,und,und,und,und,und])∧Hold B h1 []) hm0_q35 xm0_q35 (lb0_q35 env) (s0_q35 f_) (fun (q:Sum Unit Bool) (r:Res)=>match q with | .inl _=>∃ (q7:Int) (z6:AV) (h4:kA7),r=(.exit 0,((AV.fptr (Row.w File) (f_p.tab.map Row.cells) f_p.i 0)::und::z6::(iv q7)::und::und::und::und::tZ9 31 [und,und,und,und,und,und,und,und,und,und,und,und,und,und,und,und,und,und,und,und,und,und,und,und,und,und,und,und,und,und,und,und,und,und,und,und,und,und,und,und,und,und,und,und,und,und,und,und,und,und,und,und,und,und,und,und,und,und,und,und,und,und,und,und,und,und,und,und,und,und,und,und,und,und,und,und,und,und,und,und,und,und,und,und,und,und]),h4)∧Hold B h4 [] | .inr q96=>∃ (q97:Int) (h94:kA7),r=(.ret,((AV.fptr (Row.w File) (f_p.tab.map Row.cells) f_p.i 0)::und::(bv q96)::(iv q97)::und::und::und::und::tZ9 31 [und,und,und,und,und,und,und,und,und,und,und,und,und,und,und,und,und,und,und,und,und,und,und,und,und,und,und,und,und,und,und,und,und,und,und,und,und,und,und,und,und,und,und,und,und,und,und,und,und,und,und,und,und,und,und,und,und,und,und,und,und,und,und,und,und,und,und,und,und,und,und,und,und,und,und,und,und,und,und,und,und,und,und,und,und,und]),h94)∧Hold B h94 []):=by
 refine @kH3 _ _ _ _ _ _ _ _ (fun w3 tm h1 R => ?_)
 obtain ⟨rfl,O2⟩:=R
 rw [e_lb0_q35]
 unfold s0_q35
 dsimp only
 refine kA1 (v:=AV.fptr (Row.w File) (f_p.tab.map Row.cells) f_p.i 0) rfl ?_
 refine kA1 (v:=AV.fptr (Row.w File) (f_p.tab.map Row.cells) f_p.i 0) rfl ?_
 refine kA1 (v:=Sl.enc f_.channels) (kE4 hp_f_ false 1 0) ?_
 refine kA1 (Tab.enc h1 f_.channels).len ?_
 refine kA1 (kBi _ _) ?_
 refine kAa (fun c98 => ?_) (fun c98 => ?_)
 ·refine kA1 (v:=AV.fptr (Row.w File) (f_p.tab.map Row.cells) f_p.i 0) rfl ?_
  refine kA1 (v:=AV.fptr (Row.w File) (f_p.tab.map Row.cells) f_p.i 0) rfl ?_
  refine kA1 (v:=Sl.enc f_.channels) (kE4 hp_f_ false 1 0) ?_
  refine kBm (Tab.enc h1 f_.channels) (fun m100 a99 hi101 hm102 => ?_)
  refine sim_eqO (y':=tp_q32 ⟨f_.channels.getD [],m100⟩) (by simp only [tp_q32,get_ptAt hm102,kA5]) ?_
  refine kCx he_q32 (snapD_elpR _ f_.channels hm102) (fun c103 => ?_)
  refine kBr (kAh (by rfl) _ _) ?_
  refine kA1 (v:=bv (!c103)) (kC3 _) ?_
  refine kBc (e:=bv) (fun hb104 => ?_) (fun c110 => ?_)
  ·refine kA1 (v:=AV.fptr (Row.w File) (f_p.tab.map Row.cells) f_p.i 0) rfl ?_
   refine kA1 (v:=AV.fptr (Row.w File) (f_p.tab.map Row.cells) f_p.i 0) rfl ?_
   refine kA1 (v:=Sl.enc f_.channels) (kE4 hp_f_ false 1 0) ?_
   refine kBm (Tab.enc h1 f_.channels) (fun m106 a105 hi107 hm108 => ?_)
   refine kA1 (v:=elp (Sl.enc f_.channels) m106 0) ((Tab.enc h1 f_.channels).fld _ _ _) ?_
   refine kA1 (v:=sv a105.name) ((Tab.enc h1 f_.channels).ld hm108 false 1 0) ?_
   refine sim_eqO (y':=tp_q34 f_p a105.name) (by simp only [tp_q34,hp_f_,kA5]) ?_
   refine kCv he_q34 (kFd _ _ _ _ rfl) (kDu _ _) (fun c109 => ?_)
   refine kBr (kAh (by rfl) _ _) ?_
   refine kA1 (kF0 _ _) ?_
   exact kA6 rfl
  ·refine kA1 (v:=bv (bif !c103 then true else c110)) (kCn _ _ _) ?_
   refine kAa (fun c111 => ?_) (fun c111 => ?_)
   ·exact kA6 ⟨nofun,_,_,rfl,O2⟩
   ·refine kA1 (kAg _ _) ?_
    exact kA6 ⟨rfl,rfl,O2⟩
 ·exact kA6 ⟨nofun,_,_,_,rfl,O2⟩
theorem ts_q35 (env:Nat→Contract) (he_q20:env n_q20=.pure (C1 (fun c:Bool=>enc c) kHl)) (he_q23:env kFp=.pure (T3 kBh)) (he_q32:env n_q32=.pure (C1 (fun c:Bool=>enc c) tp_q32)) (he_q34:env n_q34=.pure (C2 (fun c:Int=>enc c) tp_q34)) (he_q36:env n_q36=.pure (C2 (fun c:Bool=>enc c) tp_q36)) (he_q37:env n_q37=.pure (C2 (fun c:Bool=>enc c) tp_q37)) (f_:File) {f_p:Pt File} (hp_f_:f_p.get=some f_):Sim (kAf Try.prog env n_q35 [AV.fptr (Row.w File) (f_p.tab.map Row.cells) f_p.i 0] []) (t_q35 f_) fun c p=>release p.2 depth p.1=some ((fun c:Bool=>enc c) c):=by
 have O:=Hold.nil []
 generalize hB:(⟨[],[]⟩:Base)=B at O
 clear hB
 rw [e_q35]
 unfold t_q35
 refine kBe ((tl0_q35 env he_q20 he_q23 he_q32 he_q34 he_q36 he_q37 f_ f_p hp_f_) ⟨rfl,O⟩) (fun qq116 r hq => ?_)
 rcases qq116 with _ | q96
 ·obtain ⟨q7,z6,h4,rfl,O5⟩:=hq
  rw [e_lk0x0_q35]
  refine kBe ((tl1_q35 env he_q20 he_q23 he_q32 he_q34 he_q36 he_q37 f_ f_p hp_f_ q7) ⟨rfl,O5⟩) (fun qq93 r hq => ?_)
  rcases qq93 with _ | q54
  ·obtain ⟨q14,z13,z15,z16,h11,rfl,O12⟩:=hq
   rw [e_lk1x2_q35]
   refine kBe ((tl3_q35 env he_q20 he_q23 he_q32 he_q34 he_q36 he_q37 f_ f_p hp_f_ q7 q14 z15 z16) ⟨rfl,O12⟩) (fun qq51 r hq => ?_)
   rcases qq51 with _ | q31
   ·obtain ⟨q23,z22,h20,rfl,O21⟩:=hq
    rw [e_lk3x6_q35]
    refine kA1 (v:=AV.fptr (Row.w File) (f_p.tab.map Row.cells) f_p.i 0) rfl ?_
    refine kA1 (v:=AV.fptr (Row.w File) (f_p.tab.map Row.cells) f_p.i 0) rfl ?_
    refine kA1 (v:=Sl.enc f_.channels) (kE4 hp_f_ false 1 0) ?_
    refine kA1 (Tab.enc h20 f_.channels).len ?_
    refine kEd (t:=kBh) he_q23 (kAe _ _) (kAe _ _) (kAe _ _) (fun c24 => ?_)
    refine kBa (e:=bv) (fun hb25 => ?_) (fun c26 => ?_)
    ·refine kA1 (v:=AV.fptr (Row.w File) (f_p.tab.map Row.cells) f_p.i 0) rfl ?_
     refine kA1 (v:=AV.fptr (Row.w File) (f_p.tab.map Row.cells) f_p.i 1) rfl ?_
     refine kA1 (v:=Sl.enc f_.strokes) (kE4 hp_f_ false 1 1) ?_
     refine kA1 (Tab.enc h20 f_.strokes).len ?_
     refine kA1 (kF4 _ _) ?_
     exact kA6 rfl
    ·refine kA1 (v:=bv (bif c24 then c26 else false)) (kCh _ _ _) ?_
     refine kBa (e:=bv) (fun hb27 => ?_) (fun c28 => ?_)
     ·refine kA1 (v:=AV.fptr (Row.w File) (f_p.tab.map Row.cells) f_p.i 0) rfl ?_
      refine kA1 (v:=AV.fptr (Row.w File) (f_p.tab.map Row.cells) f_p.i 2) rfl ?_
      refine kA1 (v:=Sl.enc f_.notes) (kE4 hp_f_ false 1 2) ?_
      refine kA1 (Tab.enc h20 f_.notes).len ?_
      refine kA1 (kF4 _ _) ?_
      exact kA6 rfl
     ·refine kA1 (v:=bv (bif (bif c24 then c26 else false) then c28 else false)) (kCh _ _ _) ?_
      exact kA6 (kA8 (by rfl) _)
   ·obtain ⟨q32,h29,rfl,O30⟩:=hq
    rw [e_lk3r_q35]
    exact kA6 (kA8 (by rfl) _)
  ·obtain ⟨q55,q56,q57,h52,rfl,O53⟩:=hq
   rw [e_lk1r_q35]
   exact kA6 (kA8 (by rfl) _)
 ·obtain ⟨q97,h94,rfl,O95⟩:=hq
  rw [e_lk0r_q35]
  exact kA6 (kA8 (by rfl) _)
theorem tt_q35:kB6 Try.prog n_q35 (C1 (fun c:Bool=>enc c) tp_q35):=kFx (kCl tt_q20 (kCl ok_q23 (kCl tt_q32 (kCl tt_q34 (kCl tt_q36 (kCl tt_q37 E0)))))) kCm hb_q35 fun f_p=>kFr fun f_ hp_f_=>ts_q35 _ (by simp [kD7]) (by simp [kD7]) (by simp [kD7]) (by simp [kD7]) (by simp [kD7]) (by simp [kD7]) f_ hp_f_
def s0_q21 (f_:File) (stroke_:Int):((Sl ByteArray)×Int)→Option (Sum ((Sl ByteArray)×Int) (Sl ByteArray)):=fun (w14,w17) =>
 bif decide (w17<(((f_.notes.getD []).length:Nat):Int)) then
  kA0 (kF8 (f_.notes.getD []) w17) fun a25 =>
  kA0 (kF8 (f_.notes.getD []) w17) fun a29 =>
  kA0 (some (kBh stroke_ a25.frm (wr (a29.upto - 1)))) fun c33 =>
  bif c33 then
   kA0 (kF8 (f_.notes.getD []) w17) fun a35 =>
   kA0 (kF9 w14 ([a35.text]:List ByteArray)) fun _ =>
   some (.inl ((kB3 w14 ([a35.text]:List ByteArray)),wr (w17+1)))
  else
   some (.inl (w14,wr (w17+1)))
 else
  some (.inr w14)
def t_q21 (f_:File) (stroke_:Int):Option ((Sl ByteArray)×Int) :=
 kA0 (t_q35 f_) fun c5 =>
 bif !c5 then
  some ((none:Sl ByteArray),1)
 else
  kA0 (some (kBh stroke_ 0 (wr ((((f_.strokes.getD []).length:Nat):Int) - 1)))) fun c7 =>
  bif !c7 then
   some ((none:Sl ByteArray),2)
  else
   kA0 (kBo (s0_q21 f_ stroke_) ((some ([]:List ByteArray)),0)) fun q21 =>
   some (q21,0)
theorem tl0_q21 (env:Nat→Contract) {B:Base} (he_q23:env kFp=.pure (T3 kBh)) (he_q35:env n_q35=.pure (C1 (fun c:Bool=>enc c) tp_q35)) (f_:File) (stroke_:Int) (o1:Nat) (c5:Bool) (c7:Bool) (x9:AV) :kGr (fun (st:(Sl ByteArray)×Int) tm h15=>match st with | (w14,w17)=>∃ z13,tm=((AV.agg [Sl.enc f_.channels,Sl.enc f_.strokes,Sl.enc f_.notes])::(iv stroke_)::(AV.ptr o1 1 0 0)::und::kA3::(iv 0)::z13::(iv w17)::(bv c5)::(bv (!c5))::(iv stroke_)::(AV.ptr o1 1 0 1)::(Sl.enc f_.strokes)::(iv (((f_.strokes.getD []).length:Nat):Int))::(iv (wr ((((f_.strokes.getD []).length:Nat):Int) - 1)))::(bv c7)::(bv (!c7))::x9::tZ9 31 [und])∧Hold B h15 [pZ9 o1 3 [Sl.enc f_.channels,Sl.enc f_.strokes,Sl.enc f_.notes],(z13,obS (w14:Sl ByteArray))]) hm0_q21 xm0_q21 (lb0_q21 env) (s0_q21 f_ stroke_) (fun (q:Sl ByteArray) (r:Res)=>match q with | q21=>∃ (q22:Int) (z20:AV) (h18:kA7),r=(.exit 0,((AV.agg [Sl.enc f_.channels,Sl.enc f_.strokes,Sl.enc f_.notes])::(iv stroke_)::(AV.ptr o1 1 0 0)::und::kA3::(iv 0)::z20::(iv q22)::(bv c5)::(bv (!c5))::(iv stroke_)::(AV.ptr o1 1 0 1)::(Sl.enc f_.strokes)::(iv (((f_.strokes.getD []).length:Nat):Int))::(iv (wr ((((f_.strokes.getD []).length:Nat):Int) - 1)))::(bv c7)::(bv (!c7))::x9::tZ9 31 [und]),h18)∧Hold B h18 [pZ9 o1 3 [Sl.enc f_.channels,Sl.enc f_.strokes,Sl.enc f_.notes],(z20,obS (q21:Sl ByteArray))]):=by
 refine @kH3 _ _ _ _ _ _ _ _ (fun st tm h15 R => ?_)
 obtain ⟨w14,w17⟩:=st
 obtain ⟨z13,rfl,O16⟩:=R
 rw [e_lb0_q21]
 unfold s0_q21
 dsimp only
 refine kA1 (v:=AV.ptr o1 1 0 2) rfl ?_
 refine kA1 (v:=Sl.enc f_.notes) (O16.ld 0 rfl false 1 2) ?_
 refine kA1 (Tab.enc h15 f_.notes).len ?_
 refine kA1 (kBi _ _) ?_
 refine kAa (fun c24 => ?_) (fun c24 => ?_)
 ·refine kA1 (v:=AV.ptr o1 1 0 2) rfl ?_
  refine kA1 (v:=Sl.enc f_.notes) (O16.ld 0 rfl false 1 2) ?_
  refine kBm (Tab.enc h15 f_.notes) (fun m26 a25 hi27 hm28 => ?_)
  refine kA1 (v:=elp (Sl.enc f_.notes) m26 0) ((Tab.enc h15 f_.notes).fld _ _ _) ?_
  refine kA1 (v:=iv a25.frm) ((Tab.enc h15 f_.notes).ld hm28 false 1 0) ?_
  refine kA1 (v:=AV.ptr o1 1 0 2) rfl ?_
  refine kA1 (v:=Sl.enc f_.notes) (O16.ld 0 rfl false 1 2) ?_
  refine kBm (Tab.enc h15 f_.notes) (fun m30 a29 hi31 hm32 => ?_)
  refine kA1 (v:=elp (Sl.enc f_.notes) m30 1) ((Tab.enc h15 f_.notes).fld _ _ _) ?_
  refine kA1 (v:=iv a29.upto) ((Tab.enc h15 f_.notes).ld hm32 false 1 1) ?_
  refine kA1 (kAt _ _) ?_
  refine kH2 (t:=kBh) he_q23 (kAe _ _) (kAe _ _) (kAe _ _) (fun c33 => ?_)
  refine kAa (fun c34 => ?_) (fun c34 => ?_)
  ·refine kA1 (v:=AV.ptr o1 1 0 2) rfl ?_
   refine kA1 (v:=Sl.enc f_.notes) (O16.ld 0 rfl false 1 2) ?_
   refine kBm (Tab.enc h15 f_.notes) (fun m36 a35 hi37 hm38 => ?_)
   refine kA1 (v:=elp (Sl.enc f_.notes) m36 2) ((Tab.enc h15 f_.notes).fld _ _ _) ?_
   refine kA1 (v:=sv a35.text) ((Tab.enc h15 f_.notes).ld hm38 false 1 2) ?_
   refine kB7 (A:=ByteArray) O16 ([a35.text]:List ByteArray) rfl (by first | rfl | simp [kAk,kBz]) rfl (fun x39 h40 O41 => ?_)
   replace O41:Hold B h40 [pZ9 o1 3 [Sl.enc f_.channels,Sl.enc f_.strokes,Sl.enc f_.notes],(z13,obS (w14:Sl ByteArray)),(x39,obS ((some ([a35.text]:List ByteArray)):Sl ByteArray))]:=O41
   refine kBw (A:=ByteArray) (s:=w14) O41 1 ([a35.text]:List ByteArray) rfl (O41.src (A:=ByteArray) (s:=(some ([a35.text]:List ByteArray))) 2 rfl) (by decide) (fun x44 h45 O46 => ?_)
   replace O46:Hold B h45 [pZ9 o1 3 [Sl.enc f_.channels,Sl.enc f_.strokes,Sl.enc f_.notes],(x44,obS ((kB3 w14 ([a35.text]:List ByteArray)):Sl ByteArray)),(x39,obS ((some ([a35.text]:List ByteArray)):Sl ByteArray))]:=O46
   have O48:Hold B h45 [pZ9 o1 3 [Sl.enc f_.channels,Sl.enc f_.strokes,Sl.enc f_.notes],(x44,obS ((kB3 w14 ([a35.text]:List ByteArray)):Sl ByteArray))]:=O46.sel [0,1] (by decide) rfl
   refine kA1 (kAg _ _) ?_
   exact kA6 ⟨rfl,_,rfl,O48⟩
  ·refine kA1 (kAg _ _) ?_
   exact kA6 ⟨rfl,_,rfl,O16⟩
 ·exact kA6 ⟨nofun,_,_,_,rfl,O16⟩
theorem ts_q21 (env:Nat→Contract) (he_q23:env kFp=.pure (T3 kBh)) (he_q35:env n_q35=.pure (C1 (fun c:Bool=>enc c) tp_q35)) (f_:File) (stroke_:Int):Sim (kAf Try.prog env n_q21 [AV.agg [Sl.enc f_.channels,Sl.enc f_.strokes,Sl.enc f_.notes],iv stroke_] []) (t_q21 f_ stroke_) fun c p=>release p.2 depth p.1=some ((fun c:(Sl ByteArray)×Int=>AV.tup [rS c.1,enc c.2]) c):=by
 have O:=Hold.nil []
 generalize hB:(⟨[],[]⟩:Base)=B at O
 clear hB
 rw [e_q21]
 unfold t_q21
 refine kBt O (cs:=[Sl.enc f_.channels,Sl.enc f_.strokes,Sl.enc f_.notes]) (by first | rfl | simp) (fun o1 h2 O3 => ?_)
 replace O3:Hold B h2 [pZ9 o1 3 [Sl.enc f_.channels,Sl.enc f_.strokes,Sl.enc f_.notes]]:=O3
 refine sim_eqO (y':=tp_q35 ⟨[f_],0⟩) (by simp only [tp_q35,get_pt1,kA5]) ?_
 refine kCx he_q35 (O3.snapRn 0 rfl f_ rfl rfl) (fun c5 => ?_)
 refine kBr (kAh (by rfl) _ _) ?_
 refine kA1 (v:=bv (!c5)) (kC3 _) ?_
 refine kAa (fun c6 => ?_) (fun c6 => ?_)
 ·exact kA6 (kA8 (by rfl) _)
 ·refine kA1 (v:=AV.ptr o1 1 0 1) rfl ?_
  refine kA1 (v:=Sl.enc f_.strokes) (O3.ld 0 rfl false 1 1) ?_
  refine kA1 (Tab.enc h2 f_.strokes).len ?_
  refine kA1 (kAt _ _) ?_
  refine kEd (t:=kBh) he_q23 (kAe _ _) (kAe _ _) (kAe _ _) (fun c7 => ?_)
  refine kA1 (v:=bv (!c7)) (kC3 _) ?_
  refine kAa (fun c8 => ?_) (fun c8 => ?_)
  ·exact kA6 (kA8 (by rfl) _)
  ·refine kB7 (A:=ByteArray) O3 ([]:List ByteArray) rfl (by first | rfl | simp [kAk,kBz]) rfl (fun x9 h10 O11 => ?_)
   replace O11:Hold B h10 [pZ9 o1 3 [Sl.enc f_.channels,Sl.enc f_.strokes,Sl.enc f_.notes],(x9,obS ((some ([]:List ByteArray)):Sl ByteArray))]:=O11
   refine kBe ((tl0_q21 env he_q23 he_q35 f_ stroke_ o1 c5 c7 x9) ⟨_,rfl,O11⟩) (fun qq53 r hq => ?_)
   revert hq
   revert qq53
   intro q21 hq
   obtain ⟨q22,z20,h18,rfl,O19⟩:=hq
   rw [e_lk0x0_q21]
   have O23:Hold B h18 [(z20,obS (q21:Sl ByteArray))]:=O19.sel [1] (by decide) rfl
   exact kA6 (kGi (by simp only [ids_tup,ids_aggD,ids_agg,ids_iv,ids_bv,ids_sv,ids_bt,ids_nilS,ids_enc,O23.idsD (A:=ByteArray) (s:=q21) 0 rfl,List.map_append,List.map_nil,List.flatMap_cons,List.flatMap_nil,List.append_nil,List.nil_append];simpa only [List.flatMap_cons,List.flatMap_nil,List.append_nil,List.nil_append] using O23.nd2) (by simp only [rel_tup,rel_aggD,rel_agg,rel_iv,rel_bv,rel_sv,rel_bt,rel_nilS,rel_enc,O23.relD (A:=ByteArray) (s:=q21) 0 rfl,omapc,omapn,kA5] <;> rfl))
theorem tt_q21:kB6 Try.prog n_q21 (C2 (fun c:(Sl ByteArray)×Int=>AV.tup [rS c.1,enc c.2]) t_q21):=kFk (kCl ok_q23 (kCl tt_q35 E0)) kCm hb_q21 fun f_ stroke_=>ts_q21 _ (by simp [kD7]) (by simp [kD7]) f_ stroke_
def s0_q2 (f_:File) (stroke_:Int):((Sl ByteArray)×Int)→Option (Sum ((Sl ByteArray)×Int) (Sl ByteArray)):=fun (w12,w15) =>
 bif decide (w15<(((f_.notes.getD []).length:Nat):Int)) then
  kA0 (kF8 (f_.notes.getD []) w15) fun a23 =>
  kA0 (bif decide (a23.frm≤stroke_) then (some (decide (stroke_<a23.upto))) else some false) fun c34 =>
  bif (bif decide (a23.frm≤stroke_) then c34 else false) then
   kA0 (kF9 w12 ([a23.text]:List ByteArray)) fun _ =>
   some (.inl ((kB3 w12 ([a23.text]:List ByteArray)),wr (w15+1)))
  else
   some (.inl (w12,wr (w15+1)))
 else
  some (.inr w12)
def t_q2 (f_:File) (stroke_:Int):Option ((Sl ByteArray)×Int) :=
 kA0 (t_q3 f_) fun c5 =>
 bif !c5 then
  some ((none:Sl ByteArray),1)
 else
  kA0 (some (kBh stroke_ 0 (wr ((((f_.strokes.getD []).length:Nat):Int) - 1)))) fun c7 =>
  bif !c7 then
   some ((none:Sl ByteArray),2)
  else
   kA0 (kBo (s0_q2 f_ stroke_) ((none:Sl ByteArray),0)) fun q19 =>
   some (q19,0)
end Go.Proofs.Ytjlbidpdiblmaaa
