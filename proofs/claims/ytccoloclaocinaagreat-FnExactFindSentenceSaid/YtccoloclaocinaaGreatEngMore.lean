import Derived.Test.YtccoloclaocinaaGreatEngSort
namespace Go.Eng
set_option linter.unusedVariables false
set_option linter.unusedSimpArgs false
open Cod (enc dec)
theorem omap_snap_sc {h:kA9} {d:Nat}:∀ {row cs:List AV},kBe (Eng.snap h d) row=some cs→cs.all isSc=true→row=cs
 | [],cs,e,_=>by cases e;rfl
 | a::row,cs,e,hs=>by
  unfold kBe at e
  cases e1:Eng.snap h d a with
  | none=>rw [e1] at e;cases e
  | some b =>
   rw [e1] at e
   cases e2:kBe (Eng.snap h d) row with
   | none=>rw [e2] at e;cases e
   | some r =>
    rw [e2] at e
    cases e
    rw [List.all_cons,Bool.and_eq_true] at hs
    rw [omap_snap_sc e2 hs.2]
    congr 1
    cases b <;> first | (cases hs.1;done) | skip
    cases d <;> cases a <;> simp only [Eng.snap] at e1 <;> first | (cases e1;rfl) | cases e1 | skip
    all_goals (repeat' split at e1) <;> cases e1
theorem omap_rows_sc {h:kA9} {d:Nat} {A:Type} [Row A] [Scal A]:∀ {rows:List (List AV)} {l:List A},kBe (kBe (Eng.snap h d)) rows=some (l.map Row.cells)→rows=l.map Row.cells
 | [],l,e=>by cases l <;> first | rfl | cases e
 | row::rows,l,e=>by
  unfold kBe at e
  cases e1:kBe (Eng.snap h d) row with
  | none=>rw [e1] at e;cases e
  | some b =>
   rw [e1] at e
   cases e2:kBe (kBe (Eng.snap h d)) rows with
   | none=>rw [e2] at e;cases e
   | some r =>
    rw [e2] at e
    cases l with
    | nil=>cases e
    | cons a l =>
     have e3:=Option.some.inj e
     rw [List.map_cons] at e3
     obtain ⟨q1,q2⟩:=List.cons.inj e3
     subst q1 q2
     rw [omap_rows_sc e2,omap_snap_sc e1 (Scal.sc a)]
     rfl
theorem src_snap {A:Type} [Row A] [Scal A] {h:kA9} {x:AV} {r:Sl A} (hq:snapD h x=some r):kKk false (Row.w A) x h=some ((r.getD []).map Row.cells):=by
 unfold snapD at hq
 cases e:Eng.snap h depth x with
 | none=>rw [e] at hq;cases hq
 | some y =>
  rw [e,kA4] at hq
  have hy:=Cod.ed _ _ hq
  subst hy
  cases r with
  | none =>
   have hx:x=kB3:=by
    have e':Eng.snap h 8 x=some kB3:=e
    cases x <;> simp only [Eng.snap] at e' <;> first | (cases e';rfl) | cases e' | skip
    all_goals (repeat' split at e') <;> cases e'
   subst hx
   rfl
  | some l =>
   have e':Eng.snap h 8 x=some (.fs (Row.w A) (l.map Row.cells)):=e
   cases x <;> simp only [Eng.snap] at e' <;> first | cases e' | skip
   all_goals (repeat' split at e') <;> try cases e'
   ·rename_i o ep i n _ ob hob hc _ rows hrows
    obtain ⟨q1,q2⟩:=AV.fs.inj (Option.some.inj e')
    rw [q2] at hrows
    have q3:=omap_rows_sc hrows
    simp only [kKk,hob]
    rw [if_pos ⟨hc.1,q1,hc.2⟩,q3]
    rfl
   ·simp [kKk]
theorem pick_nb (b c d:Bool):kBk (bv b) (bv d) (cond (!b) (bv c) und)=some (bv (cond b d c)):=by cases b <;> rfl
def andI (a b:Int):Int:=wr ((BitVec.ofInt 64 a &&& BitVec.ofInt 64 b).toNat:Nat)
theorem sim_setRowA {A C:Type} [Row A] [Row C] [Inn A C] [NR C] {B:Base} {h:kA9} {l:List Ent} {γ δ:Type} {x y y' v:AV} {n:Nat} {ps:PS A} {a a':A} (O:Hold B h ((l++[(y',obS (Inn.sub a'))])++D2 x ps)) {s:Sl A} (hs:pj ps=s) {m:Nat} {k:Int} (hk:k=(m:Int)) (hm:(ps.getD [])[m]?=some (a,y))
  (hv:v.cells=Inn.row a' y') (hn:n=Row.w A)
  {F:kA9→Option γ} {Y:Option δ} {Q:δ→γ→Prop} (K:∀ ps' h',pj ps'=kFe s k a'→Hold B h' (l++D2 x ps')→Sim (F h') Y Q):Sim (kA0 (kAv n (elp x m 0) v h) F) Y Q:=by
 subst hs hk hn
 cases ps with
 | none=>simp at hm
 | some q =>
  have hm':q[m]?=some (a,y):=hm
  have hlt:=get_lt' hm'
  obtain ⟨o,rfl,ho⟩:=D2.head O
  have c1:=O.one (s:=Inn.sub a') l.length (x:=y') (by simp)
  have hf:y'.flat=true:=by simpa using c1.2
  have h7:kAx (Inn.row a y) 0 (Inn.row a' y')=Inn.row a' y':=by
   unfold kAx
   rw [List.take_zero,List.nil_append,Nat.zero_add,Inn.len,List.drop_eq_nil_of_le (by rw [Inn.len];exact Nat.le_refl _),List.append_nil]
  have e:kAv (Row.w A) (elp (.sl o q.length 0 q.length) m 0) v h=some (h.set o ⟨Row.w A,(q.set m (a',y')).map fun p=>Inn.row p.1 p.2⟩):=by
   simp only [elp,kAv,ho,List.length_map,if_true,Nat.zero_add,List.getElem?_map,hm',Option.map_some]
   rw [if_pos ⟨by rw [hv,Inn.len],by rw [Inn.len];exact Nat.le_refl _,by rw [hv];exact Inn.flat _ _ hf⟩,hv,h7,List.map_set]
  rw [e]
  have O':=O.update (i:=l.length+1) (o:=o) (v':=.sl (Row.w A) ((q.set m (a',y')).map fun p=>Inn.row p.1 p.2)) (x:=.sl o q.length 0 q.length) (by simp [D2];rfl) rfl rfl
  refine K (some (q.set m (a',y'))) _ (by simp [pj,kFe,List.map_set]) ?_
  have e1:((l++[((y',obS (Inn.sub a')):Ent)])++D2 (A:=A) (.sl o q.length 0 q.length) (some q)).set (l.length+1) ((EV.sl (Row.w A) ((q.set m (a',y')).map fun p=>Inn.row p.1 p.2)).at o,.sl (Row.w A) ((q.set m (a',y')).map fun p=>Inn.row p.1 p.2))=(l++[(y',obS (Inn.sub a'))])++((AV.sl o q.length 0 q.length,.sl (Row.w A) ((q.set m (a',y')).map fun p=>Inn.row p.1 p.2))::q.map fun p=>(p.2,obS (Inn.sub p.1))):=by
   rw [List.set_append_right _ _ (by simp)]
   simp [D2,EV.at]
  rw [e1] at O'
  have key:∀ (I:List Ent) (m:Nat) (e':Ent),m<I.length→∃ d,([e']++I).Perm (I.set m e'++[d]):=by
   intro I
   induction I with
   | nil=>intro m e' h;simp at h
   | cons i I ih =>
    intro m e' h
    cases m with
    | zero =>
     refine ⟨i,?_⟩
     simp only [List.set_cons_zero,List.cons_append,List.nil_append]
     exact (List.perm_append_singleton i I).symm.cons e'
    | succ m =>
     obtain ⟨d,hd⟩:=ih m e' (by simpa using h)
     refine ⟨d,?_⟩
     simp only [List.set_cons_succ,List.cons_append,List.nil_append] at hd ⊢
     exact (List.Perm.swap i e' I).trans (hd.cons i)
  obtain ⟨d,hd⟩:=key (q.map fun p=>(p.2,obS (Inn.sub p.1))) m (y',obS (Inn.sub a')) (by simpa using hlt)
  have hD:D2 (A:=A) (.sl o q.length 0 q.length) (some (q.set m (a',y')))=(AV.sl o q.length 0 q.length,.sl (Row.w A) ((q.set m (a',y')).map fun p=>Inn.row p.1 p.2))::(q.map fun p=>((p.2,obS (Inn.sub p.1)):Ent)).set m (y',obS (Inn.sub a')):=by
   simp only [D2,List.map_set]
  refine (O'.perm (L':=(l++D2 (A:=A) (.sl o q.length 0 q.length) (some (q.set m (a',y'))))++[d]) ?_).left
  rw [hD,List.append_assoc,List.append_assoc]
  refine List.Perm.append_left l ?_
  have h5:([((y',obS (Inn.sub a')):Ent)]++((AV.sl o q.length 0 q.length,EV.sl (Row.w A) ((q.set m (a',y')).map fun p=>Inn.row p.1 p.2))::q.map fun p=>(p.2,obS (Inn.sub p.1)))).Perm ((AV.sl o q.length 0 q.length,EV.sl (Row.w A) ((q.set m (a',y')).map fun p=>Inn.row p.1 p.2))::([(y',obS (Inn.sub a'))]++q.map fun p=>(p.2,obS (Inn.sub p.1)))):=List.Perm.swap _ _ _
  exact h5.trans (hd.cons _)
end Go.Eng
