import Derived.Test.YtjlbidpdiblmaaaEngSort
namespace Go.Eng
set_option linter.unusedVariables false
set_option linter.unusedSimpArgs false
open Cod (enc dec)
theorem Hold.startL {B:Base} {h:kA7} {L R:List Ent} (O:Hold B h (L++R)):Hold ⟨h,L.filterMap fun e=>kEn e.1⟩ h L :=
 ⟨fun e he=>O.ok _ (List.mem_append_left _ he),by
  have:=O.nd
  rw [List.filterMap_append,List.nodup_append] at this
  exact this.1,Nat.le_refl _,fun _ _ _=>rfl,fun e he o ho=>.inl (List.mem_filterMap.2 ⟨e,he,ho⟩)⟩
theorem Hold.mergeL {B:Base} {h h':kA7} {L R N:List Ent} (O:Hold B h (L++R)) (O':Hold ⟨h,L.filterMap fun e=>kEn e.1⟩ h' N):Hold B h' (N++R):=by
 have len1:=O.len
 have len2:h.length≤h'.length:=O'.len
 have nd:=O.nd
 rw [List.filterMap_append,List.nodup_append] at nd
 obtain ⟨n1,n2,n3⟩:=nd
 have old:∀ e∈L++R,∀ o,kEn e.1=some o→o<h.length:=fun e he o ho=>by
  obtain ⟨ob,_,g⟩:=kHg (O.ok e he) ho
  exact (List.getElem?_eq_some_iff.1 g).1
 have notL:∀ e∈R,∀ o,kEn e.1=some o→o ∉ L.filterMap fun e=>kEn e.1:=fun e he o ho hm=>n3 o hm o (List.mem_filterMap.2 ⟨e,he,ho⟩) rfl
 refine ⟨fun e he => ?_,?_,by omega,fun o ho hf => ?_,fun e he o ho => ?_⟩
 ·rcases List.mem_append.1 he with he | he
  ·exact O'.ok e he
  ·obtain ⟨o2,g1,g2⟩:=O.ok e (List.mem_append_right _ he)
   refine ⟨o2,g1,fun ob e' => ?_⟩
   have g3:kEn e.1=some o2:=by rw [g1];exact id_at e' o2
   rw [O'.keep o2 (old e (List.mem_append_right _ he) o2 g3) (notL e he o2 g3)]
   exact g2 ob e'
 ·rw [List.filterMap_append,List.nodup_append]
  refine ⟨O'.nd,n2,fun a ha b hb e => ?_⟩
  subst e
  obtain ⟨x,hx,h1⟩:=List.mem_filterMap.1 ha
  obtain ⟨y,hy,h2⟩:=List.mem_filterMap.1 hb
  have lt:=old y (List.mem_append_right _ hy) a h2
  rcases O'.mine x hx a h1 with g | g
  ·exact notL y hy a h2 g
  ·have:h.length≤a:=g
   omega
 ·have hn:o ∉ L.filterMap fun e=>kEn e.1:=fun hm=>by
   obtain ⟨x,hx,h1⟩:=List.mem_filterMap.1 hm
   rcases O.mine x (List.mem_append_left _ hx) o h1 with g | g
   ·exact hf g
   ·omega
  rw [O'.keep o (show o<h.length by omega) hn]
  exact O.keep o ho hf
 ·rcases List.mem_append.1 he with he | he
  ·rcases O'.mine e he o ho with g | g
   ·obtain ⟨x,hx,h1⟩:=List.mem_filterMap.1 g
    exact O.mine x (List.mem_append_left _ hx) o h1
   ·right
    have:h.length≤o:=g
    omega
  ·exact O.mine e (List.mem_append_right _ he) o ho
def andI (a b:Int):Int:=wr ((BitVec.ofInt 64 a &&& BitVec.ofInt 64 b).toNat:Nat)
end Go.Eng
