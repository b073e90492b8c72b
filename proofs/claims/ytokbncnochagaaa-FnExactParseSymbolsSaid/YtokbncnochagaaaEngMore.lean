import Derived.Test.YtokbncnochagaaaEngSort
namespace Go.Eng
set_option linter.unusedVariables false
set_option linter.unusedSimpArgs false
open Cod (enc dec)
theorem Hold.startL {B : Base} {h : kA6} {L R : List Ent} (O : Hold B h (L ++ R)) : Hold ⟨h, L.filterMap fun e => kFi e.1⟩ h L :=
  ⟨fun e he => O.ok _ (List.mem_append_left _ he), by
    have := O.nd
    rw [List.filterMap_append, List.nodup_append] at this
    exact this.1, Nat.le_refl _, fun _ _ _ => rfl, fun e he o ho => .inl (List.mem_filterMap.2 ⟨e, he, ho⟩)⟩
theorem Hold.mergeL {B : Base} {h h' : kA6} {L R N : List Ent} (O : Hold B h (L ++ R)) (O' : Hold ⟨h, L.filterMap fun e => kFi e.1⟩ h' N) : Hold B h' (N ++ R) := by
  have len1 := O.len
  have len2 : h.length ≤ h'.length := O'.len
  have nd := O.nd
  rw [List.filterMap_append, List.nodup_append] at nd
  obtain ⟨n1, n2, n3⟩ := nd
  have old : ∀ e ∈ L ++ R, ∀ o, kFi e.1 = some o → o < h.length := fun e he o ho => by
    obtain ⟨ob, _, g⟩ := entOK_lt (O.ok e he) ho
    exact (List.getElem?_eq_some_iff.1 g).1
  have notL : ∀ e ∈ R, ∀ o, kFi e.1 = some o → o ∉ L.filterMap fun e => kFi e.1 := fun e he o ho hm => n3 o hm o (List.mem_filterMap.2 ⟨e, he, ho⟩) rfl
  refine ⟨fun e he => ?_, ?_, by omega, fun o ho hf => ?_, fun e he o ho => ?_⟩
  · rcases List.mem_append.1 he with he | he
    · exact O'.ok e he
    · obtain ⟨o2, g1, g2⟩ := O.ok e (List.mem_append_right _ he)
      refine ⟨o2, g1, fun ob e' => ?_⟩
      have g3 : kFi e.1 = some o2 := by rw [g1]; exact id_at e' o2
      rw [O'.keep o2 (old e (List.mem_append_right _ he) o2 g3) (notL e he o2 g3)]
      exact g2 ob e'
  · rw [List.filterMap_append, List.nodup_append]
    refine ⟨O'.nd, n2, fun a ha b hb e => ?_⟩
    subst e
    obtain ⟨x, hx, h1⟩ := List.mem_filterMap.1 ha
    obtain ⟨y, hy, h2⟩ := List.mem_filterMap.1 hb
    have lt := old y (List.mem_append_right _ hy) a h2
    rcases O'.mine x hx a h1 with g | g
    · exact notL y hy a h2 g
    · have : h.length ≤ a := g
      omega
  · have hn : o ∉ L.filterMap fun e => kFi e.1 := fun hm => by
      obtain ⟨x, hx, h1⟩ := List.mem_filterMap.1 hm
      rcases O.mine x (List.mem_append_left _ hx) o h1 with g | g
      · exact hf g
      · omega
    rw [O'.keep o (show o < h.length by omega) hn]
    exact O.keep o ho hf
  · rcases List.mem_append.1 he with he | he
    · rcases O'.mine e he o ho with g | g
      · obtain ⟨x, hx, h1⟩ := List.mem_filterMap.1 g
        exact O.mine x (List.mem_append_left _ hx) o h1
      · right
        have : h.length ≤ o := g
        omega
    · exact O.mine e (List.mem_append_right _ he) o ho
def shrO (a b : Int) : Option Int := bif decide (0 ≤ b) then some (Int.fdiv a (2 ^ (min b.toNat 64))) else none
def shlO (a b : Int) : Option Int := bif decide (0 ≤ b) then some (wr (a * 2 ^ (min b.toNat 64))) else none
def kF3 (a b : Int) : Int := wr ((BitVec.ofInt 64 a &&& BitVec.ofInt 64 b).toNat : Nat)
def kC3 (a b : Int) : Int := wr ((BitVec.ofInt 64 a &&& ~~~ BitVec.ofInt 64 b).toNat : Nat)
theorem kGb (a b : Int) : kAn .and (iv a) (iv b) = some (iv (kF3 a b)) := rfl
theorem kG3 (a b : Int) : kAn .andNot (iv a) (iv b) = some (iv (kC3 a b)) := rfl
theorem sim_shr {γ δ : Type} {a b : Int} {F : AV → Option γ} {G : Int → Option δ} {Q : δ → γ → Prop} (K : ∀ c, Sim (F (iv c)) (G c) Q) : Sim (kA0 (kAn .shr (iv a) (iv b)) F) (kA0 (shrO a b) G) Q := by
  have e : kAn .shr (iv a) (iv b) = if 0 ≤ b then some (iv (Int.fdiv a (2 ^ (min b.toNat 64)))) else none := rfl
  rw [e]
  unfold shrO
  by_cases h : 0 ≤ b
  · rw [if_pos h, decide_eq_true h]
    exact K _
  · rw [decide_eq_false h]
    exact kF5
theorem sim_shl {γ δ : Type} {a b : Int} {F : AV → Option γ} {G : Int → Option δ} {Q : δ → γ → Prop} (K : ∀ c, Sim (F (iv c)) (G c) Q) : Sim (kA0 (kAn .shl (iv a) (iv b)) F) (kA0 (shlO a b) G) Q := by
  have e : kAn .shl (iv a) (iv b) = if 0 ≤ b then some (iv (wr (a * 2 ^ (min b.toNat 64)))) else none := rfl
  rw [e]
  unfold shlO
  by_cases h : 0 ≤ b
  · rw [if_pos h, decide_eq_true h]
    exact K _
  · rw [decide_eq_false h]
    exact kF5
theorem kBs {A : Type} {s : Sl A} {i : Int} {m : Nat} {a v : A} (hi : i = (m : Int)) (hm : (s.getD [])[m]? = some a) : ((kB1 s i v).getD [])[m]? = some v := by
  subst hi
  cases s with
  | none => simp at hm
  | some l =>
    have hl : m < l.length := (List.getElem?_eq_some_iff.1 hm).1
    simp [kB1, hl]
theorem Hold.tabKL {A : Type} [Row A] [NR A] {B : Base} {h : kA6} {L R : List Ent} (O : Hold B h (L ++ R)) (i : Nat) {x : AV} {s : Sl A} (hi : R[i]? = some (x, obS s)) :
    ∀ h', (∀ o', o' < (Base.mk h (L.filterMap fun e => kFi e.1)).h0.length → o' ∉ (Base.mk h (L.filterMap fun e => kFi e.1)).F → h'[o']? = (Base.mk h (L.filterMap fun e => kFi e.1)).h0[o']?) → Tab h' x s := by
  intro h' hk
  have hi2 : (L ++ R)[L.length + i]? = some (x, obS s) := by rw [List.getElem?_append_right (by omega)]; simpa using hi
  cases s with
  | none =>
    have := O.nilE hi2
    subst this
    exact Tab.nil h'
  | some l =>
    obtain ⟨o2, hx, h2⟩ := O.sl (k := Row.w A) (rows := l.map Row.cells) hi2
    have hlt := (List.getElem?_eq_some_iff.1 h2).1
    have nd := O.nd
    rw [List.filterMap_append, List.nodup_append] at nd
    have h3 : o2 ∉ L.filterMap fun e => kFi e.1 := fun hm => nd.2.2 o2 hm o2 (List.mem_filterMap.2 ⟨_, List.mem_of_getElem? hi, by rw [hx]; rfl⟩) rfl
    subst hx
    rw [List.length_map]
    exact Tab.slN (by rw [hk o2 hlt h3]; exact h2) rfl
theorem kBl {A : Type} {s : Sl A} {i : Int} {a b : A} : kB1 (kB1 s i a) i b = kB1 s i b := by
  cases s with
  | none => rfl
  | some l => simp [kB1]
end Go.Eng
