/-
  THE ENGINE, PART 37: more of the typed layer.
-/
import Derived.Test.YtbamachgomdjkaaDoorEngSort
namespace Go.Eng
set_option linter.unusedVariables false
set_option linter.unusedSimpArgs false
open Cod (enc dec)

theorem omap_snap_sc {h : Heap} {d : Nat} : ∀ {row cs : List AV}, omap (Eng.snap h d) row = some cs → cs.all isSc = true → row = cs
  | [], cs, e, _ => by cases e; rfl
  | a :: row, cs, e, hs => by
    unfold omap at e
    cases e1 : Eng.snap h d a with
    | none => rw [e1] at e; cases e
    | some b =>
      rw [e1] at e
      cases e2 : omap (Eng.snap h d) row with
      | none => rw [e2] at e; cases e
      | some r =>
        rw [e2] at e
        cases e
        rw [List.all_cons, Bool.and_eq_true] at hs
        rw [omap_snap_sc e2 hs.2]
        congr 1
        cases b <;> first | (cases hs.1; done) | skip
        cases d <;> cases a <;> simp only [Eng.snap] at e1 <;> first | (cases e1; rfl) | cases e1 | skip
        all_goals (repeat' split at e1) <;> cases e1
theorem omap_rows_sc {h : Heap} {d : Nat} {A : Type} [Row A] [Scal A] : ∀ {rows : List (List AV)} {l : List A}, omap (omap (Eng.snap h d)) rows = some (l.map Row.cells) → rows = l.map Row.cells
  | [], l, e => by cases l <;> first | rfl | cases e
  | row :: rows, l, e => by
    unfold omap at e
    cases e1 : omap (Eng.snap h d) row with
    | none => rw [e1] at e; cases e
    | some b =>
      rw [e1] at e
      cases e2 : omap (omap (Eng.snap h d)) rows with
      | none => rw [e2] at e; cases e
      | some r =>
        rw [e2] at e
        cases l with
        | nil => cases e
        | cons a l =>
          have e3 := Option.some.inj e
          rw [List.map_cons] at e3
          obtain ⟨q1, q2⟩ := List.cons.inj e3
          subst q1 q2
          rw [omap_rows_sc e2, omap_snap_sc e1 (Scal.sc a)]
          rfl
/-- A part of a slice that reads as numbers: what is appended of it. -/
theorem src_snap {A : Type} [Row A] [Scal A] {h : Heap} {x : AV} {r : Sl A} (hq : snapD h x = some r) : aSrc false (Row.w A) x h = some ((r.getD []).map Row.cells) := by
  unfold snapD at hq
  cases e : Eng.snap h depth x with
  | none => rw [e] at hq; cases hq
  | some y =>
    rw [e, obind_sm] at hq
    have hy := Cod.ed _ _ hq
    subst hy
    cases r with
    | none =>
      have hx : x = nilS := by
        have e' : Eng.snap h 8 x = some nilS := e
        cases x <;> simp only [Eng.snap] at e' <;> first | (cases e'; rfl) | cases e' | skip
        all_goals (repeat' split at e') <;> cases e'
      subst hx
      rfl
    | some l =>
      have e' : Eng.snap h 8 x = some (.fs (Row.w A) (l.map Row.cells)) := e
      cases x <;> simp only [Eng.snap] at e' <;> first | cases e' | skip
      all_goals (repeat' split at e') <;> try cases e'
      · rename_i o ep i n _ ob hob hc _ rows hrows
        obtain ⟨q1, q2⟩ := AV.fs.inj (Option.some.inj e')
        rw [q2] at hrows
        have q3 := omap_rows_sc hrows
        simp only [aSrc, hob]
        rw [if_pos ⟨hc.1, q1, hc.2⟩, q3]
        rfl
      · simp [aSrc]
theorem pick_nb (b c d : Bool) : aPick (bv b) (bv d) (cond (!b) (bv c) und) = some (bv (cond b d c)) := by cases b <;> rfl
theorem Hold.startL {B : Base} {h : Heap} {L R : List Ent} (O : Hold B h (L ++ R)) : Hold ⟨h, L.filterMap fun e => idOf e.1⟩ h L :=
  ⟨fun e he => O.ok _ (List.mem_append_left _ he), by
    have := O.nd
    rw [List.filterMap_append, List.nodup_append] at this
    exact this.1, Nat.le_refl _, fun _ _ _ => rfl, fun e he o ho => .inl (List.mem_filterMap.2 ⟨e, he, ho⟩)⟩
theorem Hold.mergeL {B : Base} {h h' : Heap} {L R N : List Ent} (O : Hold B h (L ++ R)) (O' : Hold ⟨h, L.filterMap fun e => idOf e.1⟩ h' N) : Hold B h' (N ++ R) := by
  have len1 := O.len
  have len2 : h.length ≤ h'.length := O'.len
  have nd := O.nd
  rw [List.filterMap_append, List.nodup_append] at nd
  obtain ⟨n1, n2, n3⟩ := nd
  have old : ∀ e ∈ L ++ R, ∀ o, idOf e.1 = some o → o < h.length := fun e he o ho => by
    obtain ⟨ob, _, g⟩ := entOK_lt (O.ok e he) ho
    exact (List.getElem?_eq_some_iff.1 g).1
  have notL : ∀ e ∈ R, ∀ o, idOf e.1 = some o → o ∉ L.filterMap fun e => idOf e.1 := fun e he o ho hm => n3 o hm o (List.mem_filterMap.2 ⟨e, he, ho⟩) rfl
  refine ⟨fun e he => ?_, ?_, by omega, fun o ho hf => ?_, fun e he o ho => ?_⟩
  · rcases List.mem_append.1 he with he | he
    · exact O'.ok e he
    · obtain ⟨o2, g1, g2⟩ := O.ok e (List.mem_append_right _ he)
      refine ⟨o2, g1, fun ob e' => ?_⟩
      have g3 : idOf e.1 = some o2 := by rw [g1]; exact id_at e' o2
      rw [O'.keep o2 (old e (List.mem_append_right _ he) o2 g3) (notL e he o2 g3)]
      exact g2 ob e'
  · rw [List.filterMap_append, List.nodup_append]
    refine ⟨O'.nd, n2, fun a ha b hb e => ?_⟩
    subst e
    obtain ⟨x, hx, h1⟩ := List.mem_filterMap.1 ha
    obtain ⟨y, hy, h2⟩ := List.mem_filterMap.1 hb
    have lt := old y (List.mem_append_right _ hy) a h2
    rcases O'.mine x hx a h1 with g | g
    · exact notL y hy a h2 g
    · have : h.length ≤ a := g
      omega
  · have hn : o ∉ L.filterMap fun e => idOf e.1 := fun hm => by
      obtain ⟨x, hx, h1⟩ := List.mem_filterMap.1 hm
      rcases O.mine x (List.mem_append_left _ hx) o h1 with g | g
      · exact hf g
      · omega
    rw [O'.keep o (show o < h.length by omega) hn]
    exact O.keep o ho hf
  · rcases List.mem_append.1 he with he | he
    · rcases O'.mine e he o ho with g | g
      · obtain ⟨x, hx, h1⟩ := List.mem_filterMap.1 g
        exact O.mine x (List.mem_append_left _ hx) o h1
      · right
        have : h.length ≤ o := g
        omega
    · exact O.mine e (List.mem_append_right _ he) o ho

/-! ### Bits -/

def shrO (a b : Int) : Option Int := bif decide (0 ≤ b) then some (Int.fdiv a (2 ^ (min b.toNat 64))) else none
def shlO (a b : Int) : Option Int := bif decide (0 ≤ b) then some (wr (a * 2 ^ (min b.toNat 64))) else none
def andI (a b : Int) : Int := wr ((BitVec.ofInt 64 a &&& BitVec.ofInt 64 b).toNat : Nat)
def andNotI (a b : Int) : Int := wr ((BitVec.ofInt 64 a &&& ~~~ BitVec.ofInt 64 b).toNat : Nat)
theorem aBin_and (a b : Int) : aBin .and (iv a) (iv b) = some (iv (andI a b)) := rfl
theorem aBin_andNot (a b : Int) : aBin .andNot (iv a) (iv b) = some (iv (andNotI a b)) := rfl
theorem sim_shr {γ δ : Type} {a b : Int} {F : AV → Option γ} {G : Int → Option δ} {Q : δ → γ → Prop} (K : ∀ c, Sim (F (iv c)) (G c) Q) : Sim (obind (aBin .shr (iv a) (iv b)) F) (obind (shrO a b) G) Q := by
  have e : aBin .shr (iv a) (iv b) = if 0 ≤ b then some (iv (Int.fdiv a (2 ^ (min b.toNat 64)))) else none := rfl
  rw [e]
  unfold shrO
  by_cases h : 0 ≤ b
  · rw [if_pos h, decide_eq_true h]
    exact K _
  · rw [decide_eq_false h]
    exact sim_no
theorem sim_shl {γ δ : Type} {a b : Int} {F : AV → Option γ} {G : Int → Option δ} {Q : δ → γ → Prop} (K : ∀ c, Sim (F (iv c)) (G c) Q) : Sim (obind (aBin .shl (iv a) (iv b)) F) (obind (shlO a b) G) Q := by
  have e : aBin .shl (iv a) (iv b) = if 0 ≤ b then some (iv (wr (a * 2 ^ (min b.toNat 64)))) else none := rfl
  rw [e]
  unfold shlO
  by_cases h : 0 ≤ b
  · rw [if_pos h, decide_eq_true h]
    exact K _
  · rw [decide_eq_false h]
    exact sim_no
theorem setS_get {A : Type} {s : Sl A} {i : Int} {m : Nat} {a v : A} (hi : i = (m : Int)) (hm : (s.getD [])[m]? = some a) : ((setS s i v).getD [])[m]? = some v := by
  subst hi
  cases s with
  | none => simp at hm
  | some l =>
    have hl : m < l.length := (List.getElem?_eq_some_iff.1 hm).1
    simp [setS, hl]

theorem Hold.tabKL {A : Type} [Row A] [NR A] {B : Base} {h : Heap} {L R : List Ent} (O : Hold B h (L ++ R)) (i : Nat) {x : AV} {s : Sl A} (hi : R[i]? = some (x, obS s)) :
    ∀ h', (∀ o', o' < (Base.mk h (L.filterMap fun e => idOf e.1)).h0.length → o' ∉ (Base.mk h (L.filterMap fun e => idOf e.1)).F → h'[o']? = (Base.mk h (L.filterMap fun e => idOf e.1)).h0[o']?) → Tab h' x s := by
  intro h' hk
  have hi2 : (L ++ R)[L.length + i]? = some (x, obS s) := by rw [List.getElem?_append_right (by omega)]; simpa using hi
  cases s with
  | none =>
    have := O.nilE hi2
    subst this
    exact Tab.nil h'
  | some l =>
    obtain ⟨o2, hx, h2⟩ := O.sl (k := Row.w A) (rows := l.map Row.cells) hi2
    have hlt := (List.getElem?_eq_some_iff.1 h2).1
    have nd := O.nd
    rw [List.filterMap_append, List.nodup_append] at nd
    have h3 : o2 ∉ L.filterMap fun e => idOf e.1 := fun hm => nd.2.2 o2 hm o2 (List.mem_filterMap.2 ⟨_, List.mem_of_getElem? hi, by rw [hx]; rfl⟩) rfl
    subst hx
    rw [List.length_map]
    exact Tab.slN (by rw [hk o2 hlt h3]; exact h2) rfl
theorem Hold.tabTL {A : Type} [Row A] {B : Base} {h : Heap} {L R : List Ent} {x : AV} {s : Sl A} (O : Hold B h (L ++ R)) (T : ∀ h', (∀ o', o' < B.h0.length → o' ∉ B.F → h'[o']? = B.h0[o']?) → Tab h' x s) :
    ∀ h', (∀ o', o' < (Base.mk h (L.filterMap fun e => idOf e.1)).h0.length → o' ∉ (Base.mk h (L.filterMap fun e => idOf e.1)).F → h'[o']? = (Base.mk h (L.filterMap fun e => idOf e.1)).h0[o']?) → Tab h' x s := by
  intro h' hk
  refine T h' fun o' h1 h2 => ?_
  have hlen := O.len
  have hne : o' ∉ L.filterMap fun e => idOf e.1 := fun hm => by
    obtain ⟨e, he, ho⟩ := List.mem_filterMap.1 hm
    rcases O.mine e (List.mem_append_left _ he) o' ho with g | g
    · exact h2 g
    · omega
  rw [hk o' (show o' < h.length by omega) hne]
  exact O.keep o' h1 h2
/-- A row gets a new slice. -/
theorem sim_setRowA {A C : Type} [Row A] [Row C] [Inn A C] [NR C] {B : Base} {h : Heap} {l : List Ent} {γ δ : Type} {x y y' v : AV} {n : Nat} {ps : PS A} {a a' : A} (O : Hold B h ((l ++ [(y', obS (Inn.sub a'))]) ++ D2 x ps)) {s : Sl A} (hs : pj ps = s) {m : Nat} {k : Int} (hk : k = (m : Int)) (hm : (ps.getD [])[m]? = some (a, y))
    (hv : v.cells = Inn.row a' y') (hn : n = Row.w A)
    {F : Heap → Option γ} {Y : Option δ} {Q : δ → γ → Prop} (K : ∀ ps' h', pj ps' = setS s k a' → Hold B h' (l ++ D2 x ps') → Sim (F h') Y Q) : Sim (obind (aStore n (elp x m 0) v h) F) Y Q := by
  subst hs hk hn
  cases ps with
  | none => simp at hm
  | some q =>
    have hm' : q[m]? = some (a, y) := hm
    have hlt := get_lt' hm'
    obtain ⟨o, rfl, ho⟩ := D2.head O
    have c1 := O.one (s := Inn.sub a') l.length (x := y') (by simp)
    have hf : y'.flat = true := by simpa using c1.2
    have h7 : splice (Inn.row a y) 0 (Inn.row a' y') = Inn.row a' y' := by
      unfold splice
      rw [List.take_zero, List.nil_append, Nat.zero_add, Inn.len, List.drop_eq_nil_of_le (by rw [Inn.len]; exact Nat.le_refl _), List.append_nil]
    have e : aStore (Row.w A) (elp (.sl o q.length 0 q.length) m 0) v h = some (h.set o ⟨Row.w A, (q.set m (a', y')).map fun p => Inn.row p.1 p.2⟩) := by
      simp only [elp, aStore, ho, List.length_map, if_true, Nat.zero_add, List.getElem?_map, hm', Option.map_some]
      rw [if_pos ⟨by rw [hv, Inn.len], by rw [Inn.len]; exact Nat.le_refl _, by rw [hv]; exact Inn.flat _ _ hf⟩, hv, h7, List.map_set]
    rw [e]
    have O' := O.update (i := l.length + 1) (o := o) (v' := .sl (Row.w A) ((q.set m (a', y')).map fun p => Inn.row p.1 p.2)) (x := .sl o q.length 0 q.length) (by simp [D2]; rfl) rfl rfl
    refine K (some (q.set m (a', y'))) _ (by simp [pj, setS, List.map_set]) ?_
    have e1 : ((l ++ [((y', obS (Inn.sub a')) : Ent)]) ++ D2 (A := A) (.sl o q.length 0 q.length) (some q)).set (l.length + 1) ((EV.sl (Row.w A) ((q.set m (a', y')).map fun p => Inn.row p.1 p.2)).at o, .sl (Row.w A) ((q.set m (a', y')).map fun p => Inn.row p.1 p.2)) = (l ++ [(y', obS (Inn.sub a'))]) ++ ((AV.sl o q.length 0 q.length, .sl (Row.w A) ((q.set m (a', y')).map fun p => Inn.row p.1 p.2)) :: q.map fun p => (p.2, obS (Inn.sub p.1))) := by
      rw [List.set_append_right _ _ (by simp)]
      simp [D2, EV.at]
    rw [e1] at O'
    have key : ∀ (I : List Ent) (m : Nat) (e' : Ent), m < I.length → ∃ d, ([e'] ++ I).Perm (I.set m e' ++ [d]) := by
      intro I
      induction I with
      | nil => intro m e' h; simp at h
      | cons i I ih =>
        intro m e' h
        cases m with
        | zero =>
          refine ⟨i, ?_⟩
          simp only [List.set_cons_zero, List.cons_append, List.nil_append]
          exact (List.perm_append_singleton i I).symm.cons e'
        | succ m =>
          obtain ⟨d, hd⟩ := ih m e' (by simpa using h)
          refine ⟨d, ?_⟩
          simp only [List.set_cons_succ, List.cons_append, List.nil_append] at hd ⊢
          exact (List.Perm.swap i e' I).trans (hd.cons i)
    obtain ⟨d, hd⟩ := key (q.map fun p => (p.2, obS (Inn.sub p.1))) m (y', obS (Inn.sub a')) (by simpa using hlt)
    have hD : D2 (A := A) (.sl o q.length 0 q.length) (some (q.set m (a', y'))) = (AV.sl o q.length 0 q.length, .sl (Row.w A) ((q.set m (a', y')).map fun p => Inn.row p.1 p.2)) :: (q.map fun p => ((p.2, obS (Inn.sub p.1)) : Ent)).set m (y', obS (Inn.sub a')) := by
      simp only [D2, List.map_set]
    refine (O'.perm (L' := (l ++ D2 (A := A) (.sl o q.length 0 q.length) (some (q.set m (a', y')))) ++ [d]) ?_).left
    rw [hD, List.append_assoc, List.append_assoc]
    refine List.Perm.append_left l ?_
    have h5 : ([((y', obS (Inn.sub a')) : Ent)] ++ ((AV.sl o q.length 0 q.length, EV.sl (Row.w A) ((q.set m (a', y')).map fun p => Inn.row p.1 p.2)) :: q.map fun p => (p.2, obS (Inn.sub p.1)))).Perm ((AV.sl o q.length 0 q.length, EV.sl (Row.w A) ((q.set m (a', y')).map fun p => Inn.row p.1 p.2)) :: ([(y', obS (Inn.sub a'))] ++ q.map fun p => (p.2, obS (Inn.sub p.1)))) := List.Perm.swap _ _ _
    exact h5.trans (hd.cons _)
theorem setS_set2 {A : Type} {s : Sl A} {i : Int} {a b : A} : setS (setS s i a) i b = setS s i b := by
  cases s with
  | none => rfl
  | some l => simp [setS]
end Go.Eng
