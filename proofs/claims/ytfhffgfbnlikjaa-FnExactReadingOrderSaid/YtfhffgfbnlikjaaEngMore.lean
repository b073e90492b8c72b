import Derived.Test.YtfhffgfbnlikjaaEngSort
namespace Go.Eng
set_option linter.unusedVariables false
set_option linter.unusedSimpArgs false
open Cod (enc dec)
theorem Hold.startL {B : Base} {h : kA4} {L R : List Ent} (O : Hold B h (L ++ R)) : Hold ⟨h, L.filterMap fun e => kE8 e.1⟩ h L :=
  ⟨fun e he => O.ok _ (List.mem_append_left _ he), by
    have := O.nd
    rw [List.filterMap_append, List.nodup_append] at this
    exact this.1, Nat.le_refl _, fun _ _ _ => rfl, fun e he o ho => .inl (List.mem_filterMap.2 ⟨e, he, ho⟩)⟩
theorem Hold.mergeL {B : Base} {h h' : kA4} {L R N : List Ent} (O : Hold B h (L ++ R)) (O' : Hold ⟨h, L.filterMap fun e => kE8 e.1⟩ h' N) : Hold B h' (N ++ R) := by
  have len1 := O.len
  have len2 : h.length ≤ h'.length := O'.len
  have nd := O.nd
  rw [List.filterMap_append, List.nodup_append] at nd
  obtain ⟨n1, n2, n3⟩ := nd
  have old : ∀ e ∈ L ++ R, ∀ o, kE8 e.1 = some o → o < h.length := fun e he o ho => by
    obtain ⟨ob, _, g⟩ := entOK_lt (O.ok e he) ho
    exact (List.getElem?_eq_some_iff.1 g).1
  have notL : ∀ e ∈ R, ∀ o, kE8 e.1 = some o → o ∉ L.filterMap fun e => kE8 e.1 := fun e he o ho hm => n3 o hm o (List.mem_filterMap.2 ⟨e, he, ho⟩) rfl
  refine ⟨fun e he => ?_, ?_, by omega, fun o ho hf => ?_, fun e he o ho => ?_⟩
  · rcases List.mem_append.1 he with he | he
    · exact O'.ok e he
    · obtain ⟨o2, g1, g2⟩ := O.ok e (List.mem_append_right _ he)
      refine ⟨o2, g1, fun ob e' => ?_⟩
      have g3 : kE8 e.1 = some o2 := by rw [g1]; exact id_at e' o2
      rw [O'.keep o2 (old e (List.mem_append_right _ he) o2 g3) (notL e he o2 g3)]
      exact g2 ob e'
  · rw [List.filterMap_append, List.nodup_append]
    refine ⟨O'.nd, n2, fun a ha b hb e => ?_⟩
    subst e
    obtain ⟨x, hx, h1⟩ := List.mem_filterMap.1 ha
    obtain ⟨y, hy, h2⟩ := List.mem_filterMap.1 hb
    have lt := old y (List.mem_append_right _ hy) a h2
    rcases O'.mine x hx a h1 with g | g
    · exact notL y hy a h2 g
    · have : h.length ≤ a := g
      omega
  · have hn : o ∉ L.filterMap fun e => kE8 e.1 := fun hm => by
      obtain ⟨x, hx, h1⟩ := List.mem_filterMap.1 hm
      rcases O.mine x (List.mem_append_left _ hx) o h1 with g | g
      · exact hf g
      · omega
    rw [O'.keep o (show o < h.length by omega) hn]
    exact O.keep o ho hf
  · rcases List.mem_append.1 he with he | he
    · rcases O'.mine e he o ho with g | g
      · obtain ⟨x, hx, h1⟩ := List.mem_filterMap.1 g
        exact O.mine x (List.mem_append_left _ hx) o h1
      · right
        have : h.length ≤ o := g
        omega
    · exact O.mine e (List.mem_append_right _ he) o ho
def andI (a b : Int) : Int := wr ((BitVec.ofInt 64 a &&& BitVec.ofInt 64 b).toNat : Nat)
theorem sim_setRowA {A C : Type} [Row A] [Row C] [Inn A C] [NR C] {B : Base} {h : kA4} {l : List Ent} {γ δ : Type} {x y y' v : AV} {n : Nat} {ps : PS A} {a a' : A} (O : Hold B h ((l ++ [(y', obS (Inn.sub a'))]) ++ D2 x ps)) {s : Sl A} (hs : pj ps = s) {m : Nat} {k : Int} (hk : k = (m : Int)) (hm : (ps.getD [])[m]? = some (a, y))
    (hv : v.cells = Inn.row a' y') (hn : n = Row.w A)
    {F : kA4 → Option γ} {Y : Option δ} {Q : δ → γ → Prop} (K : ∀ ps' h', pj ps' = kC9 s k a' → Hold B h' (l ++ D2 x ps') → Sim (F h') Y Q) : Sim (kA0 (kAw n (elp x m 0) v h) F) Y Q := by
  subst hs hk hn
  cases ps with
  | none => simp at hm
  | some q =>
    have hm' : q[m]? = some (a, y) := hm
    have hlt := kGr hm'
    obtain ⟨o, rfl, ho⟩ := D2.head O
    have c1 := O.one (s := Inn.sub a') l.length (x := y') (by simp)
    have hf : y'.flat = true := by simpa using c1.2
    have h7 : kBe (Inn.row a y) 0 (Inn.row a' y') = Inn.row a' y' := by
      unfold kBe
      rw [List.take_zero, List.nil_append, Nat.zero_add, Inn.len, List.drop_eq_nil_of_le (by rw [Inn.len]; exact Nat.le_refl _), List.append_nil]
    have e : kAw (Row.w A) (elp (.sl o q.length 0 q.length) m 0) v h = some (h.set o ⟨Row.w A, (q.set m (a', y')).map fun p => Inn.row p.1 p.2⟩) := by
      simp only [elp, kAw, ho, List.length_map, if_true, Nat.zero_add, List.getElem?_map, hm', Option.map_some]
      rw [if_pos ⟨by rw [hv, Inn.len], by rw [Inn.len]; exact Nat.le_refl _, by rw [hv]; exact Inn.flat _ _ hf⟩, hv, h7, List.map_set]
    rw [e]
    have O' := O.update (i := l.length + 1) (o := o) (v' := .sl (Row.w A) ((q.set m (a', y')).map fun p => Inn.row p.1 p.2)) (x := .sl o q.length 0 q.length) (by simp [D2]; rfl) rfl rfl
    refine K (some (q.set m (a', y'))) _ (by simp [pj, kC9, List.map_set]) ?_
    have e1 : ((l ++ [((y', obS (Inn.sub a')) : Ent)]) ++ D2 (A := A) (.sl o q.length 0 q.length) (some q)).set (l.length + 1) ((EV.sl (Row.w A) ((q.set m (a', y')).map fun p => Inn.row p.1 p.2)).at o, .sl (Row.w A) ((q.set m (a', y')).map fun p => Inn.row p.1 p.2)) = (l ++ [(y', obS (Inn.sub a'))]) ++ ((AV.sl o q.length 0 q.length, .sl (Row.w A) ((q.set m (a', y')).map fun p => Inn.row p.1 p.2)) :: q.map fun p => (p.2, obS (Inn.sub p.1))) := by
      rw [List.set_append_right _ _ (by simp)]
      simp [D2, EV.at]
    rw [e1] at O'
    have key : ∀ (I : List Ent) (m : Nat) (e' : Ent), m < I.length → ∃ d, ([e'] ++ I).Perm (I.set m e' ++ [d]) := by
      intro I
      induction I with
      | nil => intro m e' h; simp at h
      | cons i I ih =>
        intro m e' h
        cases m with
        | zero =>
          refine ⟨i, ?_⟩
          simp only [List.set_cons_zero, List.cons_append, List.nil_append]
          exact (List.perm_append_singleton i I).symm.cons e'
        | succ m =>
          obtain ⟨d, hd⟩ := ih m e' (by simpa using h)
          refine ⟨d, ?_⟩
          simp only [List.set_cons_succ, List.cons_append, List.nil_append] at hd ⊢
          exact (List.Perm.swap i e' I).trans (hd.cons i)
    obtain ⟨d, hd⟩ := key (q.map fun p => (p.2, obS (Inn.sub p.1))) m (y', obS (Inn.sub a')) (by simpa using hlt)
    have hD : D2 (A := A) (.sl o q.length 0 q.length) (some (q.set m (a', y'))) = (AV.sl o q.length 0 q.length, .sl (Row.w A) ((q.set m (a', y')).map fun p => Inn.row p.1 p.2)) :: (q.map fun p => ((p.2, obS (Inn.sub p.1)) : Ent)).set m (y', obS (Inn.sub a')) := by
      simp only [D2, List.map_set]
    refine (O'.perm (L' := (l ++ D2 (A := A) (.sl o q.length 0 q.length) (some (q.set m (a', y')))) ++ [d]) ?_).left
    rw [hD, List.append_assoc, List.append_assoc]
    refine List.Perm.append_left l ?_
    have h5 : ([((y', obS (Inn.sub a')) : Ent)] ++ ((AV.sl o q.length 0 q.length, EV.sl (Row.w A) ((q.set m (a', y')).map fun p => Inn.row p.1 p.2)) :: q.map fun p => (p.2, obS (Inn.sub p.1)))).Perm ((AV.sl o q.length 0 q.length, EV.sl (Row.w A) ((q.set m (a', y')).map fun p => Inn.row p.1 p.2)) :: ([(y', obS (Inn.sub a'))] ++ q.map fun p => (p.2, obS (Inn.sub p.1)))) := List.Perm.swap _ _ _
    exact h5.trans (hd.cons _)
end Go.Eng
