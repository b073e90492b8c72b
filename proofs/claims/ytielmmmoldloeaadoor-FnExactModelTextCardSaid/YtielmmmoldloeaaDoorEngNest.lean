/-
  THE ENGINE, PART 35: tables whose rows hold a slice of their own.
-/
import Derived.Test.YtielmmmoldloeaaDoorEngGrd
namespace Go.Eng
set_option linter.unusedVariables false
set_option linter.unusedSimpArgs false
open Cod (enc dec)

/-- Rows with one slice in them. -/
class Inn (A : Type) (C : outParam Type) [Row A] [Row C] where
  sub : A → Sl C
  row : A → AV → List AV
  enc : ∀ a, row a (Sl.enc (sub a)) = Row.cells a
  len : ∀ a x, (row a x).length = Row.w A
  flat : ∀ a x, x.flat = true → (row a x).all AV.flat = true
  snap : ∀ h d a x, Eng.snap h d x = some (Sl.enc (sub a)) → omap (Eng.snap h d) (row a x) = some (Row.cells a)
  rel : ∀ h d a x, Eng.rel h d x = some (rS (sub a)) → omap (Eng.rel h d) (row a x) = some (row a (rS (sub a)))
  ids : ∀ h d a x, (row a x).flatMap (Eng.ids h d) = Eng.ids h d x
  mat : ∀ d a b y o, Eng.mat d (rS (sub a)) b = (y, o) → matL (Eng.mat d) (row a (rS (sub a))) b = (row a y, o)
  noF : ∀ d a, Eng.noF d (rS (sub a)) = true → (row a (rS (sub a))).all (Eng.noF d) = true

/-- The rows of such a table, each with the value of its slice. -/
abbrev PS (A : Type) := Option (List (A × AV))
def pj {A : Type} (ps : PS A) : Sl A := ps.map (List.map Prod.fst)
theorem pj_getD {A : Type} (ps : PS A) : (pj ps).getD [] = (ps.getD []).map Prod.fst := by cases ps <;> rfl

theorem nc_elp (x : AV) (m j : Nat) : aNilCheck (elp x m j) = some (elp x m j) := by cases x <;> rfl
theorem filterMap_congrL {α β : Type} {f g : α → Option β} : ∀ {l : List α}, (∀ a ∈ l, f a = g a) → l.filterMap f = l.filterMap g
  | [], _ => rfl
  | a :: l, h => by
    rw [List.filterMap_cons, List.filterMap_cons, h a (by simp), filterMap_congrL (l := l) fun b hb => h b (by simp [hb])]
theorem get_lt' {α : Type} {l : List α} {k : Nat} {a : α} (h : l[k]? = some a) : k < l.length := (List.getElem?_eq_some_iff.1 h).1
section
variable {A C : Type} [Row A] [Row C] [Inn A C] {B : Base} {h : Heap} {l : List Ent}
def D2 (x : AV) (ps : PS A) : List Ent := match ps with
  | none => [(x, .nil)]
  | some l => (x, .sl (Row.w A) (l.map fun p => Inn.row p.1 p.2)) :: l.map fun p => (p.2, obS (Inn.sub p.1))

theorem Hold.left {d : List Ent} (O : Hold B h (l ++ d)) : Hold B h l :=
  ⟨fun e he => O.ok e (List.mem_append.2 (.inl he)), by
    have := O.nd
    rw [List.filterMap_append] at this
    exact (List.nodup_append.1 this).1, O.len, O.keep, fun e he => O.mine e (List.mem_append.2 (.inl he))⟩
theorem Hold.perm {L L' : List Ent} (s : L.Perm L') (O : Hold B h L) : Hold B h L' :=
  ⟨fun e he => O.ok e (s.mem_iff.2 he), (s.filterMap _).nodup O.nd, O.len, O.keep, fun e he => O.mine e (s.mem_iff.2 he)⟩
/-- What is new goes ahead of the tables. -/
theorem Hold.rot {d n : List Ent} (O : Hold B h (l ++ d ++ n)) : Hold B h (l ++ n ++ d) :=
  O.perm (by
    rw [List.append_assoc, List.append_assoc]
    exact (List.perm_append_comm).append_left l)
theorem Hold.selD {d : List Ent} (O : Hold B h (l ++ d)) (js : List Nat) (hj : js.Nodup) {l' : List Ent} (e : l' = js.filterMap (l[·]?)) : Hold B h (l' ++ d) := by
  subst e
  have hm : ∀ e ∈ js.filterMap (l[·]?) ++ d, e ∈ l ++ d := fun e he => by
    rcases List.mem_append.1 he with he | he
    · obtain ⟨j, _, h2⟩ := List.mem_filterMap.1 he
      exact List.mem_append.2 (.inl (List.mem_of_getElem? h2))
    · exact List.mem_append.2 (.inr he)
  have nd := O.nd
  rw [List.filterMap_append, List.nodup_append] at nd
  refine ⟨fun e he => O.ok e (hm e he), ?_, O.len, O.keep, fun e he => O.mine e (hm e he)⟩
  rw [List.filterMap_append, List.nodup_append]
  refine ⟨sel_sub js hj nd.1, nd.2.1, fun a ha b hb => ?_⟩
  obtain ⟨e, he, h1⟩ := List.mem_filterMap.1 ha
  obtain ⟨j, _, h2⟩ := List.mem_filterMap.1 he
  exact nd.2.2 a (List.mem_filterMap.2 ⟨e, List.mem_of_getElem? h2, h1⟩) b hb

theorem D2.head {x : AV} {q : List (A × AV)} (O : Hold B h (l ++ D2 x (some q))) : ∃ o, x = .sl o q.length 0 q.length ∧ h[o]? = some ⟨Row.w A, q.map fun p => Inn.row p.1 p.2⟩ := by
  obtain ⟨o, h1, h2⟩ := O.sl (i := l.length) (k := Row.w A) (rows := q.map fun p => Inn.row p.1 p.2) (x := x) (by simp [D2])
  exact ⟨o, by simpa using h1, h2⟩
theorem D2.nil {x : AV} (O : Hold B h (l ++ D2 (A := A) x none)) : x = nilS := O.nilE (i := l.length) (x := x) (by simp [D2])
theorem D2.at {x : AV} {ps : PS A} {m : Nat} {a : A} {y : AV} (hm : (ps.getD [])[m]? = some (a, y)) : (l ++ D2 x ps)[l.length + 1 + m]? = some (y, obS (Inn.sub a)) := by
  cases ps with
  | none => simp at hm
  | some q =>
    have hm' : q[m]? = some (a, y) := hm
    rw [List.getElem?_append_right (by omega)]
    have : l.length + 1 + m - l.length = m + 1 := by omega
    rw [this]
    simp [D2, hm']
/-- The slice of a row is read. -/
theorem D2.tab [NR C] {x : AV} {ps : PS A} (O : Hold B h (l ++ D2 x ps)) {m : Nat} {a : A} {y : AV} (hm : (ps.getD [])[m]? = some (a, y)) : Tab h y (Inn.sub a) := O.tab _ (D2.at hm)
theorem D2.one {x : AV} {ps : PS A} (O : Hold B h (l ++ D2 x ps)) {m : Nat} {a : A} {y : AV} (hm : (ps.getD [])[m]? = some (a, y)) : y.cells = [y] ∧ y.flat = true := O.one _ (D2.at hm)
theorem D2.len {x : AV} {ps : PS A} (O : Hold B h (l ++ D2 x ps)) : aLenK .slice x = some (iv (((pj ps).getD []).length : Nat)) := by
  cases ps with
  | none =>
    have := D2.nil O
    subst this
    rfl
  | some q =>
    obtain ⟨o, rfl, _⟩ := D2.head O
    simp [pj]
theorem D2.oneX {x : AV} {ps : PS A} (O : Hold B h (l ++ D2 x ps)) : x.cells = [x] ∧ x.flat = true := by
  cases ps with
  | none =>
    have := D2.nil O
    subst this
    exact ⟨rfl, rfl⟩
  | some q =>
    obtain ⟨o, rfl, _⟩ := D2.head O
    exact ⟨rfl, rfl⟩
theorem D2.lenS {x : AV} {ps : PS A} (O : Hold B h (l ++ D2 x ps)) {s : Sl A} (hs : pj ps = s) : aLenK .slice x = some (iv ((s.getD []).length : Nat)) := by
  subst hs
  exact D2.len O
/-- A slice of elements that hold parts of the heap. -/
theorem sim_buildRaw {γ δ : Type} {B : Base} {h : Heap} {L : List Ent} (O : Hold B h L) (rows : List (List AV)) (w : Nat) {z : List AV} {n : Nat} {parts : List (Nat × AV)} (hz : z.length = w) (hp : aFillRows (zrows z n) parts = some rows) (hn : n = rows.length)
    {F : AV → Heap → Option γ} {Y : Option δ} {Q : δ → γ → Prop} (K : ∀ x' h', Hold B h' (L ++ [(x', .sl w rows)]) → Sim (F x' h') Y Q) : Sim (obind2 (aBuildSlice z n parts h) F) Y Q := by
  subst hn
  have e : aBuildSlice z rows.length parts h = some (.sl h.length rows.length 0 rows.length, h ++ [⟨w, rows⟩]) := by
    unfold aBuildSlice
    rw [hp, hz]
  rw [e]
  exact K _ _ (O.alloc (.sl w rows) rfl)
theorem sim_getN {γ δ : Type} {x : AV} {ps : PS A} (O : Hold B h (l ++ D2 x ps)) {s : Sl A} (hs : pj ps = s) {i : Int} {F : AV → Option γ} {G : A → Option δ} {Q : δ → γ → Prop}
    (K : ∀ m a y, i = ((m : Nat) : Int) → (ps.getD [])[m]? = some (a, y) → (s.getD [])[m]? = some a → Sim (F (elp x m 0)) (G a) Q) : Sim (obind (aIndexAddr (Row.w A) x (iv i) h) F) (obind (getI (s.getD []) i) G) Q := by
  subst hs
  cases ps with
  | none =>
    have e : getI ((pj (none : PS A)).getD []) i = none := by
      show obind (idx (iv i) 0) _ = none
      rw [idx_zero]
      rfl
    rw [e]
    exact sim_no
  | some q =>
    intro y hy
    cases e : getI ((pj (some q)).getD []) i with
    | none => rw [e] at hy; cases hy
    | some a =>
      rw [e] at hy
      obtain ⟨m, h1, h2, h3, h4⟩ := getI_some e
      obtain ⟨o, rfl, ho⟩ := D2.head O
      rw [pj_getD, Option.getD_some, List.length_map] at h2 h4
      have h5 : (q.map Prod.fst)[m]? = some a := h3
      have h6 : m < q.length := h2
      have e1 : aIndexAddr (Row.w A) (.sl o q.length 0 q.length) (iv i) h = some (elp (.sl o q.length 0 q.length) m 0) := by
        simp only [aIndexAddr, ho, List.length_map, and_self, if_true, h4, elp]
      rw [e1, obind_sm]
      obtain ⟨⟨a', z⟩, hz⟩ : ∃ p, q[m]? = some p := ⟨q[m], List.getElem?_eq_getElem h6⟩
      rw [List.getElem?_map, hz] at h5
      have : a' = a := by simpa using h5
      subst this
      exact K m a' z h1 hz h3 y hy
theorem D2.ld {x : AV} {ps : PS A} (O : Hold B h (l ++ D2 x ps)) {m : Nat} {a : A} {y : AV} (hm : (ps.getD [])[m]? = some (a, y)) (g : Bool) (n j : Nat) : aLoad g n (elp x m j) h = cut g n ((Inn.row a y).drop j) := by
  cases ps with
  | none => simp at hm
  | some q =>
    obtain ⟨o, rfl, ho⟩ := D2.head O
    have hm' : q[m]? = some (a, y) := hm
    simp only [aLoad, elp, ho, List.length_map, if_true, List.getElem?_map, hm', Option.map_some, Nat.zero_add]
theorem D2.fld {x : AV} {ps : PS A} (O : Hold B h (l ++ D2 x ps)) {m : Nat} {a : A} {y : AV} (hm : (ps.getD [])[m]? = some (a, y)) (j off : Nat) : aFieldAddr off (elp x m j) = some (elp x m (j + off)) := by
  cases ps with
  | none => simp at hm
  | some q =>
    obtain ⟨o, rfl, ho⟩ := D2.head O
    rfl
theorem snap_rowsN [NR C] (q : List (A × AV)) (d : Nat) (hq : ∀ p ∈ q, Eng.snap h d p.2 = some (Sl.enc (Inn.sub p.1))) : omap (omap (Eng.snap h d)) (q.map fun p => Inn.row p.1 p.2) = some ((q.map Prod.fst).map Row.cells) := by
  induction q with
  | nil => rfl
  | cons p q ih =>
    simp only [List.map_cons, omap, Inn.snap h d p.1 p.2 (hq p (by simp)), ih fun p' hp' => hq p' (by simp [hp'])]
theorem D2.mem {x : AV} {q : List (A × AV)} {p : A × AV} (hp : p ∈ q) : ∃ i : Nat, (l ++ D2 x (some q))[i]? = some (p.2, obS (Inn.sub p.1)) := by
  obtain ⟨m, hm⟩ := List.mem_iff_getElem?.1 hp
  exact ⟨l.length + 1 + m, D2.at (ps := some q) (a := p.1) (y := p.2) hm⟩
/-- The whole table is read. -/
theorem D2.snapD [NR C] {x : AV} {ps : PS A} (O : Hold B h (l ++ D2 x ps)) {s : Sl A} (hs : pj ps = s) : Eng.snap h 7 x = some (Sl.enc s) ∧ Eng.snapD h x = some s := by
  subst hs
  cases ps with
  | none =>
    have := D2.nil O
    subst this
    exact ⟨rfl, rfl⟩
  | some q =>
    obtain ⟨o, rfl, ho⟩ := D2.head O
    have key : ∀ d, Eng.snap h (d + 2) (.sl o q.length 0 q.length) = some (.fs (Row.w A) ((q.map Prod.fst).map Row.cells)) := fun d => by
      show (match h[o]? with | some ob => if ob.rows.length = q.length ∧ 0 + q.length ≤ q.length then (match omap (omap (Eng.snap h (d + 1))) ((ob.rows.drop 0).take q.length) with | some rows => some (AV.fs ob.k rows) | none => none) else none | none => none) = _
      rw [ho]
      simp only [List.length_map]
      rw [if_pos ⟨trivial, by omega⟩, List.drop_zero, List.take_of_length_le (by simp), snap_rowsN q (d + 1) fun p hp => by
        obtain ⟨i, hi⟩ := D2.mem (l := l) (x := .sl o q.length 0 q.length) hp
        exact O.snap7 i hi d]
    refine ⟨key 5, ?_⟩
    unfold Eng.snapD
    rw [show depth = 6 + 2 from rfl, key 6]
    exact Cod.de (some (q.map Prod.fst) : Sl A)
/-- A pointer to one of its rows. -/
theorem D2.getE {A : Type} {ps : PS A} {s : Sl A} (hs : pj ps = s) {m : Nat} {a : A} {y : AV} (hm : (ps.getD [])[m]? = some (a, y)) : (s.getD [])[m]? = some a := by
  subst hs
  rw [pj_getD, List.getElem?_map, hm]
  rfl
theorem D2.snapE [NR C] {x : AV} {ps : PS A} (O : Hold B h (l ++ D2 x ps)) {s : Sl A} (hs : pj ps = s) {m : Nat} {a : A} {y : AV} (hm : (ps.getD [])[m]? = some (a, y)) : Eng.snapD h (elp x m 0) = some (⟨s.getD [], m⟩ : Pt A) := by
  subst hs
  cases ps with
  | none => simp at hm
  | some q =>
    obtain ⟨o, rfl, ho⟩ := D2.head O
    have : Eng.snap h depth (elp (.sl o q.length 0 q.length) m 0) = some (.fptr (Row.w A) ((q.map Prod.fst).map Row.cells) m 0) := by
      show (match h[o]? with | some ob => if ob.rows.length = q.length then (match omap (omap (Eng.snap h 7)) ob.rows with | some rows => some (AV.fptr ob.k rows (0 + m) 0) | none => none) else none | none => none) = _
      rw [ho]
      simp only [List.length_map, if_true, Nat.zero_add]
      rw [snap_rowsN q 7 fun p hp => by
        obtain ⟨i, hi⟩ := D2.mem (l := l) (x := .sl o q.length 0 q.length) hp
        exact O.snap7 i hi 6]
    unfold Eng.snapD
    rw [this]
    exact Cod.de (⟨q.map Prod.fst, m⟩ : Pt A)
/-- Results: a table of new rows. -/
def rD (s : Sl A) : AV := match s with
  | none => nilS
  | some l => .nw (Row.w A) (l.map fun a => Inn.row a (rS (Inn.sub a)))
theorem D2.relN [NR C] {x : AV} {ps : PS A} (O : Hold B h (l ++ D2 x ps)) {s : Sl A} (hs : pj ps = s) (d : Nat) : Eng.rel h (d + 2) x = some (rD s) := by
  subst hs
  cases ps with
  | none =>
    have := D2.nil O
    subst this
    rfl
  | some q =>
    obtain ⟨o, rfl, ho⟩ := D2.head O
    have hr : ∀ q' : List (A × AV), (∀ p ∈ q', p ∈ q) → omap (omap (Eng.rel h (d + 1))) (q'.map fun p => Inn.row p.1 p.2) = some ((q'.map Prod.fst).map fun a => Inn.row a (rS (Inn.sub a))) := by
      intro q' hq'
      induction q' with
      | nil => rfl
      | cons p q' ih =>
        obtain ⟨i, hi⟩ := D2.mem (l := l) (x := .sl o q.length 0 q.length) (hq' p (by simp))
        simp only [List.map_cons, omap, Inn.rel h (d + 1) p.1 p.2 (O.relD i hi d), ih fun p' hp' => hq' p' (by simp [hp'])]
    show (match h[o]? with | some ob => if ob.rows.length = q.length ∧ 0 = 0 ∧ q.length ≤ q.length then (match omap (omap (Eng.rel h (d + 1))) (ob.rows.take q.length) with | some rows => some (AV.nw ob.k rows) | none => none) else none | none => none) = _
    rw [ho]
    simp only [List.length_map]
    rw [if_pos ⟨trivial, trivial, Nat.le_refl _⟩, List.take_of_length_le (by simp), hr q fun _ h => h]
    simp [rD, pj]
theorem D2.idsN [NR C] {x : AV} {ps : PS A} (O : Hold B h (l ++ D2 x ps)) (d : Nat) : (Eng.ids h (d + 2) x).map (·.1) = (D2 x ps).flatMap fun e => (idOf e.1).toList := by
  cases ps with
  | none =>
    have := D2.nil O
    subst this
    rfl
  | some q =>
    obtain ⟨o, rfl, ho⟩ := D2.head O
    have hr : ∀ q' : List (A × AV), (∀ p ∈ q', p ∈ q) → ((q'.map fun p => Inn.row p.1 p.2).flatMap fun r => r.flatMap (Eng.ids h (d + 1))).map (·.1) = (q'.map fun p => (p.2, obS (Inn.sub p.1))).flatMap fun e => (idOf e.1).toList := by
      intro q' hq'
      induction q' with
      | nil => rfl
      | cons p q' ih =>
        obtain ⟨i, hi⟩ := D2.mem (l := l) (x := .sl o q.length 0 q.length) (hq' p (by simp))
        simp only [List.map_cons, List.flatMap_cons, List.map_append, Inn.ids, O.idsD i hi d, ih fun p' hp' => hq' p' (by simp [hp'])]
    have e1 : Eng.ids h (d + 2) (.sl o q.length 0 q.length) = (o, q.length) :: (q.map fun p => Inn.row p.1 p.2).flatMap fun r => r.flatMap (Eng.ids h (d + 1)) := by
      show (match h[o]? with | some ob => (o, q.length) :: (ob.rows.take q.length).flatMap (fun (r : List AV) => r.flatMap (Eng.ids h (d + 1))) | none => []) = _
      rw [ho]
      simp only
      rw [List.take_of_length_le (by simp)]
    rw [e1, List.map_cons, hr q fun _ h => h]
    simp [D2, idOf]

theorem D2.ids8 [NR C] {x : AV} {ps : PS A} (O : Hold B h (l ++ D2 x ps)) : (Eng.ids h depth x).map (·.1) = (D2 x ps).flatMap fun e => (idOf e.1).toList := D2.idsN O 6
theorem D2.rel8 [NR C] {x : AV} {ps : PS A} (O : Hold B h (l ++ D2 x ps)) {s : Sl A} (hs : pj ps = s) : Eng.rel h depth x = some (rD s) := D2.relN O hs 6
/-- One row's slice is taken out; the rest is let go. -/
theorem D2.pick {x : AV} {ps : PS A} (O : Hold B h (l ++ D2 x ps)) {m : Nat} {a : A} {y : AV} (hm : (ps.getD [])[m]? = some (a, y)) : Hold B h (l ++ [(y, obS (Inn.sub a))]) := by
  have hi := D2.at (l := l) (x := x) hm
  have hj : (l.length + 1 + m) ∉ List.range l.length := by simp; omega
  refine O.sel (List.range l.length ++ [l.length + 1 + m]) ?_ ?_
  · rw [List.nodup_append]
    exact ⟨List.nodup_range, by simp, fun a ha b hb e => by
      simp at hb
      subst hb e
      exact hj ha⟩
  · rw [List.filterMap_append]
    congr 1
    · have key : ∀ (l d : List Ent), l = (List.range l.length).filterMap ((l ++ d)[·]?) := by
        intro l d
        have h1 : (List.range l.length).filterMap ((l ++ d)[·]?) = (List.range l.length).filterMap (l[·]?) := by
          apply filterMap_congrL
          intro i hi
          rw [List.getElem?_append_left (by simpa using hi)]
        rw [h1]
        induction l with
        | nil => rfl
        | cons a l ih =>
          rw [List.length_cons, List.range_succ_eq_map, List.filterMap_cons]
          simp only [List.getElem?_cons_zero, List.filterMap_map]
          congr 1
          have h2 : (List.range l.length).filterMap ((fun i => (a :: l)[i]?) ∘ Nat.succ) = (List.range l.length).filterMap (l[·]?) := by
            apply filterMap_congrL
            intro i _
            simp
          rw [h2]
          exact ih (by
            apply filterMap_congrL
            intro i hi
            rw [List.getElem?_append_left (by simpa using hi)])
      exact key l _
    · simp [hi]

/-! ### Changes -/

theorem sim_push {γ δ : Type} {x t y : AV} {ps : PS A} {a : A} {bytes : Nat} (O : Hold B h ((l ++ [(y, obS (Inn.sub a)), (t, .sl (Row.w A) [Inn.row a y])]) ++ D2 x ps)) {s : Sl A} (hs : pj ps = s) (hb : bytes ≤ 1024)
    {F : AV → Heap → Option γ} {G : Sl A → Option δ} {Q : δ → γ → Prop} (K : ∀ x' ps' h', pj ps' = appS s [a] → (ps'.getD [])[(s.getD []).length]? = some (a, y) → Hold B h' (l ++ D2 x' ps') → Sim (F x' h') (G (appS s [a])) Q) : Sim (obind2 (aAppend false (Row.w A) bytes x t h) F) (obind (appO s [a]) G) Q := by
  subst hs
  unfold appO
  split
  · rename_i hl
    obtain ⟨b1, b2⟩ := bytes_le hl hb
    obtain ⟨ot, rfl, hot⟩ := O.sl (i := l.length + 1) (x := t) (k := Row.w A) (rows := [Inn.row a y]) (by simp)
    have hsrc : aSrc false (Row.w A) (.sl ot 1 0 1) h = some [Inn.row a y] := by simp [aSrc, hot]
    have fin : ∀ {h' : Heap} {D D' : List Ent} {et : Ent}, Hold B h' ((l ++ [(y, obS (Inn.sub a)), et]) ++ D) → D' = D ++ [(y, obS (Inn.sub a))] → Hold B h' (l ++ D') := by
      intro h' D D' et O' e
      subst e
      refine (O'.perm (L' := (l ++ (D ++ [(y, obS (Inn.sub a))])) ++ [et]) ?_).left
      rw [List.append_assoc, List.append_assoc]
      refine List.Perm.append_left l ?_
      rw [List.append_assoc]
      exact List.perm_append_comm (l₁ := [(y, obS (Inn.sub a)), et]) (l₂ := D)
    cases ps with
    | none =>
      have := D2.nil O
      subst this
      have O' := O.fill (i := l.length + 2) (.sl (Row.w A) [Inn.row a y]) rfl (by simp [D2])
      have e : aAppend false (Row.w A) bytes nilS (.sl ot 1 0 1) h = some (.sl h.length 1 0 1, h ++ [⟨Row.w A, [Inn.row a y]⟩]) := by
        unfold aAppend
        rw [hsrc]
        simp only [nilS]
        rw [if_neg (by simp)]
        simp only [pj, Option.map_none, Option.getD_none, List.length_nil, List.length_cons, Nat.zero_add] at b1 b2
        have b3 : bytes ≤ maxBytes := by omega
        rw [if_pos (by simpa using ⟨b3, b2⟩)]
        rfl
      rw [List.length_cons, List.length_nil, Nat.zero_add] at *
      simp only [e, obind2_sm]
      refine K _ (some [(a, y)]) _ rfl rfl (fin (et := (AV.sl ot 1 0 1, .sl (Row.w A) [Inn.row a y])) (D := [(AV.sl h.length 1 0 1, .sl (Row.w A) [Inn.row a y])]) ?_ (by simp [D2]))
      simpa [D2, EV.at, List.set_append_right] using O'
    | some q =>
      obtain ⟨o, rfl, ho⟩ := D2.head O
      have O' := O.update (i := l.length + 2) (o := o) (v' := .sl (Row.w A) ((q ++ [(a, y)]).map fun p => Inn.row p.1 p.2)) (x := .sl o q.length 0 q.length) (by simp [D2]; rfl) rfl rfl
      have e : aAppend false (Row.w A) bytes (.sl o q.length 0 q.length) (.sl ot 1 0 1) h = some (.sl o (q.length + 1) 0 (q.length + 1), h.set o ⟨Row.w A, (q ++ [(a, y)]).map fun p => Inn.row p.1 p.2⟩) := by
        simp only [pj, Option.map_some, Option.getD_some, List.length_map, List.length_cons, List.length_nil] at b1 b2
        unfold aAppend
        rw [hsrc]
        simp only [ho, List.length_map, List.length_cons, List.length_nil]
        rw [if_pos ⟨trivial, trivial, trivial, b1, b2, Nat.le_refl _⟩]
        have e1 : List.take q.length (q.map fun p => Inn.row p.1 p.2) = q.map fun p => Inn.row p.1 p.2 := List.take_of_length_le (by simp)
        have e2 : List.drop (q.length + (0 + 1)) (q.map fun p => Inn.row p.1 p.2) = [] := List.drop_eq_nil_of_le (by simp)
        rw [e1, e2]
        simp
      rw [List.length_cons, List.length_nil, Nat.zero_add] at *
      simp only [e, obind2_sm]
      refine K _ (some (q ++ [(a, y)])) _ (by simp [pj, appS]) (by simp [pj]) (fin (et := (AV.sl ot 1 0 1, .sl (Row.w A) [Inn.row a y])) (D := (AV.sl o (q.length + 1) 0 (q.length + 1), .sl (Row.w A) ((q ++ [(a, y)]).map fun p => Inn.row p.1 p.2)) :: q.map fun p => (p.2, obS (Inn.sub p.1))) ?_ (by simp [D2]))
      have h1 : ((l ++ [(y, obS (Inn.sub a)), ((AV.sl ot 1 0 1, EV.sl (Row.w A) [Inn.row a y]) : Ent)]) ++ D2 (A := A) (.sl o q.length 0 q.length) (some q)).set (l.length + 2) ((EV.sl (Row.w A) ((q ++ [(a, y)]).map fun p => Inn.row p.1 p.2)).at o, .sl (Row.w A) ((q ++ [(a, y)]).map fun p => Inn.row p.1 p.2)) = (l ++ [(y, obS (Inn.sub a)), (AV.sl ot 1 0 1, .sl (Row.w A) [Inn.row a y])]) ++ ((AV.sl o (q.length + 1) 0 (q.length + 1), .sl (Row.w A) ((q ++ [(a, y)]).map fun p => Inn.row p.1 p.2)) :: q.map fun p => (p.2, obS (Inn.sub p.1))) := by
        rw [List.set_append_right _ _ (by simp)]
        simp [D2, EV.at]
      rw [← h1]
      exact O'
  · exact sim_no
/-- Inside the slice of a row. -/
theorem sim_setIn {γ δ : Type} {x y v : AV} {ps : PS A} (O : Hold B h (l ++ D2 x ps)) {s : Sl A} (hs : pj ps = s) {m mi n j : Nat} {a : A} {k ki : Int} {c : C} (a' : A) (c' : C) (hk : k = (m : Int)) (hm : (ps.getD [])[m]? = some (a, y)) (hki : ki = (mi : Int)) (hc : ((Inn.sub a).getD [])[mi]? = some c)
    (hsub : Inn.sub a' = setS (Inn.sub a) ki c') (hrow : Inn.row a' y = Inn.row a y) (h1 : v.cells.length = n) (h2 : j + n ≤ Row.w C) (h3 : v.cells.all AV.flat = true) (h4 : splice (Row.cells c) j v.cells = Row.cells c')
    {F : Heap → Option γ} {Y : Option δ} {Q : δ → γ → Prop} (K : ∀ ps' h', pj ps' = setS s k a' → Hold B h' (l ++ D2 x ps') → Sim (F h') Y Q) : Sim (obind (aStore n (elp y mi j) v h) F) Y Q := by
  subst hs hk
  cases ps with
  | none => simp at hm
  | some q =>
    have hm' : q[m]? = some (a, y) := hm
    refine sim_set O (l.length + 1 + m) c' (D2.at hm) hki hc h1 h2 h3 h4 fun h' O' => K (some (q.set m (a', y))) h' (by simp [pj, setS, List.map_set]) ?_
    have e : (l ++ D2 x (some q)).set (l.length + 1 + m) (y, obS (setS (Inn.sub a) ki c')) = l ++ D2 x (some (q.set m (a', y))) := by
      rw [List.set_append_right _ _ (by omega)]
      have : l.length + 1 + m - l.length = m + 1 := by omega
      rw [this, ← hsub]
      have hr : (q.set m (a', y)).map (fun p => Inn.row p.1 p.2) = q.map fun p => Inn.row p.1 p.2 := by
        rw [List.map_set]
        simp only [hrow]
        apply List.ext_getElem?
        intro i
        by_cases e : m = i
        · subst e
          have := get_lt' hm'
          rw [List.getElem?_set_self (by simpa using this), List.getElem?_map, hm']
          rfl
        · rw [List.getElem?_set_ne e]
      simp only [D2, List.set_cons_succ, hr, List.map_set]
    rw [← e]
    exact O'
/-- A row gets a new slice. -/
theorem sim_setRow {γ δ : Type} {x y y' : AV} {ps : PS A} {a a' : A} (O : Hold B h ((l ++ [(y', obS (Inn.sub a'))]) ++ D2 x ps)) {s : Sl A} (hs : pj ps = s) {m j : Nat} {k : Int} (hk : k = (m : Int)) (hm : (ps.getD [])[m]? = some (a, y))
    (h2 : j + 1 ≤ Row.w A) (h4 : splice (Inn.row a y) j [y'] = Inn.row a' y')
    {F : Heap → Option γ} {Y : Option δ} {Q : δ → γ → Prop} (K : ∀ ps' h', pj ps' = setS s k a' → Hold B h' (l ++ D2 x ps') → Sim (F h') Y Q) : Sim (obind (aStore 1 (elp x m j) y' h) F) Y Q := by
  subst hs hk
  cases ps with
  | none => simp at hm
  | some q =>
    have hm' : q[m]? = some (a, y) := hm
    have hlt := get_lt' hm'
    obtain ⟨o, rfl, ho⟩ := D2.head O
    have c1 := O.one (s := Inn.sub a') l.length (x := y') (by simp)
    have e : aStore 1 (elp (.sl o q.length 0 q.length) m j) y' h = some (h.set o ⟨Row.w A, (q.set m (a', y')).map fun p => Inn.row p.1 p.2⟩) := by
      simp only [elp, aStore, ho, List.length_map, if_true, Nat.zero_add, List.getElem?_map, hm', Option.map_some, c1.1]
      rw [if_pos ⟨rfl, by rw [Inn.len]; exact h2, by simp [c1.2]⟩, h4, List.map_set]
    rw [e]
    have O' := O.update (i := l.length + 1) (o := o) (v' := .sl (Row.w A) ((q.set m (a', y')).map fun p => Inn.row p.1 p.2)) (x := .sl o q.length 0 q.length) (by simp [D2]; rfl) rfl rfl
    refine K (some (q.set m (a', y'))) _ (by simp [pj, setS, List.map_set]) ?_
    have e1 : ((l ++ [((y', obS (Inn.sub a')) : Ent)]) ++ D2 (A := A) (.sl o q.length 0 q.length) (some q)).set (l.length + 1) ((EV.sl (Row.w A) ((q.set m (a', y')).map fun p => Inn.row p.1 p.2)).at o, .sl (Row.w A) ((q.set m (a', y')).map fun p => Inn.row p.1 p.2)) = (l ++ [(y', obS (Inn.sub a'))]) ++ ((AV.sl o q.length 0 q.length, .sl (Row.w A) ((q.set m (a', y')).map fun p => Inn.row p.1 p.2)) :: q.map fun p => (p.2, obS (Inn.sub p.1))) := by
      rw [List.set_append_right _ _ (by simp)]
      simp [D2, EV.at]
    rw [e1] at O'
    have key : ∀ (I : List Ent) (m : Nat) (e' : Ent), m < I.length → ∃ d, ([e'] ++ I).Perm (I.set m e' ++ [d]) := by
      intro I
      induction I with
      | nil => intro m e' h; simp at h
      | cons i I ih =>
        intro m e' h
        cases m with
        | zero =>
          refine ⟨i, ?_⟩
          simp only [List.set_cons_zero, List.cons_append, List.nil_append]
          exact (List.perm_append_singleton i I).symm.cons e'
        | succ m =>
          obtain ⟨d, hd⟩ := ih m e' (by simpa using h)
          refine ⟨d, ?_⟩
          simp only [List.set_cons_succ, List.cons_append, List.nil_append] at hd ⊢
          exact (List.Perm.swap i e' I).trans (hd.cons i)
    obtain ⟨d, hd⟩ := key (q.map fun p => (p.2, obS (Inn.sub p.1))) m (y', obS (Inn.sub a')) (by simpa using hlt)
    have hD : D2 (A := A) (.sl o q.length 0 q.length) (some (q.set m (a', y'))) = (AV.sl o q.length 0 q.length, .sl (Row.w A) ((q.set m (a', y')).map fun p => Inn.row p.1 p.2)) :: (q.map fun p => ((p.2, obS (Inn.sub p.1)) : Ent)).set m (y', obS (Inn.sub a')) := by
      simp only [D2, List.map_set]
    refine (O'.perm (L' := (l ++ D2 (A := A) (.sl o q.length 0 q.length) (some (q.set m (a', y')))) ++ [d]) ?_).left
    rw [hD, List.append_assoc, List.append_assoc]
    refine List.Perm.append_left l ?_
    have h5 : ([((y', obS (Inn.sub a')) : Ent)] ++ ((AV.sl o q.length 0 q.length, EV.sl (Row.w A) ((q.set m (a', y')).map fun p => Inn.row p.1 p.2)) :: q.map fun p => (p.2, obS (Inn.sub p.1)))).Perm ((AV.sl o q.length 0 q.length, EV.sl (Row.w A) ((q.set m (a', y')).map fun p => Inn.row p.1 p.2)) :: ([(y', obS (Inn.sub a'))] ++ q.map fun p => (p.2, obS (Inn.sub p.1)))) := List.Perm.swap _ _ _
    exact h5.trans (hd.cons _)
theorem Hold.addnils {L : List Ent} (O : Hold B h L) : ∀ n : Nat, Hold B h (L ++ List.replicate n (nilS, .nil))
  | 0 => by simpa using O
  | n + 1 => by
    have := (Hold.addnils O n).addnil
    rw [List.append_assoc] at this
    rwa [List.replicate_succ']
/-- make, of a table of such rows. -/
theorem sim_makeN {γ δ : Type} (O : Hold B h l) (a : A) {z : List AV} {n : Int} {bytes : Nat} (hz : z = Inn.row a nilS) (hsub : Inn.sub a = none) (hb : bytes ≤ 1024)
    {F : AV → Heap → Option γ} {G : List A → Option δ} {Q : δ → γ → Prop} (K : ∀ s x' ps' h', pj ps' = some s → Hold B h' (l ++ D2 x' ps') → Sim (F x' h') (G s) Q) : Sim (obind2 (aMakeSlice z bytes (iv n) (iv n) h) F) (obind (makeO a n) G) Q := by
  subst hz
  unfold makeO
  split
  · rename_i hn
    obtain ⟨m, rfl⟩ := Int.eq_ofNat_of_zero_le hn.1
    rw [make_ok _ _ (by omega) hb, obind2_sm, obind_sm]
    have O1 := (O.alloc (.sl (Row.w A) (List.replicate m (Inn.row a nilS))) rfl).addnils m
    refine K (List.replicate m a) _ (some (List.replicate m (a, nilS))) _ (by simp [pj]) ?_
    have e : (Inn.row a nilS).length = Row.w A := Inn.len a nilS
    simp only [D2, List.map_replicate, hsub, Int.toNat_natCast]
    rw [e]
    simpa [EV.at, obS, List.append_assoc] using O1
  · exact sim_no
/-- A table that a call hands over. -/
theorem sim_handN [Scal C] {γ δ : Type} (O : Hold B h l) {s : Sl A} {ok : Bool}
    {F : AV → Heap → Option γ} {Y : Option δ} {Q : δ → γ → Prop} (K : ∀ x' ps' h', pj ps' = s → Hold B h' (l ++ D2 x' ps') → Sim (F x' h') Y Q) : Sim (obind2 (hand (rD s) ok h) F) Y Q := by
  cases s with
  | none =>
    show Sim (obind2 (hand nilS ok h) F) Y Q
    rw [hand_nil]
    exact K nilS none h rfl O.addnil
  | some t =>
    have key : ∀ (t : List A) (L : List Ent) (g : Heap), Hold B g L → ∃ (q : List (A × AV)) (o : Heap), q.map Prod.fst = t ∧ matR (mat 7) (t.map fun a => Inn.row a (rS (Inn.sub a))) g.length = (q.map (fun p => Inn.row p.1 p.2), o) ∧ Hold B (g ++ o) (L ++ q.map fun p => (p.2, obS (Inn.sub p.1))) := by
      intro t
      induction t with
      | nil => intro L g Og; exact ⟨[], [], rfl, rfl, by simpa using Og⟩
      | cons a t ih =>
        intro L g Og
        obtain ⟨q, o, h1, h2, h3⟩ := ih _ _ (Og.allocS (Inn.sub a))
        have hm := Inn.mat 7 a g.length _ _ (mat_rS 6 g.length (Inn.sub a))
        refine ⟨(a, matS (Inn.sub a) g.length) :: q, matH (Inn.sub a) ++ o, by simp [h1], ?_, by simpa [List.append_assoc] using h3⟩
        rw [List.length_append] at h2
        simp only [List.map_cons, matR, hm, h2]
    have hno : noF depth (rD (some t)) = true := by
      show (t.map fun a => Inn.row a (rS (Inn.sub a))).all (fun r => r.all (noF 7)) = true
      rw [List.all_eq_true]
      intro r hr
      obtain ⟨a, _, rfl⟩ := List.mem_map.1 hr
      exact Inn.noF 7 a (noF_rS 6 _)
    -- the rows, laid behind the table's own object; where they lie does not depend on what that object holds
    obtain ⟨q0, o0, g1, g2, _⟩ := key t (l ++ [((EV.sl (Row.w A) []).at h.length, .sl (Row.w A) [])]) (h ++ [⟨Row.w A, []⟩]) (O.alloc (.sl (Row.w A) []) rfl)
    obtain ⟨q, o, h1, h2, h3⟩ := key t (l ++ [((EV.sl (Row.w A) (q0.map fun p => Inn.row p.1 p.2)).at h.length, .sl (Row.w A) (q0.map fun p => Inn.row p.1 p.2))]) (h ++ [⟨Row.w A, q0.map fun p => Inn.row p.1 p.2⟩]) (O.alloc (.sl (Row.w A) (q0.map fun p => Inn.row p.1 p.2)) rfl)
    have hl : (h ++ [(⟨Row.w A, []⟩ : AObj)]).length = (h ++ [(⟨Row.w A, q0.map fun p => Inn.row p.1 p.2⟩ : AObj)]).length := by simp
    rw [hl] at g2
    rw [g2] at h2
    have hq : q0.map (fun p => Inn.row p.1 p.2) = q.map fun p => Inn.row p.1 p.2 := congrArg Prod.fst h2
    have ho : o0 = o := congrArg Prod.snd h2
    have hlen : q0.length = t.length := by rw [← g1]; simp
    have e : hand (rD (some t)) ok h = some (.sl h.length t.length 0 t.length, h ++ (⟨Row.w A, q0.map fun p => Inn.row p.1 p.2⟩ :: o0)) := by
      apply hand_of hno
      show (AV.sl h.length (t.map fun a => Inn.row a (rS (Inn.sub a))).length 0 (t.map fun a => Inn.row a (rS (Inn.sub a))).length, (⟨Row.w A, (matR (mat 7) (t.map fun a => Inn.row a (rS (Inn.sub a))) (h.length + 1)).1⟩ : AObj) :: (matR (mat 7) (t.map fun a => Inn.row a (rS (Inn.sub a))) (h.length + 1)).2) = _
      have : (h ++ [(⟨Row.w A, q0.map fun p => Inn.row p.1 p.2⟩ : AObj)]).length = h.length + 1 := by simp
      rw [this] at g2
      rw [g2]
      simp
    rw [e, obind2_sm]
    refine K _ (some q) _ (by simp [pj, h1]) ?_
    have hlen2 : q.length = t.length := by rw [← h1]; simp
    simp only [D2]
    rw [hq, ho]
    rw [hq] at h3
    simpa [EV.at, hlen2, List.append_assoc] using h3
/-- A table that a call hands over in a struct or among results. -/
theorem sim_handNC [Scal C] (d : Nat) {γ δ : Type} (O : Hold B h l) {s : Sl A} {ok : Bool} (W : AV → AV) (hW : ∀ b, mat depth (W (rD s)) b = (W (mat (d + 2) (rD s) b).1, (mat (d + 2) (rD s) b).2)) (hn : noF (d + 2) (rD s) = true → noF depth (W (rD s)) = true)
    {F : AV → Heap → Option γ} {Y : Option δ} {Q : δ → γ → Prop} (K : ∀ x' ps' h', pj ps' = s → Hold B h' (l ++ D2 x' ps') → Sim (F (W x') h') Y Q) : Sim (obind2 (hand (W (rD s)) ok h) F) Y Q := by
  cases s with
  | none =>
    have e : hand (W (rD (none : Sl A))) ok h = some (W nilS, h ++ []) := hand_of (hn rfl) (hW _)
    rw [e, obind2_sm, List.append_nil]
    exact K nilS none h rfl O.addnil
  | some t =>
    have key : ∀ (t : List A) (L : List Ent) (g : Heap), Hold B g L → ∃ (q : List (A × AV)) (o : Heap), q.map Prod.fst = t ∧ matR (mat (d + 1)) (t.map fun a => Inn.row a (rS (Inn.sub a))) g.length = (q.map (fun p => Inn.row p.1 p.2), o) ∧ Hold B (g ++ o) (L ++ q.map fun p => (p.2, obS (Inn.sub p.1))) := by
      intro t
      induction t with
      | nil => intro L g Og; exact ⟨[], [], rfl, rfl, by simpa using Og⟩
      | cons a t ih =>
        intro L g Og
        obtain ⟨q, o, h1, h2, h3⟩ := ih _ _ (Og.allocS (Inn.sub a))
        have hm := Inn.mat (d + 1) a g.length _ _ (mat_rS d g.length (Inn.sub a))
        refine ⟨(a, matS (Inn.sub a) g.length) :: q, matH (Inn.sub a) ++ o, by simp [h1], ?_, by simpa [List.append_assoc] using h3⟩
        rw [List.length_append] at h2
        simp only [List.map_cons, matR, hm, h2]
    have hno : noF (d + 2) (rD (some t)) = true := by
      show (t.map fun a => Inn.row a (rS (Inn.sub a))).all (fun r => r.all (noF (d + 1))) = true
      rw [List.all_eq_true]
      intro r hr
      obtain ⟨a, _, rfl⟩ := List.mem_map.1 hr
      exact Inn.noF (d + 1) a (noF_rS d _)
    -- the rows, laid behind the table's own object; where they lie does not depend on what that object holds
    obtain ⟨q0, o0, g1, g2, _⟩ := key t (l ++ [((EV.sl (Row.w A) []).at h.length, .sl (Row.w A) [])]) (h ++ [⟨Row.w A, []⟩]) (O.alloc (.sl (Row.w A) []) rfl)
    obtain ⟨q, o, h1, h2, h3⟩ := key t (l ++ [((EV.sl (Row.w A) (q0.map fun p => Inn.row p.1 p.2)).at h.length, .sl (Row.w A) (q0.map fun p => Inn.row p.1 p.2))]) (h ++ [⟨Row.w A, q0.map fun p => Inn.row p.1 p.2⟩]) (O.alloc (.sl (Row.w A) (q0.map fun p => Inn.row p.1 p.2)) rfl)
    have hl : (h ++ [(⟨Row.w A, []⟩ : AObj)]).length = (h ++ [(⟨Row.w A, q0.map fun p => Inn.row p.1 p.2⟩ : AObj)]).length := by simp
    rw [hl] at g2
    rw [g2] at h2
    have hq : q0.map (fun p => Inn.row p.1 p.2) = q.map fun p => Inn.row p.1 p.2 := congrArg Prod.fst h2
    have ho : o0 = o := congrArg Prod.snd h2
    have hlen : q0.length = t.length := by rw [← g1]; simp
    have e : hand (W (rD (some t))) ok h = some (W (.sl h.length t.length 0 t.length), h ++ (⟨Row.w A, q0.map fun p => Inn.row p.1 p.2⟩ :: o0)) := by
      have e0 : mat (d + 2) (rD (some t)) h.length = (.sl h.length t.length 0 t.length, ⟨Row.w A, q0.map fun p => Inn.row p.1 p.2⟩ :: o0) := by
        show (AV.sl h.length (t.map fun a => Inn.row a (rS (Inn.sub a))).length 0 (t.map fun a => Inn.row a (rS (Inn.sub a))).length, (⟨Row.w A, (matR (mat (d + 1)) (t.map fun a => Inn.row a (rS (Inn.sub a))) (h.length + 1)).1⟩ : AObj) :: (matR (mat (d + 1)) (t.map fun a => Inn.row a (rS (Inn.sub a))) (h.length + 1)).2) = _
        have : (h ++ [(⟨Row.w A, q0.map fun p => Inn.row p.1 p.2⟩ : AObj)]).length = h.length + 1 := by simp
        rw [this] at g2
        rw [g2]
        simp
      apply hand_of (hn hno)
      rw [hW, e0]
    rw [e, obind2_sm]
    refine K _ (some q) _ (by simp [pj, h1]) ?_
    have hlen2 : q.length = t.length := by rw [← h1]; simp
    simp only [D2]
    rw [hq, ho]
    rw [hq] at h3
    simpa [EV.at, hlen2, List.append_assoc] using h3
end
instance {C : Type} [Row C] : Inn (Sl C) C where
  sub a := a
  row _ x := [x]
  enc _ := rfl
  len _ _ := rfl
  flat _ x hx := by simp [hx]
  snap h d a x hx := by simp [omap, hx]
  rel h d a x hx := by simp [omap, hx]
  ids h d a x := by simp
  mat d a b y o hy := by simp [matL, hy]
  noF d a hx := by simp [hx]
instance : Inn Stroke Point where
  sub a := a.points
  row _ x := [x]
  enc _ := rfl
  len _ _ := rfl
  flat _ x hx := by simp [hx]
  snap h d a x hx := by simp [omap, hx, Row.cells, Stroke.cells]
  rel h d a x hx := by simp [omap, hx]
  ids h d a x := by simp
  mat d a b y o hy := by simp [matL, hy]
  noF d a hx := by simp [hx]
instance : Inn Line Int where
  sub a := a.items
  row a x := [iv a.top, iv a.bottom, x]
  enc _ := rfl
  len _ _ := rfl
  flat _ x hx := by simp [hx]
  snap h d a x hx := by simp [omap, hx, Row.cells, Line.cells, snap_iv]
  rel h d a x hx := by simp [omap, hx, rel_iv]
  ids h d a x := by simp [ids_iv]
  mat d a b y o hy := by simp [matL, hy, mat_iv]
  noF d a hx := by simp [hx, noF_iv]
theorem bndI_le {x : Option Int} {d n m : Nat} (hd : d ≤ n) (h : bndI x d n = some m) : m ≤ n := by
  cases x with
  | none =>
    cases h
    exact hd
  | some k =>
    have h' : Eng.idx (iv k) (n + 1) = some m := h
    unfold Eng.idx at h'
    simp only [iv] at h'
    split at h'
    · cases h'
      omega
    · cases h'
/-- A part of an owned slice: what it reads is the part. -/
theorem sim_subO {A γ δ : Type} [Row A] [NR A] {B : Base} {h : Heap} {L : List Ent} (O : Hold B h L) (i : Nat) {x : AV} {s : Sl A} (hi : L[i]? = some (x, obS s)) (lo up : Option Int) {F : AV → Option γ} {G : Sl A → Option δ} {Q : δ → γ → Prop}
    (K : ∀ x' r, snapD h x' = some r → Sim (F x') (G r) Q) : Sim (obind (aSlice (Row.w A) x (lo.map iv) (up.map iv) h) F) (obind (subS s lo up) G) Q := by
  have hb : ∀ (x : Option Int) d n, bound (x.map iv) d n = bndI x d n := fun x d n => by cases x <;> rfl
  cases s with
  | none =>
    have := O.nilE hi
    subst this
    exact sim_subX (s := (none : Sl A)) lo up fun r => K _ _ (snapD_enc _ _)
  | some l =>
    obtain ⟨o, rfl, h2⟩ := O.sl (k := Row.w A) (rows := l.map Row.cells) hi
    rw [List.length_map]
    have e : aSlice (Row.w A) (.sl o l.length 0 l.length) (lo.map iv) (up.map iv) h = obind (bndI up l.length l.length) fun hh => obind (bndI lo 0 hh) fun l' => some (.sl o l.length (0 + l') (hh - l')) := by
      show (match h[o]? with | some ob => if ob.rows.length = l.length ∧ ob.k = Row.w A then match bound (up.map iv) l.length l.length with | some hh => (match bound (lo.map iv) 0 hh with | some l' => some (AV.sl o l.length (0 + l') (hh - l')) | none => none) | none => none else none | none => none) = _
      rw [h2]
      simp only [List.length_map]
      rw [if_pos ⟨trivial, trivial⟩, hb]
      cases bndI up l.length l.length with
      | none => rfl
      | some hh =>
        simp only [hb, obind_sm]
        cases bndI lo 0 hh <;> rfl
    rw [e]
    unfold subS
    simp only [Option.getD_some]
    cases e1 : bndI up l.length l.length with
    | none => exact sim_no
    | some hh =>
      simp only [obind_sm]
      cases e2 : bndI lo 0 hh with
      | none => exact sim_no
      | some l' =>
        have b1 := bndI_le (Nat.le_refl _) e1
        have b2 := bndI_le (Nat.zero_le _) e2
        refine K _ _ ?_
        have h1 : Eng.snap h depth (AV.sl o l.length (0 + l') (hh - l')) = some (.fs (Row.w A) (((l.take hh).drop l').map Row.cells)) := by
          show (match h[o]? with | some ob => if ob.rows.length = l.length ∧ 0 + l' + (hh - l') ≤ l.length then (match omap (omap (Eng.snap h 7)) ((ob.rows.drop (0 + l')).take (hh - l')) with | some rows => some (AV.fs ob.k rows) | none => none) else none | none => none) = _
          rw [h2]
          simp only [List.length_map]
          rw [if_pos ⟨trivial, by omega⟩, Nat.zero_add, ← List.map_drop, ← List.map_take, NR.snap_rows, List.drop_take]
        unfold snapD
        rw [h1]
        exact Cod.de (some ((l.take hh).drop l') : Sl A)
section
variable {A γ δ : Type} [Row A] [NR A] {B : Base} {h : Heap} {L : List Ent} {x : AV} {s : Sl A} {F : AV → Option γ} {G : Sl A → Option δ} {Q : δ → γ → Prop}
theorem sim_subO00 (O : Hold B h L) (i : Nat) (hi : L[i]? = some (x, obS s)) (K : ∀ x' r, snapD h x' = some r → Sim (F x') (G r) Q) : Sim (obind (aSlice (Row.w A) x none none h) F) (obind (subS s none none) G) Q := sim_subO O i hi none none K
theorem sim_subO10 {lo : Int} (O : Hold B h L) (i : Nat) (hi : L[i]? = some (x, obS s)) (K : ∀ x' r, snapD h x' = some r → Sim (F x') (G r) Q) : Sim (obind (aSlice (Row.w A) x (some (iv lo)) none h) F) (obind (subS s (some lo) none) G) Q := sim_subO O i hi (some lo) none K
theorem sim_subO01 {up : Int} (O : Hold B h L) (i : Nat) (hi : L[i]? = some (x, obS s)) (K : ∀ x' r, snapD h x' = some r → Sim (F x') (G r) Q) : Sim (obind (aSlice (Row.w A) x none (some (iv up)) h) F) (obind (subS s none (some up)) G) Q := sim_subO O i hi none (some up) K
theorem sim_subO11 {lo up : Int} (O : Hold B h L) (i : Nat) (hi : L[i]? = some (x, obS s)) (K : ∀ x' r, snapD h x' = some r → Sim (F x') (G r) Q) : Sim (obind (aSlice (Row.w A) x (some (iv lo)) (some (iv up)) h) F) (obind (subS s (some lo) (some up)) G) Q := sim_subO O i hi (some lo) (some up) K
theorem cmp_eqN {A : Type} [Row A] (s : Sl A) : aCmp .eql .slice (Sl.enc s) nilS = some (bv s.isNone) := by cases s <;> rfl
theorem cmp_neN {A : Type} [Row A] (s : Sl A) : aCmp .neq .slice (Sl.enc s) nilS = some (bv (!s.isNone)) := by cases s <;> rfl
theorem Tab.ixl {A : Type} [Row A] {h : Heap} {x : AV} {s : Sl A} (T : Tab h x s) {i : Int} {m : Nat} (hi : i = (m : Int)) (hm : m < (s.getD []).length) : aIndexAddr (Row.w A) x (iv i) h = some (elp x m 0) := T.ixm hi (List.getElem?_eq_getElem hm)
theorem setS_len {A : Type} (s : Sl A) (i : Int) (v : A) : ((setS s i v).getD []).length = (s.getD []).length := by cases s <;> simp [setS]
end
section
variable {γ δ : Type} {Q : δ → γ → Prop} {Y : Option δ} {b : Bool}
/-- A guarded run that writes: by cases on its condition. -/
theorem sim_split {X : Option γ} {y y' : Option δ} (h1 : b = true → Sim X y Q) (h2 : b = false → Sim X y' Q) : Sim X (cond b y y') Q := by
  cases b with
  | true => exact h1 rfl
  | false => exact h2 rfl
theorem sim_gonT {X E : Option (AV × Heap)} {F : AV → Heap → Option γ} (hb : b = true) (K : Sim (obind2 X F) Y Q) : Sim (obind2 (guardB (bv b) true X E) F) Y Q := by subst hb; exact K
theorem sim_gonF {X E : Option (AV × Heap)} {F : AV → Heap → Option γ} (hb : b = false) (K : Sim (obind2 X F) Y Q) : Sim (obind2 (guardB (bv b) false X E) F) Y Q := by subst hb; exact K
theorem sim_goffT {X : Option (AV × Heap)} {h : Heap} {F : AV → Heap → Option γ} (hb : b = false) (K : Sim (F und h) Y Q) : Sim (obind2 (guardB (bv b) true X (some (und, h))) F) Y Q := by subst hb; exact K
theorem sim_goffF {X : Option (AV × Heap)} {h : Heap} {F : AV → Heap → Option γ} (hb : b = true) (K : Sim (F und h) Y Q) : Sim (obind2 (guardB (bv b) false X (some (und, h))) F) Y Q := by subst hb; exact K
theorem sim_as1 {α : Type} {A : Option α} {f : α → Option (AV × Heap)} {F : AV → Heap → Option γ} (K : Sim (obind A fun v => obind2 (f v) F) Y Q) : Sim (obind2 (obind A f) F) Y Q := by
  cases A with
  | none => exact K
  | some a => exact K
theorem sim_as2 {A : Option (AV × Heap)} {f : AV → Heap → Option (AV × Heap)} {F : AV → Heap → Option γ} (K : Sim (obind2 A fun v h => obind2 (f v h) F) Y Q) : Sim (obind2 (obind2 A f) F) Y Q := by
  cases A with
  | none => exact K
  | some a => exact K
theorem sim_sm2 {v : AV} {h : Heap} {F : AV → Heap → Option γ} (K : Sim (F v h) Y Q) : Sim (obind2 (some (v, h)) F) Y Q := K
theorem sim_pickN {x y : AV} {F : AV → Option γ} (hb : b = false) (K : Sim (F x) Y Q) : Sim (obind (aPick (bv b) y x) F) Y Q := by subst hb; exact K
theorem sim_pickM {x y : AV} {F : AV → Option γ} (hb : b = true) (K : Sim (F x) Y Q) : Sim (obind (aPick (bv b) x y) F) Y Q := by subst hb; exact K
end
section
variable {A : Type} [Row A] {B : Base} {h : Heap} {L : List Ent} {γ δ : Type}
/-- What a function that fills a slice with marks does to an own slice. -/
def MarkOK (f : List AV → Heap → Option (AV × Heap)) (mk : Sl A → Int → Option (Int × Sl A)) : Prop :=
  ∀ (s : Sl A) (k r : Int) (s' : Sl A), mk s k = some (r, s') → (s = none ∧ s' = none ∧ ∀ h, f [nilS, iv k] h = some (iv r, h)) ∨
    ∃ l l' : List A, s = some l ∧ s' = some l' ∧ l'.length = l.length ∧ ∀ (o : Nat) (h : Heap), h[o]? = some ⟨Row.w A, l.map Row.cells⟩ → f [.sl o l.length 0 l.length, iv k] h = some (iv r, h.set o ⟨Row.w A, l'.map Row.cells⟩)
theorem sim_mark {env : Nat → Contract} {g : Nat} {f : List AV → Heap → Option (AV × Heap)} {mk : Sl A → Int → Option (Int × Sl A)} (O : Hold B h L) (i : Nat) {x : AV} {s : Sl A} (hi : L[i]? = some (x, obS s)) {k : Int} (he : env g = .gen f) (hf : MarkOK f mk)
    {F : AV → Heap → Option γ} {G : Int × Sl A → Option δ} {Q : δ → γ → Prop} (K : ∀ r s' h', Hold B h' (L.set i (x, obS s')) → Sim (F (iv r) h') (G (r, s')) Q) : Sim (obind2 (aCall (env g) [x, iv k] h) F) (obind (mk s k) G) Q := by
  rw [he]
  show Sim (obind2 (f [x, iv k] h) F) _ Q
  cases hm : mk s k with
  | none => exact sim_no
  | some p =>
    obtain ⟨r, s'⟩ := p
    rw [obind_sm]
    rcases hf s k r s' hm with ⟨rfl, rfl, h1⟩ | ⟨l, l', rfl, rfl, hl, h1⟩
    · have := O.nilE hi
      subst this
      rw [h1, obind2_sm]
      refine K r none h ?_
      have e : L.set i (nilS, obS (none : Sl A)) = L := by
        obtain ⟨hlt, e⟩ := List.getElem?_eq_some_iff.1 hi
        rw [← e]
        exact List.set_getElem_self hlt
      rw [e]
      exact O
    · obtain ⟨o, rfl, h5⟩ := O.sl (k := Row.w A) (rows := l.map Row.cells) hi
      have h2 := h1 o h h5
      rw [List.length_map]
      rw [h2, obind2_sm]
      have O' := O.update (o := o) (v' := .sl (Row.w A) (l'.map Row.cells)) hi rfl rfl
      refine K r (some l') _ ?_
      simpa [obS, EV.at, hl] using O'
end
section
variable {C γ δ : Type} [Row C] {B : Base} {h : Heap} {l : List Ent} {Q : δ → γ → Prop}
/-- A row of a table of slices grows. -/
theorem sim_appRow {x y src : AV} {ps : PS (Sl C)} (O : Hold B h (l ++ D2 x ps)) {s : Sl (Sl C)} (hs : pj ps = s) {m : Nat} {k : Int} {a : Sl C} (hk : k = (m : Int)) (hm : (ps.getD [])[m]? = some (a, y)) (new : List C) {bytes : Nat} (hsrc : aSrc false (Row.w C) src h = some (new.map Row.cells)) (hb : bytes ≤ 1024)
    {F : AV → AV → Heap → Option γ} {G : Sl C → Option δ} (K : ∀ v p ps' h', pj ps' = setS s k (appS a new) → Hold B h' (l ++ D2 x ps') → Sim (F v p h') (G (appS a new)) Q) :
    Sim (obind2 (aAppend false (Row.w C) bytes y src h) fun v h' => obind (aIndexAddr 1 x (iv k) h') fun p => obind (aStore 1 p v h') (F v p)) (obind (appO a new) G) Q := by
  subst hs hk
  unfold appO
  split
  · rename_i hl
    cases ps with
    | none => simp at hm
    | some q =>
      have hm' : q[m]? = some (a, y) := hm
      have hlt := get_lt' hm'
      have hi : (l ++ D2 x (some q))[l.length + 1 + m]? = some (y, obS a) := D2.at (A := Sl C) (x := x) hm
      obtain ⟨y', h', e, O'⟩ := O.append (A := C) _ hi hsrc hb hl
      rw [e, obind2_sm, obind_sm]
      have h0 : ((l ++ D2 x (some q)).set (l.length + 1 + m) (y', obS (appS a new)))[l.length]? = some (x, .sl 1 (q.map fun p => [p.2])) := by
        rw [List.getElem?_set_ne (by omega), List.getElem?_append_right (Nat.le_refl _)]
        simp only [Nat.sub_self, D2, List.getElem?_cons_zero]
        rfl
      obtain ⟨o, hx, ho⟩ := O'.sl h0
      rw [List.length_map] at hx
      subst hx
      have c1 : y'.cells = [y'] ∧ y'.flat = true := O'.one (A := C) (s := appS a new) (l.length + 1 + m) (by
        rw [List.getElem?_set_self]
        exact get_lt' hi)
      have e1 : aIndexAddr 1 (.sl o q.length 0 q.length) (iv ((m : Nat) : Int)) h' = some (.ptr o q.length m 0) := by
        simp only [aIndexAddr, ho, List.length_map]
        rw [if_pos ⟨trivial, trivial⟩, idx_lt hlt]
        simp only [Nat.zero_add]
      have e2 : aStore 1 (.ptr o q.length m 0) y' h' = some (h'.set o ⟨1, (q.set m (appS a new, y')).map fun p => [p.2]⟩) := by
        simp only [aStore, ho, List.length_map, if_true, List.getElem?_map, hm', Option.map_some, c1.1]
        rw [if_pos ⟨rfl, by simp, by simp [c1.2]⟩]
        simp only [splice, List.take_zero, List.nil_append, List.length_singleton, Nat.zero_add, List.drop_succ_cons, List.drop_nil, List.append_nil, List.map_set]
      rw [e1, obind_sm, e2, obind_sm]
      have O2 := O'.update (o := o) (v' := .sl 1 ((q.set m (appS a new, y')).map fun p => [p.2])) h0 rfl rfl
      refine K _ _ (some (q.set m (appS a new, y'))) _ (by simp [pj, setS, List.map_set]) ?_
      have e3 : (((l ++ D2 (A := Sl C) (.sl o q.length 0 q.length) (some q)).set (l.length + 1 + m) (y', obS (appS a new))).set l.length ((EV.sl 1 ((q.set m (appS a new, y')).map fun p => [p.2])).at o, .sl 1 ((q.set m (appS a new, y')).map fun p => [p.2]))) = l ++ D2 (A := Sl C) (.sl o q.length 0 q.length) (some (q.set m (appS a new, y'))) := by
        rw [List.set_append_right _ _ (by omega), List.set_append_right _ _ (by omega)]
        have : l.length + 1 + m - l.length = m + 1 := by omega
        rw [this, Nat.sub_self]
        simp only [D2, List.set_cons_succ, List.set_cons_zero, EV.at, List.length_map, List.length_set, List.map_set]
        rfl
      rw [← e3]
      exact O2
  · exact sim_no
end
section
variable {A : Type} [Row A] {B : Base} {h : Heap} {L : List Ent} {γ δ : Type}
theorem Hold.mark {f : List AV → Heap → Option (AV × Heap)} {mk : Sl A → Int → Option (Int × Sl A)} (O : Hold B h L) (i : Nat) {x : AV} {s : Sl A} (hi : L[i]? = some (x, obS s)) {k r : Int} {s' : Sl A} (hf : MarkOK f mk) (hm : mk s k = some (r, s')) : ∃ h', f [x, iv k] h = some (iv r, h') ∧ Hold B h' (L.set i (x, obS s')) := by
  rcases hf s k r s' hm with ⟨rfl, rfl, h1⟩ | ⟨l, l', rfl, rfl, hl, h1⟩
  · have := O.nilE hi
    subst this
    refine ⟨h, h1 h, ?_⟩
    have e : L.set i (nilS, obS (none : Sl A)) = L := by
      obtain ⟨hlt, e⟩ := List.getElem?_eq_some_iff.1 hi
      rw [← e]
      exact List.set_getElem_self hlt
    rw [e]
    exact O
  · obtain ⟨o, rfl, h5⟩ := O.sl (k := Row.w A) (rows := l.map Row.cells) hi
    rw [List.length_map]
    refine ⟨_, h1 o h h5, ?_⟩
    have O' := O.update (o := o) (v' := .sl (Row.w A) (l'.map Row.cells)) hi rfl rfl
    simpa [obS, EV.at, hl] using O'
/-- Marks in a table of slices. -/
def MarkDOK {C : Type} [Row C] [Inn A C] (f : List AV → Heap → Option (AV × Heap)) (mk : Sl A → Int → Option (Int × Sl A)) : Prop :=
  ∀ (B : Base) (h : Heap) (l : List Ent) (x : AV) (ps : PS A) (k r : Int) (s' : Sl A), Hold B h (l ++ D2 x ps) → mk (pj ps) k = some (r, s') → ∃ h' ps', f [x, iv k] h = some (iv r, h') ∧ pj ps' = s' ∧ Hold B h' (l ++ D2 x ps')
theorem sim_markD {C : Type} [Row C] [Inn A C] {env : Nat → Contract} {g : Nat} {f : List AV → Heap → Option (AV × Heap)} {mk : Sl A → Int → Option (Int × Sl A)} {l : List Ent} {x : AV} {ps : PS A} (O : Hold B h (l ++ D2 x ps)) {s : Sl A} (hs : pj ps = s) {k : Int} (he : env g = .gen f) (hf : MarkDOK f mk)
    {F : AV → Heap → Option γ} {G : Int × Sl A → Option δ} {Q : δ → γ → Prop} (K : ∀ r s' ps' h', pj ps' = s' → Hold B h' (l ++ D2 x ps') → Sim (F (iv r) h') (G (r, s')) Q) : Sim (obind2 (aCall (env g) [x, iv k] h) F) (obind (mk s k) G) Q := by
  subst hs
  rw [he]
  show Sim (obind2 (f [x, iv k] h) F) _ Q
  cases hm : mk (pj ps) k with
  | none => exact sim_no
  | some p =>
    obtain ⟨r, s'⟩ := p
    obtain ⟨h', ps', e1, e2, e3⟩ := hf B h l x ps k r s' O hm
    rw [obind_sm, e1, obind2_sm]
    exact K r s' ps' h' e2 e3
end
section
variable {B : Base} {h : Heap} {l d1 d2 d3 n l' : List Ent}
/-! Several tables of rows: one behind another. -/
theorem Hold.sw20 (O : Hold B h (l ++ d1 ++ d2)) : Hold B h (l ++ d2 ++ d1) := O.perm (by
  rw [List.append_assoc, List.append_assoc]
  exact (List.perm_append_comm).append_left l)
theorem Hold.sw31 (O : Hold B h (l ++ d1 ++ d2 ++ d3)) : Hold B h (l ++ d1 ++ d3 ++ d2) := Hold.sw20 O
theorem Hold.sw30 (O : Hold B h (l ++ d1 ++ d2 ++ d3)) : Hold B h (l ++ d2 ++ d3 ++ d1) := O.perm (by
  rw [List.append_assoc, List.append_assoc, List.append_assoc, List.append_assoc]
  refine List.Perm.append_left l ?_
  rw [← List.append_assoc d2 d3 d1]
  exact List.perm_append_comm)
theorem Hold.rot2 (O : Hold B h (l ++ d1 ++ d2 ++ n)) : Hold B h (l ++ n ++ d1 ++ d2) := O.perm (by
  rw [List.append_assoc, List.append_assoc, List.append_assoc, List.append_assoc]
  refine List.Perm.append_left l ?_
  rw [← List.append_assoc d1 d2 n]
  exact List.perm_append_comm)
theorem Hold.rot3 (O : Hold B h (l ++ d1 ++ d2 ++ d3 ++ n)) : Hold B h (l ++ n ++ d1 ++ d2 ++ d3) := O.perm (by
  rw [List.append_assoc, List.append_assoc, List.append_assoc, List.append_assoc, List.append_assoc, List.append_assoc]
  refine List.Perm.append_left l ?_
  rw [← List.append_assoc d2 d3 n, ← List.append_assoc d1 (d2 ++ d3) n]
  exact List.perm_append_comm)
theorem Hold.selD2 (O : Hold B h (l ++ d1 ++ d2)) (js : List Nat) (hj : js.Nodup) (e : l' = js.filterMap (l[·]?)) : Hold B h (l' ++ d1 ++ d2) := by
  rw [List.append_assoc] at O ⊢
  exact O.selD js hj e
theorem Hold.selD3 (O : Hold B h (l ++ d1 ++ d2 ++ d3)) (js : List Nat) (hj : js.Nodup) (e : l' = js.filterMap (l[·]?)) : Hold B h (l' ++ d1 ++ d2 ++ d3) := by
  rw [List.append_assoc, List.append_assoc] at O ⊢
  exact O.selD js hj e
end
theorem lawC3 {P : Program} {g : Nat} {A B C : Type} [Cod A] [Cod B] [Cod C] {t : A → B → C → Option Bool} (h : PureOK P g (C3 (fun c : Bool => enc c) t)) {ok : A → B → C → Bool} (ht : ∀ a b c, ok a b c = true → t a b c = some true) : PureOK P g (G3 ok fun _ _ _ => bv true) :=
  h.mono' fun ds r hr => by
    unfold G3 at hr
    unfold C3
    match ds with
    | [] => cases hr
    | [_] => cases hr
    | [_, _] => cases hr
    | [x, y, z] =>
      obtain ⟨a, h1, h2⟩ := obind_ex hr
      obtain ⟨b, h3, h4⟩ := obind_ex h2
      obtain ⟨c, h5, h6⟩ := obind_ex h4
      simp only at h6
      cases e : ok a b c with
      | false => rw [e] at h6; cases h6
      | true =>
        rw [e] at h6
        cases h6
        show (obind (dec x) fun a0 => obind (dec y) fun a1 => obind (dec z) fun a2 => _) = _
        rw [h1, obind_sm, h3, obind_sm, h5, obind_sm]
        show (obind (t a b c) fun c => _) = _
        rw [ht a b c e]
        rfl
    | _ :: _ :: _ :: _ :: _ => cases hr
end Go.Eng
