/-
  THE ENGINE, PART 35: tables whose rows hold a slice of their own.
-/
import Derived.Test.YtbamachgomdjkaaDoorEngGrd
namespace Go.Eng
set_option linter.unusedVariables false
set_option linter.unusedSimpArgs false
open Cod (enc dec)

/-- Rows with one slice in them. -/
class Inn (A : Type) (C : outParam Type) [Row A] [Row C] where
  sub : A → Sl C
  row : A → AV → List AV
  enc : ∀ a, row a (Sl.enc (sub a)) = Row.cells a
  len : ∀ a x, (row a x).length = Row.w A
  flat : ∀ a x, x.flat = true → (row a x).all AV.flat = true
  snap : ∀ h d a x, Eng.snap h d x = some (Sl.enc (sub a)) → omap (Eng.snap h d) (row a x) = some (Row.cells a)
  rel : ∀ h d a x, Eng.rel h d x = some (rS (sub a)) → omap (Eng.rel h d) (row a x) = some (row a (rS (sub a)))
  ids : ∀ h d a x, (row a x).flatMap (Eng.ids h d) = Eng.ids h d x
  mat : ∀ d a b y o, Eng.mat d (rS (sub a)) b = (y, o) → matL (Eng.mat d) (row a (rS (sub a))) b = (row a y, o)
  noF : ∀ d a, Eng.noF d (rS (sub a)) = true → (row a (rS (sub a))).all (Eng.noF d) = true

/-- The rows of such a table, each with the value of its slice. -/
abbrev PS (A : Type) := Option (List (A × AV))
def pj {A : Type} (ps : PS A) : Sl A := ps.map (List.map Prod.fst)
theorem filterMap_congrL {α β : Type} {f g : α → Option β} : ∀ {l : List α}, (∀ a ∈ l, f a = g a) → l.filterMap f = l.filterMap g
  | [], _ => rfl
  | a :: l, h => by
    rw [List.filterMap_cons, List.filterMap_cons, h a (by simp), filterMap_congrL (l := l) fun b hb => h b (by simp [hb])]
theorem get_lt' {α : Type} {l : List α} {k : Nat} {a : α} (h : l[k]? = some a) : k < l.length := (List.getElem?_eq_some_iff.1 h).1
section
variable {A C : Type} [Row A] [Row C] [Inn A C] {B : Base} {h : Heap} {l : List Ent}
def D2 (x : AV) (ps : PS A) : List Ent := match ps with
  | none => [(x, .nil)]
  | some l => (x, .sl (Row.w A) (l.map fun p => Inn.row p.1 p.2)) :: l.map fun p => (p.2, obS (Inn.sub p.1))

theorem Hold.left {d : List Ent} (O : Hold B h (l ++ d)) : Hold B h l :=
  ⟨fun e he => O.ok e (List.mem_append.2 (.inl he)), by
    have := O.nd
    rw [List.filterMap_append] at this
    exact (List.nodup_append.1 this).1, O.len, O.keep, fun e he => O.mine e (List.mem_append.2 (.inl he))⟩
theorem Hold.perm {L L' : List Ent} (s : L.Perm L') (O : Hold B h L) : Hold B h L' :=
  ⟨fun e he => O.ok e (s.mem_iff.2 he), (s.filterMap _).nodup O.nd, O.len, O.keep, fun e he => O.mine e (s.mem_iff.2 he)⟩
theorem D2.head {x : AV} {q : List (A × AV)} (O : Hold B h (l ++ D2 x (some q))) : ∃ o, x = .sl o q.length 0 q.length ∧ h[o]? = some ⟨Row.w A, q.map fun p => Inn.row p.1 p.2⟩ := by
  obtain ⟨o, h1, h2⟩ := O.sl (i := l.length) (k := Row.w A) (rows := q.map fun p => Inn.row p.1 p.2) (x := x) (by simp [D2])
  exact ⟨o, by simpa using h1, h2⟩
theorem D2.nil {x : AV} (O : Hold B h (l ++ D2 (A := A) x none)) : x = nilS := O.nilE (i := l.length) (x := x) (by simp [D2])
theorem D2.at {x : AV} {ps : PS A} {m : Nat} {a : A} {y : AV} (hm : (ps.getD [])[m]? = some (a, y)) : (l ++ D2 x ps)[l.length + 1 + m]? = some (y, obS (Inn.sub a)) := by
  cases ps with
  | none => simp at hm
  | some q =>
    have hm' : q[m]? = some (a, y) := hm
    rw [List.getElem?_append_right (by omega)]
    have : l.length + 1 + m - l.length = m + 1 := by omega
    rw [this]
    simp [D2, hm']
/-- The slice of a row is read. -/
theorem D2.tab [NR C] {x : AV} {ps : PS A} (O : Hold B h (l ++ D2 x ps)) {m : Nat} {a : A} {y : AV} (hm : (ps.getD [])[m]? = some (a, y)) : Tab h y (Inn.sub a) := O.tab _ (D2.at hm)
theorem D2.one {x : AV} {ps : PS A} (O : Hold B h (l ++ D2 x ps)) {m : Nat} {a : A} {y : AV} (hm : (ps.getD [])[m]? = some (a, y)) : y.cells = [y] ∧ y.flat = true := O.one _ (D2.at hm)
theorem D2.len {x : AV} {ps : PS A} (O : Hold B h (l ++ D2 x ps)) : aLenK .slice x = some (iv (((pj ps).getD []).length : Nat)) := by
  cases ps with
  | none =>
    have := D2.nil O
    subst this
    rfl
  | some q =>
    obtain ⟨o, rfl, _⟩ := D2.head O
    simp [pj]
theorem D2.ld {x : AV} {ps : PS A} (O : Hold B h (l ++ D2 x ps)) {m : Nat} {a : A} {y : AV} (hm : (ps.getD [])[m]? = some (a, y)) (g : Bool) (n j : Nat) : aLoad g n (elp x m j) h = cut g n ((Inn.row a y).drop j) := by
  cases ps with
  | none => simp at hm
  | some q =>
    obtain ⟨o, rfl, ho⟩ := D2.head O
    have hm' : q[m]? = some (a, y) := hm
    simp only [aLoad, elp, ho, List.length_map, if_true, List.getElem?_map, hm', Option.map_some, Nat.zero_add]
theorem D2.fld {x : AV} {ps : PS A} (O : Hold B h (l ++ D2 x ps)) {m : Nat} {a : A} {y : AV} (hm : (ps.getD [])[m]? = some (a, y)) (j off : Nat) : aFieldAddr off (elp x m j) = some (elp x m (j + off)) := by
  cases ps with
  | none => simp at hm
  | some q =>
    obtain ⟨o, rfl, ho⟩ := D2.head O
    rfl
theorem snap_rowsN [NR C] (q : List (A × AV)) (d : Nat) (hq : ∀ p ∈ q, Eng.snap h d p.2 = some (Sl.enc (Inn.sub p.1))) : omap (omap (Eng.snap h d)) (q.map fun p => Inn.row p.1 p.2) = some ((q.map Prod.fst).map Row.cells) := by
  induction q with
  | nil => rfl
  | cons p q ih =>
    simp only [List.map_cons, omap, Inn.snap h d p.1 p.2 (hq p (by simp)), ih fun p' hp' => hq p' (by simp [hp'])]
theorem D2.mem {x : AV} {q : List (A × AV)} {p : A × AV} (hp : p ∈ q) : ∃ i : Nat, (l ++ D2 x (some q))[i]? = some (p.2, obS (Inn.sub p.1)) := by
  obtain ⟨m, hm⟩ := List.mem_iff_getElem?.1 hp
  exact ⟨l.length + 1 + m, D2.at (ps := some q) (a := p.1) (y := p.2) hm⟩
/-- The whole table is read. -/
theorem D2.snapD [NR C] {x : AV} {ps : PS A} (O : Hold B h (l ++ D2 x ps)) {s : Sl A} (hs : pj ps = s) : Eng.snap h 7 x = some (Sl.enc s) ∧ Eng.snapD h x = some s := by
  subst hs
  cases ps with
  | none =>
    have := D2.nil O
    subst this
    exact ⟨rfl, rfl⟩
  | some q =>
    obtain ⟨o, rfl, ho⟩ := D2.head O
    have key : ∀ d, Eng.snap h (d + 2) (.sl o q.length 0 q.length) = some (.fs (Row.w A) ((q.map Prod.fst).map Row.cells)) := fun d => by
      show (match h[o]? with | some ob => if ob.rows.length = q.length ∧ 0 + q.length ≤ q.length then (match omap (omap (Eng.snap h (d + 1))) ((ob.rows.drop 0).take q.length) with | some rows => some (AV.fs ob.k rows) | none => none) else none | none => none) = _
      rw [ho]
      simp only [List.length_map]
      rw [if_pos ⟨trivial, by omega⟩, List.drop_zero, List.take_of_length_le (by simp), snap_rowsN q (d + 1) fun p hp => by
        obtain ⟨i, hi⟩ := D2.mem (l := l) (x := .sl o q.length 0 q.length) hp
        exact O.snap7 i hi d]
    refine ⟨key 5, ?_⟩
    unfold Eng.snapD
    rw [show depth = 6 + 2 from rfl, key 6]
    exact Cod.de (some (q.map Prod.fst) : Sl A)
/-- Results: a table of new rows. -/
def rD (s : Sl A) : AV := match s with
  | none => nilS
  | some l => .nw (Row.w A) (l.map fun a => Inn.row a (rS (Inn.sub a)))
/-- One row's slice is taken out; the rest is let go. -/
theorem D2.pick {x : AV} {ps : PS A} (O : Hold B h (l ++ D2 x ps)) {m : Nat} {a : A} {y : AV} (hm : (ps.getD [])[m]? = some (a, y)) : Hold B h (l ++ [(y, obS (Inn.sub a))]) := by
  have hi := D2.at (l := l) (x := x) hm
  have hj : (l.length + 1 + m) ∉ List.range l.length := by simp; omega
  refine O.sel (List.range l.length ++ [l.length + 1 + m]) ?_ ?_
  · rw [List.nodup_append]
    exact ⟨List.nodup_range, by simp, fun a ha b hb e => by
      simp at hb
      subst hb e
      exact hj ha⟩
  · rw [List.filterMap_append]
    congr 1
    · have key : ∀ (l d : List Ent), l = (List.range l.length).filterMap ((l ++ d)[·]?) := by
        intro l d
        have h1 : (List.range l.length).filterMap ((l ++ d)[·]?) = (List.range l.length).filterMap (l[·]?) := by
          apply filterMap_congrL
          intro i hi
          rw [List.getElem?_append_left (by simpa using hi)]
        rw [h1]
        induction l with
        | nil => rfl
        | cons a l ih =>
          rw [List.length_cons, List.range_succ_eq_map, List.filterMap_cons]
          simp only [List.getElem?_cons_zero, List.filterMap_map]
          congr 1
          have h2 : (List.range l.length).filterMap ((fun i => (a :: l)[i]?) ∘ Nat.succ) = (List.range l.length).filterMap (l[·]?) := by
            apply filterMap_congrL
            intro i _
            simp
          rw [h2]
          exact ih (by
            apply filterMap_congrL
            intro i hi
            rw [List.getElem?_append_left (by simpa using hi)])
      exact key l _
    · simp [hi]

/-! ### Changes -/

end
instance {C : Type} [Row C] : Inn (Sl C) C where
  sub a := a
  row _ x := [x]
  enc _ := rfl
  len _ _ := rfl
  flat _ x hx := by simp [hx]
  snap h d a x hx := by simp [omap, hx]
  rel h d a x hx := by simp [omap, hx]
  ids h d a x := by simp
  mat d a b y o hy := by simp [matL, hy]
  noF d a hx := by simp [hx]
instance : Inn Stroke Point where
  sub a := a.points
  row _ x := [x]
  enc _ := rfl
  len _ _ := rfl
  flat _ x hx := by simp [hx]
  snap h d a x hx := by simp [omap, hx, Row.cells, Stroke.cells]
  rel h d a x hx := by simp [omap, hx]
  ids h d a x := by simp
  mat d a b y o hy := by simp [matL, hy]
  noF d a hx := by simp [hx]
instance : Inn Line Int where
  sub a := a.items
  row a x := [iv a.top, iv a.bottom, x]
  enc _ := rfl
  len _ _ := rfl
  flat _ x hx := by simp [hx]
  snap h d a x hx := by simp [omap, hx, Row.cells, Line.cells, snap_iv]
  rel h d a x hx := by simp [omap, hx, rel_iv]
  ids h d a x := by simp [ids_iv]
  mat d a b y o hy := by simp [matL, hy, mat_iv]
  noF d a hx := by simp [hx, noF_iv]
section
variable {A γ δ : Type} [Row A] [NR A] {B : Base} {h : Heap} {L : List Ent} {x : AV} {s : Sl A} {F : AV → Option γ} {G : Sl A → Option δ} {Q : δ → γ → Prop}
theorem setS_len {A : Type} (s : Sl A) (i : Int) (v : A) : ((setS s i v).getD []).length = (s.getD []).length := by cases s <;> simp [setS]
end
section
variable {γ δ : Type} {Q : δ → γ → Prop} {Y : Option δ} {b : Bool}
end
section
variable {A : Type} [Row A] {B : Base} {h : Heap} {L : List Ent} {γ δ : Type}
/-- What a function that fills a slice with marks does to an own slice. -/
def MarkOK (f : List AV → Heap → Option (AV × Heap)) (mk : Sl A → Int → Option (Int × Sl A)) : Prop :=
  ∀ (s : Sl A) (k r : Int) (s' : Sl A), mk s k = some (r, s') → (s = none ∧ s' = none ∧ ∀ h, f [nilS, iv k] h = some (iv r, h)) ∨
    ∃ l l' : List A, s = some l ∧ s' = some l' ∧ l'.length = l.length ∧ ∀ (o : Nat) (h : Heap), h[o]? = some ⟨Row.w A, l.map Row.cells⟩ → f [.sl o l.length 0 l.length, iv k] h = some (iv r, h.set o ⟨Row.w A, l'.map Row.cells⟩)
theorem sim_mark {env : Nat → Contract} {g : Nat} {f : List AV → Heap → Option (AV × Heap)} {mk : Sl A → Int → Option (Int × Sl A)} (O : Hold B h L) (i : Nat) {x : AV} {s : Sl A} (hi : L[i]? = some (x, obS s)) {k : Int} (he : env g = .gen f) (hf : MarkOK f mk)
    {F : AV → Heap → Option γ} {G : Int × Sl A → Option δ} {Q : δ → γ → Prop} (K : ∀ r s' h', Hold B h' (L.set i (x, obS s')) → Sim (F (iv r) h') (G (r, s')) Q) : Sim (obind2 (aCall (env g) [x, iv k] h) F) (obind (mk s k) G) Q := by
  rw [he]
  show Sim (obind2 (f [x, iv k] h) F) _ Q
  cases hm : mk s k with
  | none => exact sim_no
  | some p =>
    obtain ⟨r, s'⟩ := p
    rw [obind_sm]
    rcases hf s k r s' hm with ⟨rfl, rfl, h1⟩ | ⟨l, l', rfl, rfl, hl, h1⟩
    · have := O.nilE hi
      subst this
      rw [h1, obind2_sm]
      refine K r none h ?_
      have e : L.set i (nilS, obS (none : Sl A)) = L := by
        obtain ⟨hlt, e⟩ := List.getElem?_eq_some_iff.1 hi
        rw [← e]
        exact List.set_getElem_self hlt
      rw [e]
      exact O
    · obtain ⟨o, rfl, h5⟩ := O.sl (k := Row.w A) (rows := l.map Row.cells) hi
      have h2 := h1 o h h5
      rw [List.length_map]
      rw [h2, obind2_sm]
      have O' := O.update (o := o) (v' := .sl (Row.w A) (l'.map Row.cells)) hi rfl rfl
      refine K r (some l') _ ?_
      simpa [obS, EV.at, hl] using O'
end
section
variable {C γ δ : Type} [Row C] {B : Base} {h : Heap} {l : List Ent} {Q : δ → γ → Prop}
end
section
variable {A : Type} [Row A] {B : Base} {h : Heap} {L : List Ent} {γ δ : Type}
theorem Hold.mark {f : List AV → Heap → Option (AV × Heap)} {mk : Sl A → Int → Option (Int × Sl A)} (O : Hold B h L) (i : Nat) {x : AV} {s : Sl A} (hi : L[i]? = some (x, obS s)) {k r : Int} {s' : Sl A} (hf : MarkOK f mk) (hm : mk s k = some (r, s')) : ∃ h', f [x, iv k] h = some (iv r, h') ∧ Hold B h' (L.set i (x, obS s')) := by
  rcases hf s k r s' hm with ⟨rfl, rfl, h1⟩ | ⟨l, l', rfl, rfl, hl, h1⟩
  · have := O.nilE hi
    subst this
    refine ⟨h, h1 h, ?_⟩
    have e : L.set i (nilS, obS (none : Sl A)) = L := by
      obtain ⟨hlt, e⟩ := List.getElem?_eq_some_iff.1 hi
      rw [← e]
      exact List.set_getElem_self hlt
    rw [e]
    exact O
  · obtain ⟨o, rfl, h5⟩ := O.sl (k := Row.w A) (rows := l.map Row.cells) hi
    rw [List.length_map]
    refine ⟨_, h1 o h h5, ?_⟩
    have O' := O.update (o := o) (v' := .sl (Row.w A) (l'.map Row.cells)) hi rfl rfl
    simpa [obS, EV.at, hl] using O'
/-- Marks in a table of slices. -/
def MarkDOK {C : Type} [Row C] [Inn A C] (f : List AV → Heap → Option (AV × Heap)) (mk : Sl A → Int → Option (Int × Sl A)) : Prop :=
  ∀ (B : Base) (h : Heap) (l : List Ent) (x : AV) (ps : PS A) (k r : Int) (s' : Sl A), Hold B h (l ++ D2 x ps) → mk (pj ps) k = some (r, s') → ∃ h' ps', f [x, iv k] h = some (iv r, h') ∧ pj ps' = s' ∧ Hold B h' (l ++ D2 x ps')
end
section
variable {B : Base} {h : Heap} {l d1 d2 d3 n l' : List Ent}
/-! Several tables of rows: one behind another. -/
end
end Go.Eng
