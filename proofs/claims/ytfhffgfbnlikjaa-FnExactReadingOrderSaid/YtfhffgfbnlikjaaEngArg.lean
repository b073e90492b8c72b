import Derived.Test.YtfhffgfbnlikjaaEngFn
import Derived.ChangeArms
import Derived.ChangeMaps5
import Derived.ChangeSame
import Derived.Carry
import Derived.Handed
import Derived.JoinedOf
import Derived.RowKit3
namespace Go.Eng
set_option linter.unusedVariables false
set_option linter.unusedSimpArgs false
open Go.RowKit
mutual
inductive IsC (P : Program) : TypeId → List AV → Prop
  | bool {t : TypeId} {b : Bool} (ht : P.underlying t = some .bool) : IsC P t [bv b]
  | int {t : TypeId} {k : IntKind} {n : Int} (ht : P.underlying t = some (.int k)) (hn : (Lit.int k n).wf = true) : IsC P t [.sc (.int k n)]
  | str {t : TypeId} {s : ByteArray} (ht : P.underlying t = some .string) (hs : s.size ≤ maxLen) : IsC P t [sv s]
  | nil {t e : TypeId} (ht : P.underlying t = some (.slice e)) : IsC P t [kBd]
  | fs {t e : TypeId} {rows : List (List AV)} (ht : P.underlying t = some (.slice e)) (hn : rows.length ≤ maxLen) (h : ∀ row ∈ rows, IsC P e row) : IsC P t [.fs (P.cellsOf e) rows]
  | agg {t : TypeId} {fs : Array Field} {cs : List AV} (ht : P.underlying t = some (.struct fs)) (h : IsFs P fs.toList cs) : IsC P t cs
inductive IsFs (P : Program) : List Field → List AV → Prop
  | nil : IsFs P [] []
  | cons {f : Field} {fs : List Field} {a r : List AV} (h : IsC P f.type a) (hr : IsFs P fs r) : IsFs P (f :: fs) (a ++ r)
end
def plainIn (P : Program) (ts : List TypeId) : Bool := ts.all fun t => isVar P t && match P.underlying t with
  | some .bool | some (.int _) | some .string => true
  | some (.slice e) => ts.contains e && decide (0 < P.cellsOf e)
  | some (.struct fs) => fs.toList.all fun f => ts.contains f.type
  | _ => false
def nown : Nat → Prop := Own noX RM.none
theorem nown_no (b : Nat) : ¬ nown b := fun h => h.elim (fun h => h) fun ⟨o, io, e, _⟩ => by cases e
def kIp (w : World) (as : List AV) (cs : List Value) : Prop :=
  as.length = cs.length ∧ as.all AV.flat = true ∧ ∀ (i : Nat) (c : AV) (v : Value), as[i]? = some c → cs[i]? = some v → Rep nown w RM.none c v
theorem kIp.one {w : World} {a : AV} {v : Value} (hf : a.flat = true) (h : Rep nown w RM.none a v) : kIp w [a] [v] :=
  ⟨rfl, by simp [hf], fun i c u e1 e2 => by
    match i with
    | 0 => simp at e1 e2; subst e1 e2; exact h
    | i + 1 => simp at e1⟩
theorem fields_ok {P : Program} {w : World} : ∀ (fs : List Field) (cs : List Value), cs.length = (fs.map fun f => P.cellsOf f.type).sum →
    (∀ (j : Nat) (f : Field), fs[j]? = some f → ∃ as, IsC P f.type as ∧ kIp w as ((cs.drop ((fs.take j).map fun f => P.cellsOf f.type).sum).take (P.cellsOf f.type))) → ∃ as, IsFs P fs as ∧ kIp w as cs
  | [], cs, hl, _ => by
    have : cs = [] := List.length_eq_zero_iff.1 (by simpa using hl)
    subst this
    exact ⟨[], .nil, rfl, rfl, fun i c v e => by simp at e⟩
  | f :: fs, cs, hl, h => by
    simp only [List.map_cons, List.sum_cons] at hl
    obtain ⟨a0, h1, h2⟩ := h 0 f rfl
    simp only [List.take_zero, List.map_nil, List.sum_nil, List.drop_zero] at h2
    obtain ⟨r, h3, h4⟩ := fields_ok (P := P) (w := w) fs (cs.drop (P.cellsOf f.type)) (by simp; omega) (fun j g hg => by
      obtain ⟨as, g1, g2⟩ := h (j + 1) g (by simpa using hg)
      refine ⟨as, g1, ?_⟩
      rw [List.drop_drop]
      simpa using g2)
    have hlen : a0.length = P.cellsOf f.type := by rw [h2.1]; simp; omega
    refine ⟨a0 ++ r, .cons h1 h3, by rw [List.length_append, hlen, h4.1]; simp; omega, by rw [List.all_append, h2.2.1, h4.2.1]; rfl, fun i c v e1 e2 => ?_⟩
    by_cases hi : i < a0.length
    · rw [List.getElem?_append_left hi] at e1
      exact h2.2.2 i c v e1 (by rw [List.getElem?_take, if_pos (by omega)]; exact e2)
    · rw [List.getElem?_append_right (by omega)] at e1
      refine h4.2.2 (i - a0.length) c v e1 ?_
      rw [List.getElem?_drop, ← hlen, show a0.length + (i - a0.length) = i by omega]
      exact e2
theorem cells_of {H : Type} {enc : TypeId × Value → H} {P : Program} (hl : laidOutB P = true) {ts : List TypeId} (hts : plainIn P ts = true) {w : World} {sp : Nat → Bool} :
    ∀ (fuel : Nat) (t : TypeId) (cs : List Value) (x : DataW H × List MemPlace), t ∈ ts → DataW.trod enc P w 0 sp true fuel t cs = some x → ∃ as, IsC P t as ∧ kIp w as cs ∧ cs.length = P.cellsOf t := by
  intro fuel
  induction fuel with
  | zero => intro t cs x _ h; simp [DataW.trod] at h
  | succ n ih =>
    intro t cs x ht h
    have hp := List.all_eq_true.1 hts t ht
    simp only [Bool.and_eq_true] at hp
    obtain ⟨hv, hp⟩ := hp
    have hlt : t < P.types.size := by
      unfold isVar at hv
      simp only [Bool.and_eq_true, decide_eq_true_eq] at hv
      exact hv.1
    have hrow : rowFine P t = true := by
      unfold laidOutB at hl
      simp only [Bool.and_eq_true] at hl
      exact List.all_eq_true.1 hl.1.1 t (List.mem_range.2 hlt)
    unfold rowFine at hrow
    rw [hv] at hrow
    simp only [Bool.not_true, Bool.false_or] at hrow
    split at hp
    · rename_i hu
      rw [hu] at hrow
      simp only [beq_iff_eq] at hrow
      obtain ⟨b, rfl, _⟩ := DataW.trod_bool hu h
      exact ⟨_, .bool hu (b := b), .one rfl (.sc rfl), hrow.symm⟩
    · rename_i k hu
      rw [hu] at hrow
      simp only [beq_iff_eq] at hrow
      obtain ⟨m, rfl, _, hw⟩ := DataW.trod_int hu h
      exact ⟨_, .int hu hw, .one rfl (.sc rfl), hrow.symm⟩
    · rename_i hu
      rw [hu] at hrow
      simp only [beq_iff_eq] at hrow
      obtain ⟨s, rfl, _, hs⟩ := DataW.trod_string hu h
      exact ⟨_, .str hu hs, .one rfl (.sc rfl), hrow.symm⟩
    · rename_i e hu
      rw [hu] at hrow
      simp only [Bool.and_eq_true, beq_iff_eq, decide_eq_true_eq, List.contains_iff_mem] at hrow hp
      rcases DataW.trod_slice hu h with ⟨rfl, _⟩ | ⟨a, len, cap, elems, rest, m, hm, rfl, _, _, h1, h2, h3, h4, _, _⟩
      · exact ⟨_, .nil hu, .one rfl (.sc rfl), hrow.2.symm⟩
      · have hm' : m = n := by omega
        subst hm'
        have key : ∀ i, i < len → ∃ as cs', IsC P e as ∧ kIp w as cs' ∧ cs'.length = P.cellsOf e ∧ ∀ j, j < P.cellsOf e → w.cell? ((a.add (i * P.cellsOf e)).add j) = cs'[j]? := fun i hi => by
          have e1 := h4 i hi
          have e2 : elems[i]? = some (elems[i]'(by omega)) := List.getElem?_eq_getElem _
          rw [e2] at e1
          simp only [Option.bind_eq_some_iff] at e1
          obtain ⟨cs', e3, e4⟩ := e1
          obtain ⟨as, g1, g2, g3⟩ := ih e cs' _ hp.1 e4
          exact ⟨as, cs', g1, g2, g3, (World.cells?_some e3).2.2⟩
        have pick : ∃ f : Nat → List AV × List Value, ∀ i, i < len → IsC P e (f i).1 ∧ kIp w (f i).1 (f i).2 ∧ (f i).2.length = P.cellsOf e ∧ ∀ j, j < P.cellsOf e → w.cell? ((a.add (i * P.cellsOf e)).add j) = (f i).2[j]? := by
          have : ∀ i, ∃ y : List AV × List Value, i < len → IsC P e y.1 ∧ kIp w y.1 y.2 ∧ y.2.length = P.cellsOf e ∧ ∀ j, j < P.cellsOf e → w.cell? ((a.add (i * P.cellsOf e)).add j) = y.2[j]? := fun i => by
            by_cases hi : i < len
            · obtain ⟨as, cs', g⟩ := key i hi
              exact ⟨(as, cs'), fun _ => g⟩
            · exact ⟨([], []), fun hh => absurd hh hi⟩
          exact ⟨fun i => (this i).choose, fun i => (this i).choose_spec⟩
        obtain ⟨f, hf⟩ := pick
        have hspot : 0 < len → a.spot = none := fun h0 => by
          obtain ⟨g1, g2, g3, g4⟩ := hf 0 h0
          have e1 := g4 0 hp.2
          have e2 : (f 0).2[0]? = some ((f 0).2[0]'(by omega)) := List.getElem?_eq_getElem _
          rw [e2] at e1
          simpa [Addr.add] using World.cell?_spot e1
        have hrl : ((List.range len).map fun i => (f i).1).length = len := by simp
        have hcell : ∀ i j c, kB4 ((List.range len).map fun i => (f i).1) i j = some c → i < len ∧ (f i).1[j]? = some c := fun i j c hc => by
          obtain ⟨row, e1, e2⟩ := kB5 hc
          simp only [List.getElem?_map, Option.map_eq_some_iff] at e1
          obtain ⟨y, e3, rfl⟩ := e1
          have hi : i < len := by
            have := (List.getElem?_eq_some_iff.1 e3).1
            simpa using this
          rw [List.getElem?_range hi] at e3
          cases e3
          exact ⟨hi, e2⟩
        refine ⟨_, .fs (rows := (List.range len).map fun i => (f i).1) hu (by rw [hrl]; omega) (fun row hrow => ?_), .one rfl ?_, hrow.2.symm⟩
        · simp only [List.mem_map, List.mem_range] at hrow
          obtain ⟨i, hi, rfl⟩ := hrow
          exact (hf i hi).1
        · have := Rep.fs (own := nown) (w := w) (ρ := RM.none) (k := P.cellsOf e) (rows := (List.range len).map fun i => (f i).1) (a := a) (cap := cap) (cf := fun i j => ((f i).2[j]?).getD undef) (fun row hrow => by
            simp only [List.mem_map, List.mem_range] at hrow
            obtain ⟨i, hi, rfl⟩ := hrow
            obtain ⟨g1, g2, g3, g4⟩ := hf i hi
            exact ⟨by rw [g2.1, g3], g2.2.1⟩) (by rw [hrl]; exact h1) (fun h0 => hspot (by rw [hrl] at h0; exact h0)) (fun _ => nown_no _) (fun i j c hc => by
            obtain ⟨hi, e2⟩ := hcell i j c hc
            obtain ⟨g1, g2, g3, g4⟩ := hf i hi
            have hj : j < P.cellsOf e := by
              have := (List.getElem?_eq_some_iff.1 e2).1
              rw [g2.1, g3] at this
              exact this
            have e5 := g4 j hj
            have e6 : (f i).2[j]? = some ((f i).2[j]'(by omega)) := List.getElem?_eq_getElem _
            rw [e6] at e5 ⊢
            have hs := hspot (by omega)
            obtain ⟨ab, ao, asp⟩ := a
            simp only at hs
            subst hs
            have had : ∀ (y n : Nat), (⟨ab, y, none⟩ : Addr).add n = ⟨ab, y + n, none⟩ := fun y n => by
              unfold Addr.add
              split <;> simp_all
            rw [had, had] at e5
            exact e5) (fun i j c hc => by
            obtain ⟨hi, e2⟩ := hcell i j c hc
            obtain ⟨g1, g2, g3, g4⟩ := hf i hi
            have hj : j < (f i).2.length := by
              have := (List.getElem?_eq_some_iff.1 e2).1
              rw [g2.1] at this
              exact this
            have e6 : (f i).2[j]? = some ((f i).2[j]'hj) := List.getElem?_eq_getElem _
            have := g2.2.2 j c _ e2 e6
            rw [e6]
            exact this)
          rw [hrl] at this
          exact this
    · rename_i fs hu
      rw [hu] at hrow
      simp only [Bool.and_eq_true, beq_iff_eq] at hrow
      obtain ⟨⟨r1, r2⟩, r3⟩ := hrow
      obtain ⟨xs, m, hm, _, h1, h2, h3⟩ := DataW.trod_struct hu h
      have hm' : m = n := by omega
      subst hm'
      obtain ⟨as, g1, g2⟩ := fields_ok (P := P) (w := w) fs.toList cs (by rw [h1, r2]) (fun j f hj => by
        have hj' : fs[j]? = some f := by simpa using hj
        have e1 := h3 j f hj'
        have hjl : j < fs.toList.length := (List.getElem?_eq_some_iff.1 hj).1
        have e2 : xs[j]? = some (xs[j]'(by rw [h2]; simpa using hjl)) := List.getElem?_eq_getElem _
        rw [e2] at e1
        have hmem : f ∈ fs.toList := List.mem_of_getElem? hj
        have hoff := List.all_eq_true.1 r3 j (List.mem_range.2 hjl)
        rw [hj] at hoff
        simp only [beq_iff_eq] at hoff
        obtain ⟨as, g1, g2, _⟩ := ih f.type _ _ (by have := List.all_eq_true.1 hp f hmem; simpa using this) e1
        rw [hoff] at g2
        exact ⟨as, g1, g2⟩)
      exact ⟨as, .agg hu g1, g2, h1⟩
    · cases hp
end Go.Eng
