import Derived.Test.YtokbncnochagaaaFnExactParseSymbolsPartB
import Derived.Test.YtokbncnochagaaaRows
namespace Go.Proofs.Ytokbncnochagaaa
open Go Go.Eng Go.Eng.Cod
set_option maxRecDepth 100000
set_option linter.unusedVariables false
set_option linter.unusedSimpArgs false
structure CB (l : Sl Symbol) (n : Nat) (bx : Nat → Box) (base : Nat → Int) (cc : Nat → Choice) (S : Nat) (X : Int) (o : Option Way) (p : Chart21) : Prop where
  ci : CI l n bx (upd base S (wr X)) p
  bst : ∀ v, v < n → v ≠ S → ∃ x, (p.cells.getD [])[v]? = some x ∧ chC x = cc v
  own : ∀ t, o = some t → ∃ x, (p.cells.getD [])[S]? = some x ∧ chC x = chOf t
  zero : o = none ↔ X = 0
  pos : 0 ≤ X
theorem term_pos {bx : Nat → Box} {base : Nat → Int} (hb : ∀ v, 0 ≤ base v) (k : Int) (s : Box) (a b : Nat) : 0 ≤ kBn bx base k s a b := by
  unfold kBn
  cases kFj k s (bx a) (bx b) with
  | false => exact Int.le_refl _
  | true =>
    cases decide (b = 0) with
    | true => exact hb a
    | false => exact Int.mul_nonneg (hb a) (hb b)
theorem PB.same {l : Sl Symbol} {n : Nat} {bx : Nat → Box} {base : Nat → Int} {bc : Nat → Choice} {S : Nat} {X : Int} {o : Option Way} {p : Parser} (h : PB l n bx base bc S X o p) {t : Way} (ht : t.ways = 0) : PB l n bx base bc S (X + t.ways) (kD5 o t) p := by
  unfold kD5
  rw [if_pos ht, ht, Int.add_zero]
  exact h
theorem PB.take {l : Sl Symbol} {n : Nat} {bx : Nat → Box} {base : Nat → Int} {bc : Nat → Choice} {S : Nat} {X : Int} {o : Option Way} {p : Parser} (h : PB l n bx base bc S X o p) (hS : S < n) {t : Way} (hp : 0 < t.ways) (hs : kD5 o t = some t) : PB l n bx base bc S (X + t.ways) (kD5 o t) ⟨p.list, p.boxes, kB1 p.best (S : Int) (chOf t), kB1 p.count (S : Int) (wr (wr X + t.ways))⟩ := by
  obtain ⟨y, hy⟩ : ∃ y, (p.best.getD [])[S]? = some y := ⟨_, List.getElem?_eq_getElem (by have := h.pi.best; omega)⟩
  have pos := h.pos
  refine ⟨h.pi.add hS _ (by rw [kHl]; exact h.pi.best), fun v hv hn => ?_, fun u hu => ?_, ?_, by omega⟩
  · show ((kB1 p.best (S : Int) _).getD [])[v]? = _
    rw [kCb hy, if_neg hn]
    exact h.bst v hv hn
  · show ((kB1 p.best (S : Int) _).getD [])[S]? = _
    rw [hs] at hu
    cases hu
    rw [kCb hy, if_pos rfl]
  · rw [hs]
    exact ⟨fun e => (by cases e), fun e => by omega⟩
theorem PB.leave {l : Sl Symbol} {n : Nat} {bx : Nat → Box} {base : Nat → Int} {bc : Nat → Choice} {S : Nat} {X : Int} {x : Way} {p : Parser} (h : PB l n bx base bc S X (some x) p) (hS : S < n) {t : Way} (hp : 0 < t.ways) (hs : kD5 (some x) t = some x) : PB l n bx base bc S (X + t.ways) (kD5 (some x) t) ⟨p.list, p.boxes, p.best, kB1 p.count (S : Int) (wr (wr X + t.ways))⟩ := by
  have pos := h.pos
  refine ⟨h.pi.add hS _ h.pi.best, h.bst, fun u hu => ?_, ?_, by omega⟩
  · rw [hs] at hu
    exact h.own u hu
  · rw [hs]
    exact ⟨fun e => (by cases e), fun e => by omega⟩
theorem tryI2 {l : Sl Symbol} {n : Nat} {bx : Nat → Box} {base cst : Nat → Int} {bc : Nat → Choice} {S a b : Nat} {X k : Int} {o : Option Way} {p : Parser} (h : PB l n bx base bc S X o p) (hS : S < n) (ha : a < S) (hb : b < S) (hk : kGq k b) (sg : Int) (s : Box)
    (h0 : ∀ v, 0 ≤ base v) (hX : X + kBn bx base k s a b ≤ 4611686018427387904) (hc : ∀ v, base v ≠ 0 → (bc v).cost = cst v) (hz : cst 0 = 0) :
    ∃ p', t_q19 p (S : Int) ⟨k, sg, (a : Int), (b : Int), 0⟩ s = some p' ∧ PB l n bx base bc S (X + kBn bx base k s a b) (kD5 o (kC0 bx base cst k sg s a b)) p' := by
  have ca := h.pi.count a (by omega)
  have cb := h.pi.count b (by omega)
  have cs := h.pi.count S hS
  rw [kE4 _ (by omega)] at ca cb
  rw [kDh] at cs
  have xa := h.pi.boxes a (by omega)
  have xb := h.pi.boxes b (by omega)
  have hya := h.bst a (by omega) (by omega)
  have hyb := h.bst b (by omega) (by omega)
  obtain ⟨ys, hys⟩ : ∃ y, (p.best.getD [])[S]? = some y := ⟨_, List.getElem?_eq_getElem (by have := h.pi.best; omega)⟩
  have pos := h.pos
  have tp := term_pos (bx := bx) h0 k s a b
  have wX : wr X = X := kD1 (by omega) (by omega)
  have same : kBn bx base k s a b = 0 → ∃ p', (some (⟨p.list, p.boxes, p.best, p.count⟩ : Parser)) = some p' ∧ PB l n bx base bc S (X + kBn bx base k s a b) (kD5 o (kC0 bx base cst k sg s a b)) p' := fun ht => ⟨p, rfl, h.same (t := kC0 bx base cst k sg s a b) ht⟩
  have J := join_own hk (bx a) (bx b) s
  unfold t_q19
  by_cases a0 : base a = 0
  · have e : kBn bx base k s a b = 0 := by
      unfold kBn
      rw [a0, Int.zero_mul]
      cases kFj k s (bx a) (bx b) <;> cases decide (b = 0) <;> rfl
    simp only [kAl ca, kA4, a0, decide_true, cond_true, Bool.not_true, Bool.false_and, cond_false]
    exact same e
  · have d0 : decide (base a = 0) = false := decide_eq_false a0
    have hca := hc a a0
    by_cases b0 : b = 0
    · subst b0
      have k5 : k = 5 := by
        unfold kGq at hk
        omega
      have J5 : t_q15 k (bx a) (bx a) s = some (0, kFj k s (bx a) (bx 0)) := by
        have := join_own hk (bx a) (bx a) s
        rw [this, k5]
        rfl
      have z : ((0 : Nat) : Int) = 0 := rfl
      have wc : (kC0 bx base cst k sg s a 0).cost = wr (cst a + 0) := by
        show wr (wr (cst a + cst 0) + ownK k s (bx a) (bx 0)) = _
        rw [hz, k5]
        show wr (wr (cst a + 0) + 0) = _
        rw [wr_add_l, Int.add_zero]
      simp only [kAl ca, kA4, d0, cond_false, z, decide_true, Bool.not_true, Bool.not_false, Bool.and_false, Bool.true_and, kAl hya, kAl xa, J5]
      cases hf : kFj k s (bx a) (bx 0) with
      | false =>
        rw [Bool.not_false, cond_true]
        exact same (by unfold kBn; rw [hf]; rfl)
      | true =>
        have hw : kBn bx base k s a 0 = base a := by
          unfold kBn
          rw [hf]
          rfl
        have hw2 : (kC0 bx base cst k sg s a 0).ways = base a := hw
        have hpos : 0 < (kC0 bx base cst k sg s a 0).ways := by
          rw [hw2]
          have := h0 a
          omega
        have hch : (⟨k, sg, (a : Int), 0, wr ((bc a).cost + 0)⟩ : Choice) = chOf (kC0 bx base cst k sg s a 0) := by
          unfold chOf
          rw [wc, hca]
          rfl
        simp only [Bool.not_true, cond_false, kAl cs, kA4, kAl hys, decide_true]
        rw [hch, ← hw2]
        have hww : kBn bx base k s a 0 = (kC0 bx base cst k sg s a 0).ways := rfl
        rw [hww]
        cases o with
        | none =>
          have X0 : X = 0 := h.zero.1 rfl
          have st : kD5 none (kC0 bx base cst k sg s a 0) = some (kC0 bx base cst k sg s a 0) := by
            unfold kD5
            rw [if_neg (by omega)]
          rw [wX, decide_eq_true X0]
          simp only [cond_true, kA4]
          have := h.take hS hpos st
          rw [wX] at this
          exact ⟨_, rfl, this⟩
        | some x =>
          have X0 : ¬ X = 0 := fun e => by have := h.zero.2 e; cases this
          have hx := h.own x rfl
          rw [hys] at hx
          cases hx
          obtain ⟨r, hr, hr2⟩ := cmpWay (kC0 bx base cst k sg s a 0) x
          rw [wX, decide_eq_false X0]
          simp only [cond_false, kA4, hr, hr2]
          by_cases hl : kFk (kC0 bx base cst k sg s a 0) x
          · have st : kD5 (some x) (kC0 bx base cst k sg s a 0) = some (kC0 bx base cst k sg s a 0) := by
              unfold kD5
              rw [if_neg (by omega)]
              show (if kFk _ x then _ else _) = _
              rw [if_pos hl]
            rw [decide_eq_true hl]
            have := h.take hS hpos st
            rw [wX] at this
            exact ⟨_, rfl, this⟩
          · have st : kD5 (some x) (kC0 bx base cst k sg s a 0) = some x := by
              unfold kD5
              rw [if_neg (by omega)]
              show (if kFk _ x then _ else _) = _
              rw [if_neg hl]
            rw [decide_eq_false hl]
            have := h.leave hS hpos st
            rw [wX] at this
            exact ⟨_, rfl, this⟩
    · have db : decide ((b : Int) = 0) = false := decide_eq_false (by omega)
      have db2 : decide (b = 0) = false := decide_eq_false b0
      by_cases bb : base b = 0
      · have e : kBn bx base k s a b = 0 := by
          unfold kBn
          rw [bb, Int.mul_zero, db2]
          cases kFj k s (bx a) (bx b) <;> rfl
        simp only [kAl ca, kAl cb, kA4, d0, db, bb, decide_true, cond_true, Bool.not_true, Bool.not_false, Bool.and_self, cond_false]
        exact same e
      · have dbb : decide (base b = 0) = false := decide_eq_false bb
        have hcb := hc b bb
        simp only [kAl ca, kAl cb, kA4, d0, db, dbb, cond_false, cond_true, Bool.not_false, Bool.and_self, kAl hya, kAl hyb, kAl xa, kAl xb, J]
        cases hf : kFj k s (bx a) (bx b) with
        | false =>
          rw [Bool.not_false, cond_true]
          exact same (by unfold kBn; rw [hf]; rfl)
        | true =>
          have hw : kBn bx base k s a b = base a * base b := by
            unfold kBn
            rw [hf, db2]
            rfl
          have hw2 : (kC0 bx base cst k sg s a b).ways = base a * base b := hw
          have hmul : 0 < base a * base b := Int.mul_pos (by have := h0 a; omega) (by have := h0 b; omega)
          have hpos : 0 < (kC0 bx base cst k sg s a b).ways := by
            rw [hw2]
            exact hmul
          have wm : wr (base a * base b) = base a * base b := kD1 (by omega) (by omega)
          have hch : (⟨k, sg, (a : Int), (b : Int), wr (wr ((bc a).cost + (bc b).cost) + ownK k s (bx a) (bx b))⟩ : Choice) = chOf (kC0 bx base cst k sg s a b) := by
            unfold chOf kC0
            rw [hca, hcb]
          simp only [Bool.not_true, cond_false, kAl cs, kA4, kAl hys]
          rw [hch, wm, ← hw2]
          have hww : kBn bx base k s a b = (kC0 bx base cst k sg s a b).ways := rfl
          rw [hww]
          cases o with
          | none =>
            have X0 : X = 0 := h.zero.1 rfl
            have st : kD5 none (kC0 bx base cst k sg s a b) = some (kC0 bx base cst k sg s a b) := by
              unfold kD5
              rw [if_neg (by omega)]
            rw [wX, decide_eq_true X0]
            simp only [cond_true, kA4]
            have := h.take hS hpos st
            rw [wX] at this
            exact ⟨_, rfl, this⟩
          | some x =>
            have X0 : ¬ X = 0 := fun e => by have := h.zero.2 e; cases this
            have hx := h.own x rfl
            rw [hys] at hx
            cases hx
            obtain ⟨r, hr, hr2⟩ := cmpWay (kC0 bx base cst k sg s a b) x
            rw [wX, decide_eq_false X0]
            simp only [cond_false, kA4, hr, hr2]
            by_cases hl : kFk (kC0 bx base cst k sg s a b) x
            · have st : kD5 (some x) (kC0 bx base cst k sg s a b) = some (kC0 bx base cst k sg s a b) := by
                unfold kD5
                rw [if_neg (by omega)]
                show (if kFk _ x then _ else _) = _
                rw [if_pos hl]
              rw [decide_eq_true hl]
              have := h.take hS hpos st
              rw [wX] at this
              exact ⟨_, rfl, this⟩
            · have st : kD5 (some x) (kC0 bx base cst k sg s a b) = some x := by
                unfold kD5
                rw [if_neg (by omega)]
                show (if kFk _ x then _ else _) = _
                rw [if_neg hl]
              rw [decide_eq_false hl]
              have := h.leave hS hpos st
              rw [wX] at this
              exact ⟨_, rfl, this⟩
theorem CB.same {l : Sl Symbol} {n : Nat} {bx : Nat → Box} {base : Nat → Int} {cc : Nat → Choice} {S : Nat} {X : Int} {o : Option Way} {p : Chart21} (h : CB l n bx base cc S X o p) {t : Way} (ht : t.ways = 0) : CB l n bx base cc S (X + t.ways) (kEr o t) p := by
  unfold kEr
  rw [if_pos ht, ht, Int.add_zero]
  exact h
theorem CB.put {l : Sl Symbol} {n : Nat} {bx : Nat → Box} {base : Nat → Int} {cc : Nat → Choice} {S : Nat} {X : Int} {o : Option Way} {p : Chart21} (h : CB l n bx base cc S X o p) (hS : S < n) {t u : Way} (hp : 0 < t.ways) (hs : kEr o t = some u) {w y : Cell21} (hw : (p.cells.getD [])[S]? = some w) (yb : y.box = w.box) (yw : y.ways = wr (w.ways + t.ways)) (yc : chC y = chOf u) :
    CB l n bx base cc S (X + t.ways) (kEr o t) ⟨p.list, kB1 p.cells (S : Int) y⟩ := by
  have pos := h.pos
  obtain ⟨w', hw', wb, ww⟩ := h.ci.cells S hS
  rw [hw] at hw'
  cases hw'
  rw [kDh] at ww
  refine ⟨h.ci.add (Y := t.ways) (Z := t.ways) hS y (by rw [yb, wb]) (by rw [yw, ww]) rfl, fun v hv hn => ?_, fun u' hu => ?_, ?_, by omega⟩
  · show ∃ x, ((kB1 p.cells (S : Int) _).getD [])[v]? = some x ∧ _
    rw [kCb hw, if_neg hn]
    exact h.bst v hv hn
  · rw [hs] at hu
    cases hu
    show ∃ x, ((kB1 p.cells (S : Int) _).getD [])[S]? = some x ∧ _
    rw [kCb hw, if_pos rfl]
    exact ⟨y, rfl, yc⟩
  · rw [hs]
    exact ⟨fun e => (by cases e), fun e => by omega⟩
theorem stepS_none {t : Way} (hp : 0 < t.ways) : kEr none t = some t := by
  unfold kEr
  rw [if_neg (by omega)]
theorem stepS_lt {t x : Way} (hp : 0 < t.ways) (h : t.cost < x.cost) : kEr (some x) t = some t := by
  unfold kEr
  rw [if_neg (by omega)]
  show (if t.cost < x.cost then _ else _) = _
  rw [if_pos h]
theorem stepS_ge {t x : Way} (hp : 0 < t.ways) (h : ¬ t.cost < x.cost) : kEr (some x) t = some x := by
  unfold kEr
  rw [if_neg (by omega)]
  show (if t.cost < x.cost then _ else _) = _
  rw [if_neg h]
theorem chC_cost {x : Cell21} {c : Choice} (h : chC x = c) : x.cost = c.cost := by
  rw [← h]
  rfl
theorem CB.done {l : Sl Symbol} {n : Nat} {bx : Nat → Box} {base : Nat → Int} {cc : Nat → Choice} {S : Nat} {X : Int} {o : Option Way} {L : Sl Symbol} {C : Sl Cell21} (h : CB l n bx base cc S X o ⟨L, C⟩) (hS : S < n) {t : Way} (hp : 0 < t.ways) (hX : X + t.ways ≤ 4611686018427387904) {w : Cell21} (hw : (C.getD [])[S]? = some w) {k sg a b : Int} {co Y : Int} (ht : chOf t = ⟨k, sg, a, b, co⟩) (hY : Y = t.ways) :
    ∃ p', (kA0 (bif decide (w.ways = 0) then some false else (some (decide (co < w.cost)))) fun c => bif (bif decide (w.ways = 0) then true else c) then
        some (⟨L, (kB1 C (S : Int) (⟨⟨w.box.x1, w.box.y1, w.box.x2, w.box.y2⟩, wr (w.ways + Y), co, k, sg, a, b⟩ : Cell21))⟩ : Chart21)
      else some (⟨L, (kB1 C (S : Int) (⟨⟨w.box.x1, w.box.y1, w.box.x2, w.box.y2⟩, wr (w.ways + Y), w.cost, w.kind, w.sign, w.first, w.rest⟩ : Cell21))⟩ : Chart21)) = some p' ∧ CB l n bx base cc S (X + t.ways) (kEr o t) p' := by
  subst hY
  have pos := h.pos
  obtain ⟨w', hw', wb, ww⟩ := h.ci.cells S hS
  have hw2 : (C.getD [])[S]? = some w' := hw'
  rw [hw] at hw2
  cases hw2
  rw [kDh, kD1 (by omega) (by omega)] at ww
  have co' : t.cost = co := by
    have := congrArg Choice.cost ht
    exact this
  cases o with
  | none =>
    rw [decide_eq_true (by rw [ww]; exact h.zero.1 rfl)]
    refine ⟨_, rfl, h.put hS hp (stepS_none hp) hw rfl rfl ?_⟩
    rw [ht]
    rfl
  | some x =>
    have X0 : ¬ w.ways = 0 := fun e => by have := h.zero.2 (by rw [← ww]; exact e); cases this
    obtain ⟨w2, e1, e2⟩ := h.own x rfl
    have e1' : (C.getD [])[S]? = some w2 := e1
    rw [hw] at e1'
    cases e1'
    have wc : w.cost = x.cost := chC_cost e2
    rw [decide_eq_false X0]
    by_cases hl : co < w.cost
    · rw [decide_eq_true hl]
      refine ⟨_, rfl, h.put hS hp (stepS_lt hp (by omega)) hw rfl rfl ?_⟩
      rw [ht]
      rfl
    · rw [decide_eq_false hl]
      refine ⟨_, rfl, h.put hS hp (stepS_ge hp (by omega)) hw rfl rfl ?_⟩
      rw [← e2]
      rfl
theorem tryS2 {l : Sl Symbol} {n : Nat} {bx : Nat → Box} {base cst : Nat → Int} {cc : Nat → Choice} {S a b sg : Nat} {X k : Int} {o : Option Way} {p : Chart21} {y : Symbol} (h : CB l n bx base cc S X o p) (hS : S < n) (ha : a < S) (hb : b < S) (hk : kGq k b) (s : Box)
    (hs : kGg k = true → (l.getD [])[sg]? = some y ∧ y.box = s) (hs0 : kGg k = false → s = ⟨0, 0, 0, 0⟩)
    (h0 : ∀ v, 0 ≤ base v) (hX : X + kBn bx base k s a b ≤ 4611686018427387904) (hP : base a * base b ≤ 4611686018427387904) (hc : ∀ v, (base v ≠ 0 ∨ v = 0) → (cc v).cost = cst v) :
    ∃ p', t_q62 p (S : Int) k (sg : Int) (a : Int) (b : Int) = some p' ∧ CB l n bx base cc S (X + kBn bx base k s a b) (kEr o (kC0 bx base cst k (sg : Int) s a b)) p' := by
  obtain ⟨x, hx, xb, xw⟩ := h.ci.cells a (by omega)
  obtain ⟨z, hz, zb, zw⟩ := h.ci.cells b (by omega)
  obtain ⟨w, hw, wb, ww⟩ := h.ci.cells S hS
  rw [kE4 _ (by omega)] at xw zw
  rw [kDh] at ww
  obtain ⟨x', hx', xc⟩ := h.bst a (by omega) (by omega)
  rw [hx] at hx'
  cases hx'
  obtain ⟨z', hz', zc⟩ := h.bst b (by omega) (by omega)
  rw [hz] at hz'
  cases hz'
  have xco := chC_cost xc
  have zco := chC_cost zc
  obtain ⟨lb, hlb, hlb2⟩ := label_sign hk
  have pos := h.pos
  have tp := term_pos (bx := bx) h0 k s a b
  have L := h.ci.list
  obtain ⟨pl, pc⟩ := p
  have L' : pl = l := L
  subst L'
  have same : kBn bx base k s a b = 0 → ∃ p', (some (⟨pl, pc⟩ : Chart21)) = some p' ∧ CB pl n bx base cc S (X + kBn bx base k s a b) (kEr o (kC0 bx base cst k (sg : Int) s a b)) p' := fun ht => ⟨_, rfl, h.same (t := kC0 bx base cst k (sg : Int) s a b) ht⟩
  have F := spec_fits hk (bx a) (bx b) s
  have O := own_spec hk (bx a) (bx b) s
  have pn : 0 ≤ base a * base b := Int.mul_nonneg (h0 a) (h0 b)
  have wm : wr (base a * base b) = base a * base b := kD1 (by omega) (by omega)
  have hx1 : (pc.getD [])[a]? = some x := hx
  have hz1 : (pc.getD [])[b]? = some z := hz
  have hw1 : (pc.getD [])[S]? = some w := hw
  unfold t_q62
  simp only [kAl hx1, kAl hz1, kA4, hlb, hlb2, xw, zw, xb, zb, Bool.not_not, wm]
  by_cases b0 : b = 0
  · subst b0
    have k5 : k = 5 := by
      unfold kGq at hk
      omega
    have z0 : decide (((0 : Nat) : Int) = 0) = true := rfl
    have hsg : kGg k = true := by
      rw [k5]
      rfl
    obtain ⟨hy, hy2⟩ := hs hsg
    simp only [z0, Bool.not_true, cond_false, hsg, cond_true, kAl hy, kA4, hy2]
    by_cases a0 : base a = 0
    · simp only [a0, decide_true, cond_true, kA4]
      exact same (by
        unfold kBn
        rw [a0, Int.zero_mul]
        cases kFj k s (bx a) (bx 0) <;> rfl)
    · simp only [decide_eq_false a0, cond_false, F, kA4]
      cases hf : kFj k s (bx a) (bx 0) with
      | false => exact same (by unfold kBn; rw [hf]; rfl)
      | true =>
        have hw2 : kBn bx base k s a 0 = base a := by
          unfold kBn
          rw [hf]
          rfl
        have hpos : 0 < (kC0 bx base cst k (sg : Int) s a 0).ways := by
          show 0 < kBn bx base k s a 0
          rw [hw2]
          have := h0 a
          omega
        simp only [Bool.not_true, cond_false, cond_true, kAl hw1, kA4, O]
        exact h.done hS hpos hX hw1 (by
          unfold chOf kC0
          rw [xco, zco, hc a (.inl a0), hc 0 (.inr rfl)]) hw2.symm
  · have db : decide ((b : Int) = 0) = false := decide_eq_false (by omega)
    have db2 : decide (b = 0) = false := decide_eq_false b0
    have zero : base a * base b = 0 → kBn bx base k s a b = 0 := fun e => by
      unfold kBn
      rw [db2, e]
      cases kFj k s (bx a) (bx b) <;> rfl
    have nz : ¬ base a * base b = 0 → base a ≠ 0 ∧ base b ≠ 0 := fun e => ⟨fun k => e (by rw [k, Int.zero_mul]), fun k => e (by rw [k, Int.mul_zero])⟩
    have fin : ∀ hf : kFj k s (bx a) (bx b) = true, ¬ base a * base b = 0 → kBn bx base k s a b = base a * base b := fun hf _ => by
      unfold kBn
      rw [hf, db2]
      rfl
    simp only [db, Bool.not_false, cond_true]
    cases hsg : kGg k with
    | true =>
      obtain ⟨hy, hy2⟩ := hs hsg
      simp only [cond_true, kAl hy, kA4, hy2]
      by_cases a0 : base a * base b = 0
      · simp only [a0, decide_true, cond_true, kA4]
        exact same (zero a0)
      · simp only [decide_eq_false a0, cond_false, F, kA4]
        cases hf : kFj k s (bx a) (bx b) with
        | false => exact same (by unfold kBn; rw [hf]; rfl)
        | true =>
          have hw2 := fin hf a0
          have hpos : 0 < (kC0 bx base cst k (sg : Int) s a b).ways := by
            show 0 < kBn bx base k s a b
            rw [hw2]
            omega
          simp only [Bool.not_true, cond_false, cond_true, kAl hw1, kA4, O]
          exact h.done hS hpos hX hw1 (by
            unfold chOf kC0
            rw [xco, zco, hc a (.inl (nz a0).1), hc b (.inl (nz a0).2)]) hw2.symm
    | false =>
      have hsz := hs0 hsg
      subst hsz
      simp only [cond_false]
      by_cases a0 : base a * base b = 0
      · simp only [a0, decide_true, cond_true, kA4]
        exact same (zero a0)
      · simp only [decide_eq_false a0, cond_false, F, kA4]
        cases hf : kFj k ⟨0, 0, 0, 0⟩ (bx a) (bx b) with
        | false => exact same (by unfold kBn; rw [hf]; rfl)
        | true =>
          have hw2 := fin hf a0
          have hpos : 0 < (kC0 bx base cst k (sg : Int) ⟨0, 0, 0, 0⟩ a b).ways := by
            show 0 < kBn bx base k ⟨0, 0, 0, 0⟩ a b
            rw [hw2]
            omega
          simp only [Bool.not_true, cond_false, cond_true, kAl hw1, kA4, O]
          exact h.done hS hpos hX hw1 (by
            unfold chOf kC0
            rw [xco, zco, hc a (.inl (nz a0).1), hc b (.inl (nz a0).2)]) hw2.symm
def kE6 (l : List Way) : Int := (l.map Way.ways).sum
theorem kBe : ∀ l r : List Way, kE6 (l ++ r) = kE6 l + kE6 r
  | [], r => by simp [kE6]
  | a :: l, r => by
    have := kBe l r
    unfold kE6 at *
    simp only [List.cons_append, List.map_cons, List.sum_cons]
    omega
theorem kFh (t : Way) : kE6 [t] = t.ways := by simp [kE6]
theorem kFf : ∀ {l : List Way}, (∀ t ∈ l, 0 ≤ t.ways) → 0 ≤ kE6 l
  | [], _ => Int.le_refl _
  | a :: l, h => by
    have h1 := h a List.mem_cons_self
    have h2 := kFf (l := l) fun t ht => h t (List.mem_cons_of_mem _ ht)
    unfold kE6 at *
    simp only [List.map_cons, List.sum_cons]
    omega
abbrev bigC : Int := 4611686018427387904
structure Hyp (S : Nat) (bx : Nat → Box) (base cst : Nat → Int) (bc cc : Nat → Choice) : Prop where
  h0 : ∀ v, 0 ≤ base v
  b0 : base 0 = 0
  hc : ∀ v, base v ≠ 0 → (bc v).cost = cst v
  hcc : ∀ v, (base v ≠ 0 ∨ v = 0) → (cc v).cost = cst v
  hz : cst 0 = 0
  hP : ∀ rest, rest ≤ S → ∀ a ∈ kEo rest, base a * base (dif rest a) ≤ bigC
def kD6 (bx : Nat → Box) (base cst : Nat → Int) (K : List Int) (sg : Int) (s : Box) (rest a : Nat) : List Way := K.map fun k => kC0 bx base cst k sg s a (dif rest a)
theorem kH9 {S : Nat} {bx : Nat → Box} {base cst : Nat → Int} {bc cc : Nat → Choice} (H : Hyp S bx base cst bc cc) (k sg : Int) (s : Box) (a b : Nat) : 0 ≤ (kC0 bx base cst k sg s a b).ways := term_pos H.h0 k s a b
theorem kindsI2 {l : Sl Symbol} {n : Nat} {bx : Nat → Box} {base cst : Nat → Int} {bc cc : Nat → Choice} {S a rest : Nat} {X sg : Int} {o : Option Way} {p : Parser} {K : List Int} {box : Box} (H : Hyp S bx base cst bc cc) (h : PB l n bx base bc S X o p) (hS : S < n) (ha : a < S) (hr : rest < 4294967296) (hb : dif rest a < S) (hb0 : dif rest a ≠ 0)
    (hK : ∀ k ∈ K, k = 1 ∨ k = 2 ∨ k = 3 ∨ k = 4) (hKl : K.length ≤ 4) (hX : X + kE6 (kD6 bx base cst K sg box rest a) ≤ bigC) :
    ∃ p' : Parser, kBq (s1_q18 (S : Int) (rest : Int) (some K) sg box (a : Int)) (p.list, p.boxes, p.best, p.count, 0) = some (p'.list, p'.boxes, p'.best, p'.count) ∧ PB l n bx base bc S (X + kE6 (kD6 bx base cst K sg box rest a)) ((kD6 bx base cst K sg box rest a).foldl kD5 o) p' := by
  have hX' : X + kE6 (kD6 bx base cst K sg box rest a) ≤ 4611686018427387904 := hX
  obtain ⟨r, h1, p', rfl, h2⟩ := kFb (step := s1_q18 (S : Int) (rest : Int) (some K) sg box (a : Int)) (s := (p.list, p.boxes, p.best, p.count, 0))
    (fun j s => ∃ p' : Parser, s = (p'.list, p'.boxes, p'.best, p'.count, (j : Int)) ∧ PB l n bx base bc S (X + kE6 (kD6 bx base cst (K.take j) sg box rest a)) ((kD6 bx base cst (K.take j) sg box rest a).foldl kD5 o) p') K.length
    (fun r => ∃ p' : Parser, r = (p'.list, p'.boxes, p'.best, p'.count) ∧ PB l n bx base bc S (X + kE6 (kD6 bx base cst K sg box rest a)) ((kD6 bx base cst K sg box rest a).foldl kD5 o) p')
    (fun j s hj hi => by
      obtain ⟨q, rfl, hq⟩ := hi
      left
      obtain ⟨k, hk⟩ : ∃ k, K[j]? = some k := ⟨_, List.getElem?_eq_getElem hj⟩
      have c : (j : Int) < ((K.length : Nat) : Int) := by omega
      have kk : kGq k (dif rest a) := by
        unfold kGq
        rcases hK k (List.mem_of_getElem? hk) with e | e | e | e
        · exact .inl ⟨e, hb0⟩
        · exact .inr (.inl ⟨e, hb0⟩)
        · exact .inr (.inr (.inl ⟨e, hb0⟩))
        · exact .inr (.inr (.inr (.inl ⟨e, hb0⟩)))
      have tk : kD6 bx base cst (K.take (j + 1)) sg box rest a = kD6 bx base cst (K.take j) sg box rest a ++ [kC0 bx base cst k sg box a (dif rest a)] := by
        unfold kD6
        rw [List.take_add_one, hk, List.map_append]
        rfl
      have whole : kD6 bx base cst K sg box rest a = kD6 bx base cst (K.take (j + 1)) sg box rest a ++ kD6 bx base cst (K.drop (j + 1)) sg box rest a := by
        unfold kD6
        rw [← List.map_append, List.take_append_drop]
      have nn : 0 ≤ kE6 (kD6 bx base cst (K.drop (j + 1)) sg box rest a) := kFf fun t ht => by
        unfold kD6 at ht
        obtain ⟨k', _, rfl⟩ := List.mem_map.1 ht
        exact kH9 H _ _ _ _ _
      rw [whole, kBe, tk, kBe, kFh] at hX'
      have hw : (kC0 bx base cst k sg box a (dif rest a)).ways = kBn bx base k box a (dif rest a) := rfl
      rw [hw] at hX'
      obtain ⟨q', e1, e2⟩ := tryI2 hq hS ha hb kk sg box H.h0 (by omega) H.hc H.hz
      refine ⟨(q'.list, q'.boxes, q'.best, q'.count, ((j + 1 : Nat) : Int)), ?_, q', rfl, ?_⟩
      · unfold s1_q18
        simp only [Option.getD_some, c, decide_true, cond_true, kAl hk, kA4, kG4 hr, e1, kDt hj (show K.length ≤ 4294967296 by omega)]
      · rw [tk, kBe, kFh, List.foldl_append, ← Int.add_assoc]
        exact e2)
    (fun s hi => by
      obtain ⟨q, rfl, hq⟩ := hi
      rw [List.take_length] at hq
      refine ⟨_, ?_, q, rfl, hq⟩
      unfold s1_q18
      simp only [Option.getD_some, Int.lt_irrefl, decide_false, cond_false])
    ⟨p, rfl, by
      show PB l n bx base bc S (X + 0) o p
      rw [Int.add_zero]
      exact h⟩
  exact ⟨p', h1, h2⟩
theorem waysK_pos {S : Nat} {bx : Nat → Box} {base cst : Nat → Int} {bc cc : Nat → Choice} (H : Hyp S bx base cst bc cc) (K : List Int) (sg : Int) (s : Box) (rest a : Nat) : ∀ t ∈ kD6 bx base cst K sg s rest a, 0 ≤ t.ways := fun t ht => by
  unfold kD6 at ht
  obtain ⟨k', _, rfl⟩ := List.mem_map.1 ht
  exact kH9 H _ _ _ _ _
theorem divI2 {l : Sl Symbol} {n : Nat} {bx : Nat → Box} {base cst : Nat → Int} {bc cc : Nat → Choice} {S rest : Nat} {sg : Int} {K : List Int} {box : Box} (H : Hyp S bx base cst bc cc) (hS : S < n) (hr : rest < 256) (hrS : rest ≤ S)
    (hK : ∀ k ∈ K, k = 1 ∨ k = 2 ∨ k = 3 ∨ k = 4) (hKl : K.length ≤ 4) : ∀ (R : List Nat) (X : Int) (o : Option Way) (p : Parser), chainB rest R = true → (∀ a ∈ R, a < rest ∧ dif rest a < rest ∧ dif rest a ≠ 0) → PB l n bx base bc S X o p → X + kE6 (R.flatMap (kD6 bx base cst K sg box rest)) ≤ bigC →
    ∃ p' : Parser, kBq (s0_q18 (S : Int) (rest : Int) (some K) sg box) (p.list, p.boxes, p.best, p.count, ((R.headD 0 : Nat) : Int)) = some (p'.list, p'.boxes, p'.best, p'.count) ∧ PB l n bx base bc S (X + kE6 (R.flatMap (kD6 bx base cst K sg box rest))) ((R.flatMap (kD6 bx base cst K sg box rest)).foldl kD5 o) p'
  | [], X, o, p, _, _, h, _ => by
    refine ⟨p, kCn ?_, ?_⟩
    · unfold s0_q18
      rfl
    · show PB l n bx base bc S (X + 0) o p
      rw [Int.add_zero]
      exact h
  | a :: R, X, o, p, hc, hm, h, hX => by
    unfold chainB at hc
    simp only [Bool.and_eq_true, decide_eq_true_eq] at hc
    obtain ⟨⟨c1, c2⟩, c3⟩ := hc
    obtain ⟨m1, m2, m3⟩ := hm a List.mem_cons_self
    rw [List.flatMap_cons, kBe] at hX
    have nn : 0 ≤ kE6 (R.flatMap (kD6 bx base cst K sg box rest)) := kFf fun t ht => by
      obtain ⟨a', _, ht'⟩ := List.mem_flatMap.1 ht
      exact waysK_pos H _ _ _ _ _ t ht'
    have hX1 : X + (kE6 (kD6 bx base cst K sg box rest a) + kE6 (R.flatMap (kD6 bx base cst K sg box rest))) ≤ 4611686018427387904 := hX
    obtain ⟨q, e1, e2⟩ := kindsI2 (rest := rest) (a := a) (sg := sg) (box := box) H h hS (by omega) (by omega) (by omega) m3 hK hKl (by show _ ≤ (4611686018427387904 : Int); omega)
    obtain ⟨p', e3, e4⟩ := divI2 (sg := sg) (box := box) H hS hr hrS hK hKl R _ _ q c3 (fun b hb => hm b (List.mem_cons_of_mem _ hb)) e2 (by show _ ≤ (4611686018427387904 : Int); omega)
    refine ⟨p', ?_, ?_⟩
    · rw [kCr (s' := (q.list, q.boxes, q.best, q.count, ((R.headD 0 : Nat) : Int)))]
      · exact e3
      · have c : (0 : Int) < (a : Int) := by omega
        have w : wr ((a : Int) - 1) = ((a - 1 : Nat) : Int) := by rw [kD1 (by omega) (by omega)]; omega
        unfold s0_q18
        simp only [List.headD_cons, c, decide_true, cond_true, e1, kA4, w]
        rw [kHp (by omega) (by omega), c2]
    · rw [List.flatMap_cons, kBe, List.foldl_append, ← Int.add_assoc]
      exact e4
theorem splitI2 {l : Sl Symbol} {n : Nat} {bx : Nat → Box} {base cst : Nat → Int} {bc cc : Nat → Choice} {S rest : Nat} {sg X : Int} {o : Option Way} {K : List Int} {box : Box} {p : Parser} (H : Hyp S bx base cst bc cc) (h : PB l n bx base bc S X o p) (hS : S < n) (hr : rest < 256) (hr0 : 0 < rest) (hrS : rest ≤ S)
    (hK : ∀ k ∈ K, k = 1 ∨ k = 2 ∨ k = 3 ∨ k = 4) (hKl : K.length ≤ 4) (hX : X + kE6 ((kEo rest).reverse.flatMap (kD6 bx base cst K sg box rest)) ≤ bigC) : ∃ p', t_q18 p (S : Int) (rest : Int) (some K) sg box = some p' ∧ PB l n bx base bc S (X + kE6 ((kEo rest).reverse.flatMap (kD6 bx base cst K sg box rest))) (((kEo rest).reverse.flatMap (kD6 bx base cst K sg box rest)).foldl kD5 o) p' := by
  have hc := sub_chain ⟨rest, hr⟩
  rw [Bool.and_eq_true] at hc
  obtain ⟨p', e1, e2⟩ := divI2 H hS hr hrS hK hKl (kEo rest).reverse X o p hc.2 (fun a ha => kHj (List.mem_reverse.1 ha) hr) h hX (sg := sg) (box := box)
  refine ⟨p', ?_, e2⟩
  have w : wr ((rest : Int) - 1) = ((rest - 1 : Nat) : Int) := by rw [kD1 (by omega) (by omega)]; omega
  unfold t_q18
  rw [w, kHp (by omega) (by omega), of_decide_eq_true hc.1, e1]
  rfl
def kDp (bx : Nat → Box) (base cst : Nat → Int) (k sg : Int) (s : Box) (rest : Nat) (l : List Nat) : List Way := l.map fun a => kC0 bx base cst k sg s a (dif rest a)
theorem waysS_pos {S : Nat} {bx : Nat → Box} {base cst : Nat → Int} {bc cc : Nat → Choice} (H : Hyp S bx base cst bc cc) (k sg : Int) (s : Box) (rest : Nat) (l : List Nat) : ∀ t ∈ kDp bx base cst k sg s rest l, 0 ≤ t.ways := fun t ht => by
  unfold kDp at ht
  obtain ⟨k', _, rfl⟩ := List.mem_map.1 ht
  exact kH9 H _ _ _ _ _
theorem splitS2 {l : Sl Symbol} {n : Nat} {bx : Nat → Box} {base cst : Nat → Int} {bc cc : Nat → Choice} {S rest sg : Nat} {X k : Int} {o : Option Way} {y : Symbol} {box : Box} {p : Chart21} (H : Hyp S bx base cst bc cc) (h : CB l n bx base cc S X o p) (hS : S < n) (hr : rest < 256) (hr0 : 0 < rest) (hrS : rest ≤ S)
    (hk : k = 1 ∨ k = 2 ∨ k = 3 ∨ k = 4) (hs : kGg k = true → (l.getD [])[sg]? = some y ∧ y.box = box) (hs0 : kGg k = false → box = ⟨0, 0, 0, 0⟩) (hX : X + kE6 (kDp bx base cst k (sg : Int) box rest (kEo rest)) ≤ bigC) :
    ∃ p', t_q60 p (S : Int) k (sg : Int) (rest : Int) = some p' ∧ CB l n bx base cc S (X + kE6 (kDp bx base cst k (sg : Int) box rest (kEo rest))) ((kDp bx base cst k (sg : Int) box rest (kEo rest)).foldl kEr o) p' := by
  have hX' : X + kE6 (kDp bx base cst k (sg : Int) box rest (kEo rest)) ≤ 4611686018427387904 := hX
  have grow : ∀ j d : Nat, ∃ r, (List.range (j + d)).filter (fun a => decide (0 < a) && decide (a &&& rest = a)) = (List.range j).filter (fun a => decide (0 < a) && decide (a &&& rest = a)) ++ r := fun j d => by
    induction d with
    | zero => exact ⟨[], by simp⟩
    | succ d ih =>
      obtain ⟨r, hr⟩ := ih
      refine ⟨r ++ [j + d].filter (fun a => decide (0 < a) && decide (a &&& rest = a)), ?_⟩
      rw [show j + (d + 1) = j + d + 1 by omega, List.range_succ, List.filter_append, hr, List.append_assoc]
  obtain ⟨r, h1, p', rfl, h2⟩ := kFb (step := s0_q60 (S : Int) k (sg : Int) (rest : Int)) (s := (p.list, p.cells, 1))
    (fun j s => ∃ p' : Chart21, s = (p'.list, p'.cells, ((j + 1 : Nat) : Int)) ∧ CB l n bx base cc S (X + kE6 (kDp bx base cst k (sg : Int) box rest ((List.range (j + 1)).filter fun a => decide (0 < a) && decide (a &&& rest = a)))) ((kDp bx base cst k (sg : Int) box rest ((List.range (j + 1)).filter fun a => decide (0 < a) && decide (a &&& rest = a))).foldl kEr o) p') (rest - 1)
    (fun r => ∃ p' : Chart21, r = (p'.list, p'.cells) ∧ CB l n bx base cc S (X + kE6 (kDp bx base cst k (sg : Int) box rest (kEo rest))) ((kDp bx base cst k (sg : Int) box rest (kEo rest)).foldl kEr o) p')
    (fun j s hj hi => by
      obtain ⟨q, rfl, hq⟩ := hi
      left
      have c : ((j + 1 : Nat) : Int) < (rest : Int) := by omega
      have an : kF3 ((j + 1 : Nat) : Int) (rest : Int) = (((j + 1) &&& rest : Nat) : Int) := kHp (by omega) (by omega)
      have w : wr (((j + 1 : Nat) : Int) + 1) = ((j + 1 + 1 : Nat) : Int) := kDt (n := rest) (by omega) (by omega)
      have rg : (List.range (j + 1 + 1)).filter (fun a => decide (0 < a) && decide (a &&& rest = a)) = (List.range (j + 1)).filter (fun a => decide (0 < a) && decide (a &&& rest = a)) ++ (if (j + 1) &&& rest = j + 1 then [j + 1] else []) := by
        rw [List.range_succ, List.filter_append]
        congr 1
        by_cases e : (j + 1) &&& rest = j + 1
        · rw [if_pos e]
          simp [e]
        · rw [if_neg e]
          simp [e]
      by_cases e : (j + 1) &&& rest = j + 1
      · rw [if_pos e] at rg
        have ws : kDp bx base cst k (sg : Int) box rest ((List.range (j + 1 + 1)).filter (fun a => decide (0 < a) && decide (a &&& rest = a))) = kDp bx base cst k (sg : Int) box rest ((List.range (j + 1)).filter (fun a => decide (0 < a) && decide (a &&& rest = a))) ++ [kC0 bx base cst k (sg : Int) box (j + 1) (dif rest (j + 1))] := by
          rw [rg]
          unfold kDp
          rw [List.map_append]
          rfl
        have hm : j + 1 ∈ kEo rest := by
          unfold kEo
          exact List.mem_filter.2 ⟨List.mem_range.2 (by omega), by simp [e]⟩
        obtain ⟨m1, m2, m3⟩ := kHj hm hr
        have kk : kGq k (dif rest (j + 1)) := by
          unfold kGq
          omega
        obtain ⟨rr, hrr⟩ := grow (j + 1 + 1) (rest - (j + 1 + 1))
        rw [show j + 1 + 1 + (rest - (j + 1 + 1)) = rest by omega] at hrr
        have whole : kDp bx base cst k (sg : Int) box rest (kEo rest) = kDp bx base cst k (sg : Int) box rest ((List.range (j + 1 + 1)).filter (fun a => decide (0 < a) && decide (a &&& rest = a))) ++ kDp bx base cst k (sg : Int) box rest rr := by
          unfold kEo
          rw [hrr]
          unfold kDp
          rw [List.map_append]
        have nn := kFf (waysS_pos H k (sg : Int) box rest rr)
        have hb := hX'
        rw [whole, kBe, ws, kBe, kFh] at hb
        have hw : (kC0 bx base cst k (sg : Int) box (j + 1) (dif rest (j + 1))).ways = kBn bx base k box (j + 1) (dif rest (j + 1)) := rfl
        rw [hw] at hb
        obtain ⟨q', e1, e2⟩ := tryS2 (y := y) (sg := sg) (cst := cst) hq hS (a := j + 1) (b := dif rest (j + 1)) (by omega) (by omega) kk box hs hs0 H.h0 (by omega) (H.hP rest hrS _ hm) H.hcc
        refine ⟨(q'.list, q'.cells, ((j + 1 + 1 : Nat) : Int)), ?_, q', rfl, ?_⟩
        · have d : decide ((((j + 1) &&& rest : Nat) : Int) = ((j + 1 : Nat) : Int)) = true := decide_eq_true (by rw [e])
          unfold s0_q60
          simp only [c, decide_true, cond_true, an, d, kG4 (show rest < 4294967296 by omega), e1, kA4, w]
        · rw [ws, kBe, kFh, List.foldl_append, ← Int.add_assoc]
          exact e2
      · rw [if_neg e, List.append_nil] at rg
        rw [rg]
        refine ⟨(q.list, q.cells, ((j + 1 + 1 : Nat) : Int)), ?_, q, rfl, hq⟩
        have d : decide ((((j + 1) &&& rest : Nat) : Int) = ((j + 1 : Nat) : Int)) = false := decide_eq_false (by omega)
        unfold s0_q60
        simp only [c, decide_true, cond_true, an, d, cond_false, w])
    (fun s hi => by
      obtain ⟨q, rfl, hq⟩ := hi
      have e : rest - 1 + 1 = rest := by omega
      rw [e] at hq ⊢
      refine ⟨_, ?_, q, rfl, hq⟩
      unfold s0_q60
      simp only [Int.lt_irrefl, decide_false, cond_false])
    ⟨p, rfl, by
      have : kDp bx base cst k (sg : Int) box rest ((List.range (0 + 1)).filter fun a => decide (0 < a) && decide (a &&& rest = a)) = [] := rfl
      rw [this]
      show CB l n bx base cc S (X + 0) o p
      rw [Int.add_zero]
      exact h⟩
  refine ⟨p', ?_, h2⟩
  unfold t_q60
  rw [h1]
  rfl
theorem kFr (f : Nat → List Way) (j : Nat) : (List.range (j + 1)).flatMap f = (List.range j).flatMap f ++ f j := by
  rw [List.range_succ, List.flatMap_append]
  simp
theorem flat_le {f : Nat → List Way} (hf : ∀ i, ∀ t ∈ f i, 0 ≤ t.ways) (j : Nat) : ∀ d, kE6 ((List.range j).flatMap f) ≤ kE6 ((List.range (j + d)).flatMap f)
  | 0 => Int.le_refl _
  | d + 1 => by
    rw [← Nat.add_assoc, kFr, kBe]
    have := flat_le hf j d
    have := kFf (hf (j + d))
    omega
def gIL (bx : Nat → Box) (base cst : Nat → Int) (ls : List Symbol) (S i : Nat) : List Way :=
  bif decide (dif S (2 ^ i) = S) then [] else bif decide (lbAt ls i = labK 2) then (kEo (dif S (2 ^ i))).reverse.flatMap (kD6 bx base cst [2] (i : Int) (sbAt ls i) (dif S (2 ^ i))) else bif decide (lbAt ls i = labK 5) then [kC0 bx base cst 5 (i : Int) (sbAt ls i) (dif S (2 ^ i)) 0] else []
def gSL (bx : Nat → Box) (base cst : Nat → Int) (ls : List Symbol) (S : Nat) (k : Int) (i : Nat) : List Way :=
  bif (bif decide (dif S (2 ^ i) = S) then true else !decide (lbAt ls i = labK k)) then [] else bif decide (k = 5) then [kC0 bx base cst 5 (i : Int) (sbAt ls i) (dif S (2 ^ i)) 0] else kDp bx base cst k (i : Int) (sbAt ls i) (dif S (2 ^ i)) (kEo (dif S (2 ^ i)))
theorem gIL_pos {S T : Nat} {bx : Nat → Box} {base cst : Nat → Int} {bc cc : Nat → Choice} (H : Hyp T bx base cst bc cc) (ls : List Symbol) (i : Nat) : ∀ t ∈ gIL bx base cst ls S i, 0 ≤ t.ways := by
  unfold gIL
  cases decide (dif S (2 ^ i) = S) with
  | true => exact fun t ht => by cases ht
  | false =>
    cases decide (lbAt ls i = labK 2) with
    | true =>
      intro t ht
      rw [cond_false, cond_true] at ht
      obtain ⟨a, _, h⟩ := List.mem_flatMap.1 ht
      exact waysK_pos H _ _ _ _ _ t h
    | false =>
      cases decide (lbAt ls i = labK 5) with
      | true =>
        intro t ht
        rw [cond_false, cond_false, cond_true] at ht
        rw [List.mem_singleton.1 ht]
        exact kH9 H _ _ _ _ _
      | false => exact fun t ht => by cases ht
theorem gSL_pos {S T : Nat} {bx : Nat → Box} {base cst : Nat → Int} {bc cc : Nat → Choice} (H : Hyp T bx base cst bc cc) (ls : List Symbol) (k : Int) (i : Nat) : ∀ t ∈ gSL bx base cst ls S k i, 0 ≤ t.ways := by
  unfold gSL
  cases (bif decide (dif S (2 ^ i) = S) then true else !decide (lbAt ls i = labK k)) with
  | true => exact fun t ht => by cases ht
  | false =>
    cases decide (k = 5) with
    | true =>
      intro t ht
      rw [cond_false, cond_true] at ht
      rw [List.mem_singleton.1 ht]
      exact kH9 H _ _ _ _ _
    | false =>
      intro t ht
      rw [cond_false, cond_false] at ht
      exact waysS_pos H _ _ _ _ _ t ht
theorem loopI2 {l : Sl Symbol} {n : Nat} {bx : Nat → Box} {base cst : Nat → Int} {bc cc : Nat → Choice} {S : Nat} {X : Int} {o : Option Way} {p : Parser} (H : Hyp S bx base cst bc cc) (h : PB l n bx base bc S X o p) (hS : S < n) (hS2 : S < 256) (hm : S &&& (S - 1) ≠ 0) (hl : (l.getD []).length ≤ 8)
    (hX : X + kE6 ((List.range (l.getD []).length).flatMap (gIL bx base cst (l.getD []) S)) ≤ bigC) :
    ∃ p' : Parser, kBq (kI6 (S : Int) p) (p.list, p.boxes, p.best, p.count, 0) = some (p'.list, p'.boxes, p'.best, p'.count) ∧ PB l n bx base bc S (X + kE6 ((List.range (l.getD []).length).flatMap (gIL bx base cst (l.getD []) S))) (((List.range (l.getD []).length).flatMap (gIL bx base cst (l.getD []) S)).foldl kD5 o) p' := by
  have hX' : X + kE6 ((List.range (l.getD []).length).flatMap (gIL bx base cst (l.getD []) S)) ≤ 4611686018427387904 := hX
  obtain ⟨r, h1, p', rfl, h2⟩ := kFb (step := kI6 (S : Int) p) (s := (p.list, p.boxes, p.best, p.count, 0))
    (fun i s => ∃ p' : Parser, s = (p'.list, p'.boxes, p'.best, p'.count, (i : Int)) ∧ PB l n bx base bc S (X + kE6 ((List.range i).flatMap (gIL bx base cst (l.getD []) S))) (((List.range i).flatMap (gIL bx base cst (l.getD []) S)).foldl kD5 o) p') (l.getD []).length
    (fun r => ∃ p' : Parser, r = (p'.list, p'.boxes, p'.best, p'.count) ∧ PB l n bx base bc S (X + kE6 ((List.range (l.getD []).length).flatMap (gIL bx base cst (l.getD []) S))) (((List.range (l.getD []).length).flatMap (gIL bx base cst (l.getD []) S)).foldl kD5 o) p')
    (fun i s hi hq => by
      obtain ⟨q, rfl, hq⟩ := hq
      left
      obtain ⟨y, hy⟩ : ∃ y, (l.getD [])[i]? = some y := ⟨_, List.getElem?_eq_getElem hi⟩
      obtain ⟨ly, by'⟩ := lb_get hy
      have c : (i : Int) < (((l.getD []).length : Nat) : Int) := by omega
      have sh : shlO 1 (i : Int) = some ((2 ^ i : Nat) : Int) := shl_ok ⟨i, by omega⟩
      have w : wr ((i : Int) + 1) = ((i + 1 : Nat) : Int) := kDt hi (by omega)
      have an := kG4 (m := S) (a := 2 ^ i) (by omega)
      have le := flat_le (gIL_pos (S := S) H (l.getD [])) (i + 1) ((l.getD []).length - (i + 1))
      rw [show i + 1 + ((l.getD []).length - (i + 1)) = (l.getD []).length by omega, kFr, kBe] at le
      rw [kFr, kBe, List.foldl_append, ← Int.add_assoc]
      by_cases hn : dif S (2 ^ i) = S
      · have g0 : gIL bx base cst (l.getD []) S i = [] := by
          unfold gIL
          rw [decide_eq_true hn]
          rfl
        rw [g0]
        refine ⟨(q.list, q.boxes, q.best, q.count, ((i + 1 : Nat) : Int)), ?_, q, rfl, ?_⟩
        · unfold kI6
          simp only [h.pi.list, c, decide_true, cond_true, kAl hy, kA4, sh, an, hn, w]
        · show PB l n bx base bc S (_ + 0) _ q
          rw [Int.add_zero]
          exact hq
      · obtain ⟨k1, k2⟩ := less_set hS2 (by omega) hn
        have d : decide (((dif S (2 ^ i) : Nat) : Int) = (S : Int)) = false := decide_eq_false (by omega)
        by_cases e2 : y.label = labK 2
        · have g0 : gIL bx base cst (l.getD []) S i = (kEo (dif S (2 ^ i))).reverse.flatMap (kD6 bx base cst [2] (i : Int) y.box (dif S (2 ^ i))) := by
            unfold gIL
            rw [decide_eq_false hn, ly, by', decide_eq_true e2]
            rfl
          rw [g0] at le ⊢
          have d2 : decide (y.label = (⟨#[45]⟩ : ByteArray)) = true := decide_eq_true e2
          obtain ⟨q', e3, e4⟩ := splitI2 (K := [2]) (sg := (i : Int)) (box := y.box) (rest := dif S (2 ^ i)) H hq hS (by omega) (by have := k2 hm; omega) (by omega) (fun k hk => by simp at hk; omega) (by simp) (by show _ ≤ (4611686018427387904 : Int); omega)
          refine ⟨(q'.list, q'.boxes, q'.best, q'.count, ((i + 1 : Nat) : Int)), ?_, q', rfl, e4⟩
          unfold kI6 t_q21
          simp only [h.pi.list, c, decide_true, cond_true, kAl hy, kA4, sh, an, d, cond_false, d2, e3, w]
        · have d2 : decide (y.label = (⟨#[45]⟩ : ByteArray)) = false := decide_eq_false e2
          by_cases e5 : y.label = labK 5
          · have d5 : decide (y.label = (⟨#[114]⟩ : ByteArray)) = true := decide_eq_true e5
            have g0 : gIL bx base cst (l.getD []) S i = [kC0 bx base cst 5 (i : Int) y.box (dif S (2 ^ i)) 0] := by
              unfold gIL
              rw [decide_eq_false hn, ly, by', decide_eq_false e2, decide_eq_true e5]
              rfl
            rw [g0] at le ⊢
            rw [kFh] at le ⊢
            have hw : (kC0 bx base cst 5 (i : Int) y.box (dif S (2 ^ i)) 0).ways = kBn bx base 5 y.box (dif S (2 ^ i)) 0 := rfl
            rw [hw] at le ⊢
            obtain ⟨q', e3, e4⟩ := tryI2 (k := 5) (a := dif S (2 ^ i)) (b := 0) hq hS k1 (by omega) (.inr (.inr (.inr (.inr ⟨rfl, rfl⟩)))) (i : Int) y.box H.h0 (by omega) H.hc H.hz
            have e3' : t_q19 (⟨q.list, q.boxes, q.best, q.count⟩ : Parser) (S : Int) ⟨5, (i : Int), ((dif S (2 ^ i) : Nat) : Int), 0, 0⟩ y.box = some q' := e3
            refine ⟨(q'.list, q'.boxes, q'.best, q'.count, ((i + 1 : Nat) : Int)), ?_, q', rfl, e4⟩
            unfold kI6 t_q21
            simp only [h.pi.list, c, decide_true, cond_true, kAl hy, kA4, sh, an, d, cond_false, d2, show decide ((5 : Int) = 2) = false from rfl, d5, e3', w]
          · have d5 : decide (y.label = (⟨#[114]⟩ : ByteArray)) = false := decide_eq_false e5
            have g0 : gIL bx base cst (l.getD []) S i = [] := by
              unfold gIL
              rw [decide_eq_false hn, ly, decide_eq_false e2, decide_eq_false e5]
              rfl
            rw [g0]
            refine ⟨(q.list, q.boxes, q.best, q.count, ((i + 1 : Nat) : Int)), ?_, q, rfl, ?_⟩
            · unfold kI6 t_q21
              simp only [h.pi.list, c, decide_true, cond_true, kAl hy, kA4, sh, an, d, cond_false, d2, show decide ((5 : Int) = 2) = false from rfl, d5, w]
            · show PB l n bx base bc S (_ + 0) _ q
              rw [Int.add_zero]
              exact hq)
    (fun s hq => by
      obtain ⟨q, rfl, hq⟩ := hq
      refine ⟨_, ?_, q, rfl, hq⟩
      unfold kI6
      simp only [h.pi.list, Int.lt_irrefl, decide_false, cond_false])
    ⟨p, rfl, by
      show PB l n bx base bc S (X + 0) o p
      rw [Int.add_zero]
      exact h⟩
  exact ⟨p', h1, h2⟩
theorem signsS2 {l : Sl Symbol} {n : Nat} {bx : Nat → Box} {base cst : Nat → Int} {bc cc : Nat → Choice} {S : Nat} {X k : Int} {o : Option Way} {p : Chart21} (H : Hyp S bx base cst bc cc) (h : CB l n bx base cc S X o p) (hS : S < n) (hS2 : S < 256) (hm : S &&& (S - 1) ≠ 0) (hl : (l.getD []).length ≤ 8) (hk : k = 2 ∨ k = 5)
    (hX : X + kE6 ((List.range (l.getD []).length).flatMap (gSL bx base cst (l.getD []) S k)) ≤ bigC) :
    ∃ p' : Chart21, t_q59 p (S : Int) k = some p' ∧ CB l n bx base cc S (X + kE6 ((List.range (l.getD []).length).flatMap (gSL bx base cst (l.getD []) S k))) (((List.range (l.getD []).length).flatMap (gSL bx base cst (l.getD []) S k)).foldl kEr o) p' := by
  have lk : kIt k = some (labK k) := by
    rcases hk with rfl | rfl <;> rfl
  have hX' : X + kE6 ((List.range (l.getD []).length).flatMap (gSL bx base cst (l.getD []) S k)) ≤ 4611686018427387904 := hX
  obtain ⟨r, h1, p', rfl, h2⟩ := kFb (step := kJc (S : Int) k) (s := (p.list, p.cells, 0))
    (fun i s => ∃ p' : Chart21, s = (p'.list, p'.cells, (i : Int)) ∧ CB l n bx base cc S (X + kE6 ((List.range i).flatMap (gSL bx base cst (l.getD []) S k))) (((List.range i).flatMap (gSL bx base cst (l.getD []) S k)).foldl kEr o) p') (l.getD []).length
    (fun r => ∃ p' : Chart21, r = (p'.list, p'.cells) ∧ CB l n bx base cc S (X + kE6 ((List.range (l.getD []).length).flatMap (gSL bx base cst (l.getD []) S k))) (((List.range (l.getD []).length).flatMap (gSL bx base cst (l.getD []) S k)).foldl kEr o) p')
    (fun i s hi hq => by
      obtain ⟨q, rfl, hq⟩ := hq
      left
      obtain ⟨y, hy⟩ : ∃ y, (l.getD [])[i]? = some y := ⟨_, List.getElem?_eq_getElem hi⟩
      obtain ⟨ly, by'⟩ := lb_get hy
      have c : (i : Int) < (((l.getD []).length : Nat) : Int) := by omega
      have sh : shlO 1 (i : Int) = some ((2 ^ i : Nat) : Int) := shl_ok ⟨i, by omega⟩
      have w : wr ((i : Int) + 1) = ((i + 1 : Nat) : Int) := kDt hi (by omega)
      have an := kG4 (m := S) (a := 2 ^ i) (by omega)
      have le := flat_le (gSL_pos (S := S) H (l.getD []) k) (i + 1) ((l.getD []).length - (i + 1))
      rw [show i + 1 + ((l.getD []).length - (i + 1)) = (l.getD []).length by omega, kFr, kBe] at le
      rw [kFr, kBe, List.foldl_append, ← Int.add_assoc]
      by_cases hn : dif S (2 ^ i) = S
      · have g0 : gSL bx base cst (l.getD []) S k i = [] := by
          unfold gSL
          rw [decide_eq_true hn]
          rfl
        rw [g0]
        refine ⟨(q.list, q.cells, ((i + 1 : Nat) : Int)), ?_, q, rfl, ?_⟩
        · unfold kJc
          simp only [hq.ci.list, c, decide_true, cond_true, kA4, sh, an, hn, w]
        · show CB l n bx base cc S (_ + 0) _ q
          rw [Int.add_zero]
          exact hq
      · obtain ⟨k1, k2⟩ := less_set hS2 (by omega) hn
        have d : decide (((dif S (2 ^ i) : Nat) : Int) = (S : Int)) = false := decide_eq_false (by omega)
        by_cases e2 : y.label = labK k
        · have d2 : decide (y.label = labK k) = true := decide_eq_true e2
          by_cases k5 : k = 5
          · have g0 : gSL bx base cst (l.getD []) S k i = [kC0 bx base cst 5 (i : Int) y.box (dif S (2 ^ i)) 0] := by
              unfold gSL
              rw [decide_eq_false hn, ly, by', d2, decide_eq_true k5]
              rfl
            rw [g0] at le ⊢
            rw [kFh] at le ⊢
            have hw : (kC0 bx base cst 5 (i : Int) y.box (dif S (2 ^ i)) 0).ways = kBn bx base 5 y.box (dif S (2 ^ i)) 0 := rfl
            rw [hw] at le ⊢
            subst k5
            obtain ⟨q', e3, e4⟩ := tryS2 (k := 5) (a := dif S (2 ^ i)) (b := 0) (sg := i) (y := y) (cst := cst) hq hS k1 (by omega) (.inr (.inr (.inr (.inr ⟨rfl, rfl⟩)))) y.box (fun _ => ⟨hy, rfl⟩) (fun e => by cases e) H.h0 (by omega) (by rw [H.b0, Int.mul_zero]; omega) H.hcc
            have e3' : t_q62 (⟨q.list, q.cells⟩ : Chart21) (S : Int) 5 (i : Int) ((dif S (2 ^ i) : Nat) : Int) 0 = some q' := e3
            rw [hq.ci.list] at e3'
            refine ⟨(q'.list, q'.cells, ((i + 1 : Nat) : Int)), ?_, q', rfl, e4⟩
            unfold kJc
            simp only [hq.ci.list, c, decide_true, cond_true, kAl hy, kA4, sh, an, d, cond_false, lk, d2, Bool.not_true, e3', w]
          · have k2' : k = 2 := by omega
            have g0 : gSL bx base cst (l.getD []) S k i = kDp bx base cst k (i : Int) y.box (dif S (2 ^ i)) (kEo (dif S (2 ^ i))) := by
              unfold gSL
              rw [decide_eq_false hn, ly, by', d2, decide_eq_false k5]
              rfl
            rw [g0] at le ⊢
            obtain ⟨q', e3, e4⟩ := splitS2 (k := k) (sg := i) (y := y) (box := y.box) (rest := dif S (2 ^ i)) H hq hS (by omega) (by have := k2 hm; omega) (by omega) (.inr (.inl k2')) (fun _ => ⟨hy, rfl⟩) (fun e => by rw [k2'] at e; cases e) (by show _ ≤ (4611686018427387904 : Int); omega)
            have e3' : t_q60 (⟨q.list, q.cells⟩ : Chart21) (S : Int) k (i : Int) ((dif S (2 ^ i) : Nat) : Int) = some q' := e3
            rw [hq.ci.list] at e3'
            refine ⟨(q'.list, q'.cells, ((i + 1 : Nat) : Int)), ?_, q', rfl, e4⟩
            unfold kJc
            simp only [hq.ci.list, c, decide_true, cond_true, kAl hy, kA4, sh, an, d, cond_false, lk, d2, Bool.not_true, decide_eq_false k5, e3', w]
        · have d2 : decide (y.label = labK k) = false := decide_eq_false e2
          have g0 : gSL bx base cst (l.getD []) S k i = [] := by
            unfold gSL
            rw [decide_eq_false hn, ly, d2]
            rfl
          rw [g0]
          refine ⟨(q.list, q.cells, ((i + 1 : Nat) : Int)), ?_, q, rfl, ?_⟩
          · unfold kJc
            simp only [hq.ci.list, c, decide_true, cond_true, kAl hy, kA4, sh, an, d, cond_false, lk, d2, Bool.not_false, w]
          · show CB l n bx base cc S (_ + 0) _ q
            rw [Int.add_zero]
            exact hq)
    (fun s hq => by
      obtain ⟨q, rfl, hq⟩ := hq
      refine ⟨_, ?_, q, rfl, hq⟩
      unfold kJc
      simp only [hq.ci.list, Int.lt_irrefl, decide_false, cond_false])
    ⟨p, rfl, by
      show CB l n bx base cc S (X + 0) o p
      rw [Int.add_zero]
      exact h⟩
  refine ⟨p', ?_, h2⟩
  unfold t_q59
  rw [h1]
  rfl
def LI (bx : Nat → Box) (base cst : Nat → Int) (ls : List Symbol) (S : Nat) : List Way := (kEo S).reverse.flatMap (kD6 bx base cst [1, 3, 4] 0 ⟨0, 0, 0, 0⟩ S) ++ (List.range ls.length).flatMap (gIL bx base cst ls S)
def LS (bx : Nat → Box) (base cst : Nat → Int) (ls : List Symbol) (S : Nat) : List Way :=
  kDp bx base cst 1 0 ⟨0, 0, 0, 0⟩ S (kEo S) ++ ((List.range ls.length).flatMap (gSL bx base cst ls S 2) ++ (kDp bx base cst 3 0 ⟨0, 0, 0, 0⟩ S (kEo S) ++ (kDp bx base cst 4 0 ⟨0, 0, 0, 0⟩ S (kEo S) ++ (List.range ls.length).flatMap (gSL bx base cst ls S 5))))
theorem kFx {bx : Nat → Box} {base cst : Nat → Int} {k sg : Int} {s : Box} {rest : Nat} {l : List Nat} {t : Way} : t ∈ kDp bx base cst k sg s rest l ↔ ∃ a ∈ l, kC0 bx base cst k sg s a (dif rest a) = t := by
  unfold kDp
  exact List.mem_map
theorem mem_g (bx : Nat → Box) (base cst : Nat → Int) (ls : List Symbol) (S i : Nat) (t : Way) : t ∈ gIL bx base cst ls S i ↔ t ∈ gSL bx base cst ls S 2 i ∨ t ∈ gSL bx base cst ls S 5 i := by
  unfold gIL gSL
  rw [show decide ((2 : Int) = 5) = false from rfl, show decide ((5 : Int) = 5) = true from rfl]
  cases decide (dif S (2 ^ i) = S) with
  | true => simp
  | false =>
    by_cases h2 : lbAt ls i = labK 2
    · have h5 : ¬ lbAt ls i = labK 5 := by
        rw [h2]
        decide
      rw [decide_eq_true h2, decide_eq_false h5]
      simp only [cond_false, cond_true, Bool.not_true, Bool.not_false, List.not_mem_nil, or_false]
      rw [List.mem_flatMap, kFx]
      unfold kD6
      constructor
      · rintro ⟨a, ha, h⟩
        rw [List.mem_reverse] at ha
        exact ⟨a, ha, (List.mem_singleton.1 h).symm⟩
      · rintro ⟨a, ha, h⟩
        exact ⟨a, List.mem_reverse.2 ha, by simpa using h.symm⟩
    · rw [decide_eq_false h2]
      cases decide (lbAt ls i = labK 5) <;> simp
theorem mem_both (bx : Nat → Box) (base cst : Nat → Int) (ls : List Symbol) (S : Nat) (t : Way) : t ∈ LI bx base cst ls S ↔ t ∈ LS bx base cst ls S := by
  unfold LI LS
  simp only [List.mem_append, List.mem_flatMap, mem_g, kFx, List.mem_reverse]
  unfold kD6
  constructor
  · rintro (⟨a, ha, h⟩ | ⟨i, hi, h | h⟩)
    · simp only [List.map_cons, List.map_nil, List.mem_cons, List.not_mem_nil, or_false] at h
      rcases h with h | h | h
      · exact .inl ⟨a, ha, h.symm⟩
      · exact .inr (.inr (.inl ⟨a, ha, h.symm⟩))
      · exact .inr (.inr (.inr (.inl ⟨a, ha, h.symm⟩)))
    · exact .inr (.inl ⟨i, hi, h⟩)
    · exact .inr (.inr (.inr (.inr ⟨i, hi, h⟩)))
  · rintro (⟨a, ha, h⟩ | ⟨i, hi, h⟩ | ⟨a, ha, h⟩ | ⟨a, ha, h⟩ | ⟨i, hi, h⟩)
    · exact .inl ⟨a, ha, by simp [h]⟩
    · exact .inr ⟨i, hi, .inl h⟩
    · exact .inl ⟨a, ha, by simp [h]⟩
    · exact .inl ⟨a, ha, by simp [h]⟩
    · exact .inr ⟨i, hi, .inr h⟩
def canon (bx : Nat → Box) (base cst : Nat → Int) (ls : List Symbol) (S : Nat) (k sg : Int) (a : Nat) : Way :=
  if k = 2 then kC0 bx base cst 2 sg (sbAt ls sg.toNat) a (dif (dif S (2 ^ sg.toNat)) a) else if k = 5 then kC0 bx base cst 5 sg (sbAt ls sg.toNat) a 0 else kC0 bx base cst k sg ⟨0, 0, 0, 0⟩ a (dif S a)
theorem gS_mem {bx : Nat → Box} {base cst : Nat → Int} {ls : List Symbol} {S i : Nat} {k : Int} {t : Way} (h : t ∈ gSL bx base cst ls S k i) : (k = 5 ∧ t = kC0 bx base cst 5 (i : Int) (sbAt ls i) (dif S (2 ^ i)) 0) ∨ (k ≠ 5 ∧ ∃ a ∈ kEo (dif S (2 ^ i)), t = kC0 bx base cst k (i : Int) (sbAt ls i) a (dif (dif S (2 ^ i)) a)) := by
  unfold gSL at h
  revert h
  cases (bif decide (dif S (2 ^ i) = S) then true else !decide (lbAt ls i = labK k)) with
  | true => exact fun h => by cases h
  | false =>
    by_cases hk : k = 5
    · rw [decide_eq_true hk]
      exact fun h => .inl ⟨hk, List.mem_singleton.1 h⟩
    · rw [decide_eq_false hk]
      intro h
      rw [cond_false, cond_false, kFx] at h
      obtain ⟨a, ha, e⟩ := h
      exact .inr ⟨hk, a, ha, e.symm⟩
theorem canon_ok {bx : Nat → Box} {base cst : Nat → Int} {ls : List Symbol} {S : Nat} {t : Way} (h : t ∈ LS bx base cst ls S) : t = canon bx base cst ls S t.kind t.sign t.a := by
  unfold LS at h
  simp only [List.mem_append, List.mem_flatMap, kFx] at h
  rcases h with ⟨a, ha, rfl⟩ | ⟨i, hi, h⟩ | ⟨a, ha, rfl⟩ | ⟨a, ha, rfl⟩ | ⟨i, hi, h⟩
  · rfl
  · rcases gS_mem h with ⟨h5, _⟩ | ⟨_, a, ha, rfl⟩
    · cases h5
    · rfl
  · rfl
  · rfl
  · rcases gS_mem h with ⟨_, rfl⟩ | ⟨h5, _⟩
    · rfl
    · exact absurd rfl h5
theorem one_way {bx : Nat → Box} {base cst : Nat → Int} {ls : List Symbol} {S : Nat} : ∀ x ∈ LI bx base cst ls S, ∀ y ∈ LI bx base cst ls S, x.kind = y.kind → x.sign = y.sign → x.a = y.a → x = y := fun x hx y hy h1 h2 h3 => by
  rw [canon_ok ((mem_both bx base cst ls S x).1 hx), canon_ok ((mem_both bx base cst ls S y).1 hy), h1, h2, h3]
theorem subA_up (m : Nat) : (kEo m).Pairwise (· < ·) := by
  unfold kEo
  exact List.Pairwise.filter _ List.pairwise_lt_range
theorem up_waysS (bx : Nat → Box) (base cst : Nat → Int) (k sg : Int) (s : Box) (rest : Nat) : (kDp bx base cst k sg s rest (kEo rest)).Pairwise kIe := by
  unfold kDp
  rw [List.pairwise_map]
  exact (subA_up rest).imp fun {a b} h => .inr ⟨rfl, .inr ⟨rfl, h⟩⟩
theorem g_kind {bx : Nat → Box} {base cst : Nat → Int} {ls : List Symbol} {S i : Nat} {k : Int} {t : Way} (h : t ∈ gSL bx base cst ls S k i) : t.kind = k ∧ t.sign = (i : Int) := by
  rcases gS_mem h with ⟨h5, rfl⟩ | ⟨_, a, _, rfl⟩
  · exact ⟨h5.symm, rfl⟩
  · exact ⟨rfl, rfl⟩
theorem up_g (bx : Nat → Box) (base cst : Nat → Int) (ls : List Symbol) (S : Nat) (k : Int) (n : Nat) : ((List.range n).flatMap (gSL bx base cst ls S k)).Pairwise kIe := by
  rw [List.pairwise_flatMap]
  constructor
  · intro i _
    unfold gSL
    cases (bif decide (dif S (2 ^ i) = S) then true else !decide (lbAt ls i = labK k)) with
    | true => exact List.Pairwise.nil
    | false =>
      cases decide (k = 5) with
      | true => exact List.pairwise_singleton _ _
      | false => exact up_waysS bx base cst k i _ _
  · refine List.pairwise_lt_range.imp fun {i j} hij x hx y hy => ?_
    obtain ⟨a1, a2⟩ := g_kind hx
    obtain ⟨b1, b2⟩ := g_kind hy
    unfold kIe
    omega
theorem up_LS (bx : Nat → Box) (base cst : Nat → Int) (ls : List Symbol) (S : Nat) : (LS bx base cst ls S).Pairwise kIe := by
  have kS : ∀ {k sg : Int} {s : Box} {rest : Nat} {l : List Nat} {t : Way}, t ∈ kDp bx base cst k sg s rest l → t.kind = k := fun {k sg s rest l t} h => by
    obtain ⟨a, _, rfl⟩ := kFx.1 h
    rfl
  have kG : ∀ {k : Int} {n : Nat} {t : Way}, t ∈ (List.range n).flatMap (gSL bx base cst ls S k) → t.kind = k := fun {k n t} h => by
    obtain ⟨i, _, h'⟩ := List.mem_flatMap.1 h
    exact (g_kind h').1
  have lt : ∀ {x y : Way}, x.kind < y.kind → kIe x y := fun h => .inl h
  unfold LS
  rw [List.pairwise_append, List.pairwise_append, List.pairwise_append, List.pairwise_append]
  refine ⟨up_waysS .., ⟨up_g .., ⟨up_waysS .., ⟨up_waysS .., up_g .., fun x hx y hy => lt ?_⟩, fun x hx y hy => lt ?_⟩, fun x hx y hy => lt ?_⟩, fun x hx y hy => lt ?_⟩
  · rw [kS hx, kG hy]
    decide
  · rw [kS hx]
    rcases List.mem_append.1 hy with h | h
    · rw [kS h]
      decide
    · rw [kG h]
      decide
  · rw [kG hx]
    rcases List.mem_append.1 hy with h | h
    · rw [kS h]
      decide
    · rcases List.mem_append.1 h with h | h
      · rw [kS h]
        decide
      · rw [kG h]
        decide
  · rw [kS hx]
    rcases List.mem_append.1 hy with h | h
    · rw [kG h]
      decide
    · rcases List.mem_append.1 h with h | h
      · rw [kS h]
        decide
      · rcases List.mem_append.1 h with h | h
        · rw [kS h]
          decide
        · rw [kG h]
          decide
theorem best_same (bx : Nat → Box) (base cst : Nat → Int) (ls : List Symbol) (S : Nat) : (LI bx base cst ls S).foldl kD5 none = (LS bx base cst ls S).foldl kEr none :=
  best_one (foldI (l := []) (r := LI bx base cst ls S) best_nil) (foldS (l := []) (r := LS bx base cst ls S) best_nil (up_LS bx base cst ls S)) (mem_both bx base cst ls S) one_way
theorem kH2 (f : Nat → List Way) : ∀ l : List Nat, kE6 (l.flatMap f) = kI7 (fun a => kE6 (f a)) l
  | [] => rfl
  | a :: l => by rw [List.flatMap_cons, kBe, kD3, kH2 f l]
theorem sumW_map (g : Nat → Way) : ∀ l : List Nat, kE6 (l.map g) = kI7 (fun a => (g a).ways) l
  | [] => rfl
  | a :: l => by
    have := sumW_map g l
    rw [kD3, List.map_cons]
    unfold kE6 at *
    rw [List.map_cons, List.sum_cons, this]
theorem sumW_K (bx : Nat → Box) (base cst : Nat → Int) (sg : Int) (s : Box) (rest a : Nat) : ∀ K : List Int, kE6 (kD6 bx base cst K sg s rest a) = sumK (fun k => kBn bx base k s a (dif rest a)) K
  | [] => rfl
  | k :: K => by
    have := sumW_K bx base cst sg s rest a K
    unfold kE6 kD6 sumK at *
    simp only [List.map_cons, List.sum_cons]
    rw [this]
    rfl
theorem gI_sum (bx : Nat → Box) (base cst : Nat → Int) (ls : List Symbol) (S i : Nat) : kE6 (gIL bx base cst ls S i) = gI bx base ls S i := by
  unfold gIL gI
  cases decide (dif S (2 ^ i) = S) with
  | true => rfl
  | false =>
    cases decide (lbAt ls i = labK 2) with
    | true =>
      rw [cond_false, cond_true, cond_false, cond_true, kH2, sumL_rev]
      refine kEg fun a _ => ?_
      rw [sumW_K]
      simp [sumK]
    | false =>
      cases decide (lbAt ls i = labK 5) with
      | true => exact kFh _
      | false => rfl
theorem gS_sum (bx : Nat → Box) (base cst : Nat → Int) (ls : List Symbol) (S : Nat) (k : Int) (i : Nat) : kE6 (gSL bx base cst ls S k i) = gS bx base ls S k i := by
  unfold gSL gS
  cases (bif decide (dif S (2 ^ i) = S) then true else !decide (lbAt ls i = labK k)) with
  | true => rfl
  | false =>
    cases decide (k = 5) with
    | true => exact kFh _
    | false =>
      rw [cond_false, cond_false, cond_false, cond_false]
      unfold kDp
      rw [sumW_map]
      rfl
theorem LI_sum (bx : Nat → Box) (base cst : Nat → Int) (ls : List Symbol) (S : Nat) : kE6 (LI bx base cst ls S) = sumI bx base ls S := by
  unfold LI sumI
  rw [kBe, kH2, kH2, sumL_rev, Int.zero_add]
  rw [kEg (g := fun a => sumK (fun k => kBn bx base k ⟨0, 0, 0, 0⟩ a (dif S a)) [1, 3, 4]) fun a _ => sumW_K .., kEg (g := gI bx base ls S) fun i _ => gI_sum ..]
theorem LS_sum (bx : Nat → Box) (base cst : Nat → Int) (ls : List Symbol) (S : Nat) : kE6 (LS bx base cst ls S) = sumI bx base ls S := by
  have e : ∀ k : Int, kE6 (kDp bx base cst k 0 ⟨0, 0, 0, 0⟩ S (kEo S)) = kI7 (fun a => kBn bx base k ⟨0, 0, 0, 0⟩ a (dif S a)) (kEo S) := fun k => by
    unfold kDp
    rw [sumW_map]
    rfl
  have g : ∀ k : Int, kE6 ((List.range ls.length).flatMap (gSL bx base cst ls S k)) = kI7 (gS bx base ls S k) (List.range ls.length) := fun k => by
    rw [kH2]
    exact kEg fun i _ => gS_sum ..
  rw [sum_both]
  unfold LS
  rw [kBe, kBe, kBe, kBe, e, e, e, g, g]
  omega
def pcC (v : Nat) : Nat := v % 2 + (v / 2 % 2 + (v / 4 % 2 + (v / 8 % 2 + (v / 16 % 2 + (v / 32 % 2 + (v / 64 % 2 + v / 128 % 2))))))
def mxC : Nat → Nat
  | 0 => 1
  | 1 => 1
  | 2 => 8
  | 3 => 174
  | 4 => 6216
  | 5 => 309960
  | 6 => 19850400
  | 7 => 1552960080
  | _ => 143542425600
def MC (v : Nat) : Nat := mxC (pcC v)
def sumC (f : Nat → Nat) (l : List Nat) : Nat := (l.map f).sum
theorem sumC_cons (f : Nat → Nat) (a : Nat) (l : List Nat) : sumC f (a :: l) = f a + sumC f l := by simp [sumC]
def pairC (S a : Nat) : Nat := MC a * MC (dif S a)
def signC (S i : Nat) : Nat := bif decide (dif S (2 ^ i) = S) then 0 else sumC (pairC (dif S (2 ^ i))) (kEo (dif S (2 ^ i))) + MC (dif S (2 ^ i))
theorem bound_tab : ∀ S : Fin 256, (decide (S.val &&& (S.val - 1) = 0) || decide (sumC (fun a => 3 * pairC S.val a) (kEo S.val) + sumC (signC S.val) (List.range 8) ≤ MC S.val)) = true := by decide +kernel
theorem prod_tab : ∀ S : Fin 256, ((kEo S.val).all fun a => decide (pairC S.val a ≤ 4611686018427387904)) = true := by decide +kernel
theorem MC_le (v : Nat) : MC v ≤ 143542425600 := by
  have : ∀ c, mxC c ≤ 143542425600 := fun c => by
    unfold mxC
    split <;> omega
  exact this _
theorem sumL_le {f : Nat → Int} {g : Nat → Nat} : ∀ {l : List Nat}, (∀ a ∈ l, f a ≤ ((g a : Nat) : Int)) → kI7 f l ≤ ((sumC g l : Nat) : Int)
  | [], _ => Int.le_refl _
  | a :: l, h => by
    have h1 := h a List.mem_cons_self
    have h2 := sumL_le (f := f) (g := g) (l := l) fun b hb => h b (List.mem_cons_of_mem _ hb)
    rw [kD3, sumC_cons]
    omega
theorem sumC_range (f : Nat → Nat) (n : Nat) : ∀ d, sumC f (List.range n) ≤ sumC f (List.range (n + d))
  | 0 => Nat.le_refl _
  | d + 1 => by
    have := sumC_range f n d
    rw [← Nat.add_assoc, List.range_succ]
    unfold sumC at *
    rw [List.map_append, List.sum_append]
    omega
theorem pair_le {base : Nat → Int} (h0 : ∀ v, 0 ≤ base v) (hM : ∀ v, base v ≤ ((MC v : Nat) : Int)) (S a : Nat) : base a * base (dif S a) ≤ ((pairC S a : Nat) : Int) := by
  unfold pairC
  rw [Int.natCast_mul]
  exact Int.mul_le_mul (hM a) (hM _) (h0 _) (by omega)
theorem term_le {bx : Nat → Box} {base : Nat → Int} (h0 : ∀ v, 0 ≤ base v) (hM : ∀ v, base v ≤ ((MC v : Nat) : Int)) {S a : Nat} (hd : dif S a ≠ 0) (k : Int) (s : Box) : kBn bx base k s a (dif S a) ≤ ((pairC S a : Nat) : Int) := by
  unfold kBn
  rw [decide_eq_false hd]
  have := pair_le h0 hM S a
  cases kFj k s (bx a) (bx (dif S a)) with
  | true => exact this
  | false =>
    show (0 : Int) ≤ _
    omega
theorem sumI_le {bx : Nat → Box} {base : Nat → Int} (h0 : ∀ v, 0 ≤ base v) (hM : ∀ v, base v ≤ ((MC v : Nat) : Int)) {ls : List Symbol} (hl : ls.length ≤ 8) {S : Nat} (hS : S < 256) (hm : S &&& (S - 1) ≠ 0) : sumI bx base ls S ≤ ((MC S : Nat) : Int) := by
  have tab := bound_tab ⟨S, hS⟩
  have tab2 : sumC (fun a => 3 * pairC S a) (kEo S) + sumC (signC S) (List.range 8) ≤ MC S := by
    rw [Bool.or_eq_true] at tab
    rcases tab with k | k
    · exact absurd (of_decide_eq_true k) hm
    · exact of_decide_eq_true k
  have A : kI7 (fun a => sumK (fun k => kBn bx base k ⟨0, 0, 0, 0⟩ a (dif S a)) [1, 3, 4]) (kEo S) ≤ ((sumC (fun a => 3 * pairC S a) (kEo S) : Nat) : Int) := sumL_le fun a ha => by
    have hd := (kHj ha hS).2.2
    have t1 := term_le (bx := bx) h0 hM hd 1 ⟨0, 0, 0, 0⟩
    have t3 := term_le (bx := bx) h0 hM hd 3 ⟨0, 0, 0, 0⟩
    have t4 := term_le (bx := bx) h0 hM hd 4 ⟨0, 0, 0, 0⟩
    have e : sumK (fun k => kBn bx base k ⟨0, 0, 0, 0⟩ a (dif S a)) [1, 3, 4] = kBn bx base 1 ⟨0, 0, 0, 0⟩ a (dif S a) + (kBn bx base 3 ⟨0, 0, 0, 0⟩ a (dif S a) + kBn bx base 4 ⟨0, 0, 0, 0⟩ a (dif S a)) := by simp [sumK]
    rw [e]
    omega
  have B : kI7 (gI bx base ls S) (List.range ls.length) ≤ ((sumC (signC S) (List.range ls.length) : Nat) : Int) := sumL_le fun i hi => by
    rw [List.mem_range] at hi
    unfold gI signC
    by_cases hn : dif S (2 ^ i) = S
    · rw [decide_eq_true hn]
      exact Int.le_refl _
    · obtain ⟨k1, _⟩ := less_set hS (by omega) hn
      rw [decide_eq_false hn, cond_false, cond_false, Int.natCast_add]
      have s1 : kI7 (fun a => kBn bx base 2 (sbAt ls i) a (dif (dif S (2 ^ i)) a)) (kEo (dif S (2 ^ i))) ≤ ((sumC (pairC (dif S (2 ^ i))) (kEo (dif S (2 ^ i))) : Nat) : Int) := sumL_le fun a ha => term_le h0 hM (kHj ha (by omega)).2.2 2 _
      cases decide (lbAt ls i = labK 2) with
      | true =>
        rw [cond_true]
        omega
      | false =>
        cases decide (lbAt ls i = labK 5) with
        | true =>
          rw [cond_false, cond_true]
          have : kBn bx base 5 (sbAt ls i) (dif S (2 ^ i)) 0 ≤ ((MC (dif S (2 ^ i)) : Nat) : Int) := by
            unfold kBn
            have := hM (dif S (2 ^ i))
            cases kFj 5 (sbAt ls i) (bx (dif S (2 ^ i))) (bx 0) with
            | true => exact this
            | false =>
              show (0 : Int) ≤ _
              omega
          omega
        | false =>
          rw [cond_false, cond_false]
          omega
  have C := sumC_range (signC S) ls.length (8 - ls.length)
  rw [show ls.length + (8 - ls.length) = 8 by omega] at C
  unfold sumI
  omega
def kDj (S : Nat) : Nat → Nat
  | 0 => 0
  | i + 1 => bif outQ S i then kDj S i else i
def zeroC : Choice := ⟨0, 0, 0, 0, 0⟩
theorem boxS2 {l : Sl Symbol} {n : Nat} {bx : Nat → Box} {base : Nat → Int} {cc : Nat → Choice} {S : Nat} {p : Chart21} (h : CI l n bx base p) (hS : S < n) (h0 : bx S = ⟨0, 0, 0, 0⟩) (hl : (l.getD []).length ≤ 8) (hcc : ∀ v, v < n → ∃ x, (p.cells.getD [])[v]? = some x ∧ chC x = cc v) (hz : cc S = zeroC) :
    ∃ C, kBq (kJa p (S : Int)) (p.cells, 0, 0) = some (C, (kI9 S (l.getD []).length : Int)) ∧ CI l n (kF9 bx S (kGa (l.getD []) S)) base ⟨l, C⟩ ∧ (∀ v, v < n → v ≠ S → ∃ x, (C.getD [])[v]? = some x ∧ chC x = cc v) ∧ ∃ x, (C.getD [])[S]? = some x ∧ chC x = ⟨0, (kDj S (l.getD []).length : Int), 0, 0, 0⟩ := by
  obtain ⟨r, h1, C, rfl, h2, h3, h4⟩ := kFb (step := kJa p (S : Int)) (s := (p.cells, 0, 0))
    (fun i s => ∃ C, s = (C, (kI9 S i : Int), (i : Int)) ∧ CI l n (kF9 bx S ((accB (l.getD []) S i).getD ⟨0, 0, 0, 0⟩)) base ⟨l, C⟩ ∧ (∀ v, v < n → v ≠ S → ∃ x, (C.getD [])[v]? = some x ∧ chC x = cc v) ∧ ∃ x, (C.getD [])[S]? = some x ∧ chC x = ⟨0, (kDj S i : Int), 0, 0, 0⟩) (l.getD []).length
    (fun r => ∃ C, r = (C, (kI9 S (l.getD []).length : Int)) ∧ CI l n (kF9 bx S (kGa (l.getD []) S)) base ⟨l, C⟩ ∧ (∀ v, v < n → v ≠ S → ∃ x, (C.getD [])[v]? = some x ∧ chC x = cc v) ∧ ∃ x, (C.getD [])[S]? = some x ∧ chC x = ⟨0, (kDj S (l.getD []).length : Int), 0, 0, 0⟩)
    (fun i s hi hq => by
      obtain ⟨C, rfl, hq, ho, hx4⟩ := hq
      left
      obtain ⟨y, hy⟩ : ∃ y, (l.getD [])[i]? = some y := ⟨_, List.getElem?_eq_getElem hi⟩
      obtain ⟨_, by'⟩ := lb_get hy
      have c : (i : Int) < (((l.getD []).length : Nat) : Int) := by omega
      have w : wr ((i : Int) + 1) = ((i + 1 : Nat) : Int) := kDt hi (by omega)
      have cl := cnt_le S i
      have wm : wr ((kI9 S i : Int) + 1) = ((kI9 S i + 1 : Nat) : Int) := kDt (n := 16) (by omega) (by omega)
      have o : decide (kF3 (shrQ S i) 1 = 0) = outQ S i := rfl
      obtain ⟨x, hx, xb, xw⟩ := hq.cells S hS
      have hx' : (C.getD [])[S]? = some x := hx
      obtain ⟨x4, hx4, x5⟩ := hx4
      rw [hx'] at hx4
      cases hx4
      have xk : x.kind = 0 := by have := congrArg Choice.kind x5; exact this
      have xf : x.first = 0 := by have := congrArg Choice.a x5; exact this
      have xr : x.rest = 0 := by have := congrArg Choice.b x5; exact this
      have xco : x.cost = 0 := by have := congrArg Choice.cost x5; exact this
      have xb' : x.box = (accB (l.getD []) S i).getD ⟨0, 0, 0, 0⟩ := by
        rw [xb]
        exact if_pos rfl
      have look : ∀ a : Cell21, kCo ((kB1 C (S : Int) a).getD []) (S : Int) = some a := fun a => kAl (by rw [kCb hx', if_pos rfl])
      have other : ∀ a : Cell21, ∀ v, v < n → v ≠ S → ∃ x, ((kB1 C (S : Int) a).getD [])[v]? = some x ∧ chC x = cc v := fun a v hv hn => by
        rw [kCb hx', if_neg hn]
        exact ho v hv hn
      have self : ∀ a : Cell21, ((kB1 C (S : Int) a).getD [])[S]? = some a := fun a => by rw [kCb hx', if_pos rfl]
      cases hb : outQ S i with
      | true =>
        have e1 : kI9 S (i + 1) = kI9 S i := by
          show (bif outQ S i then kI9 S i else kI9 S i + 1) = _
          rw [hb]
          rfl
        have e2 : accB (l.getD []) S (i + 1) = accB (l.getD []) S i := by
          show (bif outQ S i then accB (l.getD []) S i else _) = _
          rw [hb]
          rfl
        have e3 : kDj S (i + 1) = kDj S i := by
          show (bif outQ S i then kDj S i else i) = _
          rw [hb]
          rfl
        refine ⟨(C, (kI9 S (i + 1) : Int), ((i + 1 : Nat) : Int)), ?_, C, rfl, by rw [e2]; exact hq, ho, x, hx', by rw [e3]; exact x5⟩
        rw [e1]
        unfold kJa
        simp only [h.list, c, decide_true, cond_true, kA4, shr_ok, o, hb, w]
      | false =>
        have e1 : kI9 S (i + 1) = kI9 S i + 1 := by
          show (bif outQ S i then kI9 S i else kI9 S i + 1) = _
          rw [hb]
          rfl
        have e3 : kDj S (i + 1) = i := by
          show (bif outQ S i then kDj S i else i) = _
          rw [hb]
          rfl
        have ch : ∀ (b : Box) (u : Int), chC (⟨b, u, x.cost, x.kind, (i : Int), x.first, x.rest⟩ : Cell21) = ⟨0, (kDj S (i + 1) : Int), 0, 0, 0⟩ := fun b u => by
          rw [e3, xk, xf, xr, xco]
          rfl
        rcases cnt_zero (l.getD []) S i with ⟨k1, k2⟩ | ⟨k1, b, k2⟩
        · have e2 : accB (l.getD []) S (i + 1) = some y.box := by
            show (bif outQ S i then accB (l.getD []) S i else _) = _
            rw [hb, k2, ← by']
            rfl
          refine ⟨(kB1 C (S : Int) (⟨⟨(kBi y.box y.box).x1, (kBi y.box y.box).y1, (kBi y.box y.box).x2, (kBi y.box y.box).y2⟩, x.ways, x.cost, x.kind, (i : Int), x.first, x.rest⟩ : Cell21), (kI9 S (i + 1) : Int), ((i + 1 : Nat) : Int)), ?_, _, rfl, ?_, other _, _, self _, ch _ _⟩
          · have z : decide (((0 : Nat) : Int) = 0) = true := rfl
            rw [k1] at wm
            rw [e1, k1]
            unfold kJa
            simp only [h.list, c, decide_true, cond_true, kA4, shr_ok, o, hb, cond_false, z, kAl hy, kAl hx', look, kBl, box_eta, w, wm]
          · rw [e2]
            have := hq.setC hS (⟨⟨(kBi y.box y.box).x1, (kBi y.box y.box).y1, (kBi y.box y.box).x2, (kBi y.box y.box).y2⟩, x.ways, x.cost, x.kind, (i : Int), x.first, x.rest⟩ : Cell21) xw
            rw [updB_updB] at this
            simp only [box_eta, join_self] at this ⊢
            exact this
        · have e2 : accB (l.getD []) S (i + 1) = some (kBi b y.box) := by
            show (bif outQ S i then accB (l.getD []) S i else _) = _
            rw [hb, k2, ← by']
            rfl
          have xb2 : x.box = b := by
            rw [xb', k2]
            rfl
          refine ⟨(kB1 C (S : Int) (⟨⟨(kBi b y.box).x1, (kBi b y.box).y1, (kBi b y.box).x2, (kBi b y.box).y2⟩, x.ways, x.cost, x.kind, (i : Int), x.first, x.rest⟩ : Cell21), (kI9 S (i + 1) : Int), ((i + 1 : Nat) : Int)), ?_, _, rfl, ?_, other _, _, self _, ch _ _⟩
          · have z : decide ((kI9 S i : Int) = 0) = false := decide_eq_false (by omega)
            rw [e1]
            unfold kJa
            simp only [h.list, c, decide_true, cond_true, kA4, shr_ok, o, hb, cond_false, z, kAl hy, kAl hx', look, kBl, xb2, w, wm]
          · rw [e2]
            have := hq.setC hS (⟨⟨(kBi b y.box).x1, (kBi b y.box).y1, (kBi b y.box).x2, (kBi b y.box).y2⟩, x.ways, x.cost, x.kind, (i : Int), x.first, x.rest⟩ : Cell21) xw
            rw [updB_updB] at this
            exact this)
    (fun s hq => by
      obtain ⟨C, rfl, hq⟩ := hq
      refine ⟨_, ?_, C, rfl, hq⟩
      unfold kJa
      simp only [h.list, Int.lt_irrefl, decide_false, cond_false])
    ⟨p.cells, rfl, by
      show CI l n (kF9 bx S ⟨0, 0, 0, 0⟩) base ⟨l, p.cells⟩
      rw [updB_id h0]
      exact ⟨rfl, h.len, h.cells⟩, fun v hv _ => hcc v hv, by
      obtain ⟨x, k1, k2⟩ := hcc S hS
      exact ⟨x, k1, by rw [k2, hz]; rfl⟩⟩
  exact ⟨C, h1, h2, h3, h4⟩
theorem solveI3 {l : Sl Symbol} {n : Nat} {bx : Nat → Box} {base cst : Nat → Int} {bc cc : Nat → Choice} {S : Nat} {p : Parser} (H : Hyp S (kF9 bx S (kGa (l.getD []) S)) base cst bc cc) (h : PI l n bx base p) (hb : ∀ v, v < n → (p.best.getD [])[v]? = some (bc v)) (h0 : base S = 0) (hS : S < n) (hS2 : S < 256) (hS0 : 0 < S) (hm : S &&& (S - 1) ≠ 0) (hl : (l.getD []).length ≤ 8)
    (hX : kE6 (LI (kF9 bx S (kGa (l.getD []) S)) base cst (l.getD []) S) ≤ bigC) :
    ∃ p', t_q17 p (S : Int) = some p' ∧ PB l n (kF9 bx S (kGa (l.getD []) S)) base bc S (0 + kE6 (LI (kF9 bx S (kGa (l.getD []) S)) base cst (l.getD []) S)) ((LI (kF9 bx S (kGa (l.getD []) S)) base cst (l.getD []) S).foldl kD5 none) p' := by
  have hbx := h.boxes S hS
  have B := h.setB hS (kGa (l.getD []) S)
  have w : wr ((S : Int) - 1) = ((S - 1 : Nat) : Int) := by rw [kD1 (by omega) (by omega)]; omega
  have an : kF3 (S : Int) ((S - 1 : Nat) : Int) = ((S &&& (S - 1) : Nat) : Int) := kHp (by omega) (by omega)
  have d : decide (((S &&& (S - 1) : Nat) : Int) = 0) = false := decide_eq_false (by omega)
  rw [← upd_same h0] at B
  have P0 : PB l n (kF9 bx S (kGa (l.getD []) S)) base bc S 0 none ⟨p.list, kB1 p.boxes (S : Int) (kGa (l.getD []) S), p.best, p.count⟩ := ⟨B, fun v hv _ => hb v hv, fun t e => (by cases e), ⟨fun _ => rfl, fun _ => rfl⟩, Int.le_refl _⟩
  have hX2 := hX
  unfold LI at hX2
  rw [kBe] at hX2
  have hX3 : kE6 ((kEo S).reverse.flatMap (kD6 (kF9 bx S (kGa (l.getD []) S)) base cst [1, 3, 4] 0 ⟨0, 0, 0, 0⟩ S)) + kE6 ((List.range (l.getD []).length).flatMap (gIL (kF9 bx S (kGa (l.getD []) S)) base cst (l.getD []) S)) ≤ 4611686018427387904 := hX2
  have nn := kFf (l := (List.range (l.getD []).length).flatMap (gIL (kF9 bx S (kGa (l.getD []) S)) base cst (l.getD []) S)) fun t ht => by
    obtain ⟨i, _, h'⟩ := List.mem_flatMap.1 ht
    exact gIL_pos H _ i t h'
  obtain ⟨c, e1, e2⟩ := splitI2 (K := [1, 3, 4]) (sg := 0) (box := ⟨0, 0, 0, 0⟩) (rest := S) H P0 hS hS2 hS0 (Nat.le_refl _) (fun k hk => by simp at hk; omega) (by simp) (by show _ ≤ (4611686018427387904 : Int); omega)
  obtain ⟨p', e3, e4⟩ := loopI2 H e2 hS hS2 hm hl (by show _ ≤ (4611686018427387904 : Int); omega)
  refine ⟨p', ?_, ?_⟩
  · unfold t_q17
    rw [h.list] at e1 ⊢
    rw [boxI S hl]
    simp only [kA4, kAl hbx, w, an, d, cond_false, e1, e3]
  · unfold LI
    rw [kBe, List.foldl_append, ← Int.add_assoc]
    exact e4
theorem fillS3 {l : Sl Symbol} {n : Nat} {bx : Nat → Box} {base cst : Nat → Int} {bc cc : Nat → Choice} {S : Nat} {p : Chart21} (H : Hyp S (kF9 bx S (kGa (l.getD []) S)) base cst bc cc) (h : CI l n bx base p) (hcc : ∀ v, v < n → ∃ x, (p.cells.getD [])[v]? = some x ∧ chC x = cc v) (hz : cc S = zeroC) (h0 : base S = 0) (hb0 : bx S = ⟨0, 0, 0, 0⟩) (hS : S < n) (hn : n = 2 ^ (l.getD []).length) (hS2 : S < 256) (hS0 : 0 < S) (hm : S &&& (S - 1) ≠ 0) (hl : (l.getD []).length ≤ 8)
    (hX : kE6 (LS (kF9 bx S (kGa (l.getD []) S)) base cst (l.getD []) S) ≤ bigC) :
    ∃ p', t_q58 p (S : Int) = some p' ∧ CB l n (kF9 bx S (kGa (l.getD []) S)) base cc S (0 + kE6 (LS (kF9 bx S (kGa (l.getD []) S)) base cst (l.getD []) S)) ((LS (kF9 bx S (kGa (l.getD []) S)) base cst (l.getD []) S).foldl kEr none) p' := by
  obtain ⟨C, e1, e2, e3, _⟩ := boxS2 h hS hb0 hl hcc hz
  have ob := one_bit ⟨(l.getD []).length, by omega⟩ ⟨S, hS2⟩
  have ob2 : decide (kI9 S (l.getD []).length = 1) = decide (S &&& (S - 1) = 0) := by
    rw [Bool.or_eq_true, Bool.or_eq_true] at ob
    rcases ob with k | k | k
    · have : 2 ^ (l.getD []).length ≤ S := of_decide_eq_true k
      omega
    · have : S = 0 := of_decide_eq_true k
      omega
    · exact of_decide_eq_true k
  rw [decide_eq_false hm] at ob2
  have d : decide ((kI9 S (l.getD []).length : Int) = 1) = false := decide_eq_false (by have := of_decide_eq_false ob2; omega)
  rw [← upd_same h0] at e2
  have P0 : CB l n (kF9 bx S (kGa (l.getD []) S)) base cc S 0 none ⟨l, C⟩ := ⟨e2, fun v hv hn => e3 v hv hn, fun t e => (by cases e), ⟨fun _ => rfl, fun _ => rfl⟩, Int.le_refl _⟩
  generalize kF9 bx S (kGa (l.getD []) S) = bx' at *
  have hX2 := hX
  unfold LS at hX2
  rw [kBe, kBe, kBe, kBe] at hX2
  have pS : ∀ k : Int, 0 ≤ kE6 (kDp bx' base cst k 0 ⟨0, 0, 0, 0⟩ S (kEo S)) := fun k => kFf (waysS_pos H _ _ _ _ _)
  have pG : ∀ k : Int, 0 ≤ kE6 ((List.range (l.getD []).length).flatMap (gSL bx' base cst (l.getD []) S k)) := fun k => kFf fun t ht => by
    obtain ⟨i, _, h'⟩ := List.mem_flatMap.1 ht
    exact gSL_pos H _ k i t h'
  have q1 := pS 1
  have q3 := pS 3
  have q4 := pS 4
  have g2 := pG 2
  have g5 := pG 5
  have hB : bigC = 4611686018427387904 := rfl
  have ns : ∀ k : Int, k = 1 ∨ k = 3 ∨ k = 4 → kGg k = true → ((l.getD [])[0]? = some (⟨⟨#[]⟩, ⟨0, 0, 0, 0⟩⟩ : Symbol) ∧ (⟨⟨#[]⟩, ⟨0, 0, 0, 0⟩⟩ : Symbol).box = ⟨0, 0, 0, 0⟩) := fun k hk hs => by
    rcases hk with rfl | rfl | rfl <;> cases hs
  have z : ((0 : Nat) : Int) = 0 := rfl
  obtain ⟨c1, a1, b1⟩ := splitS2 (k := 1) (sg := 0) (y := ⟨⟨#[]⟩, ⟨0, 0, 0, 0⟩⟩) (box := ⟨0, 0, 0, 0⟩) (rest := S) H P0 hS hS2 hS0 (Nat.le_refl _) (.inl rfl) (ns 1 (.inl rfl)) (fun _ => rfl) (by rw [z]; omega)
  rw [z] at a1 b1
  obtain ⟨c2, a2, b2⟩ := signsS2 (k := 2) H b1 hS hS2 hm hl (.inl rfl) (by omega)
  obtain ⟨c3, a3, b3⟩ := splitS2 (k := 3) (sg := 0) (y := ⟨⟨#[]⟩, ⟨0, 0, 0, 0⟩⟩) (box := ⟨0, 0, 0, 0⟩) (rest := S) H b2 hS hS2 hS0 (Nat.le_refl _) (.inr (.inr (.inl rfl))) (ns 3 (.inr (.inl rfl))) (fun _ => rfl) (by rw [z]; omega)
  rw [z] at a3 b3
  obtain ⟨c4, a4, b4⟩ := splitS2 (k := 4) (sg := 0) (y := ⟨⟨#[]⟩, ⟨0, 0, 0, 0⟩⟩) (box := ⟨0, 0, 0, 0⟩) (rest := S) H b3 hS hS2 hS0 (Nat.le_refl _) (.inr (.inr (.inr rfl))) (ns 4 (.inr (.inr rfl))) (fun _ => rfl) (by rw [z]; omega)
  rw [z] at a4 b4
  obtain ⟨c5, a5, b5⟩ := signsS2 (k := 5) H b4 hS hS2 hm hl (.inr rfl) (by omega)
  refine ⟨⟨c5.list, c5.cells⟩, ?_, ?_⟩
  · unfold t_q58
    rw [e1]
    simp only [kA4, d, cond_false, h.list, a1, a2, a3, a4, a5]
  · unfold LS
    rw [kBe, kBe, kBe, kBe, List.foldl_append, List.foldl_append, List.foldl_append, List.foldl_append]
    simp only [← Int.add_assoc]
    exact b5
theorem gS_in {bx : Nat → Box} {base cst : Nat → Int} {ls : List Symbol} {S i : Nat} {k : Int} {t : Way} (h : t ∈ gSL bx base cst ls S k i) : dif S (2 ^ i) ≠ S := fun e => by
  unfold gSL at h
  rw [decide_eq_true e] at h
  cases h
theorem sub_sum : ∀ m : Fin 256, ((kEo m.val).all fun a => decide (a + dif m.val a ≤ m.val)) = true := by decide +kernel
theorem sub_le {m a : Nat} (h : a ∈ kEo m) (hm : m < 256) : a + dif m a ≤ m := by
  have h2 := sub_sum ⟨m, hm⟩
  rw [List.all_eq_true] at h2
  exact of_decide_eq_true (h2 a h)
theorem way_facts {bx : Nat → Box} {base cst : Nat → Int} {ls : List Symbol} {S : Nat} (hS : S < 256) (hl : ls.length ≤ 8) (b0 : base 0 = 0) {t : Way} (h : t ∈ LS bx base cst ls S) (hw : t.ways ≠ 0) : t.kind ≠ 0 ∧ 0 < t.a ∧ t.a < S ∧ t.b < S ∧ base t.a ≠ 0 ∧ (t.b = 0 ∨ base t.b ≠ 0) ∧ t.a + t.b ≤ S := by
  have key : ∀ (k : Int) (s : Box) (a b : Nat), kBn bx base k s a b ≠ 0 → base a ≠ 0 ∧ (b = 0 ∨ base b ≠ 0) := fun k s a b ht => by
    unfold kBn at ht
    constructor
    · intro e
      rw [e, Int.zero_mul] at ht
      revert ht
      cases kFj k s (bx a) (bx b) <;> cases decide (b = 0) <;> exact fun h => h rfl
    · by_cases hb : b = 0
      · exact .inl hb
      · right
        intro e
        rw [e, Int.mul_zero, decide_eq_false hb] at ht
        revert ht
        cases kFj k s (bx a) (bx b) <;> exact fun h => h rfl
  have pos : ∀ a, base a ≠ 0 → 0 < a := fun a ha => by
    rcases Nat.eq_zero_or_pos a with e | e
    · rw [e] at ha
      exact absurd b0 ha
    · exact e
  unfold LS at h
  simp only [List.mem_append, List.mem_flatMap, kFx, List.mem_range] at h
  have plain : ∀ (k : Int), k ≠ 0 → ∀ a ∈ kEo S, kC0 bx base cst k 0 ⟨0, 0, 0, 0⟩ a (dif S a) = t → t.kind ≠ 0 ∧ 0 < t.a ∧ t.a < S ∧ t.b < S ∧ base t.a ≠ 0 ∧ (t.b = 0 ∨ base t.b ≠ 0) ∧ t.a + t.b ≤ S := fun k hk a ha e => by
    subst e
    obtain ⟨m1, m2, m3⟩ := kHj ha hS
    obtain ⟨k1, k2⟩ := key _ _ _ _ hw
    exact ⟨hk, pos _ k1, m1, m2, k1, k2, sub_le ha hS⟩
  have sign : ∀ (k : Int), k ≠ 0 → ∀ i, i < ls.length → t ∈ gSL bx base cst ls S k i → t.kind ≠ 0 ∧ 0 < t.a ∧ t.a < S ∧ t.b < S ∧ base t.a ≠ 0 ∧ (t.b = 0 ∨ base t.b ≠ 0) ∧ t.a + t.b ≤ S := fun k hk i hi hg => by
    obtain ⟨r1, _⟩ := less_set hS (by omega) (gS_in hg)
    rcases gS_mem hg with ⟨h5, rfl⟩ | ⟨_, a, ha, rfl⟩
    · obtain ⟨k1, k2⟩ := key _ _ _ _ hw
      exact ⟨by show (5 : Int) ≠ 0; decide, pos _ k1, r1, by show 0 < S; omega, k1, k2, Nat.le_of_lt r1⟩
    · obtain ⟨m1, m2, m3⟩ := kHj ha (by omega)
      obtain ⟨k1, k2⟩ := key _ _ _ _ hw
      exact ⟨hk, pos _ k1, by show a < S; omega, by show dif (dif S (2 ^ i)) a < S; omega, k1, k2, Nat.le_trans (sub_le ha (by omega)) (Nat.le_of_lt r1)⟩
  rcases h with ⟨a, ha, e⟩ | ⟨i, hi, h⟩ | ⟨a, ha, e⟩ | ⟨a, ha, e⟩ | ⟨i, hi, h⟩
  · exact plain 1 (by decide) a ha e
  · exact sign 2 (by decide) i hi h
  · exact plain 3 (by decide) a ha e
  · exact plain 4 (by decide) a ha e
  · exact sign 5 (by decide) i hi h
def Lnk (N : Nat) (base : Nat → Int) (v : Nat) (x y : Choice) : Prop :=
  (v &&& (v - 1) = 0 ∧ y = ⟨0, (kDj v N : Int), 0, 0, 0⟩) ∨ (v &&& (v - 1) ≠ 0 ∧ ∃ t : Way, x = chOf t ∧ y = chOf t ∧ t.kind ≠ 0 ∧ 0 < t.a ∧ t.a < v ∧ t.b < v ∧ base t.a ≠ 0 ∧ (t.b = 0 ∨ base t.b ≠ 0) ∧ t.a + t.b ≤ v)
structure Top (l : Sl Symbol) (n S : Nat) (bx : Nat → Box) (base cst : Nat → Int) (bc cc : Nat → Choice) (p : Parser) (c : Chart21) : Prop where
  pi : PI l n bx base p
  pb : ∀ v, v < n → (p.best.getD [])[v]? = some (bc v)
  ci : CI l n bx base c
  cb : ∀ v, v < n → ∃ x, (c.cells.getD [])[v]? = some x ∧ chC x = cc v
  h0 : ∀ v, 0 ≤ base v
  hM : ∀ v, base v ≤ ((MC v : Nat) : Int)
  b0 : base 0 = 0
  hc : ∀ v, base v ≠ 0 → (bc v).cost = cst v
  hcc : ∀ v, (base v ≠ 0 ∨ v = 0) → (cc v).cost = cst v
  hz : cst 0 = 0
  lk : ∀ v, base v ≠ 0 → Lnk (l.getD []).length base v (bc v) (cc v)
  up : ∀ v, S ≤ v → base v = 0 ∧ bx v = ⟨0, 0, 0, 0⟩ ∧ bc v = zeroC ∧ cc v = zeroC
def updC (f : Nat → Choice) (S : Nat) (x : Choice) (v : Nat) : Choice := if v = S then x else f v
theorem kFu (f : Nat → Choice) (S : Nat) (x : Choice) : updC f S x S = x := if_pos rfl
theorem kH6 {f : Nat → Choice} {S v : Nat} (x : Choice) (h : v ≠ S) : updC f S x v = f v := if_neg h
theorem MC_pos (v : Nat) : 1 ≤ MC v := by
  have : ∀ c, 1 ≤ mxC c := fun c => by
    unfold mxC
    split <;> omega
  exact this _
theorem Top.hyp {l : Sl Symbol} {n S : Nat} {bx : Nat → Box} {base cst : Nat → Int} {bc cc : Nat → Choice} {p : Parser} {c : Chart21} (T : Top l n S bx base cst bc cc p c) (hS : S < 256) (bx' : Nat → Box) : Hyp S bx' base cst bc cc :=
  ⟨T.h0, T.b0, T.hc, T.hcc, T.hz, fun rest hr a ha => by
    have tab := prod_tab ⟨rest, by omega⟩
    rw [List.all_eq_true] at tab
    have h1 : pairC rest a ≤ 4611686018427387904 := of_decide_eq_true (tab a ha)
    have h2 := pair_le T.h0 T.hM rest a
    show _ ≤ (4611686018427387904 : Int)
    omega⟩
theorem Lnk.mono {N v S : Nat} {base : Nat → Int} {x y : Choice} {u : Int} (h : Lnk N base v x y) (hv : v ≤ S) (hu : base S = 0) : Lnk N (upd base S u) v x y := by
  rcases h with h | ⟨h1, t, h2, h3, h4, h5, h6, h7, h8, h9, h10⟩
  · exact .inl h
  · refine .inr ⟨h1, t, h2, h3, h4, h5, h6, h7, ?_, ?_, h10⟩
    · rw [kE4 _ (by omega)]
      exact h8
    · rw [kE4 _ (by omega)]
      exact h9
theorem Top.next {l : Sl Symbol} {n S : Nat} {bx : Nat → Box} {base cst : Nat → Int} {bc cc : Nat → Choice} {p p' : Parser} {c c' : Chart21} (T : Top l n S bx base cst bc cc p c) (hS0 : 0 < S) {b : Box} {u : Int} {x y : Choice} (P : PI l n (kF9 bx S b) (upd base S u) p') (C : CI l n (kF9 bx S b) (upd base S u) c')
    (hp : ∀ v, v < n → v ≠ S → (p'.best.getD [])[v]? = some (bc v)) (hpS : (p'.best.getD [])[S]? = some x) (hcv : ∀ v, v < n → v ≠ S → ∃ z, (c'.cells.getD [])[v]? = some z ∧ chC z = cc v) (hcS : ∃ z, (c'.cells.getD [])[S]? = some z ∧ chC z = y)
    (hu0 : 0 ≤ u) (huM : u ≤ ((MC S : Nat) : Int)) (hxy : u ≠ 0 → x.cost = y.cost) (hl : u ≠ 0 → Lnk (l.getD []).length base S x y) :
    Top l n (S + 1) (kF9 bx S b) (upd base S u) (upd cst S x.cost) (updC bc S x) (updC cc S y) p' c' := by
  have z := (T.up S (Nat.le_refl _)).1
  refine ⟨P, fun v hv => ?_, C, fun v hv => ?_, fun v => ?_, fun v => ?_, ?_, fun v h => ?_, fun v h => ?_, ?_, fun v h => ?_, fun v hv => ?_⟩
  · by_cases e : v = S
    · subst e
      rw [kFu]
      exact hpS
    · rw [kH6 _ e]
      exact hp v hv e
  · by_cases e : v = S
    · subst e
      rw [kFu]
      exact hcS
    · rw [kH6 _ e]
      exact hcv v hv e
  · by_cases e : v = S
    · subst e
      rw [kDh]
      exact hu0
    · rw [kE4 _ e]
      exact T.h0 v
  · by_cases e : v = S
    · subst e
      rw [kDh]
      exact huM
    · rw [kE4 _ e]
      exact T.hM v
  · rw [kE4 _ (by omega)]
    exact T.b0
  · by_cases e : v = S
    · subst e
      rw [kFu, kDh]
    · rw [kE4 _ e] at h
      rw [kH6 _ e, kE4 _ e]
      exact T.hc v h
  · by_cases e : v = S
    · subst e
      rw [kDh] at h
      rw [kFu, kDh]
      exact (hxy (h.resolve_right (by omega))).symm
    · rw [kE4 _ e] at h
      rw [kH6 _ e, kE4 _ e]
      exact T.hcc v h
  · rw [kE4 _ (by omega)]
    exact T.hz
  · by_cases e : v = S
    · subst e
      rw [kDh] at h
      rw [kFu, kFu]
      exact (hl h).mono (Nat.le_refl _) z
    · rw [kE4 _ e] at h
      rw [kH6 _ e, kH6 _ e]
      have hvS : v ≤ S := by
        rcases Nat.lt_or_ge S v with k | k
        · exact absurd (T.up v (by omega)).1 h
        · exact k
      exact (T.lk v h).mono hvS z
  · have e : v ≠ S := by omega
    obtain ⟨a1, a2, a3, a4⟩ := T.up v (by omega)
    rw [kE4 _ e, kH6 _ e, kH6 _ e]
    refine ⟨a1, ?_, a3, a4⟩
    unfold kF9
    rw [if_neg e]
    exact a2
theorem topStep {l : Sl Symbol} {n S : Nat} {bx : Nat → Box} {base cst : Nat → Int} {bc cc : Nat → Choice} {p : Parser} {c : Chart21} (T : Top l n S bx base cst bc cc p c) (hS : S < n) (hn : n = 2 ^ (l.getD []).length) (hS2 : S < 256) (hS0 : 0 < S) (hl : (l.getD []).length ≤ 8) :
    ∃ p' c' bx' base' cst' bc' cc', t_q17 p (S : Int) = some p' ∧ t_q58 c (S : Int) = some c' ∧ Top l n (S + 1) bx' base' cst' bc' cc' p' c' := by
  obtain ⟨z1, z2, z3, z4⟩ := T.up S (Nat.le_refl _)
  by_cases e : S &&& (S - 1) = 0
  · have hbx := T.pi.boxes S hS
    have hct := T.pi.count S hS
    have w : wr ((S : Int) - 1) = ((S - 1 : Nat) : Int) := by rw [kD1 (by omega) (by omega)]; omega
    have an : kF3 (S : Int) ((S - 1 : Nat) : Int) = ((S &&& (S - 1) : Nat) : Int) := kHp (by omega) (by omega)
    have d : decide (((S &&& (S - 1) : Nat) : Int) = 0) = true := decide_eq_true (by rw [e]; rfl)
    have run1 : t_q17 p (S : Int) = some ⟨p.list, kB1 p.boxes (S : Int) (kGa (l.getD []) S), p.best, kB1 p.count (S : Int) 1⟩ := by
      unfold t_q17
      rw [T.pi.list, boxI S hl]
      simp only [kA4, kAl hbx, w, an, d, cond_true, kAl hct]
    obtain ⟨C, e1, e2, e3, x, e4, e5⟩ := boxS2 T.ci hS z2 hl T.cb z4
    have ob := one_bit ⟨(l.getD []).length, by omega⟩ ⟨S, hS2⟩
    have ob2 : decide (kI9 S (l.getD []).length = 1) = decide (S &&& (S - 1) = 0) := by
      rw [Bool.or_eq_true, Bool.or_eq_true] at ob
      rcases ob with k | k | k
      · have : 2 ^ (l.getD []).length ≤ S := of_decide_eq_true k
        omega
      · have : S = 0 := of_decide_eq_true k
        omega
      · exact of_decide_eq_true k
    rw [decide_eq_true e] at ob2
    have d2 : decide ((kI9 S (l.getD []).length : Int) = 1) = true := decide_eq_true (by have := of_decide_eq_true ob2; omega)
    have run2 : t_q58 c (S : Int) = some ⟨c.list, kB1 C (S : Int) (⟨⟨x.box.x1, x.box.y1, x.box.x2, x.box.y2⟩, 1, x.cost, x.kind, x.sign, x.first, x.rest⟩ : Cell21)⟩ := by
      unfold t_q58
      rw [e1]
      simp only [kA4, d2, cond_true, kAl e4]
    obtain ⟨x', hx', xb, _⟩ := e2.cells S hS
    have hx2 : (C.getD [])[S]? = some x' := hx'
    rw [e4] at hx2
    cases hx2
    have CC : CI l n (kF9 bx S (kGa (l.getD []) S)) (upd base S 1) ⟨c.list, kB1 C (S : Int) (⟨⟨x.box.x1, x.box.y1, x.box.x2, x.box.y2⟩, 1, x.cost, x.kind, x.sign, x.first, x.rest⟩ : Cell21)⟩ := by
      refine ⟨T.ci.list, by show ((kB1 C (S : Int) _).getD []).length = n; rw [kHl]; exact e2.len, fun v hv => ?_⟩
      show ∃ x, ((kB1 C (S : Int) _).getD [])[v]? = some x ∧ _
      rw [kCb e4]
      by_cases ev : v = S
      · subst ev
        rw [if_pos rfl, kDh]
        exact ⟨_, rfl, xb, rfl⟩
      · rw [if_neg ev, kE4 _ ev]
        exact e2.cells v hv
    have one := MC_pos S
    refine ⟨_, _, _, _, _, _, _, run1, run2, T.next hS0 (x := zeroC) (y := ⟨0, (kDj S (l.getD []).length : Int), 0, 0, 0⟩) (((T.pi.setB hS (kGa (l.getD []) S)).setC hS 1)) CC (fun v hv _ => T.pb v hv) (by rw [← z3]; exact T.pb S hS) (fun v hv hne => ?_) ?_ (by decide) (by omega) (fun _ => rfl) (fun _ => .inl ⟨e, rfl⟩)⟩
    · show ∃ z, ((kB1 C (S : Int) _).getD [])[v]? = some z ∧ _
      rw [kCb e4, if_neg hne]
      exact e3 v hv hne
    · show ∃ z, ((kB1 C (S : Int) _).getD [])[S]? = some z ∧ _
      rw [kCb e4, if_pos rfl]
      exact ⟨_, rfl, e5⟩
  · have H := T.hyp hS2 (kF9 bx S (kGa (l.getD []) S))
    have bd := sumI_le (bx := kF9 bx S (kGa (l.getD []) S)) T.h0 T.hM hl hS2 e
    have mx := MC_le S
    have s1 := LI_sum (kF9 bx S (kGa (l.getD []) S)) base cst (l.getD []) S
    have s2 := LS_sum (kF9 bx S (kGa (l.getD []) S)) base cst (l.getD []) S
    obtain ⟨p', r1, P⟩ := solveI3 H T.pi T.pb z1 hS hS2 hS0 e hl (by show _ ≤ (4611686018427387904 : Int); omega)
    obtain ⟨c', r2, C⟩ := fillS3 H T.ci T.cb z4 z1 z2 hS hn hS2 hS0 e hl (by show _ ≤ (4611686018427387904 : Int); omega)
    rw [s1] at P
    rw [s2, ← best_same] at C
    have b1 := foldI (l := []) (r := LI (kF9 bx S (kGa (l.getD []) S)) base cst (l.getD []) S) best_nil
    rw [List.nil_append] at b1
    have mem := mem_both (kF9 bx S (kGa (l.getD []) S)) base cst (l.getD []) S
    have facts := fun (t : Way) (h : t ∈ LI (kF9 bx S (kGa (l.getD []) S)) base cst (l.getD []) S) hw => way_facts hS2 hl T.b0 ((mem t).1 h) hw
    generalize (LI (kF9 bx S (kGa (l.getD []) S)) base cst (l.getD []) S).foldl kD5 none = o at *
    generalize LI (kF9 bx S (kGa (l.getD []) S)) base cst (l.getD []) S = L at *
    have pos := P.pos
    have wX : wr (0 + sumI (kF9 bx S (kGa (l.getD []) S)) base (l.getD []) S) = 0 + sumI (kF9 bx S (kGa (l.getD []) S)) base (l.getD []) S := kD1 (by omega) (by omega)
    cases o with
    | none =>
      obtain ⟨x, hx⟩ : ∃ y, (p'.best.getD [])[S]? = some y := ⟨_, List.getElem?_eq_getElem (by have := P.pi.best; omega)⟩
      obtain ⟨z, hz, _⟩ := C.ci.cells S hS
      have X0 := P.zero.1 rfl
      refine ⟨p', c', _, _, _, _, _, r1, r2, T.next hS0 (x := x) (y := chC z) P.pi C.ci P.bst hx C.bst ⟨z, hz, rfl⟩ (by omega) (by omega) (fun h => absurd (by rw [wX]; exact X0) h) (fun h => absurd (by rw [wX]; exact X0) h)⟩
    | some t =>
      obtain ⟨z, hz, hz2⟩ := C.own t rfl
      obtain ⟨f1, f2, f3, f4, f5, f6, f7⟩ := facts t b1.1.1 b1.1.2
      exact ⟨p', c', _, _, _, _, _, r1, r2, T.next hS0 (x := chOf t) (y := chOf t) P.pi C.ci P.bst (P.own t rfl) C.bst ⟨z, hz, hz2⟩ (by omega) (by omega) (fun _ => rfl) (fun _ => .inr ⟨e, t, rfl, rfl, f1, f2, f3, f4, f5, f6, f7⟩)⟩
theorem topLoop3 {l : Sl Symbol} {n : Nat} (hn : n = 2 ^ (l.getD []).length) (hn2 : n ≤ 256) (hl : (l.getD []).length ≤ 8) : ∀ (d S : Nat) (p : Parser) (c : Chart21) (bx : Nat → Box) (base cst : Nat → Int) (bc cc : Nat → Choice), S + d = n → 0 < S → Top l n S bx base cst bc cc p c →
    ∃ (p' : Parser) (c' : Chart21) (bx' : Nat → Box) (base' cst' : Nat → Int) (bc' cc' : Nat → Choice), kBq (s0_q22 (n : Int)) (p.boxes, p.best, p.count, p.list, (S : Int)) = some (p'.boxes, p'.best, p'.count, p'.list) ∧ kBq s0_q63 (c.cells, c.list, (S : Int)) = some (c'.cells, c'.list) ∧ Top l n n bx' base' cst' bc' cc' p' c'
  | 0, S, p, c, bx, base, cst, bc, cc, hd, hS0, T => by
    have : S = n := by omega
    subst this
    refine ⟨p, c, bx, base, cst, bc, cc, kCn ?_, kCn ?_, T⟩
    · unfold s0_q22
      simp only [Int.lt_irrefl, decide_false, cond_false]
    · unfold s0_q63
      simp only [T.ci.len, Int.lt_irrefl, decide_false, cond_false]
  | d + 1, S, p, c, bx, base, cst, bc, cc, hd, hS0, T => by
    have hS : S < n := by omega
    obtain ⟨p1, c1, bx1, base1, cst1, bc1, cc1, e1, e2, T1⟩ := topStep T hS hn (by omega) hS0 hl
    obtain ⟨p', c', bx', base', cst', bc', cc', g1, g2, g3⟩ := topLoop3 hn hn2 hl d (S + 1) p1 c1 _ _ _ _ _ (by omega) (by omega) T1
    have cd : (S : Int) < (n : Int) := by omega
    have w : wr ((S : Int) + 1) = ((S + 1 : Nat) : Int) := kDt hS (by omega)
    have e1' : t_q17 (⟨p.list, p.boxes, p.best, p.count⟩ : Parser) (S : Int) = some p1 := e1
    have e2' : t_q58 (⟨c.list, c.cells⟩ : Chart21) (S : Int) = some c1 := e2
    refine ⟨p', c', bx', base', cst', bc', cc', ?_, ?_, g3⟩
    · rw [kCr (s' := (p1.boxes, p1.best, p1.count, p1.list, ((S + 1 : Nat) : Int)))]
      · exact g1
      · unfold s0_q22
        simp only [cd, decide_true, cond_true, e1', kA4, w]
    · rw [kCr (s' := (c1.cells, c1.list, ((S + 1 : Nat) : Int)))]
      · exact g2
      · unfold s0_q63
        simp only [T.ci.len, cd, decide_true, cond_true, e2', kA4, w]
theorem best_both (l : Sl Symbol) (hl : (l.getD []).length ≤ 8) : ∃ (p : Parser) (c : Chart21) (bx : Nat → Box) (base cst : Nat → Int) (bc cc : Nat → Choice), t_q22 l = some p ∧ t_q63 l = some c ∧ Top l (2 ^ (l.getD []).length) (2 ^ (l.getD []).length) bx base cst bc cc p c := by
  have hn2 : 2 ^ (l.getD []).length ≤ 2 ^ 8 := Nat.pow_le_pow_right (by omega) hl
  have hn0 : 0 < 2 ^ (l.getD []).length := Nat.pow_pos (by omega)
  have sh : shlO 1 (((l.getD []).length : Nat) : Int) = some ((2 ^ (l.getD []).length : Nat) : Int) := shl_ok9 ⟨(l.getD []).length, by omega⟩
  generalize hn : 2 ^ (l.getD []).length = n at *
  have p0 : PI l n (fun _ => ⟨0, 0, 0, 0⟩) (fun _ => 0) ⟨l, some (List.replicate n ⟨0, 0, 0, 0⟩), some (List.replicate n ⟨0, 0, 0, 0, 0⟩), some (List.replicate n 0)⟩ :=
    ⟨rfl, fun v hv => by show (List.replicate n _)[v]? = _; rw [List.getElem?_replicate, if_pos hv], List.length_replicate, List.length_replicate, fun v hv => by show (List.replicate n _)[v]? = _; rw [List.getElem?_replicate, if_pos hv]⟩
  have c0 : CI l n (fun _ => ⟨0, 0, 0, 0⟩) (fun _ => 0) ⟨l, some (List.replicate n ⟨⟨0, 0, 0, 0⟩, 0, 0, 0, 0, 0, 0⟩)⟩ :=
    ⟨rfl, List.length_replicate, fun v hv => ⟨⟨⟨0, 0, 0, 0⟩, 0, 0, 0, 0, 0, 0⟩, by show (List.replicate n _)[v]? = _; rw [List.getElem?_replicate, if_pos hv], rfl, rfl⟩⟩
  have T0 : Top l n 1 (fun _ => ⟨0, 0, 0, 0⟩) (fun _ => 0) (fun _ => 0) (fun _ => zeroC) (fun _ => zeroC) ⟨l, some (List.replicate n ⟨0, 0, 0, 0⟩), some (List.replicate n ⟨0, 0, 0, 0, 0⟩), some (List.replicate n 0)⟩ ⟨l, some (List.replicate n ⟨⟨0, 0, 0, 0⟩, 0, 0, 0, 0, 0, 0⟩)⟩ :=
    ⟨p0, fun v hv => by show (List.replicate n (⟨0, 0, 0, 0, 0⟩ : Choice))[v]? = _; rw [List.getElem?_replicate, if_pos hv]; rfl, c0, fun v hv => ⟨⟨⟨0, 0, 0, 0⟩, 0, 0, 0, 0, 0, 0⟩, by show (List.replicate n _)[v]? = _; rw [List.getElem?_replicate, if_pos hv], rfl⟩,
      fun _ => Int.le_refl _, fun v => by omega, rfl, fun _ h => absurd rfl h, fun _ _ => rfl, rfl, fun _ h => absurd rfl h, fun _ _ => ⟨rfl, rfl, rfl, rfl⟩⟩
  obtain ⟨p', c', bx', base', cst', bc', cc', g1, g2, g3⟩ := topLoop3 hn.symm (by omega) hl (n - 1) 1 _ _ _ _ _ _ _ (by omega) (by omega) T0
  have g1' : kBq (s0_q22 (n : Int)) (some (List.replicate n (⟨0, 0, 0, 0⟩ : Box)), some (List.replicate n (⟨0, 0, 0, 0, 0⟩ : Choice)), some (List.replicate n (0 : Int)), l, 1) = some (p'.boxes, p'.best, p'.count, p'.list) := g1
  have g2' : kBq s0_q63 (some (List.replicate n (⟨⟨0, 0, 0, 0⟩, 0, 0, 0, 0, 0, 0⟩ : Cell21)), l, 1) = some (c'.cells, c'.list) := g2
  refine ⟨p', c', bx', base', cst', bc', cc', ?_, ?_, g3⟩
  · unfold t_q22
    rw [sh]
    simp only [kA4, make_len _ (show n ≤ 4294967296 by omega), g1']
  · unfold t_q63
    rw [sh]
    simp only [kA4, make_len _ (show n ≤ 4294967296 by omega), g2']
theorem single_tab : ∀ (N : Fin 9) (v : Fin 256), (decide (2 ^ N.val ≤ v.val) || (decide (v.val = 0) || (decide (v.val &&& (v.val - 1) ≠ 0) || (decide (2 ^ kDj v.val N.val = v.val) && decide (kDj v.val N.val < N.val))))) = true := by decide +kernel
theorem single_ix {N v : Nat} (hN : N ≤ 8) (hv : v < 2 ^ N) (h0 : v ≠ 0) (h1 : v &&& (v - 1) = 0) : 2 ^ kDj v N = v ∧ kDj v N < N := by
  have h256 : 2 ^ N ≤ 2 ^ 8 := Nat.pow_le_pow_right (by omega) hN
  have t := single_tab ⟨N, by omega⟩ ⟨v, by omega⟩
  rw [Bool.or_eq_true, Bool.or_eq_true, Bool.or_eq_true, Bool.and_eq_true] at t
  rcases t with k | k | k | ⟨k1, k2⟩
  · have : 2 ^ N ≤ v := of_decide_eq_true k
    omega
  · exact absurd (of_decide_eq_true k) h0
  · exact absurd h1 (of_decide_eq_true k)
  · exact ⟨of_decide_eq_true k1, of_decide_eq_true k2⟩
theorem pow_lt : ∀ (i j : Nat), i < j → 2 ^ i < 2 ^ j := fun _ _ h => Nat.pow_lt_pow_right (by omega) h
theorem app1 {A : Type} (t : Sl A) (x : A) (h : (t.getD []).length + 1 ≤ 4294967296) : appO t [x] = some (some (t.getD [] ++ [x])) := by
  unfold appO
  rw [if_pos (by simpa using h)]
  cases t <;> rfl
theorem bit_loop {v j : Nat} (hj : j ≤ 8) (hv : 2 ^ j = v) : ∀ (d i : Nat), i + d = j → kBq (s0_q16 (v : Int)) (i : Int) = some (j : Int)
  | 0, i, hd => by
    have : i = j := by omega
    subst this
    refine kCn ?_
    unfold s0_q16
    have sh : shlO 1 (i : Int) = some ((2 ^ i : Nat) : Int) := shl_ok9 ⟨i, by omega⟩
    rw [sh, kA4, hv]
    simp only [decide_true, Bool.not_true, cond_false]
  | d + 1, i, hd => by
    rw [kCr (s' := ((i + 1 : Nat) : Int))]
    · exact bit_loop hj hv d (i + 1) (by omega)
    · unfold s0_q16
      have sh : shlO 1 (i : Int) = some ((2 ^ i : Nat) : Int) := shl_ok9 ⟨i, by omega⟩
      have lt := pow_lt i j (by omega)
      have ne : ¬ (((2 ^ i : Nat) : Int) = (v : Int)) := by omega
      have w : wr ((i : Int) + 1) = ((i + 1 : Nat) : Int) := by rw [kD1 (by omega) (by omega)]; omega
      rw [sh, kA4, decide_eq_false ne, w]
      rfl
theorem build_both {l : Sl Symbol} {n : Nat} {bx : Nat → Box} {base cst : Nat → Int} {bc cc : Nat → Choice} {p : Parser} {c : Chart21} (T : Top l n n bx base cst bc cc p c) (hl : (l.getD []).length ≤ 8) (hn : n = 2 ^ (l.getD []).length) : ∀ (k v : Nat), v < k → v < n → base v ≠ 0 → ∀ (t t2 : Sl TreeNode), t.getD [] = t2.getD [] → (t.getD []).length + 2 * v ≤ 1000 →
    ∃ L r, t_q16 k p t (v : Int) = some (some L, r) ∧ t_q61 k c t2 (v : Int) = some (some L, r) ∧ L.length + 1 ≤ (t.getD []).length + 2 * v
  | 0, v, hk, _, _, _, _, _, _ => absurd hk (Nat.not_lt_zero _)
  | k + 1, v, hk, hv, hb, t, t2, ht, hlen => by
    have v0 : v ≠ 0 := fun e => hb (by rw [e]; exact T.b0)
    have n256 : n ≤ 2 ^ 8 := by rw [hn]; exact Nat.pow_le_pow_right (by omega) hl
    have w : wr ((v : Int) - 1) = ((v - 1 : Nat) : Int) := by rw [kD1 (by omega) (by omega)]; omega
    have an : kF3 (v : Int) ((v - 1 : Nat) : Int) = ((v &&& (v - 1) : Nat) : Int) := kHp (by omega) (by omega)
    obtain ⟨x, hx, hc⟩ := T.cb v hv
    have ex : kCo (p.best.getD []) (v : Int) = some (bc v) := kAl (T.pb v hv)
    have ey : kCo (c.cells.getD []) (v : Int) = some x := kAl hx
    unfold t_q16 t_q61
    rw [ex, ey, kA4, kA4, w, an]
    rcases T.lk v hb with ⟨e, y⟩ | ⟨e, u, h1, h2, h3, h4, h5, h6, h7, h8, h9⟩
    · rw [y] at hc
      have kx : x.kind = 0 := congrArg Choice.kind hc
      have sx : x.sign = (kDj v (l.getD []).length : Int) := congrArg Choice.sign hc
      obtain ⟨s1, s2⟩ := single_ix hl (by omega) v0 e
      have lp := bit_loop (v := v) (j := kDj v (l.getD []).length) (by omega) s1 (kDj v (l.getD []).length) 0 (by omega)
      have lp' : kBq (s0_q16 (v : Int)) 0 = some (kDj v (l.getD []).length : Int) := lp
      refine ⟨t.getD [] ++ [⟨0, (kDj v (l.getD []).length : Int), 0, 0⟩], wr ((((t.getD [] ++ [(⟨0, (kDj v (l.getD []).length : Int), 0, 0⟩ : TreeNode)]).length : Nat) : Int) - 1), ?_, ?_, ?_⟩
      · rw [e, lp']
        simp only [Int.natCast_zero, decide_true, cond_true, kA4, app1 t _ (show _ ≤ 4294967296 by omega), Option.getD_some]
      · rw [kx, sx]
        simp only [decide_true, cond_true, app1 t2 _ (show _ ≤ 4294967296 by rw [← ht]; omega), kA4, Option.getD_some, ht]
      · simp only [List.length_append, List.length_cons, List.length_nil]
        omega
    · rw [h2] at hc
      have kx : x.kind = u.kind := congrArg Choice.kind hc
      have sx : x.sign = u.sign := congrArg Choice.sign hc
      have ax : x.first = (u.a : Int) := congrArg Choice.a hc
      have bx' : x.rest = (u.b : Int) := congrArg Choice.b hc
      have c1 : decide (((v &&& (v - 1) : Nat) : Int) = 0) = false := decide_eq_false (by omega)
      have c2 : decide (x.kind = 0) = false := by rw [kx]; exact decide_eq_false h3
      obtain ⟨L, r, e1, e2, e3⟩ := build_both T hl hn k u.a (by omega) (by omega) h7 t t2 ht (by omega)
      rw [c1, c2, h1, ax, bx', kx, sx]
      show ∃ L r, (kA0 (t_q16 k p t (u.a : Int)) fun q => bif !decide ((u.b : Int) = 0) then kA0 (t_q16 k p q.1 (u.b : Int)) fun q2 => kA0 (appO q2.1 [(⟨u.kind, q.2, q2.2, u.sign⟩ : TreeNode)]) fun r => some (r, wr ((((r.getD []).length : Nat) : Int) - 1)) else kA0 (appO q.1 [(⟨u.kind, q.2, 0, u.sign⟩ : TreeNode)]) fun r => some (r, wr ((((r.getD []).length : Nat) : Int) - 1))) = some (some L, r) ∧
        (kA0 (t_q61 k c t2 (u.a : Int)) fun q => bif !decide ((u.b : Int) = 0) then kA0 (t_q61 k c q.1 (u.b : Int)) fun q2 => kA0 (appO q2.1 [(⟨u.kind, q.2, q2.2, u.sign⟩ : TreeNode)]) fun r => some (r, wr ((((r.getD []).length : Nat) : Int) - 1)) else kA0 (appO q.1 [(⟨u.kind, q.2, 0, u.sign⟩ : TreeNode)]) fun r => some (r, wr ((((r.getD []).length : Nat) : Int) - 1))) = some (some L, r) ∧ _
      rw [e1, e2, kA4, kA4]
      by_cases hb0 : u.b = 0
      · have c3 : decide ((u.b : Int) = 0) = true := decide_eq_true (by omega)
        rw [c3]
        have ap := app1 (some L) (⟨u.kind, r, 0, u.sign⟩ : TreeNode) (by show L.length + 1 ≤ _; omega)
        refine ⟨L ++ [⟨u.kind, r, 0, u.sign⟩], wr ((((L ++ [(⟨u.kind, r, 0, u.sign⟩ : TreeNode)]).length : Nat) : Int) - 1), ?_, ?_, ?_⟩
        · simp only [Bool.not_true, cond_false, ap, kA4, Option.getD_some]
        · simp only [Bool.not_true, cond_false, ap, kA4, Option.getD_some]
        · simp only [List.length_append, List.length_cons, List.length_nil]
          omega
      · have c3 : decide ((u.b : Int) = 0) = false := decide_eq_false (by omega)
        obtain ⟨L2, r2, f1, f2, f3⟩ := build_both T hl hn k u.b (by omega) (by omega) (h8.resolve_left hb0) (some L) (some L) rfl (by show L.length + _ ≤ _; omega)
        have f3' : L2.length + 1 ≤ L.length + 2 * u.b := f3
        have ap := app1 (some L2) (⟨u.kind, r, r2, u.sign⟩ : TreeNode) (by show L2.length + 1 ≤ _; omega)
        refine ⟨L2 ++ [⟨u.kind, r, r2, u.sign⟩], wr ((((L2 ++ [(⟨u.kind, r, r2, u.sign⟩ : TreeNode)]).length : Nat) : Int) - 1), ?_, ?_, ?_⟩
        · simp only [c3, Bool.not_false, cond_true, f1, ap, kA4, Option.getD_some]
        · simp only [c3, Bool.not_false, cond_true, f2, ap, kA4, Option.getD_some]
        · simp only [List.length_append, List.length_cons, List.length_nil]
          omega
theorem parse_both (l : Sl Symbol) (hl : (l.getD []).length ≤ 4294967296) : ∃ (r r2 : Tree) (a b : Int), t_q6 l = some (r, a, b) ∧ t_q47 l = some (r2, a, b) ∧ r.nodes.getD [] = r2.nodes.getD [] ∧ (r.nodes.getD []).length ≤ 1000 := by
  unfold t_q6 t_q47
  rw [validSys_ok l hl, l20Ok_ok l hl]
  simp only [kA4]
  cases hv : okSys (l.getD []) with
  | false => exact ⟨⟨none⟩, ⟨none⟩, 0, 1, rfl, rfl, rfl, Nat.zero_le _⟩
  | true =>
    have h8 : (l.getD []).length ≤ 8 := okSys_len hv
    obtain ⟨p, c, bx, base, cst, bc, cc, e1, e2, T⟩ := best_both l h8
    have hn0 : 0 < 2 ^ (l.getD []).length := Nat.pow_pos (by omega)
    have hn2 : 2 ^ (l.getD []).length ≤ 2 ^ 8 := Nat.pow_le_pow_right (by omega) h8
    generalize hn : 2 ^ (l.getD []).length = n at *
    have w : wr ((n : Int) - 1) = ((n - 1 : Nat) : Int) := by rw [kD1 (by omega) (by omega)]; omega
    have k1 : kCo (p.count.getD []) ((n - 1 : Nat) : Int) = some (base (n - 1)) := kAl (T.pi.count (n - 1) (by omega))
    have k3 : kCo (p.best.getD []) ((n - 1 : Nat) : Int) = some (bc (n - 1)) := kAl (T.pb (n - 1) (by omega))
    obtain ⟨x, k2, kb, kw⟩ := T.ci.cells (n - 1) (by omega)
    have k2' : kCo (c.cells.getD []) ((n - 1 : Nat) : Int) = some x := kAl k2
    obtain ⟨x', k4, k5⟩ := T.cb (n - 1) (by omega)
    rw [k2] at k4
    cases k4
    by_cases hb : base (n - 1) = 0
    · refine ⟨⟨none⟩, ⟨none⟩, 0, 6, ?_, ?_, rfl, Nat.zero_le _⟩
      · simp only [Bool.not_true, cond_false, e1, kA4, T.pi.clen, w, k1, hb, decide_true, cond_true]
      · simp only [Bool.not_true, cond_false, e2, kA4, T.ci.len, w, k2', kw, hb, decide_true, cond_true]
    · obtain ⟨L, r, f1, f2, f3⟩ := build_both T h8 hn.symm 300 (n - 1) (by omega) (by omega) hb none (some []) rfl (by show 0 + _ ≤ _; omega)
      have f3' : L.length + 1 ≤ 0 + 2 * (n - 1) := f3
      have d := decide_eq_false hb
      have cst1 : (bc (n - 1)).cost = cst (n - 1) := T.hc _ hb
      have cst2 : (cc (n - 1)).cost = cst (n - 1) := T.hcc _ (.inl hb)
      have cst3 : x.cost = cst (n - 1) := by rw [← cst2, ← k5]; rfl
      refine ⟨⟨some L⟩, ⟨some L⟩, cst (n - 1), 0, ?_, ?_, rfl, by show L.length ≤ 1000; omega⟩
      · simp only [Bool.not_true, cond_false, e1, kA4, T.pi.clen, w, k1, d, f1, k3, cst1]
      · simp only [Bool.not_true, cond_false, e2, kA4, T.ci.len, w, k2', kw, d, f2, cst3]
theorem eqTn_ok {a b : Sl TreeNode} (h : a.getD [] = b.getD []) (hl : (a.getD []).length ≤ 4294967296) : t_q32 a b = some true := by
  have lp := kG6 (step := s0_q32 a b) (a.getD []) (fun _ _ => (none : Option Bool)) (.inl ()) .inr
    (fun k x hx => by
      have hk := kI5 hx
      have c : (k : Int) < ((a.getD []).length : Nat) := by omega
      unfold s0_q32
      simp only [c, decide_true, cond_true, kAl hx, ← h, kA4, Bool.not_true, cond_false, kDt hk hl])
    (by
      unfold s0_q32
      simp only [Int.lt_irrefl, decide_false, cond_false])
  rw [kIb (fun _ _ _ => rfl)] at lp
  unfold t_q32
  rw [lp, ← h]
  simp
theorem mkTn_get : ∀ (n : Nat) (k : Int) (i : Nat), i < n → (mkTn k n)[i]? = some ⟨k + 4 * i, k + 4 * i + 1, k + 4 * i + 2, k + 4 * i + 3⟩
  | 0, _, _, h => by omega
  | n + 1, k, 0, _ => by simp [mkTn]
  | n + 1, k, i + 1, h => by
    have := mkTn_get n (k + 4) i (by omega)
    simp only [mkTn, List.getElem?_cons_succ, this]
    have e : k + 4 + 4 * (i : Int) = k + 4 * ((i + 1 : Nat) : Int) := by omega
    rw [e]
theorem heldTn_ok {s : Sl TreeNode} {n : Nat} (hs : s.getD [] = mkTn 1 n) (hn : n ≤ 2000000) : t_q34 s 1 = some (1 + 4 * (n : Int)) := by
  have lp := loopT_at (step := s0_q34 s) n (fun k => (1 + 4 * (k : Int), (k : Int))) (.inl (1 + 4 * (n : Int)))
    (fun k hk => by
      have c : (k : Int) < (((mkTn 1 n).length : Nat) : Int) := by rw [mkTn_len]; omega
      have ws := kDt hk (by omega)
      have w1 : wr (1 + 4 * (k : Int) + 1) = 1 + 4 * (k : Int) + 1 := kD1 (by omega) (by omega)
      have w2 : wr (1 + 4 * (k : Int) + 1 + 1) = 1 + 4 * (k : Int) + 2 := by rw [kD1 (by omega) (by omega)]; omega
      have w3 : wr (1 + 4 * (k : Int) + 2 + 1) = 1 + 4 * (k : Int) + 3 := by rw [kD1 (by omega) (by omega)]; omega
      have w4 : wr (1 + 4 * (k : Int) + 3 + 1) = 1 + 4 * ((k + 1 : Nat) : Int) := by rw [kD1 (by omega) (by omega)]; omega
      unfold s0_q34
      simp only [hs, c, decide_true, cond_true, kAl (mkTn_get n 1 k hk), kA4, Bool.not_true, cond_false, ws, w1, w2, w3, w4])
    (by
      have c : ¬ (n : Int) < (((mkTn 1 n).length : Nat) : Int) := by rw [mkTn_len]; omega
      unfold s0_q34
      simp only [hs, c, decide_false, cond_false])
    0 (Nat.zero_le _)
  have lp' : kBq (s0_q34 s) (1, 0) = some (.inl (1 + 4 * (n : Int))) := lp
  unfold t_q34
  rw [lp', kA4]
theorem markTn_ok (s : Sl TreeNode) (hl : (s.getD []).length ≤ 1000) : ∃ v : Sl TreeNode, t_q38 s 1 = some (1 + 4 * (((s.getD []).length : Nat) : Int), v) ∧ t_q33 ⟨v⟩ 1 = some (1 + 4 * (((s.getD []).length : Nat) : Int)) := by
  refine ⟨s.map fun l => mkTn 1 l.length, ?_, ?_⟩
  · unfold t_q38
    have d2 : decide (1 + 4 * (((s.getD []).length : Nat) : Int) ≤ 1000000000) = true := decide_eq_true (by omega)
    rw [d2]
    rfl
  · have g : (s.map fun l => mkTn 1 l.length).getD [] = mkTn 1 (s.getD []).length := by cases s <;> rfl
    have h := heldTn_ok g (by omega)
    have d : decide (1 + 4 * (((s.getD []).length : Nat) : Int) < 0) = false := decide_eq_false (by omega)
    unfold t_q33
    simp only [h, kA4, d, cond_false]
theorem kFv (a : Sl Symbol) (ha : (a.getD []).length ≤ maxLen) : t_q26 a = some true := by
  rw [maxLen_eq] at ha
  obtain ⟨r, sz, hr⟩ := szSymbolS_ok a (by omega)
  unfold t_q26
  rw [sz, kA4]
  by_cases c0 : r < 0
  · rw [decide_eq_true c0, cond_true]
  rw [decide_eq_false c0, cond_false]
  have hl : (a.getD []).length ≤ 1048576 := hr.resolve_left c0
  have tb := toSymbolS_ok a (by omega)
  obtain ⟨g, w, x, y, t1, t2, t3, t4⟩ := parse_both (some (a.getD [])) (by show (a.getD []).length ≤ _; omega)
  have E := eqSy_ok (a := some (a.getD [])) (b := some (a.getD [])) rfl (by show (a.getD []).length ≤ _; omega)
  have E1 : t_q30 g w = some true := by
    unfold t_q30
    rw [eqTn_ok t3 (by omega)]
    rfl
  have M1 : t_q35 (some (a.getD [])) 1 = some (1 + 5 * (((a.getD []).length : Nat) : Int), some (mkSy 1 (a.getD []).length)) := by
    unfold t_q35
    have d1 : decide ((0 : Int) ≤ 1) = true := by decide
    have d2 : decide (1 + 5 * ((((some (a.getD []) : Sl Symbol).getD []).length : Nat) : Int) ≤ 100000000) = true := decide_eq_true (by simp only [Option.getD_some]; omega)
    rw [d1, d2]
    rfl
  obtain ⟨v, M3, H⟩ := markTn_ok g.nodes t4
  have z1 : decide (1 + 5 * (((a.getD []).length : Nat) : Int) < 0) = false := decide_eq_false (by omega)
  have z2 : decide (1 + 4 * (((g.nodes.getD []).length : Nat) : Int) < 0) = false := decide_eq_false (by omega)
  simp only [tb, kA4, t1, t2, E, E1, decide_true, Bool.not_true, cond_false, M1, z1, M3, H, z2]
theorem ok_q26 : kAp Try.prog n_q26 (G1 (fun a : Sl Symbol => Wt.big a) fun _ => bv true) := lawC1 tt_q26 fun a h => kFv a (big_len h)
theorem kGe (a : Sl Symbol) (ha : Row.fine a) : G1 (fun a : Sl Symbol => Wt.big a) (fun _ => bv true) [enc a] = some (bv true) := G1_enc _ _ a (Wt.fb a ha)
theorem isC_9 {cs : List AV} (h : IsC Try.prog 9 cs) : ∃ x : ByteArray, cs = Row.cells x ∧ Row.fine x := by
  obtain ⟨n, rfl, hn⟩ := IsC.strE Try.underlying9 h
  exact ⟨n, rfl, hn⟩
theorem isC_2 {cs : List AV} (h : IsC Try.prog 2 cs) : ∃ x : Int, cs = Row.cells x ∧ Row.fine x := by
  obtain ⟨n, rfl, hn⟩ := IsC.intE Try.underlying2 h
  exact ⟨n, rfl, fine_int hn⟩
theorem isC_67 {cs : List AV} (h : IsC Try.prog 67 cs) : ∃ x : Box, cs = Row.cells x ∧ Row.fine x := by
  replace h := IsC.structE Try.underlying67 h
  obtain ⟨c0, r0, rfl, q0, k0⟩ := IsFs.consE h
  obtain ⟨c1, r1, rfl, q1, k1⟩ := IsFs.consE k0
  obtain ⟨c2, r2, rfl, q2, k2⟩ := IsFs.consE k1
  obtain ⟨c3, r3, rfl, q3, k3⟩ := IsFs.consE k2
  cases IsFs.nilE k3
  obtain ⟨v0, rfl, w0⟩ := isC_2 q0
  obtain ⟨v1, rfl, w1⟩ := isC_2 q1
  obtain ⟨v2, rfl, w2⟩ := isC_2 q2
  obtain ⟨v3, rfl, w3⟩ := isC_2 q3
  exact ⟨⟨v0, v1, v2, v3⟩, rfl, w0, w1, w2, w3⟩
theorem isC_69 {cs : List AV} (h : IsC Try.prog 69 cs) : ∃ x : Symbol, cs = Row.cells x ∧ Row.fine x := by
  replace h := IsC.structE Try.underlying69 h
  obtain ⟨c0, r0, rfl, q0, k0⟩ := IsFs.consE h
  obtain ⟨c1, r1, rfl, q1, k1⟩ := IsFs.consE k0
  cases IsFs.nilE k1
  obtain ⟨v0, rfl, w0⟩ := isC_9 q0
  obtain ⟨v1, rfl, w1⟩ := isC_67 q1
  exact ⟨⟨v0, v1⟩, rfl, w0, w1⟩
theorem isC_34 {cs : List AV} (h : IsC Try.prog 34 cs) : ∃ x : (Sl Symbol), cs = Row.cells x ∧ Row.fine x := by
  rcases IsC.sliceE Try.underlying34 h with rfl | ⟨rows, rfl, h1, h2⟩
  · exact ⟨none, rfl, Sl.fineNil⟩
  · exact Sl.isC (by kernel_rfl) h1 fun row hr => isC_69 (h2 row hr)
theorem own : ownKnob Try.prog.godebug = none := by kernel_rfl
theorem laidOut : laidOutB Try.prog = true := by kernel_rfl
set_option maxRecDepth 100000 in
theorem holds : Rows.FnExactParseSymbolsSaid :=
  OpenClaim.holds_of_wide 4 Try.f4 rfl rfl rfl rfl rfl rfl rfl ⟨rfl, rfl, rfl, rfl, rfl⟩ rfl rfl rfl rfl rfl (by kernel_rfl) Try.func4 (by kernel_rfl)
    (of_decide_eq_true (by kernel_rfl)) (by unfold Func.isWrapper; rw [if_neg (by decide +kernel)]; exact ⟨rfl, rfl⟩)
    (fun os started H enc _ => law_lifted (C := Try.checked) (s := Rows.fnExactParseSymbolsSpec) own started (by kernel_rfl) Try.func4
      (ChangeSpec.witness6 (enc := enc) (C := Try.checked) false ⟨#[], #[.slice none 0 0], []⟩ 8 (by kernel_rfl) (by kernel_rfl) (by kernel_rfl) (by kernel_rfl))
      laidOut rfl (tb := 4) rfl Try.underlying4 (ts := [34, 69, 9, 67, 2]) (by kernel_rfl)
      (fun ds h => by match ds, h with | [d0], _ => rfl)
      hb_q26 ok_q26 (by
    intro l h
    obtain ⟨a0, l0, rfl, g0, k0⟩ := h
    cases k0
    obtain ⟨b0, e0, w0⟩ := isC_34 (isV_one (by kernel_rfl) g0)
    obtain rfl := one_enc e0
    exact kGe b0 w0) (by kernel_rfl))
#print axioms holds
end Go.Proofs.Ytokbncnochagaaa
