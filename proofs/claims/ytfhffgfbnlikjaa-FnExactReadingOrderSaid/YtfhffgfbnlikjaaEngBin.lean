import Derived.Test.YtfhffgfbnlikjaaEngVal
namespace Go.Eng
set_option linter.unusedVariables false
set_option linter.unusedSimpArgs false
variable {P : Program} {X : Nat → Prop} {own : Nat → Prop} {w : World} {ρ : RM}
theorem eqGuard_int (op : BinOp) (t : TypeId) (x y : Operand) (k k' : IntKind) (a b : Int) : (eqGuard op t x y (.int k a) (.int k' b)).run P w = .ok () w := by cases op <;> simp [eqGuard]
theorem eqGuard_str (op : BinOp) (t : TypeId) (x y : Operand) (a b : ByteArray) : (eqGuard op t x y (.string a) (.string b)).run P w = .ok () w := by cases op <;> simp [eqGuard]
theorem eqGuard_bool (op : BinOp) (t : TypeId) (x y : Operand) (a b : Bool) : (eqGuard op t x y (.bool a) (.bool b)).run P w = .ok () w := by cases op <;> simp [eqGuard]
theorem kI1 (op : BinOp) (t : TypeId) (x y : Operand) (a b : Option Addr) : (eqGuard op t x y (.pointer a) (.pointer b)).run P w = .ok () w := by cases op <;> simp [eqGuard]
theorem kFz (op : BinOp) (t : TypeId) (x y : Operand) (a b : Option Addr) (n c n' c' : Nat) : (eqGuard op t x y (.slice a n c) (.slice b n' c')).run P w = .ok () w := by cases op <;> simp [eqGuard]
theorem arith_ok {op : BinOp} {t : TypeId} {k : IntKind} {a b : Int} {v : Value} (h : arith op k a b = some v) (h1 : op ≠ .shl) (h2 : op ≠ .shr) : (binOp op t (.int k a) (.int k b)).run P w = .ok v w ∧ v.oneCell' = true := by
  cases op <;> simp [arith] at h h1 h2 <;> first
    | (subst h; exact ⟨by simp [binOp, Op.intArith, Op.intBits, Op.intCmp], rfl⟩)
    | (obtain ⟨h0, rfl⟩ := h; exact ⟨by simp [binOp, Op.intDiv, h0], rfl⟩)
theorem strop_ok {op : BinOp} {t : TypeId} {a b : ByteArray} {v : Value} (h : strop op a b = some v) : (binOp op t (.string a) (.string b)).run P w = .ok v w ∧ v.oneCell' = true := by
  cases op <;> simp [strop] at h
  case add =>
    obtain ⟨h0, rfl⟩ := h
    refine ⟨?_, rfl⟩
    simp only [binOp, Op.stringOp]
    rw [if_neg (by
        have : IntKind.i64.max = 9223372036854775807 := by decide
        push_cast; omega)]
    rfl
  all_goals (subst h; exact ⟨by simp [binOp, Op.stringOp], rfl⟩)
theorem bin_ok {op : BinOp} {t : TypeId} {xo yo : Operand} (hc : isCmp op = false) {x y v : AV} {px py : Value} (hx : Rep own w ρ x px) (hy : Rep own w ρ y py) (h : kAq op x y = some v) :
    ∃ u, (do eqGuard op t xo yo px py; binOp op t px py : Sem Value).run P w = .ok u w ∧ Rep own w ρ v u := by
  unfold kAq at h
  split at h
  · rename_i k a k' b
    rw [hx.int_inv, hy.int_inv]
    simp only [Sem.run_bind, eqGuard_int, Result.andThen_ok]
    split at h
    · split at h
      · rename_i h0
        cases h
        have h1 : ¬ b < 0 := by omega
        exact ⟨_, by simp [binOp, Op.shift, h1], .sc rfl⟩
      · cases h
    · split at h
      · rename_i h0
        cases h
        have h1 : ¬ b < 0 := by omega
        exact ⟨_, by simp [binOp, Op.shift, h1], .sc rfl⟩
      · cases h
    · rename_i n1 n2
      split at h
      · rename_i hk
        subst hk
        split at h
        · rename_i u hu
          cases h
          obtain ⟨e1, e2⟩ := arith_ok (P := P) (w := w) (t := t) hu n1 n2
          exact ⟨u, e1, .sc e2⟩
        · cases h
      · cases h
  · rename_i a b
    rw [hx.str_inv, hy.str_inv]
    simp only [Sem.run_bind, eqGuard_str, Result.andThen_ok]
    split at h
    · rename_i u hu
      cases h
      obtain ⟨e1, e2⟩ := strop_ok (P := P) (w := w) (t := t) hu
      exact ⟨u, e1, .sc e2⟩
    · cases h
  · cases h
theorem run_part_window {t : TypeId} {s : Nat} {g : Bool} (hs : tsize P t = some s) (hg : tagg P t = some g) (xs : Array Value) (a b i : Nat) (h1 : a + i + s ≤ b) (h2 : b ≤ xs.size) (h3 : 0 < s ∨ g = true) :
    (part t (xs.extract a b) i).run P w = (part t xs (a + i)).run P w := by
  cases g with
  | true =>
    simp only [part, Sem.run_bind, kCs hg, Result.andThen_ok, if_true, kBv hs, Sem.run_pure]
    congr 2
    apply Array.ext'
    simp only [Array.toList_extract, List.extract_eq_take_drop, List.drop_take, List.drop_drop, List.take_take]
    congr 1
    omega
  | false =>
    have h0 : 0 < s := by simpa using h3
    simp only [part, Sem.run_bind, kCs hg, Result.andThen_ok, Bool.false_eq_true, if_false]
    rw [Array.getElem?_extract, if_pos (by omega)]
theorem kHd : ∀ (k1 k2 : List CK) (a b : List AV) (e : Bool), kCp (k1 ++ k2) a b = some e →
    (kCp k1 a b = some false ∧ e = false) ∨ (kCp k1 a b = some true ∧ kCp k2 (a.drop k1.length) (b.drop k1.length) = some e)
  | [], k2, a, b, e, h => .inr ⟨rfl, h⟩
  | k :: k1, k2, [], b, e, h => by simp [kCp] at h
  | k :: k1, k2, _ :: _, [], e, h => by simp [kCp] at h
  | k :: k1, k2, x :: a, y :: b, e, h => by
    simp only [List.cons_append, kCp, List.length_cons, List.drop_succ_cons] at h ⊢
    cases hq : cellEq k x y with
    | none => simp [hq] at h
    | some c =>
      cases c with
      | true =>
        simp only [hq] at h ⊢
        exact kHd k1 k2 a b e h
      | false =>
        simp only [hq] at h ⊢
        simp at h
        exact .inl ⟨trivial, h⟩
def kHx (own : Nat → Prop) (w : World) (ρ : RM) (cs : List AV) (xs : Array Value) : Prop := xs.size = cs.length ∧ ∀ (i : Nat) (c : AV) (v : Value), cs[i]? = some c → xs[i]? = some v → Rep own w ρ c v
theorem plain_ok {k : CK} {t : TypeId} (hg : tagg P t = some false) (D : Nat)
    (hD : ∀ (c d : AV) (u v : Value) (e : Bool), Rep own w ρ c u → Rep own w ρ d v → cellEq k c d = some e → (Op.equalIn (D + 1) t u v).run P w = .ok e w)
    {XS YS : Array Value} {cs ds : List AV} {off : Nat} {e : Bool} (hx : kHx own w ρ cs XS) (hy : kHx own w ρ ds YS) (h : kCp [k] (cs.drop off) (ds.drop off) = some e) :
    ∃ vx vy, (part t XS off).run P w = .ok vx w ∧ (part t YS off).run P w = .ok vy w ∧ (Op.equalIn (D + 1) t vx vy).run P w = .ok e w := by
  have get : ∀ {cs : List AV} {XS : Array Value} {c : AV} {r : List AV}, kHx own w ρ cs XS → cs.drop off = c :: r → ∃ u, XS[off]? = some u ∧ Rep own w ρ c u := fun {cs XS c r} hc hd => by
    have h1 : cs[off]? = some c := by
      have := congrArg (·[0]?) hd
      simpa [List.getElem?_drop] using this
    have h2 := (List.getElem?_eq_some_iff.1 h1).1
    have h3 : XS[off]? = some (XS[off]'(by have := hc.1; omega)) := Array.getElem?_eq_getElem _
    exact ⟨_, h3, hc.2 off c _ h1 h3⟩
  cases hc : cs.drop off with
  | nil => simp [hc, kCp] at h
  | cons c r =>
    cases hd : ds.drop off with
    | nil => simp [hc, hd, kCp] at h
    | cons d r' =>
      obtain ⟨u, h1, h2⟩ := get hx hc
      obtain ⟨v, h3, h4⟩ := get hy hd
      refine ⟨u, v, by simp [part, kCs hg, h1], by simp [part, kCs hg, h3], hD c d u v e h2 h4 ?_⟩
      rw [hc, hd] at h
      simp only [kCp] at h
      cases hq : cellEq k c d with
      | none => simp [hq] at h
      | some b => cases b <;> simp [hq] at h <;> rw [h]
theorem eqFields_ok {rec : TypeId → Option (List CK)} {D : Nat}
    (hrec : ∀ (t : TypeId) (ks : List CK), rec t = some ks → (∃ g, tsize P t = some ks.length ∧ tagg P t = some g ∧ (0 < ks.length ∨ g = true)) ∧ ∀ (XS YS : Array Value) (cs ds : List AV) (off : Nat) (e : Bool),
      kHx own w ρ cs XS → kHx own w ρ ds YS → off + ks.length ≤ cs.length → off + ks.length ≤ ds.length → kCp ks (cs.drop off) (ds.drop off) = some e →
      ∃ vx vy, (part t XS off).run P w = .ok vx w ∧ (part t YS off).run P w = .ok vy w ∧ (Op.equalIn D t vx vy).run P w = .ok e w)
    {XS YS : Array Value} {cs ds : List AV} {off n : Nat} (hx : kHx own w ρ cs XS) (hy : kHx own w ρ ds YS) (h1 : off + n ≤ cs.length) (h2 : off + n ≤ ds.length) :
    ∀ (fs : List Field) (acc ks : List CK) (e : Bool), kE9 rec fs acc = some ks → ks.length = n → kCp (ks.drop acc.length) ((cs.drop off).drop acc.length) ((ds.drop off).drop acc.length) = some e →
      acc.length ≤ ks.length ∧ (Op.eqFields D (XS.extract off (off + n)) (YS.extract off (off + n)) fs).run P w = .ok e w
  | [], acc, ks, e, hf, hn, h => by
    simp [kE9] at hf
    subst hf
    simp [kCp] at h
    exact ⟨Nat.le_refl _, by simp [Op.eqFields, h]⟩
  | f :: fs, acc, ks, e, hf, hn, h => by
    simp only [kE9] at hf
    split at hf
    · rename_i hname
      split at hf
      · rename_i k1 hk1
        obtain ⟨⟨g, hs, hg, hpos⟩, hr⟩ := hrec f.type k1 hk1
        have hpre : ∀ (fs : List Field) (a k : List CK), kE9 rec fs a = some k → a <+: k := by
          intro fs
          induction fs with
          | nil => intro a k hh; simp [kE9] at hh; subst hh; exact List.prefix_refl _
          | cons f fs ih =>
            intro a k hh
            simp only [kE9] at hh
            split at hh
            · split at hh
              · exact (List.prefix_append _ _).trans (ih _ _ hh)
              · cases hh
            · cases hh
        obtain ⟨k2, rfl⟩ := hpre fs _ _ hf
        have hlen : acc.length + k1.length ≤ n := by rw [← hn]; simp
        rw [List.append_assoc, List.drop_left] at h
        rw [List.drop_drop, List.drop_drop] at h
        have part_eq : ∀ (X : Array Value) (cs : List AV), kHx own w ρ cs X → off + n ≤ cs.length → (part f.type (X.extract off (off + n)) f.offset).run P w = (part f.type X (off + acc.length)).run P w := fun X cs hX hl => by
          rw [hname.2]
          exact run_part_window hs hg X off (off + n) acc.length (by omega) (by rw [hX.1]; exact hl) hpos
        rcases kHd k1 k2 _ _ e h with ⟨h3, rfl⟩ | ⟨h3, h4⟩
        · obtain ⟨vx, vy, p1, p2, p3⟩ := hr XS YS cs ds (off + acc.length) false hx hy (by omega) (by omega) h3
          refine ⟨by simp, ?_⟩
          simp only [Op.eqFields, ne_eq, hname.1, not_false_eq_true, if_true, Sem.run_bind, part_eq XS cs hx h1, part_eq YS ds hy h2, p1, p2, p3, Result.andThen_ok]
          simp
        · obtain ⟨vx, vy, p1, p2, p3⟩ := hr XS YS cs ds (off + acc.length) true hx hy (by omega) (by omega) h3
          refine ⟨by simp, ?_⟩
          simp only [Op.eqFields, ne_eq, hname.1, not_false_eq_true, if_true, Sem.run_bind, part_eq XS cs hx h1, part_eq YS ds hy h2, p1, p2, p3, Result.andThen_ok]
          have := (eqFields_ok hrec hx hy h1 h2 fs (acc ++ k1) _ e hf hn (by
            rw [List.drop_left, List.drop_drop, List.drop_drop, List.length_append, ← Nat.add_assoc]
            rw [List.drop_drop, List.drop_drop] at h4
            exact h4)).2
          simpa using this
      · cases hf
    · cases hf
theorem eqCells_ok : ∀ (d : Nat) (t : TypeId) (ks : List CK), eqCells P d t = some ks → ∀ D, d ≤ D →
    (∃ g, tsize P t = some ks.length ∧ tagg P t = some g ∧ (0 < ks.length ∨ g = true)) ∧ ∀ (XS YS : Array Value) (cs ds : List AV) (off : Nat) (e : Bool),
      kHx own w ρ cs XS → kHx own w ρ ds YS → off + ks.length ≤ cs.length → off + ks.length ≤ ds.length → kCp ks (cs.drop off) (ds.drop off) = some e →
      ∃ vx vy, (part t XS off).run P w = .ok vx w ∧ (part t YS off).run P w = .ok vy w ∧ (Op.equalIn D t vx vy).run P w = .ok e w
  | 0, _, _, h, _, _ => by simp [eqCells] at h
  | d + 1, t, ks, h, 0, hD => by omega
  | d + 1, t, ks, h, D + 1, hD => by
    simp only [eqCells] at h
    split at h
    · rename_i hu
      split at h
      · rename_i hs
        cases h
        have hg : tagg P t = some false := by simp [tagg, hu]
        refine ⟨⟨false, hs, hg, .inl (by simp)⟩, fun XS YS cs ds off e hx hy _ _ hc => plain_ok hg D (fun c d u v e hu' hv' hq => ?_) hx hy hc⟩
        unfold cellEq at hq
        split at hq <;> simp_all
        rw [hu'.bool_inv, hv'.bool_inv]
        subst hq
        exact run_equalIn_bool' w D t _ _ hu
      · cases h
    · rename_i kk hu
      split at h
      · rename_i hs
        cases h
        have hg : tagg P t = some false := by simp [tagg, hu]
        refine ⟨⟨false, hs, hg, .inl (by simp)⟩, fun XS YS cs ds off e hx hy _ _ hc => plain_ok hg D (fun c d u v e hu' hv' hq => ?_) hx hy hc⟩
        unfold cellEq at hq
        split at hq <;> simp_all
        obtain ⟨rfl, rfl⟩ := hq
        rw [hu'.int_inv, hv'.int_inv]
        exact run_equalIn_int w D t _ _ _ _ hu
      · cases h
    · rename_i hu
      split at h
      · rename_i hs
        cases h
        have hg : tagg P t = some false := by simp [tagg, hu]
        refine ⟨⟨false, hs, hg, .inl (by simp)⟩, fun XS YS cs ds off e hx hy _ _ hc => plain_ok hg D (fun c d u v e hu' hv' hq => ?_) hx hy hc⟩
        unfold cellEq at hq
        split at hq <;> simp_all
        rw [hu'.str_inv, hv'.str_inv]
        subst hq
        exact run_equalIn_string w D t _ _ hu
      · cases h
    · rename_i fs hu
      split at h
      · cases h
      · rename_i hst
        split at h
        · rename_i ks' hks
          split at h
          · rename_i hs
            cases h
            have hg : tagg P t = some true := by simp [tagg, hu]
            refine ⟨⟨true, hs, hg, .inr rfl⟩, fun XS YS cs ds off e hx hy h1 h2 hc => ?_⟩
            have hfo : P.fieldsOf t = fs := by simp [Program.fieldsOf, hu]
            refine ⟨.agg (XS.extract off (off + ks.length)), .agg (YS.extract off (off + ks.length)), by simp [part, kCs hg, kBv hs], by simp [part, kCs hg, kBv hs], ?_⟩
            rw [run_equalIn_agg w D t _ _ (by rw [hfo]; exact hu) (by simpa using hst), hfo]
            exact (eqFields_ok (fun t' ks' h' => eqCells_ok d t' ks' h' D (by omega)) hx hy h1 h2 fs.toList [] ks e hks rfl (by simpa using hc)).2
          · cases h
        · cases h
    · cases h
theorem cmp_ok {op : BinOp} {t : TypeId} {xo yo : Operand} {k : EqK} (hk : eqK P t = some k) {x y v : AV} {px py : Value} (hx : Rep own w ρ x px) (hy : Rep own w ρ y py) (h : kFo op k x y = some v) :
    ∃ u, (do eqGuard op t xo yo px py; binOp op t px py : Sem Value).run P w = .ok u w ∧ Rep own w ρ v u := by
  unfold kFo at h
  split at h
  · rename_i e he
    have key : ∀ {px py : Value}, (∀ op, (eqGuard op t xo yo px py).run P w = .ok () w) → (binOp .eql t px py).run P w = .ok (.bool e) w → (binOp .neq t px py).run P w = .ok (.bool !e) w →
        ∃ u, (do eqGuard op t xo yo px py; binOp op t px py : Sem Value).run P w = .ok u w ∧ Rep own w ρ v u := fun {px py} h1 h2 h3 => by
      simp only [Sem.run_bind, h1, Result.andThen_ok]
      split at h
      · cases h; exact ⟨_, h2, .sc rfl⟩
      · cases h; exact ⟨_, h3, .sc rfl⟩
      · cases h
    unfold aEq at he
    split at he
    · split at he
      · rename_i hk'
        subst hk'
        cases he
        rw [hx.int_inv, hy.int_inv]
        exact key (fun op => eqGuard_int ..) (by simp [binOp, Op.intCmp]) (by simp [binOp, Op.intCmp, bne])
      · cases he
    · cases he
      rw [hx.str_inv, hy.str_inv]
      exact key (fun op => eqGuard_str ..) (by simp [binOp, Op.stringOp]) (by simp [binOp, Op.stringOp])
    · cases he
      rw [hx.bool_inv, hy.bool_inv]
      have hu : P.underlying t = some .bool := by
        unfold eqK at hk
        split at hk <;> first | assumption | (simp at hk; done) | skip
        split at hk
        · split at hk <;> simp at hk
        · cases hk
      exact key (fun op => eqGuard_bool ..) (run_eql_bool w t _ _ hu) (run_neq_bool w t _ _ hu)
    · rename_i ks as bs
      split at he
      · rename_i hl
        cases hx with
        | @agg _ _ xs hf1 hn1 hr1 =>
          cases hy with
          | @agg _ _ ys hf2 hn2 hr2 =>
            have hh : (∃ fs, P.underlying t = some (.struct fs)) ∧ P.eqGuardType P.depth t = false ∧ eqCells P 8 t = some ks := by
              unfold eqK at hk
              split at hk <;> first | (simp at hk; done) | skip
              rename_i fs hfs
              split at hk
              · rename_i hq
                split at hk
                · rename_i ks' hks
                  simp at hk
                  subst hk
                  exact ⟨⟨fs, hfs⟩, hq, hks⟩
                · cases hk
              · cases hk
            obtain ⟨⟨fs, hu⟩, hq, hks⟩ := hh
            obtain ⟨vx, vy, p1, p2, p3⟩ := (eqCells_ok (P := P) (own := own) (w := w) (ρ := ρ) 8 t ks hks 10000 (by omega)).2 xs ys as bs 0 e ⟨hn1, hr1⟩ ⟨hn2, hr2⟩ (by omega) (by omega) (by simpa using he)
            have hg : tagg P t = some true := by simp [tagg, hu]
            obtain ⟨⟨g, hs, _, _⟩, _⟩ := eqCells_ok (P := P) (own := own) (w := w) (ρ := ρ) 8 t ks hks 10000 (by omega)
            simp only [part, Sem.run_bind, kCs hg, Result.andThen_ok, if_true, kBv hs, Sem.run_pure, Result.ok.injEq, and_true] at p1 p2
            have e1 : xs.extract 0 (0 + ks.length) = xs := by rw [Nat.zero_add, ← hl.1, ← hn1]; simp
            have e2 : ys.extract 0 (0 + ks.length) = ys := by rw [Nat.zero_add, ← hl.2, ← hn2]; simp
            rw [e1] at p1
            rw [e2] at p2
            subst p1 p2
            exact key (fun op => run_eqGuard_agg w op t xo yo xs ys hq) (by rw [run_eql_struct, p3]; rfl) (by rw [run_neq_struct, p3]; rfl)
      · cases he
    · have hu : ∃ e, P.underlying t = some (.pointer e) := by
        unfold eqK at hk
        split at hk <;> first | (simp at hk; done) | (exact ⟨_, by assumption⟩) | skip
        split at hk
        · split at hk <;> simp at hk
        · cases hk
      obtain ⟨el, hu⟩ := hu
      have hu' : P.underlying t = some (.pointer (P.pointee t)) := by simp [Program.pointee, hu]
      rw [hy.sc_inv]
      unfold isNilP at he
      split at he
      · cases he
        rw [hx.sc_inv]
        exact key (fun op => kI1 ..) (by rw [run_eql_pointer_nil w t _ hu']; rfl) (by rw [run_neq_pointer_nil w t _ hu']; rfl)
      · cases he
        cases hx
        exact key (fun op => kI1 ..) (by rw [run_eql_pointer_nil w t _ hu']; rfl) (by rw [run_neq_pointer_nil w t _ hu']; rfl)
      · cases he
        cases hx
        exact key (fun op => kI1 ..) (by rw [run_eql_pointer_nil w t _ hu']; rfl) (by rw [run_neq_pointer_nil w t _ hu']; rfl)
      · cases he
    · have hu : ∃ e, P.underlying t = some (.slice e) := by
        unfold eqK at hk
        split at hk <;> first | (simp at hk; done) | (exact ⟨_, by assumption⟩) | skip
        split at hk
        · split at hk <;> simp at hk
        · cases hk
      obtain ⟨el, hu⟩ := hu
      rw [hy.sc_inv]
      unfold isNilS at he
      split at he
      · cases he
        rw [hx.sc_inv]
        exact key (fun op => kFz ..) (by rw [Lib.run_eql_slice_nil w t el _ _ _ _ _ hu]; rfl) (by rw [run_neq_slice_nil_any w t el _ _ _ _ _ hu]; rfl)
      · cases he
        cases hx
        exact key (fun op => kFz ..) (by rw [Lib.run_eql_slice_nil w t el _ _ _ _ _ hu]; rfl) (by rw [run_neq_slice_nil_any w t el _ _ _ _ _ hu]; rfl)
      · cases he
        cases hx
        exact key (fun op => kFz ..) (by rw [Lib.run_eql_slice_nil w t el _ _ _ _ _ hu]; rfl) (by rw [run_neq_slice_nil_any w t el _ _ _ _ _ hu]; rfl)
      · cases he
    · cases he
  · cases h
end Go.Eng
