import Derived.Test.YtfhffgfbnlikjaaEngRead
namespace Go.Eng
set_option linter.unusedVariables false
set_option linter.unusedSimpArgs false
variable {P : Program} {X : Nat → Prop} {own : Nat → Prop} {w : World} {ρ : RM}
theorem Rep.str_inv {s : ByteArray} {v : Value} (h : Rep own w ρ (.sc (.string s)) v) : v = .string s := by cases h; rfl
theorem Rep.bool_inv {b : Bool} {v : Value} (h : Rep own w ρ (.sc (.bool b)) v) : v = .bool b := by cases h; rfl
theorem Rep.sc_inv {u v : Value} (h : Rep own w ρ (.sc u) v) : v = u := by cases h; rfl
theorem pick_ok {c a b v : AV} {pc pa pb : Value} (hc : Rep own w ρ c pc) (ha : Rep own w ρ a pa) (hb : Rep own w ρ b pb) (h : kCd c a b = some v) :
    ∃ u, (do pure (if ← asBool pc then pa else pb) : Sem Value).run P w = .ok u w ∧ Rep own w ρ v u := by
  unfold kCd at h
  split at h
  · cases h; rw [hc.bool_inv]; exact ⟨pa, by simp [asBool], ha⟩
  · cases h; rw [hc.bool_inv]; exact ⟨pb, by simp [asBool], hb⟩
  · cases h
theorem un_ok {op : UnOp} {x v : AV} {px : Value} (hx : Rep own w ρ x px) (h : aUn op x = some v) : ∃ u, (Op.unary op px).run P w = .ok u w ∧ Rep own w ρ v u := by
  unfold aUn at h
  split at h
  · cases h; rw [hx.int_inv]; exact ⟨_, by simp [Op.unary, Op.intArith], .sc rfl⟩
  · cases h; rw [hx.bool_inv]; exact ⟨_, by simp [Op.unary], .sc rfl⟩
  · cases h
theorem nilCheck_ok {x v : AV} {px : Value} (hx : Rep own w ρ x px) (h : kBy x = some v) (o : Oper) (y : Operand) (ho : o.op = .nilCheck y) (r : Operand → Value) (hr : r y = px) :
    (execOp r o).run P w = .ok (.value px) w ∧ Rep own w ρ v px := by
  cases hx <;> simp [kBy] at h <;> subst h <;> unfold execOp <;> simp only [ho, hr] <;> refine ⟨rfl, ?_⟩
  · exact .ptr (by assumption) (by assumption) (by assumption)
  · exact .fptr (by assumption) (by assumption) (by assumption) (by assumption)
  · exact .fn (by assumption) (by assumption)
theorem extract_ok {x v : AV} {i : Nat} {px : Value} (hx : Rep own w ρ x px) (h : kDr x i = some v) : ∃ u, (Instr.extract px i).run P w = .ok u w ∧ Rep own w ρ v u := by
  cases hx with
  | @tup _ cs vs hn hr =>
    simp only [kDr] at h
    have h2 := (List.getElem?_eq_some_iff.1 h).1
    have h3 : vs[i]? = some vs[i] := Array.getElem?_eq_getElem (by omega)
    exact ⟨vs[i], by simp [Instr.extract, h3], hr i v _ h h3⟩
  | _ => simp [kDr] at h
theorem convInt_ok {src dst : TypeId} {k0 k : IntKind} (hs : P.underlying src = some (.int k0)) (hd : P.underlying dst = some (.int k)) {x v : AV} {px : Value} (hx : Rep own w ρ x px) (h : kCw k x = some v) :
    ∃ u, (convert src dst px).run P w = .ok u w ∧ Rep own w ρ v u := by
  unfold kCw at h
  split at h
  · cases h
    rw [hx.int_inv]
    exact ⟨_, by simp [convert, run_underlying hs, run_underlying hd, Conv.intToInt], .sc rfl⟩
  · cases h
theorem convStr_ok {src dst : TypeId} (hs : P.underlying src = some .string) (hd : P.underlying dst = some .string) (s : ByteArray) :
    (convert src dst (.string s)).run P w = .ok (.string s) w := by
  simp [convert, run_underlying hs, run_underlying hd]
theorem fold2_ok {f : AV → AV → Option AV} {g : Value → Value → Sem Value} (hfg : ∀ (x y v : AV) (px py : Value), Rep own w ρ x px → Rep own w ρ y py → f x y = some v → ∃ u, (g px py).run P w = .ok u w ∧ Rep own w ρ v u) :
    ∀ (ys : List AV) (x v : AV) (px : Value) (pys : List Value), Rep own w ρ x px → pys.length = ys.length → (∀ (i : Nat) (c : AV) (u : Value), ys[i]? = some c → pys[i]? = some u → Rep own w ρ c u) →
      kHu f x ys = some v → ∃ u, (pys.foldlM g px).run P w = .ok u w ∧ Rep own w ρ v u
  | [], x, v, px, [], hx, _, _, h => by
    simp [kHu] at h
    subst h
    exact ⟨px, by simp, hx⟩
  | y :: ys, x, v, px, py :: pys, hx, hl, hy, h => by
    simp only [kHu, kA0] at h
    split at h
    · rename_i z hz
      obtain ⟨u, h1, h2⟩ := hfg x y z px py hx (hy 0 y py rfl rfl) hz
      obtain ⟨u', h3, h4⟩ := fold2_ok hfg ys z v u pys h2 (by simpa using hl) (fun i c u e1 e2 => hy (i + 1) c u (by simpa using e1) (by simpa using e2)) h
      exact ⟨u', by simp [List.foldlM_cons, h1, h3], h4⟩
    · cases h
  | [], _, _, _, _ :: _, _, hl, _, _ => by simp at hl
  | _ :: _, _, _, _, [], _, hl, _, _ => by simp at hl
theorem max2_ok (x y v : AV) (px py : Value) (hx : Rep own w ρ x px) (hy : Rep own w ρ y py) (h : aMax2 x y = some v) : ∃ u, (Builtin.max2 px py).run P w = .ok u w ∧ Rep own w ρ v u := by
  unfold aMax2 at h
  split at h
  · cases h; rw [hx.int_inv, hy.int_inv]; exact ⟨_, rfl, .sc rfl⟩
  · cases h
theorem min2_ok (x y v : AV) (px py : Value) (hx : Rep own w ρ x px) (hy : Rep own w ρ y py) (h : aMin2 x y = some v) : ∃ u, (Builtin.min2 px py).run P w = .ok u w ∧ Rep own w ρ v u := by
  unfold aMin2 at h
  split at h
  · cases h; rw [hx.int_inv, hy.int_inv]; exact ⟨_, rfl, .sc rfl⟩
  · cases h
theorem len_run {t ty : TypeId} {ts : Array TypeId} (ht : ts[0]? = some t) {ps : Array Value} {px : Value} (hp : ps[0]? = some px) (n : Int)
    (h : (P.underlying t = some .string ∧ ∃ s, px = .string s ∧ n = s.size) ∨ (∃ e a m c, P.underlying t = some (.slice e) ∧ px = .slice a m c ∧ n = m) ∨ (∃ e m, P.underlying t = some (.array m e) ∧ n = m)) :
    (Builtin.len_ ts ty ps).run P w = .ok (.int .i64 n) w := by
  rcases h with ⟨hu, s, rfl, rfl⟩ | ⟨e, a, m, c, hu, rfl, rfl⟩ | ⟨e, m, hu, rfl⟩ <;> simp [Builtin.len_, ht, hp, run_underlying hu, goInt]
theorem lenK_ok {t ty : TypeId} {ts : Array TypeId} {k : LenK} (ht : ts[0]? = some t) (hk : lenK P t = some k) {x v : AV} {px : Value} {ps : Array Value} (hp : ps[0]? = some px) (hx : Rep own w ρ x px) (h : kBf k x = some v) :
    ∃ u, (Builtin.len_ ts ty ps).run P w = .ok u w ∧ Rep own w ρ v u := by
  unfold lenK at hk
  split at hk
  · rename_i hu
    cases hk
    unfold kBf at h
    split at h
    · cases h
      exact ⟨_, len_run ht hp _ (.inl ⟨hu, _, hx.str_inv, rfl⟩), .sc rfl⟩
    all_goals (rename_i hq; first | cases hq | cases h)
  · rename_i e hu
    cases hk
    unfold kBf at h
    split at h
    · exact absurd ‹LenK.slice = LenK.str› (by simp)
    · cases h
      exact ⟨_, len_run ht hp _ (.inr (.inl ⟨e, _, _, _, hu, hx.sc_inv, rfl⟩)), .sc rfl⟩
    · cases h
      cases hx
      exact ⟨_, len_run ht hp _ (.inr (.inl ⟨e, _, _, _, hu, rfl, rfl⟩)), .sc rfl⟩
    · cases h
      cases hx
      exact ⟨_, len_run ht hp _ (.inr (.inl ⟨e, _, _, _, hu, rfl, rfl⟩)), .sc rfl⟩
    · exact absurd ‹LenK.slice = LenK.arr _› (by simp)
    · cases h
  · rename_i n e hu
    cases hk
    simp [kBf] at h
    subst h
    exact ⟨_, len_run ht hp _ (.inr (.inr ⟨e, n, hu, rfl⟩)), .sc rfl⟩
  · cases hk
end Go.Eng
