import Derived.Test.YtfhffgfbnlikjaaEngBack
namespace Go.Eng
set_option linter.unusedVariables false
set_option linter.unusedSimpArgs false
open Go.RowKit
variable {P : Program} {X : Nat → Prop} {own : Nat → Prop} {w : World} {ρ : RM}
def kDc (P : Program) (o : Oper) (r : Operand → Value) (w : World) (Post : Value → World → Prop) : Prop :=
  match (execOp r o).run P w with
  | .ok (.value v) w' => Post v w'
  | .ok .skip w' => Post undef w'
  | .ok (.enter f args) w' => Calls P f args w' fun e w'' => ∃ v, e = .returned v ∧ Post v w''
  | _ => False
theorem kDc.mono {o : Oper} {r : Operand → Value} {Post Post' : Value → World → Prop} (h : kDc P o r w Post) (hp : ∀ v w', Post v w' → Post' v w') : kDc P o r w Post' := by
  unfold kDc at *
  split at h
  · exact hp _ _ h
  · exact hp _ _ h
  · exact h.mono fun e w' ⟨v, he, hv⟩ => ⟨v, he, hp _ _ hv⟩
  · exact h.elim
theorem kDc.wp {o : Oper} {a : Act} {Post : Value → World → Prop} {next : Act → World → Prop} {Q : Exit → Act → World → Prop} (h : kDc P o a.eval w Post) (hk : ∀ u w', Post u w' → next (a.put o.dst u) w') : o.wp P a w next Q := by
  unfold kDc at h
  unfold Oper.wp
  split at h
  · rename_i v w' e; rw [e]; exact hk _ _ h
  · rename_i w' e; rw [e]; exact hk _ _ h
  · rename_i f args w' e
    rw [e]
    exact h.mono fun e w' ⟨v, he, hv⟩ => by subst he; exact hk _ _ hv
  · exact h.elim
theorem kAr {o : Oper} {r : Operand → Value} {Post : Value → World → Prop} {u : Value} {w' : World} (h : (execOp r o).run P w = .ok (.value u) w') (hp : Post u w') : kDc P o r w Post := by
  unfold kDc; rw [h]; exact hp
theorem kDq {s : Sem Value} {u : Value} {w' : World} (h : s.run P w = .ok u w') : (do pure (Next.value (← s)) : Sem Next).run P w = .ok (.value u) w' := by
  simp [h]
theorem ofVal_rep (v : Value) : Rep own w ρ (ofVal v) v := by
  unfold ofVal
  split
  · split
    · rename_i cs h
      refine .agg (by simp [AV.flat]) (by simp) fun i c u h1 h2 => ?_
      simp only [List.getElem?_map, Option.map_eq_some_iff, Array.getElem?_toList] at h1
      obtain ⟨x, e1, e2⟩ := h1
      rw [h2] at e1
      cases e1
      subst e2
      exact .sc (Array.all_eq_true_iff_forall_mem.1 h _ (Array.mem_of_getElem? h2))
    · exact .top
  · split
    · rename_i cs h
      have : cs = #[] := Array.eq_empty_of_size_eq_zero h
      subst this
      exact .tup (by rfl) fun i c v h => by simp at h
    · exact .top
  · split
    · rename_i f first cap h
      have e1 : first = #[] := Array.eq_empty_of_size_eq_zero h.1
      have e2 : cap = #[] := Array.eq_empty_of_size_eq_zero h.2
      subst e1 e2
      exact .fn (by rfl) fun i c v h => by simp at h
    · exact .sc rfl
  · rename_i h1 h2 h3
    refine .sc ?_
    cases v <;> first | rfl | exact (h1 _ rfl).elim | exact (h2 _ rfl).elim
theorem kFx : Rep own w ρ und undef := .tup (by rfl) fun i c v h => by simp at h
structure TRep (X : Nat → Prop) (ρ : RM) (w : World) (tm : TM) (a : Act) : Prop where
  size : a.tmps.size = tm.length
  slot : ∀ (t : Nat) (c : AV) (v : Value), tm[t]? = some c → a.tmps[t]? = some v → Rep (Own X ρ) w ρ c v
theorem TRep.getD {tm : TM} {a : Act} (h : TRep X ρ w tm a) (t : Nat) : Rep (Own X ρ) w ρ (tm.getD t und) (a.tmps.getD t undef) := by
  by_cases ht : t < tm.length
  · have h1 : tm[t]? = some tm[t] := List.getElem?_eq_getElem ht
    have h2 : a.tmps[t]? = some (a.tmps[t]'(by have := h.size; omega)) := Array.getElem?_eq_getElem _
    have := h.slot t _ _ h1 h2
    rw [List.getD_eq_getElem?_getD, h1, Array.getD_eq_getD_getElem?, h2]
    exact this
  · have h2 : ¬ t < a.tmps.size := by have := h.size; omega
    rw [List.getD_eq_getElem?_getD, List.getElem?_eq_none (by omega), Array.getD_eq_getD_getElem?, Array.getElem?_eq_none (by omega)]
    exact kFx
theorem TRep.eval {tm : TM} {a : Act} (h : TRep X ρ w tm a) (x : Operand) : Rep (Own X ρ) w ρ (ev tm x) (a.eval x) := by
  cases x with
  | tmp t => exact h.getD t
  | const v => exact ofVal_rep v
  | global g => exact .top
  | func f => exact .fn (by rfl) fun i c v h => by simp at h
theorem TRep.step {ρ' : RM} {w' : World} {tm : TM} {a : Act} (h : TRep X ρ w tm a) (hs : Step ρ w ρ' w') : TRep X ρ' w' tm a := ⟨h.size, fun t c v h1 h2 => hs.rep (h.slot t c v h1 h2)⟩
theorem TRep.put {tm : TM} {a : Act} (h : TRep X ρ w tm a) {d : Option Tmp} {c : AV} {u : Value} (hc : Rep (Own X ρ) w ρ c u) : TRep X ρ w (kFg tm d c) (a.put d u) := by
  cases d with
  | none => exact h
  | some d =>
    refine ⟨by simp [Act.put, kFg, h.size], fun t c' v h1 h2 => ?_⟩
    simp only [kFg, Act.put] at h1 h2
    by_cases e : d = t
    · subst e
      rw [Array.getElem?_setIfInBounds] at h2
      rw [List.getElem?_set] at h1
      simp only [if_true] at h1 h2
      split at h1
      · split at h2
        · cases h1; cases h2; exact hc
        · cases h2
      · cases h1
    · rw [List.getElem?_set_ne e] at h1
      rw [Array.getElem?_setIfInBounds, if_neg e] at h2
      exact h.slot t c' v h1 h2
theorem TRep.forget {tm tm' : TM} {a : Act} (h : TRep X ρ w tm a) (hl : tm'.length = tm.length) (ht : ∀ (t : Nat) (c : AV), tm'[t]? = some c → c = .top ∨ tm[t]? = some c) : TRep X ρ w tm' a :=
  ⟨by rw [h.size, hl], fun t c v h1 h2 => by
    rcases ht t c h1 with rfl | h3
    · exact .top
    · exact h.slot t c v h3 h2⟩
theorem brep_map {tm : TM} {r : Operand → Value} {x : Option Operand} (h : ∀ y, x = some y → Rep own w ρ (ev tm y) (r y)) : BRep own w ρ (x.map (ev tm)) (x.map r) := by
  cases x with
  | none => exact trivial
  | some y => exact h y rfl
theorem map_rep {tm : TM} {r : Operand → Value} {xs : Array Operand} (h : ∀ x ∈ xs.toList, Rep own w ρ (ev tm x) (r x)) : ∀ (i : Nat) (d : AV) (v : Value), (xs.toList.map (ev tm))[i]? = some d → (xs.map r)[i]? = some v → Rep own w ρ d v := fun i d v h1 h2 => by
  simp only [List.getElem?_map, Option.map_eq_some_iff, Array.getElem?_map] at h1 h2
  obtain ⟨x, e1, e2⟩ := h1
  obtain ⟨y, e3, e4⟩ := h2
  rw [Array.getElem?_toList, e3] at e1
  cases e1
  subst e2 e4
  exact h _ (List.mem_of_getElem? (by rw [Array.getElem?_toList]; exact e3))
theorem opE_plain {env : Nat → Contract} {q : Bool} {o : Oper} {op : Op} (ho : o.op = op) {tm : TM} {h h' : kA4} {v : AV} (hd : kBq P env q tm h op (fun v h => some (v, h)) = some (v, h'))
    (hw : hk op ≠ .write) (hc : ∀ c, op = .call c → ∃ b, c.callee = .builtin b) : h <+: h' ∧ ∀ (X : Nat → Prop) (ρ : RM) (w : World) (H : kA4) (r : Operand → Value), h' <+: H → HRep P X ρ H w →
      (∀ x, h.length ≤ x → x < h'.length → ρ x = none) → (∀ x ∈ op.operands.toList, Rep (Own X ρ) w ρ (ev tm x) (r x)) → kDc P o r w fun u w' => Made P X ρ w h h' H v u w' := by
  cases op <;> simp only [kBq] at hd <;> first | (cases hd; done) | skip
  case move x =>
    cases hd
    exact ⟨List.prefix_refl _, fun X ρ w H r hp hr _ hx => kAr (u := r x) (w' := w) (by simp [execOp, ho]) (.same hr (hx x (by simp [Op.operands])))⟩
  case assign x =>
    cases hd
    exact ⟨List.prefix_refl _, fun X ρ w H r hp hr _ hx => kAr (u := r x) (w' := w) (by simp [execOp, ho]) (.same hr (hx x (by simp [Op.operands])))⟩
  case pick c a b =>
    obtain ⟨y, h1, h2⟩ := kAl hd
    cases h2
    refine ⟨List.prefix_refl _, fun X ρ w H r hp hr _ hx => ?_⟩
    obtain ⟨u, e1, e2⟩ := pick_ok (P := P) (hx c (by simp [Op.operands])) (hx a (by simp [Op.operands])) (hx b (by simp [Op.operands])) h1
    refine kAr (u := u) (w' := w) ?_ (.same hr e2)
    unfold execOp
    simp only [ho]
    simp only [Sem.run_bind] at e1 ⊢
    generalize (asBool (r c)).run P w = z at e1 ⊢
    cases z with
    | ok bb w2 =>
      simp only [Result.andThen_ok, Sem.run_pure] at e1 ⊢
      cases e1
      rfl
    | halt z w2 => simp at e1
  case alloc e =>
    split at hd
    · rename_i z hz
      obtain ⟨y, hh, h1, h2⟩ := kAu hd
      cases h2
      have hpre : h <+: h' := by
        unfold kG1 at h1
        split at h1
        · cases h1; exact List.prefix_append _ _
        · cases h1
      refine ⟨hpre, fun X ρ w H r hp hr hf _ => ?_⟩
      obtain ⟨u, w', e1, e2⟩ := alloc_ok (P := P) (t := e) hz h1 hp hr (hf _ (Nat.le_refl _) (by
        unfold kG1 at h1
        split at h1
        · cases h1; simp
        · cases h1))
      exact kAr (by unfold execOp; simp only [ho]; exact kDq e1) e2
    · cases hd
  case box t x =>
    obtain ⟨y, hh, h1, h2⟩ := kAu hd
    cases h2
    have hpre : h <+: h' := by
      unfold kG1 at h1
      split at h1
      · cases h1; exact List.prefix_append _ _
      · cases h1
    refine ⟨hpre, fun X ρ w H r hp hr hf hx => ?_⟩
    obtain ⟨e1, e2⟩ := box_ok (P := P) (t := t) h1 hp hr (hf _ (Nat.le_refl _) (by
      unfold kG1 at h1
      split at h1
      · cases h1; simp
      · cases h1)) (hx x (by simp [Op.operands]))
    exact kAr (by unfold execOp; simp only [ho]; exact kDq e1) e2
  case build t parts =>
    split at hd
    · rename_i z pl hz hpl
      split at hd
      · rename_i ps hps
        obtain ⟨y, h1, h2⟩ := kAl hd
        cases h2
        refine ⟨List.prefix_refl _, fun X ρ w H r hp hr _ hx => ?_⟩
        obtain ⟨u, e1, e2⟩ := build_ok (P := P) (w := w) (own := Own X ρ) (ρ := ρ) (r := r) hz hpl hps h1 (fun p hp => hx p.2 (by
          simp only [Op.operands, List.mem_map]
          exact ⟨p, hp, rfl⟩))
        exact kAr (by unfold execOp; simp only [ho]; exact kDq e1) (.same hr e2)
      · cases hd
    · cases hd
  case buildSlice t n parts =>
    split at hd
    · rename_i e he
      split at hd
      · rename_i z s hz hs
        split at hd
        · rename_i hl
          obtain ⟨y, hh, h1, h2⟩ := kAu hd
          cases h2
          have hpre : h <+: h' ∧ h.length < h'.length := by
            unfold kAf at h1
            split at h1
            · cases h1; exact ⟨List.prefix_append _ _, by simp⟩
            · cases h1
          refine ⟨hpre.1, fun X ρ w H r hp hr hf hx => ?_⟩
          obtain ⟨u, w', e1, e2⟩ := buildSlice_ok (P := P) (r := r) (parts := parts) (kEy he) hz hs hl.1 hl.2 h1 hp hr (hf _ (Nat.le_refl _) hpre.2) (fun p hp => hx p.2 (by
            simp only [Op.operands, List.mem_map]
            exact ⟨p, hp, rfl⟩))
          exact kAr (by unfold execOp; simp only [ho]; exact kDq e1) e2
        · cases hd
      · cases hd
    · cases hd
  case load t x =>
    split at hd
    · rename_i s g hs hg
      obtain ⟨y, h1, h2⟩ := kAl hd
      cases h2
      refine ⟨List.prefix_refl _, fun X ρ w H r hp hr _ hx => ?_⟩
      obtain ⟨u, e1, e2⟩ := load_ok (P := P) hs hg hp hr (hx x (by simp [Op.operands])) h1
      exact kAr (by unfold execOp; simp only [ho]; exact kDq e1) (.same hr e2)
    · cases hd
  case store => simp [hk] at hw
  case nilCheck x =>
    obtain ⟨y, h1, h2⟩ := kAl hd
    cases h2
    refine ⟨List.prefix_refl _, fun X ρ w H r hp hr _ hx => ?_⟩
    obtain ⟨e1, e2⟩ := nilCheck_ok (P := P) (hx x (by simp [Op.operands])) h1 o x ho r rfl
    exact kAr e1 (.same hr e2)
  case binOp bop t x y yt =>
    split at hd
    · split at hd
      · rename_i k hk'
        obtain ⟨z, h1, h2⟩ := kAl hd
        cases h2
        refine ⟨List.prefix_refl _, fun X ρ w H r hp hr _ hx => ?_⟩
        obtain ⟨u, e1, e2⟩ := cmp_ok (P := P) (xo := x) (yo := y) hk' (hx x (by simp [Op.operands])) (hx y (by simp [Op.operands])) h1
        exact kAr (by unfold execOp; simp only [ho]; exact kDq e1) (.same hr e2)
      · cases hd
    · rename_i hcmp
      obtain ⟨z, h1, h2⟩ := kAl hd
      cases h2
      refine ⟨List.prefix_refl _, fun X ρ w H r hp hr _ hx => ?_⟩
      obtain ⟨u, e1, e2⟩ := bin_ok (P := P) (t := t) (xo := x) (yo := y) hcmp (hx x (by simp [Op.operands])) (hx y (by simp [Op.operands])) h1
      exact kAr (by unfold execOp; simp only [ho]; exact kDq e1) (.same hr e2)
  case unOp uop t x =>
    obtain ⟨y, h1, h2⟩ := kAl hd
    cases h2
    refine ⟨List.prefix_refl _, fun X ρ w H r hp hr _ hx => ?_⟩
    obtain ⟨u, e1, e2⟩ := un_ok (P := P) (hx x (by simp [Op.operands])) h1
    exact kAr (by unfold execOp; simp only [ho]; exact kDq e1) (.same hr e2)
  case convert src dst x =>
    split at hd
    · rename_i k hk'
      obtain ⟨y, h1, h2⟩ := kAl hd
      cases h2
      refine ⟨List.prefix_refl _, fun X ρ w H r hp hr _ hx => ?_⟩
      have hu : (∃ k0, P.underlying src = some (.int k0)) ∧ P.underlying dst = some (.int k) := by
        unfold convK at hk'
        split at hk'
        · rename_i a b e1 e2; cases hk'; exact ⟨⟨_, e1⟩, e2⟩
        · cases hk'
        · split at hk'
          · split at hk' <;> cases hk'
          · cases hk'
        · split at hk'
          · split at hk' <;> cases hk'
          · cases hk'
        · cases hk'
      obtain ⟨⟨k0, hu1⟩, hu2⟩ := hu
      obtain ⟨u, e1, e2⟩ := convInt_ok (P := P) hu1 hu2 (hx x (by simp [Op.operands])) h1
      exact kAr (by unfold execOp; simp only [ho]; exact kDq e1) (.same hr e2)
    · rename_i hk'
      split at hd
      · rename_i s hs
        cases hd
        refine ⟨List.prefix_refl _, fun X ρ w H r hp hr _ hx => ?_⟩
        have hu : P.underlying src = some .string ∧ P.underlying dst = some .string := by
          unfold convK at hk'
          split at hk'
          · cases hk'
          · rename_i e1 e2; exact ⟨e1, e2⟩
          · split at hk'
            · split at hk' <;> cases hk'
            · cases hk'
          · split at hk'
            · split at hk' <;> cases hk'
            · cases hk'
          · cases hk'
        have h0 := hx x (by simp [Op.operands])
        rw [hs] at h0
        have h3 := h0.str_inv
        exact kAr (u := .string s) (by unfold execOp; simp only [ho]; refine kDq ?_; rw [h3]; exact convStr_ok hu.1 hu.2 s) (.same hr (.sc rfl))
      · cases hd
    · rename_i hk'
      obtain ⟨y, hh, h1, h2⟩ := kAu hd
      cases h2
      have hpre : h <+: h' ∧ h.length < h'.length := by
        unfold kGw at h1
        split at h1
        · split at h1
          · cases h1; exact ⟨List.prefix_append _ _, by simp⟩
          · cases h1
        · cases h1
      refine ⟨hpre.1, fun X ρ w H r hp hr hf hx => ?_⟩
      have hu : P.underlying src = some .string ∧ ∃ e, P.underlying dst = some (.slice e) ∧ P.underlying e = some (.int .u8) := by
        unfold convK at hk'
        split at hk'
        · cases hk'
        · cases hk'
        · rename_i e e1 e2
          split at hk'
          · rename_i e3
            exact ⟨e1, e, e2, e3⟩
          · cases hk'
        · split at hk'
          · split at hk' <;> cases hk'
          · cases hk'
        · cases hk'
      obtain ⟨hu1, e, hu2, hu3⟩ := hu
      obtain ⟨u, w', e1, e2⟩ := convBytes_ok (P := P) hu1 hu2 hu3 h1 hp hr (hf _ (Nat.le_refl _) hpre.2) (hx x (by simp [Op.operands]))
      exact kAr (by unfold execOp; simp only [ho]; exact kDq e1) e2
    · rename_i hk'
      obtain ⟨y, h1, h2⟩ := kAl hd
      cases h2
      refine ⟨List.prefix_refl _, fun X ρ w H r hp hr _ hx => ?_⟩
      have hu : ∃ e, P.underlying src = some (.slice e) ∧ P.underlying e = some (.int .u8) ∧ P.underlying dst = some .string := by
        unfold convK at hk'
        split at hk'
        · cases hk'
        · cases hk'
        · split at hk'
          · split at hk' <;> cases hk'
          · cases hk'
        · rename_i e e1 e2
          split at hk'
          · rename_i e3
            exact ⟨e, e1, e3, e2⟩
          · cases hk'
        · cases hk'
      obtain ⟨e, hu1, hu2, hu3⟩ := hu
      have hlow : kI7 (ev tm x) H = some v := by
        unfold kI7 at h1 ⊢
        split at h1
        · rename_i rows hrows
          have : aSrc false 1 (ev tm x) H = some rows := by
            unfold aSrc at hrows ⊢
            split at hrows
            · exact hrows
            · split at hrows
              · rename_i ob hob
                simp only [kH1 hp hob]
                exact hrows
              · cases hrows
            · exact hrows
            · exact hrows
            · cases hrows
          rw [this]
          exact h1
        · cases h1
      obtain ⟨u, e1, e2⟩ := convOfBytes_ok (P := P) hu1 hu2 hu3 hr (hx x (by simp [Op.operands])) hlow
      exact kAr (by unfold execOp; simp only [ho]; exact kDq e1) (.same hr e2)
    · cases hd
  case makeFunc fn first captured =>
    cases fn <;> simp only at hd <;> first | (cases hd; done) | skip
    rename_i f
    split at hd
    · rename_i h0
      cases hd
      refine ⟨List.prefix_refl _, fun X ρ w H r hp hr _ hx => ?_⟩
      have e1 : first = #[] := Array.eq_empty_of_size_eq_zero h0
      subst e1
      refine kAr (u := .func (.func f) #[] (captured.map r)) (by unfold execOp; simp only [ho]; exact kDq (by simp [Instr.makeFunc])) (.same hr (.fn (by simp) (map_rep fun x hxx => hx x (by simpa [Op.operands] using hxx))))
    · cases hd
  case makeSlice t l c =>
    split at hd
    · rename_i e he
      split at hd
      · rename_i z s b hz hs hb
        split at hd
        · rename_i hl
          obtain ⟨y, hh, h1, h2⟩ := kAu hd
          cases h2
          have hpre : h <+: h' ∧ h.length < h'.length := by
            unfold kDz at h1
            split at h1
            · split at h1
              · cases h1; exact ⟨List.prefix_append _ _, by simp⟩
              · cases h1
            · cases h1
          refine ⟨hpre.1, fun X ρ w H r hp hr hf hx => ?_⟩
          obtain ⟨u, w', e1, e2⟩ := makeSlice_ok (P := P) (kEy he) hz hs hb hl h1 hp hr (hf _ (Nat.le_refl _) hpre.2) (hx l (by simp [Op.operands])) (hx c (by simp [Op.operands]))
          exact kAr (by unfold execOp; simp only [ho]; exact kDq e1) e2
        · cases hd
      · cases hd
    · cases hd
  case slice t x lo hi mx =>
    cases mx with
    | some m => simp at hd
    | none =>
      simp only at hd
      split at hd
      · rename_i hu
        obtain ⟨y, h1, h2⟩ := kAl hd
        cases h2
        refine ⟨List.prefix_refl _, fun X ρ w H r hp hr _ hx => ?_⟩
        obtain ⟨u, e1, e2⟩ := sliceStr_ok (P := P) (w := w) (own := Own X ρ) (ρ := ρ) hu (hx x (by simp [Op.operands])) (brep_map (r := r) fun y hy => hx y (by simp [Op.operands, hy])) (brep_map (r := r) fun y hy => hx y (by simp [Op.operands, hy])) h1
        exact kAr (by unfold execOp; simp only [ho]; exact kDq e1) (.same hr e2)
      · rename_i e hu
        split at hd
        · rename_i s hs
          obtain ⟨y, h1, h2⟩ := kAl hd
          cases h2
          refine ⟨List.prefix_refl _, fun X ρ w H r hp hr _ hx => ?_⟩
          obtain ⟨u, e1, e2⟩ := slice_ok (P := P) hu hs hp hr (hx x (by simp [Op.operands])) (brep_map (r := r) fun y hy => hx y (by simp [Op.operands, hy])) (brep_map (r := r) fun y hy => hx y (by simp [Op.operands, hy])) h1
          exact kAr (by unfold execOp; simp only [ho]; exact kDq e1) (.same hr e2)
        · cases hd
      · cases hd
  case fieldAddr s x f =>
    split at hd
    · rename_i fd hfd
      split at hd
      · rename_i n hs
        obtain ⟨y, h1, h2⟩ := kAl hd
        cases h2
        refine ⟨List.prefix_refl _, fun X ρ w H r hp hr _ hx => ?_⟩
        obtain ⟨u, e1, e2⟩ := fieldAddr_ok (P := P) hfd hs (hx x (by simp [Op.operands])) h1
        exact kAr (by unfold execOp; simp only [ho]; exact kDq e1) (.same hr e2)
      · cases hd
    · cases hd
  case field t x f =>
    split at hd
    · rename_i fd hfd
      split at hd
      · rename_i s g hs hg
        obtain ⟨y, h1, h2⟩ := kAl hd
        cases h2
        refine ⟨List.prefix_refl _, fun X ρ w H r hp hr _ hx => ?_⟩
        obtain ⟨u, e1, e2⟩ := field_ok (P := P) hfd hs hg (hx x (by simp [Op.operands])) h1
        exact kAr (by unfold execOp; simp only [ho]; exact kDq e1) (.same hr e2)
      · cases hd
    · cases hd
  case indexAddr t x ix =>
    split at hd
    · rename_i e hu
      split at hd
      · rename_i s hs
        obtain ⟨y, h1, h2⟩ := kAl hd
        cases h2
        refine ⟨List.prefix_refl _, fun X ρ w H r hp hr _ hx => ?_⟩
        obtain ⟨u, e1, e2⟩ := indexAddr_ok (P := P) hu hs hp hr (hx x (by simp [Op.operands])) (hx ix (by simp [Op.operands])) h1
        exact kAr (by unfold execOp; simp only [ho]; exact kDq e1) (.same hr e2)
      · cases hd
    · rename_i n e hu
      split at hd
      · rename_i s hs
        obtain ⟨y, h1, h2⟩ := kAl hd
        cases h2
        refine ⟨List.prefix_refl _, fun X ρ w H r hp hr _ hx => ?_⟩
        obtain ⟨u, e1, e2⟩ := indexArr_ok (P := P) hu hs (hx x (by simp [Op.operands])) (hx ix (by simp [Op.operands])) h1
        exact kAr (by unfold execOp; simp only [ho]; exact kDq e1) (.same hr e2)
      · cases hd
    · cases hd
  case index t x ix =>
    split at hd
    · rename_i hu
      obtain ⟨y, h1, h2⟩ := kAl hd
      cases h2
      refine ⟨List.prefix_refl _, fun X ρ w H r hp hr _ hx => ?_⟩
      obtain ⟨u, e1, e2⟩ := indexStr_ok (P := P) hu (hx x (by simp [Op.operands])) (hx ix (by simp [Op.operands])) h1
      exact kAr (by unfold execOp; simp only [ho]; exact kDq e1) (.same hr e2)
    · rename_i n e hu
      split at hd
      · rename_i s g hs hg
        obtain ⟨y, h1, h2⟩ := kAl hd
        cases h2
        refine ⟨List.prefix_refl _, fun X ρ w H r hp hr _ hx => ?_⟩
        obtain ⟨u, e1, e2⟩ := indexAgg_ok (P := P) hu hs hg (hx x (by simp [Op.operands])) (hx ix (by simp [Op.operands])) h1
        exact kAr (by unfold execOp; simp only [ho]; exact kDq e1) (.same hr e2)
      · cases hd
    · cases hd
  case extract x i =>
    obtain ⟨y, h1, h2⟩ := kAl hd
    cases h2
    refine ⟨List.prefix_refl _, fun X ρ w H r hp hr _ hx => ?_⟩
    obtain ⟨u, e1, e2⟩ := extract_ok (P := P) (hx x (by simp [Op.operands])) h1
    exact kAr (by unfold execOp; simp only [ho]; exact kDq e1) (.same hr e2)
  case call c =>
    obtain ⟨b, hb⟩ := hc c rfl
    obtain ⟨callee, args, ts⟩ := c
    simp only at hb
    subst hb
    simp only [kDo, kCu] at hd
    have hexec : ∀ (r : Operand → Value) (w : World), ∃ cs, (execOp r o).run P w = (builtin b ts o.type cs (args.map r)).run P w := fun r w => by
      unfold execOp
      simp only [ho]
      simp only [Sem.run_bind, resolve, Sem.run_pure, Result.andThen_ok, invoke]
      exact ⟨_, rfl⟩
    split at hd
    · rename_i t ts' x xs e1 e2
      split at hd
      · rename_i k hk'
        obtain ⟨y, h1, h2⟩ := kAl hd
        cases h2
        refine ⟨List.prefix_refl _, fun X ρ w H r hp hr _ hx => ?_⟩
        have g1 : ts[0]? = some t := by rw [← Array.getElem?_toList, e1]; rfl
        have g2 : args[0]? = some x := by rw [← Array.getElem?_toList, e2]; rfl
        obtain ⟨u, p1, p2⟩ := lenK_ok (P := P) (ty := o.type) (w := w) (own := Own X ρ) (ρ := ρ) g1 hk' (ps := args.map r) (px := r x) (by rw [Array.getElem?_map, g2]; rfl) (hx x (by simp [Op.operands, Call.operands]; exact Array.mem_of_getElem? g2)) h1
        obtain ⟨cs, hcs⟩ := hexec r w
        exact kAr (by rw [hcs]; simp only [builtin]; exact kDq p1) (.same hr p2)
      · cases hd
    · simp [hk] at hw
    · rename_i x xs e2
      obtain ⟨y, h1, h2⟩ := kAl hd
      cases h2
      refine ⟨List.prefix_refl _, fun X ρ w H r hp hr _ hx => ?_⟩
      have hm : ∀ z ∈ x :: xs, Rep (Own X ρ) w ρ (ev tm z) (r z) := fun z hz => hx z (by
        simp only [Op.operands, Call.operands, Array.toList_append, List.mem_append]
        right
        rw [e2]
        exact hz)
      obtain ⟨u, p1, p2⟩ := fold2_ok (P := P) (g := Builtin.max2) (fun x y v px py => max2_ok x y v px py) (xs.map (ev tm)) (ev tm x) v (r x) (xs.map r) (hm x (by simp)) (by simp) (fun i c u q1 q2 => by
        simp only [List.getElem?_map, Option.map_eq_some_iff] at q1 q2
        obtain ⟨z, q3, q4⟩ := q1
        obtain ⟨z', q5, q6⟩ := q2
        rw [q3] at q5
        cases q5
        subst q4 q6
        exact hm z (by simp [List.mem_of_getElem? q3])) h1
      obtain ⟨cs, hcs⟩ := hexec r w
      refine kAr (by
        rw [hcs]
        simp only [builtin]
        refine kDq ?_
        unfold Builtin.max_
        rw [Array.toList_map, e2]
        exact p1) (.same hr p2)
    · rename_i x xs e2
      obtain ⟨y, h1, h2⟩ := kAl hd
      cases h2
      refine ⟨List.prefix_refl _, fun X ρ w H r hp hr _ hx => ?_⟩
      have hm : ∀ z ∈ x :: xs, Rep (Own X ρ) w ρ (ev tm z) (r z) := fun z hz => hx z (by
        simp only [Op.operands, Call.operands, Array.toList_append, List.mem_append]
        right
        rw [e2]
        exact hz)
      obtain ⟨u, p1, p2⟩ := fold2_ok (P := P) (g := Builtin.min2) (fun x y v px py => min2_ok x y v px py) (xs.map (ev tm)) (ev tm x) v (r x) (xs.map r) (hm x (by simp)) (by simp) (fun i c u q1 q2 => by
        simp only [List.getElem?_map, Option.map_eq_some_iff] at q1 q2
        obtain ⟨z, q3, q4⟩ := q1
        obtain ⟨z', q5, q6⟩ := q2
        rw [q3] at q5
        cases q5
        subst q4 q6
        exact hm z (by simp [List.mem_of_getElem? q3])) h1
      obtain ⟨cs, hcs⟩ := hexec r w
      refine kAr (by
        rw [hcs]
        simp only [builtin]
        refine kDq ?_
        unfold Builtin.min_
        rw [Array.toList_map, e2]
        exact p1) (.same hr p2)
    · cases hd
end Go.Eng
