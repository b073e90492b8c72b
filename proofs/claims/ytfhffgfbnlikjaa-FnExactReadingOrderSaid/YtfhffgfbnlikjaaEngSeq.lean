import Derived.Test.YtfhffgfbnlikjaaEngStep
namespace Go.Eng
set_option linter.unusedVariables false
set_option linter.unusedSimpArgs false
open Go.RowKit
variable {P : Program} {X : Nat → Prop} {own : Nat → Prop} {w : World} {ρ : RM}
theorem call_exec {o : Oper} {c : Call} {f : Operand} {g : Nat} {r : Operand → Value} {vs : Array Value} (ho : o.op = .call c) (hc : c.callee = .value f) (hf : r f = .func (.func g) #[] vs) :
    (execOp r o).run P w = (callFunc g (c.args.map r ++ vs)).run P w := by
  unfold execOp
  simp only [ho]
  simp only [resolve, hc, hf, Deferred.ofValue, Sem.run_bind, Sem.run_pure, Result.andThen_ok, invoke, Array.empty_append]
theorem runs_call {o : Oper} {r : Operand → Value} {g : Nat} {as : Array Value} {Post : Value → World → Prop} (he : (execOp r o).run P w = (callFunc g as).run P w) (h : kI3 P g as w fun e w' => ∃ v, e = .returned v ∧ Post v w') : kDc P o r w Post := by
  unfold kDc
  unfold kI3 at h
  rw [he]
  split at h
  · rename_i v w' e
    rw [e]
    obtain ⟨u, hu, hp⟩ := h
    cases hu
    exact hp
  · rename_i f as w' e
    rw [e]
    exact h
  · exact h.elim
theorem args_rep {tm : TM} {r : Operand → Value} {xs : Array Operand} {caps : List AV} {vs : Array Value} (h : ∀ x ∈ xs.toList, Rep own w ρ (ev tm x) (r x)) (hn : vs.size = caps.length)
    (hv : ∀ (i : Nat) (c : AV) (v : Value), caps[i]? = some c → vs[i]? = some v → Rep own w ρ c v) :
    (xs.map r ++ vs).size = (xs.toList.map (ev tm) ++ caps).length ∧ ∀ (i : Nat) (d : AV) (v : Value), (xs.toList.map (ev tm) ++ caps)[i]? = some d → (xs.map r ++ vs)[i]? = some v → Rep own w ρ d v := by
  refine ⟨by simp [hn], fun i d v h1 h2 => ?_⟩
  by_cases hi : i < xs.size
  · rw [List.getElem?_append_left (by simpa using hi)] at h1
    rw [Array.getElem?_append_left (by simpa using hi)] at h2
    exact map_rep h i d v h1 h2
  · rw [List.getElem?_append_right (by simp; omega)] at h1
    rw [Array.getElem?_append_right (by simp; omega)] at h2
    simp only [List.length_map, Array.length_toList, Array.size_map] at h1 h2
    exact hv _ d v h1 h2
theorem fn_inv {g : Nat} {caps : List AV} {v : Value} (h : Rep own w ρ (.fn g caps) v) : ∃ vs : Array Value, v = .func (.func g) #[] vs ∧ vs.size = caps.length ∧ ∀ (i : Nat) (c : AV) (u : Value), caps[i]? = some c → vs[i]? = some u → Rep own w ρ c u := by
  cases h with
  | fn h1 h2 => exact ⟨_, rfl, h1, h2⟩
theorem opE {env : Nat → Contract} (henv : kBr P env) {o : Oper} {op : Op} (ho : o.op = op) {tm : TM} {h h' : kA4} {v : AV} (hd : kBq P env true tm h op (fun v h => some (v, h)) = some (v, h'))
    (hw : hk op ≠ .write) : h <+: h' ∧ ∀ (X : Nat → Prop) (ρ : RM) (w : World) (H : kA4) (r : Operand → Value), h' <+: H → HRep P X ρ H w →
      (∀ x, h.length ≤ x → x < h'.length → ρ x = none) → (∀ x ∈ op.operands.toList, Rep (Own X ρ) w ρ (ev tm x) (r x)) → kDc P o r w fun u w' => Made P X ρ w h h' H v u w' := by
  by_cases hcc : ∃ c f, op = .call c ∧ c.callee = .value f
  · obtain ⟨c, f, rfl, hcal⟩ := hcc
    simp only [kBq, kDo, hcal] at hd
    split at hd
    · rename_i g caps hfn
      obtain ⟨y, hh, h1, h2⟩ := kAu hd
      cases h2
      unfold kCq at h1
      split at h1
      · rename_i ff hff
        have hok : kAs P g ff := by have := henv g; rw [hff] at this; exact this
        have hpre : h <+: h' := by
          unfold kAb at h1
          split at h1
          · split at h1
            · split at h1
              · cases h1; exact List.prefix_append _ _
              · cases h1
            · cases h1
          · cases h1
        refine ⟨hpre, fun X ρ w H r hp hr hf hx => ?_⟩
        have hfr := hx f (by simp [Op.operands, Call.operands, hcal])
        rw [hfn] at hfr
        obtain ⟨vs, e1, e2, e3⟩ := fn_inv hfr
        obtain ⟨q1, q2⟩ := args_rep (r := r) (xs := c.args) (fun x hxx => hx x (by simp only [Op.operands, Call.operands, Array.toList_append, List.mem_append]; exact .inr hxx)) e2 e3
        exact runs_call (call_exec ho hcal e1) (callPure_ok hok h1 hr hp hf q1 q2).2
      · cases h1
    · cases hd
  · refine opE_plain ho hd hw fun c hc => ?_
    cases hq : c.callee with
    | builtin b => exact ⟨b, rfl⟩
    | value f => exact (hcc ⟨c, f, hc, hq⟩).elim
    | invoke a b => subst hc; simp [kBq, kDo, hq] at hd
theorem opSN {env : Nat → Contract} {q : Bool} {o : Oper} {op : Op} (ho : o.op = op) {tm : TM} {h h' : kA4} {v : AV} (hd : kBq P env q tm h op (fun v h => some (v, h)) = some (v, h')) (hw : hk op = .write)
    {r : Operand → Value} (hr : HRep P X ρ h w) (hx : ∀ x ∈ op.operands.toList, Rep (Own X ρ) w ρ (ev tm x) (r x)) : kDc P o r w fun u w' => WroteN P X ρ w h h' v u w' := by
  by_cases hst : ∃ t a x, op = .store t a x
  · obtain ⟨t, a, x, rfl⟩ := hst
    simp only [kBq] at hd
    split at hd
    · rename_i s hs
      obtain ⟨y, h1, h2⟩ := kAl hd
      cases h2
      obtain ⟨w', e1, e2⟩ := store_okN (P := P) (X := X) hs hr (hx a (by simp [Op.operands])) (hx x (by simp [Op.operands])) h1
      unfold kDc
      have : (execOp r o).run P w = .ok .skip w' := by
        unfold execOp
        simp only [ho]
        simp [e1]
      rw [this]
      exact e2
    · cases hd
  · by_cases happ : ∃ c, op = .call c ∧ c.callee = .builtin .append
    · obtain ⟨c, rfl, hcal⟩ := happ
      obtain ⟨callee, args, ts⟩ := c
      simp only at hcal
      subst hcal
      simp only [kBq, kDo, kCu] at hd
      split at hd
      · rename_i hb _ _; cases hb
      · rename_i t u s x _ e1 e2
        split at hd
        · rename_i e he
          split at hd
          · rename_i k b z hs hb hz
            split at hd
            · rename_i hzl
              have hargs : args = #[s, x] := by apply Array.ext'; rw [e2]
              have hts : ts = #[t, u] := by apply Array.ext'; rw [e1]
              subst hargs hts
              have hexec : ∃ cs, (execOp r o).run P w = (builtin .append #[t, u] o.type cs (#[s, x].map r)).run P w := by
                unfold execOp
                simp only [ho]
                simp only [Sem.run_bind, resolve, Sem.run_pure, Result.andThen_ok, invoke]
                exact ⟨_, rfl⟩
              rw [show (#[s, x] : Array Operand).map r = #[r s, r x] by simp] at hexec
              obtain ⟨cs, hcs⟩ := hexec
              have hs1 := hx s (by simp [Op.operands, Call.operands])
              have hx1 := hx x (by simp [Op.operands, Call.operands])
              split at hd
              · rename_i hlk
                obtain ⟨y, hh, h1, h2⟩ := kAu hd
                cases h2
                have hu : P.underlying u = some .string := by
                  unfold lenK at hlk
                  split at hlk
                  · assumption
                  · cases hlk
                  · cases hlk
                  · cases hlk
                obtain ⟨v', w', p1, p2⟩ := append_okN (P := P) (tx := u) (ty := o.type) (kEy he) hs hb hz hzl (st := true) (by simp [hu]) hr hs1 hx1 h1
                exact kAr (by rw [hcs]; simp only [builtin]; exact kDq p1) p2
              · rename_i hlk
                obtain ⟨y, hh, h1, h2⟩ := kAu hd
                cases h2
                have hu : ∃ e', P.underlying u = some (.slice e') := by
                  unfold lenK at hlk
                  split at hlk
                  · cases hlk
                  · exact ⟨_, by assumption⟩
                  · cases hlk
                  · cases hlk
                obtain ⟨v', w', p1, p2⟩ := append_okN (P := P) (tx := u) (ty := o.type) (kEy he) hs hb hz hzl (st := false) (by simpa using hu) hr hs1 hx1 h1
                exact kAr (by rw [hcs]; simp only [builtin]; exact kDq p1) p2
              · cases hd
            · cases hd
          · cases hd
        · cases hd
      · rename_i hb _; cases hb
      · rename_i hb _; cases hb
      · cases hd
    · exfalso
      unfold hk at hw
      split at hw <;> first | (cases hw; done) | skip
      · exact hst ⟨_, _, _, rfl⟩
      · exact happ ⟨_, rfl, rfl⟩
theorem opS {env : Nat → Contract} {q : Bool} (henv : kBr P env) {o : Oper} {op : Op} (ho : o.op = op) {tm : TM} {h h' : kA4} {v : AV} (hd : kBq P env q tm h op (fun v h => some (v, h)) = some (v, h'))
    {r : Operand → Value} (hr : HRep P X ρ h w) (hx : ∀ x ∈ op.operands.toList, Rep (Own X ρ) w ρ (ev tm x) (r x)) : kDc P o r w fun u w' => Wrote P X ρ w h' v u w' := by
  by_cases hnw : hk op = .write
  · exact (opSN ho hd hnw hr hx).mono fun _ _ hm => hm.wrote
  · by_cases hcc : ∃ c f, op = .call c ∧ c.callee = .value f
    · obtain ⟨c, f, rfl, hcal⟩ := hcc
      simp only [kBq, kDo, hcal] at hd
      split at hd
      · rename_i g caps hfn
        have hfr := hx f (by simp [Op.operands, Call.operands, hcal])
        rw [hfn] at hfr
        obtain ⟨vs, e1, e2, e3⟩ := fn_inv hfr
        obtain ⟨q1, q2⟩ := args_rep (r := r) (xs := c.args) (fun x hxx => hx x (by simp only [Op.operands, Call.operands, Array.toList_append, List.mem_append]; exact .inr hxx)) e2 e3
        have pcall : ∀ ff, env g = .pure ff → kAb ff (c.args.toList.map (ev tm) ++ caps) h = some (v, h') → kDc P o r w fun u w' => Wrote P X ρ w h' v u w' := fun ff hff h1 => by
          have hok : kAs P g ff := by have := henv g; rw [hff] at this; exact this
          have hpre : h <+: h' := by
            unfold kAb at h1
            split at h1
            · split at h1
              · split at h1
                · cases h1; exact List.prefix_append _ _
                · cases h1
              · cases h1
            · cases h1
          exact (runs_call (call_exec ho hcal e1) (callPure_ok hok h1 (hr.pfx hpre) (List.prefix_refl _) (fun x hx1 _ => hr.fresh hx1) q1 q2).2).mono fun _ _ hm => hm.wrote
        split at hd
        · obtain ⟨y, hh, h1, h2⟩ := kAu hd
          cases h2
          unfold kCq at h1
          split at h1
          · rename_i ff hff
            exact pcall ff hff h1
          · cases h1
        · obtain ⟨y, hh, h1, h2⟩ := kAu hd
          cases h2
          unfold kAx at h1
          split at h1
          · rename_i ff hff
            exact pcall ff hff h1
          · rename_i F hF
            have hok : GenOK P g F := by have := henv g; rw [hF] at this; exact this
            exact runs_call (call_exec ho hcal e1) (hok _ h v h' h1 X ρ w _ hr q1 q2)
          · cases h1
      · cases hd
    · have hplain := opE_plain ho hd hnw fun c hc => by
        cases hq : c.callee with
        | builtin b => exact ⟨b, rfl⟩
        | value f => exact (hcc ⟨c, f, hc, hq⟩).elim
        | invoke a b => subst hc; simp [kBq, kDo, hq] at hd
      exact (hplain.2 X ρ w h' r (List.prefix_refl _) (hr.pfx hplain.1) (fun x hx1 _ => hr.fresh hx1) hx).mono fun _ _ hm => hm.wrote
theorem kEq {R : Type} (P : Program) (env : Nat → Contract) (q : Bool) (tm : TM) (h : kA4) (op : Op) (K : AV → kA4 → Option R) : kBq P env q tm h op K = kA3 (kBq P env q tm h op fun v h => some (v, h)) K := by
  have hb : ∀ {α : Type} (x : Option α) (f : α → AV × kA4), (kA0 x fun a => K (f a).1 (f a).2) = kA3 (kA0 x fun a => some (f a)) K := fun x f => by cases x <;> rfl
  have hb2 : ∀ (x : Option (AV × kA4)), kA3 x K = kA3 (kA3 x fun v h => some (v, h)) K := fun x => by cases x <;> rfl
  cases op <;> simp only [kBq] <;> (try unfold kDo) <;> (try unfold kCu) <;> (repeat' split) <;> first
    | rfl
    | exact hb _ (fun v => (v, h))
    | exact hb2 _
    | exact hb _ (fun h' => (und, h'))
end Go.Eng
