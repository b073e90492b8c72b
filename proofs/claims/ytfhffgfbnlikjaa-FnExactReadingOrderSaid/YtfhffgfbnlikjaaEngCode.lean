import Derived.Test.YtfhffgfbnlikjaaEngDrawW
import Derived.LoopN
namespace Go.Eng
set_option linter.unusedVariables false
set_option linter.unusedSimpArgs false
open Go.RowKit
variable {P : Program} {N : Nat} {X : Nat → Prop} {w : World} {ρ : RM}
def PostK {R : Type} (P : Program) (N : Nat) (X : Nat → Prop) (ρ0 : RM) (w0 : World) (K : AX → TM → kA4 → Option R) (y : R) : Exit → Act → World → Prop
  | .normal, a, w => ∃ tm h, K .normal tm h = some y ∧ St P N X ρ0 w0 tm h a w
  | .exit i, a, w => ∃ tm h, K (.exit i) tm h = some y ∧ St P N X ρ0 w0 tm h a w
  | .ret, a, w => ∃ tm h, K .ret tm h = some y ∧ St P N X ρ0 w0 tm h a w
  | _, _, _ => False
def loopN (hm xm : List Bool) (body : TM → kA4 → Option Res) : Nat → TM → kA4 → Option Res
  | 0, _, _ => none
  | n + 1, tm, h => match body tm h with
    | none => none
    | some r => match r.1 with
      | .normal => loopN hm xm body n (restr hm r.2.1) r.2.2
      | .exit i => some (.exit i, restr xm r.2.1, r.2.2)
      | .ret => some (.ret, restr xm r.2.1, r.2.2)
theorem loopP_N {hm xm : List Bool} {body : TM → kA4 → Option Res} {tm : TM} {h : kA4} {r : Res} (hl : kBm hm xm body tm h = some r) : ∃ n, loopN hm xm body n tm h = some r := by
  refine kBm.partial_correctness hm xm body (fun tm h r => ∃ n, loopN hm xm body n tm h = some r) (fun lp ih tm h r hr => ?_) tm h r hl
  cases hb : body tm h with
  | none => simp [hb] at hr
  | some r1 =>
    simp only [hb] at hr
    cases hx : r1.1 with
    | normal =>
      simp only [hx] at hr
      obtain ⟨n, hn⟩ := ih _ _ _ hr
      exact ⟨n + 1, by simp only [loopN, hb, hx]; exact hn⟩
    | exit i =>
      simp only [hx] at hr
      exact ⟨1, by simp only [loopN, hb, hx]; exact hr⟩
    | ret =>
      simp only [hx] at hr
      exact ⟨1, by simp only [loopN, hb, hx]; exact hr⟩
theorem restr_forget : ∀ (ks : List Bool) (tm : TM) (t : Nat) (c : AV), (restr ks tm)[t]? = some c → c = .top ∨ tm[t]? = some c
  | [], tm, t, c, h => by cases tm <;> simp [restr] at h
  | b :: bs, [], t, c, h => by simp [restr] at h
  | b :: bs, v :: tm, 0, c, h => by
    simp only [restr, List.getElem?_cons_zero, Option.some.injEq] at h
    cases b
    · left; exact h.symm
    · right; simp only [cond_true] at h; subst h; rfl
  | b :: bs, v :: tm, t + 1, c, h => by
    simp only [restr, List.getElem?_cons_succ] at h ⊢
    exact restr_forget bs tm t c h
theorem kE6 : ∀ (ks : List Bool) (tm : TM), ks.length = tm.length → (restr ks tm).length = tm.length
  | [], [], _ => rfl
  | _ :: bs, _ :: tm, h => by simp only [restr, List.length_cons]; rw [kE6 bs tm (by simpa using h)]
  | [], _ :: _, h => by simp at h
  | _ :: _, [], h => by simp at h
theorem St.restr {ρ0 : RM} {w0 : World} {tm : TM} {h : kA4} {a : Act} {ks : List Bool} (hs : St P N X ρ0 w0 tm h a w) (hl : ks.length = tm.length) : St P N X ρ0 w0 (restr ks tm) h a w :=
  hs.forget (kE6 ks tm hl) (restr_forget ks tm)
theorem St.len {ρ0 : RM} {w0 : World} {tm : TM} {h : kA4} {a : Act} (hs : St P N X ρ0 w0 tm h a w) : tm.length = N := by
  obtain ⟨_, _, _, h3⟩ := hs.ex
  rw [← h3.size]
  exact hs.size
theorem denOps_len {env : Nat → Contract} {q : Bool} : ∀ (os : List Oper) {R : Type} (tm : TM) (h : kA4) (K : TM → kA4 → Option R) (y : R), kIg P env q os tm h K = some y → ∃ tm' h', tm'.length = tm.length ∧ K tm' h' = some y
  | [], R, tm, h, K, y, hd => ⟨tm, h, rfl, hd⟩
  | o :: os, R, tm, h, K, y, hd => by
    simp only [kIg] at hd
    rw [kEq] at hd
    obtain ⟨v, h', h1, h2⟩ := kAu hd
    obtain ⟨tm', h'', e1, e2⟩ := denOps_len os _ _ _ _ h2
    exact ⟨tm', h'', by rw [e1, kE5], e2⟩
theorem kDg {env : Nat → Contract} {q : Bool} {all : List Oper} : ∀ (runs : List Run) {R : Type} (tm : TM) (h : kA4) (K : TM → kA4 → Option R) (y : R), kCf P env q all runs tm h K = some y → ∃ tm' h', tm'.length = tm.length ∧ K tm' h' = some y
  | [], R, tm, h, K, y, hd => ⟨tm, h, rfl, hd⟩
  | (none, os) :: runs, R, tm, h, K, y, hd => by
    simp only [kCf] at hd
    obtain ⟨tm', h', e1, e2⟩ := denOps_len os _ _ _ _ hd
    obtain ⟨tm'', h'', e3, e4⟩ := kDg runs _ _ _ _ e2
    exact ⟨tm'', h'', by rw [e3, e1], e4⟩
  | (some (j, want), os) :: runs, R, tm, h, K, y, hd => by
    simp only [kCf] at hd
    obtain ⟨v, h', h1, h2⟩ := kAu hd
    obtain ⟨tm'', h'', e3, e4⟩ := kDg runs _ _ _ _ h2
    exact ⟨tm'', h'', by rw [e3, kGt], e4⟩
theorem loop_ok {c : Code} {hm xm : List Bool} {body : TM → kA4 → Option Res} {ρ0 : RM} {w0 : World} {n0 : Nat} (hhm : hm.length = n0) (hxm : xm.length = n0)
    (hbody : ∀ (tm : TM) (h : kA4) (r : Res) (a : Act) (w : World), tm.length = n0 → body tm h = some r → St P N X ρ0 w0 tm h a w → c.wp P (PostK P N X ρ0 w0 (fun e tm h => some (e, tm, h)) r) a w ∧ r.2.1.length = n0) {Q : Exit → Act → World → Prop} {r : Res}
    (hQ : ∀ a w, St P N X ρ0 w0 r.2.1 r.2.2 a w → (∀ i, r.1 = .exit i → Q (.exit i) a w) ∧ (r.1 = .ret → Q .ret a w)) : ∀ (n : Nat) (tm : TM) (h : kA4) (a : Act) (w : World), tm.length = n0 → loopN hm xm body n tm h = some r → St P N X ρ0 w0 tm h a w → Code.rounds P c Q n a w
  | 0, tm, h, a, w, _, hl, _ => by simp [loopN] at hl
  | n + 1, tm, h, a, w, hlen, hl, hs => by
    simp only [loopN] at hl
    cases hb : body tm h with
    | none => simp [hb] at hl
    | some r1 =>
      simp only [hb] at hl
      obtain ⟨g1, g2⟩ := hbody tm h r1 a w hlen hb hs
      refine Code.wp_mono (fun e a' w' hp => ?_) g1
      obtain ⟨x1, tm1, h1⟩ := r1
      cases e with
      | normal =>
        obtain ⟨tm2, h2, e1, e2⟩ := hp
        cases e1
        simp only at hl
        exact loop_ok hhm hxm hbody hQ n _ _ a' w' (by rw [kE6 _ _ (by rw [hhm]; exact g2.symm)]; exact g2) hl (e2.restr (by rw [hhm]; exact g2.symm))
      | exit i =>
        obtain ⟨tm2, h2, e1, e2⟩ := hp
        cases e1
        simp only at hl
        cases hl
        exact (hQ a' w' (e2.restr (by rw [hxm]; exact g2.symm))).1 i rfl
      | ret =>
        obtain ⟨tm2, h2, e1, e2⟩ := hp
        cases e1
        simp only at hl
        cases hl
        exact (hQ a' w' (e2.restr (by rw [hxm]; exact g2.symm))).2 rfl
      | _ => exact hp.elim
theorem loopN_len {hm xm : List Bool} {body : TM → kA4 → Option Res} {n0 : Nat} (hhm : hm.length = n0) (hxm : xm.length = n0) (hbody : ∀ (tm : TM) (h : kA4) (r : Res), tm.length = n0 → body tm h = some r → r.2.1.length = n0) :
    ∀ (n : Nat) (tm : TM) (h : kA4) (r : Res), tm.length = n0 → loopN hm xm body n tm h = some r → r.2.1.length = n0
  | 0, tm, h, r, _, hl => by simp [loopN] at hl
  | n + 1, tm, h, r, hlen, hl => by
    simp only [loopN] at hl
    cases hb : body tm h with
    | none => simp [hb] at hl
    | some r1 =>
      simp only [hb] at hl
      have g2 := hbody tm h r1 hlen hb
      cases hx : r1.1 with
      | normal =>
        simp only [hx] at hl
        exact loopN_len hhm hxm hbody n _ _ r (by rw [kE6 _ _ (by rw [hhm]; exact g2.symm)]; exact g2) hl
      | exit i =>
        simp only [hx] at hl
        cases hl
        rw [kE6 _ _ (by rw [hxm]; exact g2.symm)]; exact g2
      | ret =>
        simp only [hx] at hl
        cases hl
        rw [kE6 _ _ (by rw [hxm]; exact g2.symm)]; exact g2
theorem kE7 (W : Bool) (named : List Bool) (c : Code) : (kIm W named c).length = named.length := by
  cases W <;> simp [kIm, headMask]
theorem exitMask_len (named : List Bool) (c : Code) : (exitMask named c).length = named.length := by simp [exitMask]
theorem denC_len {W : Bool} {env : Nat → Contract} {named : List Bool} : ∀ (c : Code) {R : Type} (tm : TM) (h : kA4) (K : AX → TM → kA4 → Option R) (y : R), tm.length = named.length → kD1 W P env named c R tm h K = some y → ∃ e tm' h', tm'.length = named.length ∧ K e tm' h' = some y := by
  intro c
  induction c with
  | skip => intro R tm h K y hn hd; exact ⟨.normal, tm, h, hn, hd⟩
  | region id ops draw =>
    intro R tm h K y hn hd
    simp only [kD1] at hd
    cases W with
    | false =>
      simp only [kFb, denRegion] at hd
      cases draw with
      | false =>
        obtain ⟨tm', h', e1, e2⟩ := kDg _ _ _ _ _ hd
        exact ⟨.normal, tm', h', by rw [e1, hn], e2⟩
      | true =>
        simp only at hd
        split at hd
        · obtain ⟨tm', h', e1, e2⟩ := kDg _ _ _ _ _ hd
          exact ⟨.normal, tm', h', by rw [e1, hn], e2⟩
        · cases hd
    | true =>
      simp only [kFb] at hd
      cases draw with
      | false =>
        obtain ⟨tm', h', e1, e2⟩ := kDg _ _ _ _ _ hd
        exact ⟨.normal, tm', h', by rw [e1, hn], e2⟩
      | true =>
        simp only at hd
        split at hd
        · obtain ⟨tm', h', e1, e2⟩ := kDg _ _ _ _ _ hd
          exact ⟨.normal, tm', h', by rw [e1, hn], e2⟩
        · split at hd
          · obtain ⟨tm', h', e1, e2⟩ := Wm.denW_len _ _ _ _ _ _ _ hd
            exact ⟨.normal, tm', h', by rw [e1, hn], e2⟩
          · split at hd
            · obtain ⟨tm', h', e1, e2⟩ := Wm.denW_len _ _ _ _ _ _ _ hd
              exact ⟨.normal, tm', h', by rw [e1, hn], e2⟩
            · split at hd
              · obtain ⟨tm', h', e1, e2⟩ := kDg _ _ _ _ _ hd
                exact ⟨.normal, tm', h', by rw [e1, hn], e2⟩
              · cases hd
  | seq a b iha ihb =>
    intro R tm h K y hn hd
    simp only [kD1] at hd
    obtain ⟨e, tm', h', e1, e2⟩ := iha _ _ _ _ hn hd
    cases e with
    | normal => exact ihb _ _ _ _ e1 e2
    | exit i => exact ⟨.exit i, tm', h', e1, e2⟩
    | ret => exact ⟨.ret, tm', h', e1, e2⟩
  | cond c a b iha ihb =>
    intro R tm h K y hn hd
    simp only [kD1, kAt] at hd
    split at hd
    · rename_i t _
      cases t with
      | true => exact iha _ _ _ _ hn hd
      | false => exact ihb _ _ _ _ hn hd
    · cases hd
  | block id c ih =>
    intro R tm h K y hn hd
    simp only [kD1] at hd
    obtain ⟨e, tm', h', e1, e2⟩ := ih _ _ _ _ hn hd
    cases e with
    | normal => exact ⟨.normal, tm', h', e1, e2⟩
    | ret => exact ⟨.ret, tm', h', e1, e2⟩
    | exit i =>
      simp only at e2
      cases hb : Nat.beq i id with
      | true => rw [hb] at e2; exact ⟨.normal, tm', h', e1, e2⟩
      | false => rw [hb] at e2; exact ⟨.exit i, tm', h', e1, e2⟩
  | loop c ih =>
    intro R tm h K y hn hd
    simp only [kD1] at hd
    obtain ⟨r, h1, h2⟩ := kAl hd
    obtain ⟨n, h3⟩ := loopP_N h1
    refine ⟨r.1, r.2.1, r.2.2, ?_, h2⟩
    refine loopN_len (kE7 W named c) (exitMask_len named c) (fun tm h r hl hb => ?_) n _ _ r (by rw [kE6 _ _ (by rw [kE7, hn])]; exact hn) h3
    obtain ⟨e, tm', h', e1, e2⟩ := ih _ _ _ _ hl hb
    cases e2
    exact e1
  | exit i => intro R tm h K y hn hd; exact ⟨.exit i, tm, h, hn, hd⟩
  | ret => intro R tm h K y hn hd; exact ⟨.ret, tm, h, hn, hd⟩
  | rangeFunc => intro R tm h K y hn hd; simp [kD1] at hd
  | scope => intro R tm h K y hn hd; simp [kD1] at hd
  | label => intro R tm h K y hn hd; simp [kD1] at hd
  | goto => intro R tm h K y hn hd; simp [kD1] at hd
  | refuse => intro R tm h K y hn hd; simp [kD1] at hd
theorem code_ok {W : Bool} {env : Nat → Contract} (henv : kBr P env) (hm : P.follows .mixedOrders = true) {named : List Bool} {ρ0 : RM} {w0 : World} : ∀ (c : Code) {R : Type} (tm : TM) (h : kA4) (K : AX → TM → kA4 → Option R) (y : R) (a : Act) (w : World),
    tm.length = named.length → kD1 W P env named c R tm h K = some y → St P N X ρ0 w0 tm h a w → c.wp P (PostK P N X ρ0 w0 K y) a w := by
  intro c
  induction c with
  | skip => intro R tm h K y a w _ hd hs; exact wp_skip ⟨tm, h, hd, hs⟩
  | exit i => intro R tm h K y a w _ hd hs; exact wp_exit ⟨tm, h, hd, hs⟩
  | ret => intro R tm h K y a w _ hd hs; exact wp_ret ⟨tm, h, hd, hs⟩
  | region id ops draw =>
    intro R tm h K y a w _ hd hs
    simp only [kD1] at hd
    cases W with
    | false =>
      simp only [kFb, denRegion] at hd
      cases draw with
      | false => exact kHi henv hd hs fun tm' h' a' w' k1 k2 => ⟨tm', h', k1, k2⟩
      | true =>
        simp only at hd
        split at hd
        · rename_i hdk
          exact drawRegion_ok henv hm hdk hd hs fun tm' h' a' w' k1 k2 => ⟨tm', h', k1, k2⟩
        · cases hd
    | true =>
      simp only [kFb] at hd
      cases draw with
      | false => exact kHi henv hd hs fun tm' h' a' w' k1 k2 => ⟨tm', h', k1, k2⟩
      | true =>
        simp only at hd
        split at hd
        · rename_i hdk
          rw [Bool.and_eq_true] at hdk
          exact drawRegion_ok henv hm hdk.1 hd hs fun tm' h' a' w' k1 k2 => ⟨tm', h', k1, k2⟩
        · split at hd
          · rename_i hdk
            exact Wm.drawRegion_ok henv hm hdk hd hs fun tm' h' a' w' k1 k2 => ⟨tm', h', k1, k2⟩
          · split at hd
            · rename_i hdk
              exact Wm.drawRegion_ok henv hm hdk hd hs fun tm' h' a' w' k1 k2 => ⟨tm', h', k1, k2⟩
            · split at hd
              · rename_i hdk
                exact drawRegion_ok henv hm hdk hd hs fun tm' h' a' w' k1 k2 => ⟨tm', h', k1, k2⟩
              · cases hd
  | seq x z ihx ihz =>
    intro R tm h K y a w hn hd hs
    simp only [kD1] at hd
    refine wp_seq (Code.wp_mono (fun e a' w' hp => ?_) (ihx tm h _ y a w hn hd hs))
    cases e with
    | normal =>
      obtain ⟨tm', h', k1, k2⟩ := hp
      exact ihz tm' h' K y a' w' (by rw [k2.len, ← hs.len, hn]) k1 k2
    | exit i => exact hp
    | ret => exact hp
    | _ => exact hp.elim
  | cond c x z ihx ihz =>
    intro R tm h K y a w hn hd hs
    simp only [kD1, kAt] at hd
    split at hd
    · rename_i t ht
      obtain ⟨ρ, g1, g2, g3⟩ := hs.ex
      have he := g3.eval c
      rw [ht] at he
      have hc := he.bool_inv
      refine wp_cond hc ?_
      cases t with
      | true => exact ihx tm h K y a w hn hd hs
      | false => exact ihz tm h K y a w hn hd hs
    · cases hd
  | block id c ih =>
    intro R tm h K y a w hn hd hs
    simp only [kD1] at hd
    refine wp_block (Code.wp_mono (fun e a' w' hp => ?_) (ih tm h _ y a w hn hd hs))
    cases e with
    | normal => exact hp
    | ret => exact hp
    | exit i =>
      obtain ⟨tm', h', k1, k2⟩ := hp
      simp only at k1
      simp only [Exit.inBlock]
      cases hb : Nat.beq i id with
      | true =>
        rw [hb] at k1
        rw [if_pos (Nat.eq_of_beq_eq_true hb)]
        exact ⟨tm', h', k1, k2⟩
      | false =>
        rw [hb] at k1
        rw [if_neg (Nat.ne_of_beq_eq_false hb)]
        exact ⟨tm', h', k1, k2⟩
    | _ => exact hp.elim
  | loop c ih =>
    intro R tm h K y a w hn hd hs
    simp only [kD1] at hd
    obtain ⟨r, h1, h2⟩ := kAl hd
    obtain ⟨n, h3⟩ := loopP_N h1
    refine wp_loop_rounds n (loop_ok (kE7 W named c) (exitMask_len named c) (fun tm h r a w hl hb hs => ⟨ih tm h _ r a w hl hb hs, ?_⟩) (fun a' w' hs' => ⟨fun i hi => ?_, fun hi => ?_⟩) n _ _ a w (by rw [kE6 _ _ (by rw [kE7, hn])]; exact hn) h3 (hs.restr (by rw [kE7, hn])))
    · obtain ⟨e, tm', h', e1, e2⟩ := denC_len c _ _ _ _ hl hb
      cases e2
      exact e1
    · exact ⟨r.2.1, r.2.2, by rw [← hi]; exact h2, hs'⟩
    · exact ⟨r.2.1, r.2.2, by rw [← hi]; exact h2, hs'⟩
  | rangeFunc => intro R tm h K y a w _ hd _; simp [kD1] at hd
  | scope => intro R tm h K y a w _ hd _; simp [kD1] at hd
  | label => intro R tm h K y a w _ hd _; simp [kD1] at hd
  | goto => intro R tm h K y a w _ hd _; simp [kD1] at hd
  | refuse => intro R tm h K y a w _ hd _; simp [kD1] at hd
end Go.Eng
