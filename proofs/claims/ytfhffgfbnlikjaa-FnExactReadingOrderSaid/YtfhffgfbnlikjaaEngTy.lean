import Derived.Test.YtfhffgfbnlikjaaEngTxt
namespace Go.Eng
set_option linter.unusedVariables false
set_option linter.unusedSimpArgs false
open Cod (enc dec)
def Sim {α β : Type} (X : Option α) (Y : Option β) (Q : β → α → Prop) : Prop := ∀ y, Y = some y → ∃ x, X = some x ∧ Q y x
section sim
variable {α β γ δ : Type} {Q : δ → γ → Prop}
theorem kA6 {x : γ} {y : δ} (h : Q y x) : Sim (some x) (some y) Q := fun y' e => by
  cases e
  exact ⟨x, rfl, h⟩
theorem kD5 {X : Option γ} : Sim X none Q := fun _ e => by cases e
theorem kA1 {x : Option α} {v : α} {F : α → Option γ} {Y : Option δ} (h : x = some v) (K : Sim (F v) Y Q) : Sim (kA0 x F) Y Q := by
  subst h
  exact K
theorem kBt {x : Option (α × β)} {v : α} {w : β} {F : α → β → Option γ} {Y : Option δ} (h : x = some (v, w)) (K : Sim (F v w) Y Q) : Sim (kA3 x F) Y Q := by
  subst h
  exact K
theorem kB2 {x : Option α} {y : Option β} {R : β → α → Prop} {F : α → Option γ} {G : β → Option δ} (h : Sim x y R) (K : ∀ b a, R b a → Sim (F a) (G b) Q) : Sim (kA0 x F) (kA0 y G) Q := by
  intro z hz
  cases y with
  | none => cases hz
  | some b =>
    obtain ⟨a, rfl, hr⟩ := h b rfl
    exact K b a hr z hz
theorem kGl {x : Option (α × kA4)} {y : Option β} {R : β → α × kA4 → Prop} {F : α → kA4 → Option γ} {G : β → Option δ} (h : Sim x y R) (K : ∀ b a h, R b (a, h) → Sim (F a h) (G b) Q) : Sim (kA3 x F) (kA0 y G) Q := by
  intro z hz
  cases y with
  | none => cases hz
  | some b =>
    obtain ⟨⟨a, h'⟩, rfl, hr⟩ := h b rfl
    exact K b a h' hr z hz
theorem kA9 {b : Bool} {x x' : Option γ} {y y' : Option δ} (h1 : b = true → Sim x y Q) (h2 : b = false → Sim x' y' Q) : Sim (kAt (bv b) x x') (cond b y y') Q := by
  cases b with
  | true => exact h1 rfl
  | false => exact h2 rfl
theorem kBo {b : Bool} {h : kA4} {X : Option (AV × kA4)} {Y : Option β} {e : β → AV} {d : β} {F : AV → kA4 → Option γ} {G : β → Option δ}
    (h1 : b = true → Sim X Y (fun y r => r = (e y, h))) (K : ∀ c, Sim (F (cond b (e c) und) h) (G c) Q) : Sim (kA3 (kAd (bv b) true X (some (und, h))) F) (kA0 (cond b Y (some d)) G) Q := by
  cases b with
  | true => exact kGl (h1 rfl) fun c a h' hr => by cases hr; exact K c
  | false => exact K d
theorem kDi {b : Bool} {h : kA4} {X : Option (AV × kA4)} {Y : Option β} {e : β → AV} {d : β} {F : AV → kA4 → Option γ} {G : β → Option δ}
    (h1 : b = false → Sim X Y (fun y r => r = (e y, h))) (K : ∀ c, Sim (F (cond b und (e c)) h) (G c) Q) : Sim (kA3 (kAd (bv b) false X (some (und, h))) F) (kA0 (cond b (some d) Y) G) Q := by
  cases b with
  | false => exact kGl (h1 rfl) fun c a h' hr => by cases hr; exact K c
  | true => exact K d
theorem kEg (b c d : Bool) : kCd (bv b) (cond b (bv c) und) (bv d) = some (bv (cond b c d)) := by cases b <;> rfl
theorem kF7 (b c d : Bool) : kCd (bv b) (bv d) (cond b und (bv c)) = some (bv (cond b d c)) := by cases b <;> rfl
end sim
def kBa {σ ρ : Type} (step : σ → Option (Sum σ ρ)) (s : σ) : Option ρ :=
  match step s with
  | none => none
  | some (.inl s') => kBa step s'
  | some (.inr r) => some r
partial_fixpoint
theorem kBg {σ ρ : Type} {step : σ → Option (Sum σ ρ)} {s s' : σ} (h : step s = some (.inl s')) : kBa step s = kBa step s' := by
  rw [kBa, h]
theorem kB7 {σ ρ : Type} {step : σ → Option (Sum σ ρ)} {s : σ} {r : ρ} (h : step s = some (.inr r)) : kBa step s = some r := by
  rw [kBa, h]
theorem loop_sim {σ ρ : Type} {step : σ → Option (Sum σ ρ)} {hm xm : List Bool} {body : TM → kA4 → Option Res} {Rel : σ → TM → kA4 → Prop} {Post : ρ → Res → Prop}
    (H : ∀ s tm h, Rel s tm h → Sim (body tm h) (step s) fun y r => match y with
      | .inl s' => r.1 = .normal ∧ Rel s' (restr hm r.2.1) r.2.2
      | .inr q => r.1 ≠ .normal ∧ Post q (r.1, restr xm r.2.1, r.2.2)) {s : σ} {tm : TM} {h : kA4} (R : Rel s tm h) : Sim (kBm hm xm body tm h) (kBa step s) Post := by
  intro r hr
  revert tm h
  refine kBa.partial_correctness (step := step) (motive := fun s r => ∀ {tm h}, Rel s tm h → ∃ x, kBm hm xm body tm h = some x ∧ Post r x) ?_ s r hr
  intro f ih s r hs tm h R
  cases e : step s with
  | none => rw [e] at hs; cases hs
  | some y =>
    obtain ⟨⟨ax, tm', h'⟩, hb, hq⟩ := H s tm h R y e
    rw [e] at hs
    rw [kBm.eq_1, hb]
    cases y with
    | inl s' =>
      obtain ⟨h1, h2⟩ := hq
      simp only at h1 h2
      subst h1
      exact ih s' r hs h2
    | inr q =>
      obtain ⟨h1, h2⟩ := hq
      simp only at hs
      cases hs
      cases ax with
      | normal => exact absurd rfl h1
      | exit i => exact ⟨_, rfl, h2⟩
      | ret => exact ⟨_, rfl, h2⟩
def kBp {A : Type} (l : List A) (i : Int) : Option A := kA0 (idx (iv i) l.length) fun m => l[m]?
theorem getI_some {A : Type} {l : List A} {i : Int} {a : A} (h : kBp l i = some a) : ∃ m : Nat, i = (m : Int) ∧ m < l.length ∧ l[m]? = some a ∧ idx (iv i) l.length = some m := by
  unfold kBp at h
  cases e : idx (iv i) l.length with
  | none => rw [e] at h; cases h
  | some m =>
    rw [e] at h
    have h2 : l[m]? = some a := h
    have h3 := (List.getElem?_eq_some_iff.1 h2).1
    refine ⟨m, ?_, h3, h2, rfl⟩
    simp only [idx, iv] at e
    split at e
    · cases e; omega
    · cases e
theorem kAv {A : Type} {l : List A} {m : Nat} {a : A} (h : l[m]? = some a) : kBp l (m : Int) = some a := by
  have h3 := (List.getElem?_eq_some_iff.1 h).1
  unfold kBp
  rw [idx_lt h3, kA2, h]
theorem Tab.ld {A : Type} [Row A] {h : kA4} {x : AV} {s : Sl A} (T : Tab h x s) {m : Nat} {a : A} (hm : (s.getD [])[m]? = some a) (g : Bool) (n j : Nat) : kAc g n (elp x m j) h = cut g n ((Row.cells a).drop j) := by
  rw [T.load, hm, kA2]
theorem kAg {A γ δ : Type} [Row A] {h : kA4} {x : AV} {s : Sl A} (T : Tab h x s) {i : Int} {F : AV → Option γ} {G : A → Option δ} {Q : δ → γ → Prop}
    (K : ∀ m a, i = ((m : Nat) : Int) → (s.getD [])[m]? = some a → Sim (F (elp x m 0)) (G a) Q) : Sim (kA0 (kA5 (Row.w A) x (iv i) h) F) (kA0 (kBp (s.getD []) i) G) Q := by
  rw [T.idx]
  intro y hy
  cases e : kBp (s.getD []) i with
  | none => rw [e] at hy; cases hy
  | some a =>
    rw [e] at hy
    obtain ⟨m, h1, h2, h3, h4⟩ := getI_some e
    rw [h4, kA2, kA2]
    exact K m a h1 h3 y hy
def kE8 : AV → Option Nat
  | .sl o .. => some o
  | .ptr o .. => some o
  | _ => none
inductive EV where
  | nil
  | sl (k : Nat) (rows : List (List AV))
  | pt (k : Nat) (cs : List AV)
abbrev Ent := AV × EV
def EV.ob : EV → Option AObj
  | .nil => none
  | .sl k rows => some ⟨k, rows⟩
  | .pt k cs => some ⟨k, [cs]⟩
def EV.at (o : Nat) : EV → AV
  | .nil => kBd
  | .sl _ rows => .sl o rows.length 0 rows.length
  | .pt .. => .ptr o 1 0 0
def entOK (h : kA4) (e : Ent) : Prop := ∃ o, e.1 = e.2.at o ∧ ∀ ob, e.2.ob = some ob → h[o]? = some ob
structure Base where
  h0 : kA4
  F : List Nat
structure Hold (B : Base) (h : kA4) (L : List Ent) : Prop where
  ok : ∀ e ∈ L, entOK h e
  nd : (L.filterMap fun e => kE8 e.1).Nodup
  len : B.h0.length ≤ h.length
  keep : ∀ o, o < B.h0.length → o ∉ B.F → h[o]? = B.h0[o]?
  mine : ∀ e ∈ L, ∀ o, kE8 e.1 = some o → o ∈ B.F ∨ B.h0.length ≤ o
section hold
variable {B : Base}
theorem Hold.nil (h : kA4) : Hold ⟨h, []⟩ h [] := ⟨fun e h => (by cases h), by simp, Nat.le_refl _, fun _ _ _ => rfl, fun e h => (by cases h)⟩
theorem at_id {v : EV} {o o' : Nat} (h : kE8 (v.at o) = some o') : o' = o ∧ ∃ ob, v.ob = some ob := by
  cases v with
  | nil => cases h
  | sl k rows => cases h; exact ⟨rfl, _, rfl⟩
  | pt k cs => cases h; exact ⟨rfl, _, rfl⟩
theorem id_at {v : EV} {ob : AObj} (h : v.ob = some ob) (o : Nat) : kE8 (v.at o) = some o := by
  cases v with
  | nil => cases h
  | sl k rows => rfl
  | pt k cs => rfl
theorem entOK_lt {h : kA4} {e : Ent} (k : entOK h e) {o : Nat} (ho : kE8 e.1 = some o) : ∃ ob, e.2.ob = some ob ∧ h[o]? = some ob := by
  obtain ⟨o', h1, h2⟩ := k
  rw [h1] at ho
  obtain ⟨rfl, ob, h3⟩ := at_id ho
  exact ⟨ob, h3, h2 ob h3⟩
theorem Hold.alloc {h : kA4} {L : List Ent} (O : Hold B h L) (v : EV) {ob : AObj} (hv : v.ob = some ob) : Hold B (h ++ [ob]) (L ++ [(v.at h.length, v)]) := by
  have hid := id_at hv h.length
  have hlen := O.len
  refine ⟨fun e he => ?_, ?_, by simp; omega, fun o ho hf => by rw [List.getElem?_append_left (by omega)]; exact O.keep o ho hf, fun e he o ho => ?_⟩
  rotate_left 2
  · rcases List.mem_append.1 he with he | he
    · exact O.mine e he o ho
    · have : e = (v.at h.length, v) := by simpa using he
      subst this
      rw [hid] at ho
      cases ho
      exact .inr hlen
  · rcases List.mem_append.1 he with he | he
    · obtain ⟨o, h1, h2⟩ := O.ok _ he
      exact ⟨o, h1, fun ob' e' => by rw [List.getElem?_append_left (List.getElem?_eq_some_iff.1 (h2 ob' e')).1]; exact h2 ob' e'⟩
    · have : e = (v.at h.length, v) := by simpa using he
      subst this
      exact ⟨h.length, rfl, fun ob' e' => by rw [hv] at e'; cases e'; simp⟩
  · rw [List.filterMap_append, List.nodup_append]
    refine ⟨O.nd, by simp [hid], ?_⟩
    intro a ha b hb e
    simp only [List.filterMap_cons, hid, List.filterMap_nil, List.mem_singleton] at hb
    subst hb e
    obtain ⟨e, he, h1⟩ := List.mem_filterMap.1 ha
    obtain ⟨ob', h2, h3⟩ := entOK_lt (O.ok e he) h1
    have := (List.getElem?_eq_some_iff.1 h3).1
    omega
theorem nodup_get {L : List Ent} (hn : (L.filterMap fun e => kE8 e.1).Nodup) {i j : Nat} {a b : Ent} {o : Nat} (hi : L[i]? = some a) (hj : L[j]? = some b) (ha : kE8 a.1 = some o) (hb : kE8 b.1 = some o) : i = j := by
  induction L generalizing i j with
  | nil => simp at hi
  | cons e L ih =>
    have hn' : (L.filterMap fun e => kE8 e.1).Nodup := by
      rw [List.filterMap_cons] at hn
      split at hn
      · exact hn
      · exact (List.nodup_cons.1 hn).2
    have key : ∀ {k : Nat} {c : Ent}, L[k]? = some c → kE8 c.1 = some o → kE8 e.1 = some o → False := by
      intro k c hk hc he
      rw [List.filterMap_cons] at hn
      simp only [he] at hn
      exact (List.nodup_cons.1 hn).1 (List.mem_filterMap.2 ⟨c, List.mem_of_getElem? hk, hc⟩)
    cases i with
    | zero =>
      simp at hi
      subst hi
      cases j with
      | zero => rfl
      | succ j => exact (key hj hb ha).elim
    | succ i =>
      cases j with
      | zero =>
        simp at hj
        subst hj
        exact (key hi ha hb).elim
      | succ j => rw [ih hn' hi hj]
theorem filterMap_set {L : List Ent} {i : Nat} {a b : Ent} (hi : L[i]? = some a) (h : kE8 a.1 = kE8 b.1) : ((L.set i b).filterMap fun e => kE8 e.1) = L.filterMap fun e => kE8 e.1 := by
  induction L generalizing i with
  | nil => rfl
  | cons e L ih =>
    cases i with
    | zero =>
      simp at hi
      subst hi
      simp only [List.set_cons_zero, List.filterMap_cons, h]
    | succ i => simp only [List.set_cons_succ, List.filterMap_cons, ih hi]
theorem Hold.update {h : kA4} {L : List Ent} (O : Hold B h L) {i : Nat} {x : AV} {v v' : EV} {ob' : AObj} {o : Nat} (hi : L[i]? = some (x, v)) (hx : kE8 x = some o) (hv : v'.ob = some ob') : Hold B (h.set o ob') (L.set i (v'.at o, v')) := by
  have hid := id_at hv o
  obtain ⟨ob2, h1, h2⟩ := entOK_lt (O.ok _ (List.mem_of_getElem? hi)) hx
  have olt := (List.getElem?_eq_some_iff.1 h2).1
  have hmine := O.mine _ (List.mem_of_getElem? hi) o hx
  refine ⟨fun e he => ?_, ?_, by simpa using O.len, fun o' ho hf => ?_, fun e he o' ho => ?_⟩
  rotate_left 2
  · have hne3 : o ≠ o' := by
      rintro rfl
      rcases hmine with g | g
      · exact hf g
      · omega
    rw [List.getElem?_set_ne hne3]
    exact O.keep o' ho hf
  · rcases List.mem_or_eq_of_mem_set he with he | he
    · exact O.mine e he o' ho
    · subst he
      rw [hid] at ho
      cases ho
      exact hmine
  · obtain ⟨j, hj⟩ := List.mem_iff_getElem?.1 he
    rw [List.getElem?_set] at hj
    split at hj
    · split at hj
      · cases hj
        exact ⟨o, rfl, fun ob e' => by simp only at e'; rw [hv] at e'; cases e'; simp [olt]⟩
      · cases hj
    · rename_i hne
      obtain ⟨o2, g1, g2⟩ := O.ok e (List.mem_of_getElem? hj)
      refine ⟨o2, g1, fun ob e' => ?_⟩
      have g3 : kE8 e.1 = some o2 := by rw [g1]; exact id_at e' o2
      have hne2 : o ≠ o2 := by
        intro e
        subst e
        exact hne (nodup_get O.nd hi hj hx g3)
      rw [List.getElem?_set_ne hne2]
      exact g2 ob e'
  · rw [filterMap_set hi (by rw [hx, hid])]
    exact O.nd
theorem Hold.fill {h : kA4} {L : List Ent} (O : Hold B h L) {i : Nat} (v : EV) {ob : AObj} (hv : v.ob = some ob) (hi : L[i]? = some (kBd, .nil)) : Hold B (h ++ [ob]) (L.set i (v.at h.length, v)) := by
  have h1 := O.alloc v hv
  have key : ∀ (L : List Ent) (i : Nat), L[i]? = some (kBd, .nil) → ∀ e : Ent, ((L.set i e).filterMap fun e => kE8 e.1).Perm ((L ++ [e]).filterMap fun e => kE8 e.1) := by
    intro L
    induction L with
    | nil => intro i hi; simp at hi
    | cons a L ih =>
      intro i hi e
      cases i with
      | zero =>
        simp at hi
        subst hi
        simp only [List.set_cons_zero, List.cons_append, List.filterMap_cons, List.filterMap_append, show kE8 (kBd, EV.nil).1 = none from rfl, List.filterMap_nil]
        cases kE8 e.1 with
        | none => simp
        | some o => simpa using (List.perm_append_singleton o (L.filterMap fun e => kE8 e.1)).symm
      | succ i =>
        simp only [List.set_cons_succ, List.cons_append, List.filterMap_cons]
        cases kE8 a.1 with
        | none => exact ih i (by simpa using hi) e
        | some o => exact (ih i (by simpa using hi) e).cons _
  have hm : ∀ e ∈ L.set i (v.at h.length, v), e ∈ L ++ [(v.at h.length, v)] := fun e he => by
    rcases List.mem_or_eq_of_mem_set he with he | he
    · exact List.mem_append.2 (.inl he)
    · exact List.mem_append.2 (.inr (by simp [he]))
  exact ⟨fun e he => h1.ok e (hm e he), (key L i hi _).symm.nodup h1.nd, h1.len, h1.keep, fun e he => h1.mine e (hm e he)⟩
theorem Hold.addnil {h : kA4} {L : List Ent} (O : Hold B h L) : Hold B h (L ++ [(kBd, .nil)]) := by
  refine ⟨fun e he => ?_, ?_, O.len, O.keep, fun e he o ho => ?_⟩
  · rcases List.mem_append.1 he with he | he
    · exact O.ok e he
    · have : e = (kBd, .nil) := by simpa using he
      subst this
      exact ⟨0, rfl, fun ob e => by cases e⟩
  · rw [List.filterMap_append]
    simpa [kE8, kBd] using O.nd
  · rcases List.mem_append.1 he with he | he
    · exact O.mine e he o ho
    · have : e = (kBd, .nil) := by simpa using he
      subst this
      cases ho
theorem Hold.ptr {h : kA4} {L : List Ent} (O : Hold B h L) {i o k : Nat} {cs : List AV} (hi : L[i]? = some (.ptr o 1 0 0, .pt k cs)) : h[o]? = some ⟨k, [cs]⟩ := by
  obtain ⟨o', h1, h2⟩ := O.ok _ (List.mem_of_getElem? hi)
  cases h1
  exact h2 _ rfl
theorem Hold.ld {h : kA4} {L : List Ent} (O : Hold B h L) (i : Nat) {o k : Nat} {cs : List AV} (hi : L[i]? = some (.ptr o 1 0 0, .pt k cs)) (g : Bool) (s j : Nat) : kAc g s (.ptr o 1 0 j) h = cut g s (cs.drop j) := by
  simp [kAc, O.ptr hi]
theorem kGc {γ δ : Type} {h : kA4} {L : List Ent} (O : Hold B h L) {cs : List AV} (hf : cs.all AV.flat = true) {F : AV → kA4 → Option γ} {Y : Option δ} {Q : δ → γ → Prop}
    (K : ∀ o h', Hold B h' (L ++ [(.ptr o 1 0 0, .pt cs.length cs)]) → Sim (F (.ptr o 1 0 0) h') Y Q) : Sim (kA3 (kG1 cs h) F) Y Q := by
  unfold kG1
  rw [if_pos hf]
  exact K h.length _ (O.alloc (.pt cs.length cs) rfl)
theorem kEz {γ δ : Type} {h : kA4} {L : List Ent} (O : Hold B h L) (i : Nat) {o k s j : Nat} {cs cs' : List AV} {v : AV} (hi : L[i]? = some (.ptr o 1 0 0, .pt k cs)) (h1 : v.cells.length = s) (h2 : j + s ≤ cs.length) (h3 : v.cells.all AV.flat = true) (h4 : kBe cs j v.cells = cs')
    {F : kA4 → Option γ} {Y : Option δ} {Q : δ → γ → Prop} (K : ∀ h', Hold B h' (L.set i (.ptr o 1 0 0, .pt k cs')) → Sim (F h') Y Q) : Sim (kA0 (kAw s (.ptr o 1 0 j) v h) F) Y Q := by
  subst h4
  have h5 := O.ptr hi
  have : kAw s (.ptr o 1 0 j) v h = some (h.set o ⟨k, [kBe cs j v.cells]⟩) := by
    simp only [kAw, h5, List.length_cons, List.length_nil, Nat.zero_add, if_true, List.getElem?_cons_zero]
    rw [if_pos ⟨h1, h2, h3⟩]
    rfl
  rw [this]
  exact K _ (O.update (v' := .pt k (kBe cs j v.cells)) hi rfl rfl)
def isNR : AV → Bool
  | .sc _ | .fs .. | .fptr .. => true
  | _ => false
class NR (A : Type) [Row A] : Prop where
  nr : ∀ a : A, (Row.cells a).all isNR = true
theorem snap_nr (h : kA4) (d : Nat) {a : AV} (ha : isNR a = true) : snap h d a = some a := by
  cases a <;> simp [isNR] at ha <;> cases d <;> rfl
theorem rel_nr (h : kA4) (d : Nat) {a : AV} (ha : isNR a = true) : rel h d a = some a := by
  cases a <;> simp [isNR] at ha <;> cases d <;> rfl
theorem ids_nr (h : kA4) (d : Nat) {a : AV} (ha : isNR a = true) : ids h d a = [] := by
  cases a <;> simp [isNR] at ha <;> cases d <;> rfl
theorem flat_nr {a : AV} (ha : isNR a = true) : a.flat = true := by
  cases a <;> simp [isNR] at ha <;> rfl
theorem kI4 {A : Type} [Row A] (s : Sl A) : isNR (Sl.enc s) = true := by cases s <;> rfl
section slices
variable {A : Type} [Row A]
def obS (s : Sl A) : EV := match s with
  | none => .nil
  | some l => .sl (Row.w A) (l.map Row.cells)
theorem NR.mem [NR A] {a : A} {c : AV} (hc : c ∈ Row.cells a) : isNR c = true := List.all_eq_true.1 (NR.nr a) c hc
theorem NR.flat [NR A] (a : A) : (Row.cells a).all AV.flat = true := List.all_eq_true.2 fun c hc => flat_nr (NR.mem hc)
theorem NR.snap_rows [NR A] (h : kA4) (d : Nat) (l : List A) : kBb (kBb (snap h d)) (l.map Row.cells) = some (l.map Row.cells) := kE0 fun r hr => by
  obtain ⟨a, _, rfl⟩ := List.mem_map.1 hr
  exact kE0 fun c hc => snap_nr h d (NR.mem hc)
theorem NR.rel_rows [NR A] (h : kA4) (d : Nat) (l : List A) : kBb (kBb (rel h d)) (l.map Row.cells) = some (l.map Row.cells) := kE0 fun r hr => by
  obtain ⟨a, _, rfl⟩ := List.mem_map.1 hr
  exact kE0 fun c hc => rel_nr h d (NR.mem hc)
theorem NR.ids_rows [NR A] (h : kA4) (d : Nat) (l : List A) : (l.map Row.cells).flatMap (fun r => r.flatMap (ids h d)) = [] := by
  rw [List.flatMap_eq_nil_iff]
  intro r hr
  obtain ⟨a, _, rfl⟩ := List.mem_map.1 hr
  rw [List.flatMap_eq_nil_iff]
  exact fun c hc => ids_nr h d (NR.mem hc)
theorem Tab.slN [NR A] {h : kA4} {o n : Nat} {l : List A} (ho : h[o]? = some ⟨Row.w A, l.map Row.cells⟩) (hn : n = l.length) : Tab h (.sl o n 0 n) (some l) := by
  subst hn
  refine ⟨by simp, fun ix => ?_, fun i j off => rfl, fun g n i j => ?_, ?_⟩
  · simp only [kA5, ho, List.length_map, and_self, if_true, Option.getD_some, elp]
    cases Eng.idx ix l.length <;> rfl
  · simp only [kAc, elp, ho, List.length_map, if_true, List.getElem?_map, Option.getD_some, Nat.zero_add]
    cases l[i]? <;> rfl
  · have h1 : Eng.snap h depth (AV.sl o l.length 0 l.length) = some (.fs (Row.w A) (l.map Row.cells)) := by
      show (match h[o]? with | some ob => if ob.rows.length = l.length ∧ 0 + l.length ≤ l.length then (match kBb (kBb (Eng.snap h 7)) ((ob.rows.drop 0).take l.length) with | some rows => some (AV.fs ob.k rows) | none => none) else none | none => none) = _
      rw [ho]
      simp only [List.length_map]
      rw [if_pos ⟨trivial, by omega⟩, List.drop_zero, List.take_of_length_le (by simp), NR.snap_rows]
    unfold snapD
    rw [h1]
    exact Cod.de (some l : Sl A)
theorem Hold.sl {h : kA4} {L : List Ent} (O : Hold B h L) {i k : Nat} {x : AV} {rows : List (List AV)} (hi : L[i]? = some (x, .sl k rows)) : ∃ o, x = .sl o rows.length 0 rows.length ∧ h[o]? = some ⟨k, rows⟩ := by
  obtain ⟨o, h1, h2⟩ := O.ok _ (List.mem_of_getElem? hi)
  exact ⟨o, h1, h2 _ rfl⟩
theorem Hold.nilE {h : kA4} {L : List Ent} (O : Hold B h L) {i : Nat} {x : AV} (hi : L[i]? = some (x, .nil)) : x = kBd := by
  obtain ⟨o, h1, _⟩ := O.ok _ (List.mem_of_getElem? hi)
  exact h1
theorem Hold.tab [NR A] {h : kA4} {L : List Ent} (O : Hold B h L) (i : Nat) {x : AV} {s : Sl A} (hi : L[i]? = some (x, obS s)) : Tab h x s := by
  cases s with
  | none =>
    have := O.nilE hi
    subst this
    exact Tab.nil h
  | some l =>
    obtain ⟨o, rfl, h2⟩ := O.sl (k := Row.w A) (rows := l.map Row.cells) hi
    rw [List.length_map]
    exact Tab.slN h2 rfl
def kBn (s : Sl A) (l : List A) : Sl A := match s, l with
  | none, [] => none
  | none, l => some l
  | some k, l => some (k ++ l)
def kF5 (s : Sl A) (l : List A) : Option (Sl A) := if (s.getD []).length + l.length ≤ 4294967296 then some (kBn s l) else none
theorem kEw {A : Type} (s : Sl A) (l : List A) : (kBn s l).getD [] = s.getD [] ++ l := by
  cases s with
  | none => cases l <;> rfl
  | some k => rfl
theorem kDb {A : Type} {s : Sl A} {l : List A} (h : (s.getD []).length + l.length ≤ 4294967296) : kF5 s l = some (kBn s l) := if_pos h
theorem bytes_le {n b : Nat} (hn : n ≤ 4294967296) (hb : b ≤ 1024) : n * b ≤ kBh ∧ n ≤ kBh := by
  have h1 : n * b ≤ 4294967296 * 1024 := Nat.mul_le_mul hn hb
  have h2 : kBh = 140737488355328 := rfl
  omega
theorem Hold.append {h : kA4} {L : List Ent} (O : Hold B h L) (i : Nat) {x src : AV} {s : Sl A} {new : List A} {bytes : Nat} (hi : L[i]? = some (x, obS s)) (hs : aSrc false (Row.w A) src h = some (new.map Row.cells)) (hb : bytes ≤ 1024) (hl : (s.getD []).length + new.length ≤ 4294967296) :
    ∃ x' h', kB1 false (Row.w A) bytes x src h = some (x', h') ∧ Hold B h' (L.set i (x', obS (kBn s new))) := by
  obtain ⟨b1, b2⟩ := bytes_le hl hb
  cases s with
  | none =>
    have := O.nilE hi
    subst this
    cases new with
    | nil =>
      refine ⟨kBd, h, ?_, ?_⟩
      · unfold kB1
        rw [hs]
        rfl
      · have : L.set i (kBd, obS (kBn (none : Sl A) [])) = L := List.ext_getElem? fun j => by
          by_cases e : i = j
          · subst e
            rw [List.getElem?_set_self (List.getElem?_eq_some_iff.1 hi).1, hi]
            rfl
          · rw [List.getElem?_set_ne e]
        rw [this]
        exact O
    | cons a new =>
      refine ⟨_, _, ?_, O.fill (.sl (Row.w A) ((a :: new).map Row.cells)) rfl hi⟩
      unfold kB1
      rw [hs]
      simp only [kBd]
      rw [if_neg (by simp)]
      simp only [Option.getD_none, List.length_nil, Nat.zero_add] at b1 b2
      rw [if_pos (by simpa using ⟨b1, b2⟩)]
      rfl
  | some l =>
    obtain ⟨o, rfl, h2⟩ := O.sl (k := Row.w A) (rows := l.map Row.cells) hi
    refine ⟨_, _, ?_, O.update (o := o) (v' := .sl (Row.w A) ((l ++ new).map Row.cells)) hi rfl rfl⟩
    simp only [Option.getD_some] at b1 b2
    unfold kB1
    rw [hs]
    simp only [h2, List.length_map]
    rw [if_pos ⟨trivial, trivial, trivial, b1, b2, Nat.le_refl _⟩]
    have e1 : List.take l.length (l.map (Row.cells (A := A))) = l.map Row.cells := List.take_of_length_le (by simp)
    have e2 : List.drop (l.length + new.length) (l.map (Row.cells (A := A))) = [] := List.drop_eq_nil_of_le (by simp)
    rw [e1, e2]
    simp [EV.at]
theorem kEm {γ δ : Type} {h : kA4} {L : List Ent} (O : Hold B h L) (i : Nat) {x src : AV} {s : Sl A} (new : List A) {bytes : Nat} (hi : L[i]? = some (x, obS s)) (hs : aSrc false (Row.w A) src h = some (new.map Row.cells)) (hb : bytes ≤ 1024)
    {F : AV → kA4 → Option γ} {G : Sl A → Option δ} {Q : δ → γ → Prop} (K : ∀ x' h', Hold B h' (L.set i (x', obS (kBn s new))) → Sim (F x' h') (G (kBn s new)) Q) : Sim (kA3 (kB1 false (Row.w A) bytes x src h) F) (kA0 (kF5 s new) G) Q := by
  unfold kF5
  split
  · rename_i hl
    obtain ⟨x', h', e, O'⟩ := O.append i hi hs hb hl
    rw [e]
    exact K x' h' O'
  · exact kD5
theorem Hold.src {h : kA4} {L : List Ent} (O : Hold B h L) (i : Nat) {x : AV} {s : Sl A} (hi : L[i]? = some (x, obS s)) : aSrc false (Row.w A) x h = some ((s.getD []).map Row.cells) := by
  cases s with
  | none =>
    have := O.nilE hi
    subst this
    rfl
  | some l =>
    obtain ⟨o, rfl, h2⟩ := O.sl (k := Row.w A) (rows := l.map Row.cells) hi
    simp [aSrc, h2, List.take_of_length_le]
theorem src_enc (h : kA4) (s : Sl A) : aSrc false (Row.w A) (Sl.enc s) h = some ((s.getD []).map Row.cells) := by
  cases s with
  | none => rfl
  | some l => simp [aSrc]
theorem kBu {γ δ : Type} {h : kA4} {L : List Ent} (O : Hold B h L) (l : List A) {z : List AV} {n : Nat} {parts : List (Nat × AV)} (hz : z.length = Row.w A) (hp : kB9 (kCy z n) parts = some (l.map Row.cells)) (hn : n = l.length)
    {F : AV → kA4 → Option γ} {Y : Option δ} {Q : δ → γ → Prop} (K : ∀ x' h', Hold B h' (L ++ [(x', obS (some l))]) → Sim (F x' h') Y Q) : Sim (kA3 (kAf z n parts h) F) Y Q := by
  subst hn
  have e : kAf z l.length parts h = some (.sl h.length l.length 0 l.length, h ++ [⟨Row.w A, l.map Row.cells⟩]) := by
    unfold kAf
    rw [hp, hz]
  rw [e]
  have := O.alloc (.sl (Row.w A) (l.map Row.cells)) rfl
  refine K _ _ ?_
  simpa [EV.at, obS] using this
def makeO (a : A) (n : Int) : Option (List A) := if 0 ≤ n ∧ n ≤ 4294967296 then some (List.replicate n.toNat a) else none
theorem sim_make {γ δ : Type} {h : kA4} {L : List Ent} (O : Hold B h L) (a : A) {z : List AV} {n : Int} {bytes : Nat} (hz : z = Row.cells a) (hb : bytes ≤ 1024)
    {F : AV → kA4 → Option γ} {G : List A → Option δ} {Q : δ → γ → Prop} (K : ∀ l x' h', Hold B h' (L ++ [(x', obS (some l))]) → Sim (F x' h') (G l) Q) : Sim (kA3 (kDz z bytes (iv n) (iv n) h) F) (kA0 (makeO a n) G) Q := by
  subst hz
  unfold makeO
  split
  · rename_i hn
    obtain ⟨m, rfl⟩ := Int.eq_ofNat_of_zero_le hn.1
    rw [make_ok _ _ (by omega) hb]
    have := O.alloc (.sl (Row.w A) ((List.replicate m a).map Row.cells)) rfl
    refine K _ _ _ ?_
    simpa [EV.at, obS] using this
  · exact kD5
def kC9 (s : Sl A) (i : Int) (a : A) : Sl A := s.map fun l => l.set i.toNat a
theorem kFr {γ δ : Type} {h : kA4} {L : List Ent} (O : Hold B h L) (i : Nat) {x v : AV} {s : Sl A} {m n j : Nat} {k : Int} {a : A} (a' : A) (hi : L[i]? = some (x, obS s)) (hk : k = (m : Int)) (hm : (s.getD [])[m]? = some a) (h1 : v.cells.length = n) (h2 : j + n ≤ Row.w A) (h3 : v.cells.all AV.flat = true) (h4 : kBe (Row.cells a) j v.cells = Row.cells a')
    {F : kA4 → Option γ} {Y : Option δ} {Q : δ → γ → Prop} (K : ∀ h', Hold B h' (L.set i (x, obS (kC9 s k a'))) → Sim (F h') Y Q) : Sim (kA0 (kAw n (elp x m j) v h) F) Y Q := by
  subst hk
  cases s with
  | none => simp at hm
  | some l =>
    obtain ⟨o, rfl, h5⟩ := O.sl (k := Row.w A) (rows := l.map Row.cells) hi
    have hm' : l[m]? = some a := hm
    have : kAw n (elp (.sl o (l.map (Row.cells (A := A))).length 0 (l.map (Row.cells (A := A))).length) m j) v h = some (h.set o ⟨Row.w A, (l.set m a').map Row.cells⟩) := by
      simp only [elp, kAw, h5, if_true, Nat.zero_add, List.getElem?_map, hm', Option.map_some]
      rw [if_pos ⟨h1, by rw [Row.len]; exact h2, h3⟩, h4, List.map_set]
    rw [this]
    have O' := O.update (o := o) (v' := .sl (Row.w A) ((l.set m a').map Row.cells)) hi rfl rfl
    refine K _ ?_
    simpa [kC9, obS, EV.at] using O'
def rS (s : Sl A) : AV := match s with
  | none => kBd
  | some l => .nw (Row.w A) (l.map Row.cells)
theorem Hold.rel [NR A] {h : kA4} {L : List Ent} (O : Hold B h L) (i : Nat) {x : AV} {s : Sl A} (hi : L[i]? = some (x, obS s)) : release h depth x = some (rS s) := by
  cases s with
  | none =>
    have := O.nilE hi
    subst this
    exact release_nil h
  | some l =>
    obtain ⟨o, rfl, h2⟩ := O.sl (k := Row.w A) (rows := l.map Row.cells) hi
    have e1 : ids h depth (.sl o (l.map (Row.cells (A := A))).length 0 (l.map (Row.cells (A := A))).length) = [(o, l.length)] := by
      show (match h[o]? with | some ob => (o, _) :: (ob.rows.take _).flatMap fun (r : List AV) => r.flatMap (ids h 7) | none => []) = _
      rw [h2]
      simp only [List.length_map]
      rw [List.take_of_length_le (by simp), NR.ids_rows]
    unfold release
    rw [e1]
    show (match nodupB [o] with | true => Eng.rel h depth _ | false => none) = _
    have : nodupB [o] = true := rfl
    rw [this]
    show (match h[o]? with | some ob => if ob.rows.length = _ ∧ 0 = 0 ∧ _ ≤ _ then (match kBb (kBb (Eng.rel h 7)) (ob.rows.take _) with | some rows => some (AV.nw ob.k rows) | none => none) else none | none => none) = _
    rw [h2]
    simp only [List.length_map]
    rw [if_pos ⟨trivial, trivial, Nat.le_refl _⟩, List.take_of_length_le (by simp), NR.rel_rows]
    rfl
theorem kEi [Scal A] {γ δ : Type} {h : kA4} {L : List Ent} (O : Hold B h L) {s : Sl A} {ok : Bool}
    {F : AV → kA4 → Option γ} {Y : Option δ} {Q : δ → γ → Prop} (K : ∀ x' h', Hold B h' (L ++ [(x', obS s)]) → Sim (F x' h') Y Q) : Sim (kA3 (kEe (rS s) ok h) F) Y Q := by
  cases s with
  | none =>
    show Sim (kA3 (kEe kBd ok h) F) Y Q
    rw [hand_nil]
    exact K _ _ O.addnil
  | some l =>
    show Sim (kA3 (kEe (nwl l) ok h) F) Y Q
    rw [hand_nwl]
    have := O.alloc (.sl (Row.w A) (l.map Row.cells)) rfl
    refine K _ _ ?_
    simpa [EV.at, obS] using this
end slices
end hold
instance : NR Int := ⟨fun _ => rfl⟩
instance : NR Bool := ⟨fun _ => rfl⟩
instance : NR ByteArray := ⟨fun _ => rfl⟩
instance : NR UInt8 := ⟨fun _ => rfl⟩
instance {A : Type} [Row A] : NR (Sl A) := ⟨fun s => by cases s <;> rfl⟩
theorem noRef_enc {A : Type} [Row A] (s : Sl A) : kD0 depth (Sl.enc s) = true := by cases s <;> rfl
def bndI (x : Option Int) (d n : Nat) : Option Nat := match x with
  | none => some d
  | some i => idx (iv i) (n + 1)
def subS {A : Type} (s : Sl A) (lo hi : Option Int) : Option (Sl A) :=
  kA0 (bndI hi (s.getD []).length (s.getD []).length) fun h => kA0 (bndI lo 0 h) fun l => some (s.map fun k => (k.take h).drop l)
theorem slice_enc {A : Type} [Row A] (s : Sl A) (lo hi : Option Int) (h : kA4) : kG2 (Row.w A) (Sl.enc s) (lo.map iv) (hi.map iv) h = kA0 (subS s lo hi) fun r => some (Sl.enc r) := by
  have hb : ∀ (x : Option Int) d n, kF9 (x.map iv) d n = bndI x d n := fun x d n => by cases x <;> rfl
  cases s with
  | none =>
    show (match kF9 (hi.map iv) 0 0 with | some h => (match kF9 (lo.map iv) 0 h with | some _ => some kBd | none => none) | none => none) = _
    rw [hb]
    simp only [subS, Option.getD_none, List.length_nil]
    cases bndI hi 0 0 with
    | none => rfl
    | some hh =>
      simp only [hb, kA2]
      cases bndI lo 0 hh <;> rfl
  | some l =>
    show (if Row.w A = Row.w A then match kF9 (hi.map iv) (l.map Row.cells).length (l.map Row.cells).length with | some hh => (match kF9 (lo.map iv) 0 hh with | some l' => some (AV.fs (Row.w A) (((l.map Row.cells).take hh).drop l')) | none => none) | none => none else none) = _
    rw [if_pos rfl, hb, List.length_map]
    simp only [subS, Option.getD_some]
    cases bndI hi l.length l.length with
    | none => rfl
    | some hh =>
      simp only [hb, kA2]
      cases bndI lo 0 hh with
      | none => rfl
      | some l' => simp [Sl.enc, List.map_take, List.map_drop]
section
variable {γ δ : Type} {s : ByteArray} {F : AV → Option γ} {G : ByteArray → Option δ} {Q : δ → γ → Prop}
end
section
variable {A γ δ : Type} [Row A] {s : Sl A} {h : kA4} {F : AV → Option γ} {G : Sl A → Option δ} {Q : δ → γ → Prop}
theorem sim_subX (lo hi : Option Int) (K : ∀ r, Sim (F (Sl.enc r)) (G r) Q) : Sim (kA0 (kG2 (Row.w A) (Sl.enc s) (lo.map iv) (hi.map iv) h) F) (kA0 (subS s lo hi) G) Q := by
  rw [slice_enc]
  cases subS s lo hi with
  | none => exact kD5
  | some r => exact K r
theorem sim_sub10 {lo : Int} (K : ∀ r, Sim (F (Sl.enc r)) (G r) Q) : Sim (kA0 (kG2 (Row.w A) (Sl.enc s) (some (iv lo)) none h) F) (kA0 (subS s (some lo) none) G) Q := sim_subX (some lo) none K
theorem sim_sub01 {hi : Int} (K : ∀ r, Sim (F (Sl.enc r)) (G r) Q) : Sim (kA0 (kG2 (Row.w A) (Sl.enc s) none (some (iv hi)) h) F) (kA0 (subS s none (some hi)) G) Q := sim_subX none (some hi) K
end
section hold2
variable {B : Base}
theorem sel_sub {L : List Ent} : ∀ (js : List Nat), js.Nodup → (L.filterMap fun e => kE8 e.1).Nodup → ((js.filterMap (L[·]?)).filterMap fun e => kE8 e.1).Nodup := by
  intro js hj hn
  induction js with
  | nil => simp
  | cons j js ih =>
    have h1 := List.nodup_cons.1 hj
    rw [List.filterMap_cons]
    split
    · exact ih h1.2
    · rename_i e he
      rw [List.filterMap_cons]
      split
      · exact ih h1.2
      · rename_i o ho
        refine List.nodup_cons.2 ⟨fun hm => ?_, ih h1.2⟩
        obtain ⟨e2, h2, h3⟩ := List.mem_filterMap.1 hm
        obtain ⟨j2, h4, h5⟩ := List.mem_filterMap.1 h2
        have := nodup_get hn he h5 ho h3
        subst this
        exact h1.1 h4
theorem Hold.sel {h : kA4} {L L' : List Ent} (O : Hold B h L) (js : List Nat) (hj : js.Nodup) (e : L' = js.filterMap (L[·]?)) : Hold B h L' := by
  subst e
  have hm : ∀ e ∈ js.filterMap (L[·]?), e ∈ L := fun e he => by
    obtain ⟨j, _, h2⟩ := List.mem_filterMap.1 he
    exact List.mem_of_getElem? h2
  exact ⟨fun e he => O.ok e (hm e he), sel_sub js hj O.nd, O.len, O.keep, fun e he => O.mine e (hm e he)⟩
theorem Hold.start {h : kA4} {L : List Ent} {i o : Nat} {x : AV} {v : EV} (O : Hold B h L) (hi : L[i]? = some (x, v)) (hx : kE8 x = some o) : Hold ⟨h, [o]⟩ h [(x, v)] :=
  ⟨fun e he => by
    have : e = (x, v) := by simpa using he
    subst this
    exact O.ok _ (List.mem_of_getElem? hi), by simp [hx], Nat.le_refl _, fun _ _ _ => rfl, fun e he o' ho' => by
    have : e = (x, v) := by simpa using he
    subst this
    rw [hx] at ho'
    cases ho'
    exact .inl (by simp)⟩
section
variable {A : Type} [Row A]
theorem Hold.snap7 [NR A] {h : kA4} {L : List Ent} (O : Hold B h L) (i : Nat) {x : AV} {s : Sl A} (hi : L[i]? = some (x, obS s)) (d : Nat := 6) : snap h (d + 1) x = some (Sl.enc s) := by
  cases s with
  | none =>
    have := O.nilE hi
    subst this
    rfl
  | some l =>
    obtain ⟨o, rfl, ho⟩ := O.sl (k := Row.w A) (rows := l.map Row.cells) hi
    show (match h[o]? with | some ob => if ob.rows.length = _ ∧ 0 + _ ≤ _ then (match kBb (kBb (snap h d)) ((ob.rows.drop 0).take _) with | some rows => some (AV.fs ob.k rows) | none => none) else none | none => none) = _
    rw [ho]
    simp only [List.length_map]
    rw [if_pos ⟨trivial, by omega⟩, List.drop_zero, List.take_of_length_le (by simp), NR.snap_rows]
    rfl
theorem omap_nr (h : kA4) (d : Nat) {cs : List AV} (hc : cs.all isNR = true) : kBb (snap h d) cs = some cs := kE0 fun c hm => snap_nr h d (List.all_eq_true.1 hc c hm)
theorem kIb [Cod A] [NR A] (h : kA4) (a : A) (he : enc a = .agg (Row.cells a)) : snapD h (.agg (Row.cells a)) = some a := by
  unfold snapD
  have : snap h depth (.agg (Row.cells a)) = some (.agg (Row.cells a)) := by
    show (match kBb (snap h 7) (Row.cells a) with | some cs => some (AV.agg cs) | none => none) = _
    rw [omap_nr h 7 (NR.nr a)]
  rw [this, kA2, ← he]
  exact Cod.de a
def Pt.get {A : Type} (p : Pt A) : Option A := p.tab[p.i]?
theorem ld_pt {h : kA4} {p : Pt A} {a : A} (hp : p.get = some a) (g : Bool) (n j : Nat) : kAc g n (.fptr (Row.w A) (p.tab.map Row.cells) p.i j) h = cut g n ((Row.cells a).drop j) := by
  rw [load_fptr, show p.tab[p.i]? = some a from hp, kA2]
@[simp] theorem get_pt1 {A : Type} (a : A) : (⟨[a], 0⟩ : Pt A).get = some a := rfl
theorem sim_getP {A γ δ : Type} {p : Pt A} {X : Option γ} {t : A → Option δ} {Q : δ → γ → Prop} (K : ∀ a, p.get = some a → Sim X (t a) Q) : Sim X (kA0 p.get t) Q := by
  cases e : p.get with
  | none => exact kD5
  | some a => exact K a e
end
end hold2
def C1 {A Z : Type} [Cod A] (e : Z → AV) (t : A → Option Z) : List AV → Option AV := R1 (fun a0 => kA0 (t a0) fun c => some (e c))
theorem pureC1 {P : Program} {env : Nat → Contract} (henv : kBr P env) (hm : P.follows .mixedOrders = true) {g : Nat} (hb : kAh P g) {A Z : Type} [Cod A] {e : Z → AV} {t : A → Option Z}
    (hF : ∀ (a0 : A), Sim (kAo P env g [enc a0] []) (t a0) fun c p => release p.2 depth p.1 = some (e c)) : kAs P g (C1 e t) :=
  pureR1 henv hm hb fun a0 r hr => by
    cases h : t a0 with
    | none => rw [h] at hr; cases hr
    | some c =>
      rw [h] at hr
      cases hr
      obtain ⟨⟨r', h'⟩, h1, h2⟩ := hF a0 c h
      exact ⟨r', h', h1, h2⟩
theorem kCr {γ δ : Type} {A Z : Type} [Cod A] {env : Nat → Contract} {g : Nat} {e : Z → AV} {t : A → Option Z} {x0 : AV} {a0 : A} {h : kA4} {F : AV → kA4 → Option γ} {G : Z → Option δ} {Q : δ → γ → Prop} (he : env g = .pure (C1 e t)) (s0 : snapD h x0 = some a0)
    (K : ∀ c, Sim (kA3 (kEe (e c) ([x0].all (kD0 depth)) h) F) (G c) Q) : Sim (kA3 (kAx (env g) [x0] h) F) (kA0 (t a0) G) Q := by
  rw [he, kDh]
  unfold C1
  rw [callR1, s0, kA2]
  cases t a0 with
  | none => exact kD5
  | some c => exact K c
theorem sim_callV1 {γ δ : Type} {A Z : Type} [Cod A] [CodR Z] {env : Nat → Contract} {g : Nat} {t : A → Z} {x0 : AV} {a0 : A} {h : kA4} {F : AV → kA4 → Option γ} {G : Z → Option δ} {Q : δ → γ → Prop} (he : env g = .pure (T1 t)) (s0 : snapD h x0 = some a0)
    (K : ∀ c, Sim (F (enc c) h) (G c) Q) : Sim (kA3 (kAx (env g) [x0] h) F) (kA0 (some (t a0)) G) Q := by
  rw [he, kDh, callT1, s0, kA2]
  exact K _
theorem sim_callQ1 {γ δ : Type} {A Z : Type} [Cod A] {env : Nat → Contract} {g : Nat} {e : Z → AV} {t : A → Option Z} {x0 : AV} {a0 : A} {h : kA4} {F : AV → kA4 → Option γ} {G : Z → Option δ} {Q : δ → γ → Prop} (he : env g = .pure (C1 e t)) (s0 : snapD h x0 = some a0)
    (K : ∀ c, Sim (kA3 (kEe (e c) ([x0].all (kD0 depth)) h) F) (G c) Q) : Sim (kA3 (kCq (env g) [x0] h) F) (kA0 (t a0) G) Q := by
  rw [he, kEx]
  unfold C1
  rw [callR1, s0, kA2]
  cases t a0 with
  | none => exact kD5
  | some c => exact K c
def C2 {A B Z : Type} [Cod A] [Cod B] (e : Z → AV) (t : A → B → Option Z) : List AV → Option AV := R2 (fun a0 a1 => kA0 (t a0 a1) fun c => some (e c))
theorem kGh {P : Program} {env : Nat → Contract} (henv : kBr P env) (hm : P.follows .mixedOrders = true) {g : Nat} (hb : kAh P g) {A B Z : Type} [Cod A] [Cod B] {e : Z → AV} {t : A → B → Option Z}
    (hF : ∀ (a0 : A) (a1 : B), Sim (kAo P env g [enc a0, enc a1] []) (t a0 a1) fun c p => release p.2 depth p.1 = some (e c)) : kAs P g (C2 e t) :=
  pureR2 henv hm hb fun a0 a1 r hr => by
    cases h : t a0 a1 with
    | none => rw [h] at hr; cases hr
    | some c =>
      rw [h] at hr
      cases hr
      obtain ⟨⟨r', h'⟩, h1, h2⟩ := hF a0 a1 c h
      exact ⟨r', h', h1, h2⟩
theorem pureCW2 {P : Program} {env : Nat → Contract} (henv : kBr P env) (hm : P.follows .mixedOrders = true) {g : Nat} (hb : kAh P g) {A B Z : Type} [Cod A] [Cod B] {e : Z → AV} {t : A → B → Option Z}
    (hF : ∀ (a0 : A) (a1 : B), Sim (denFnM true P env g [enc a0, enc a1] []) (t a0 a1) fun c p => release p.2 depth p.1 = some (e c)) : kAs P g (C2 e t) :=
  pure_of_denM (W := true) henv hm hb (by
    intro ds r hr
    unfold C2 R2 at hr
    split at hr
    · rename_i x0 x1
      obtain ⟨a0, q0, g0⟩ := kAm hr
      have e0 := Cod.ed _ _ q0
      subst e0
      obtain ⟨a1, q1, g1⟩ := kAm g0
      have e1 := Cod.ed _ _ q1
      subst e1
      obtain ⟨c, hc, gz⟩ := kAm g1
      cases gz
      obtain ⟨⟨r', h'⟩, h1, h2⟩ := hF a0 a1 c hc
      exact ⟨r', h', h1, h2⟩
    · cases hr)
theorem kC6 {γ δ : Type} {A B Z : Type} [Cod A] [Cod B] {env : Nat → Contract} {g : Nat} {e : Z → AV} {t : A → B → Option Z} {x0 x1 : AV} {a0 : A} {a1 : B} {h : kA4} {F : AV → kA4 → Option γ} {G : Z → Option δ} {Q : δ → γ → Prop} (he : env g = .pure (C2 e t)) (s0 : snapD h x0 = some a0) (s1 : snapD h x1 = some a1)
    (K : ∀ c, Sim (kA3 (kEe (e c) ([x0, x1].all (kD0 depth)) h) F) (G c) Q) : Sim (kA3 (kAx (env g) [x0, x1] h) F) (kA0 (t a0 a1) G) Q := by
  rw [he, kDh]
  unfold C2
  rw [callR2, s0, kA2, s1, kA2]
  cases t a0 a1 with
  | none => exact kD5
  | some c => exact K c
theorem sim_callV2 {γ δ : Type} {A B Z : Type} [Cod A] [Cod B] [CodR Z] {env : Nat → Contract} {g : Nat} {t : A → B → Z} {x0 x1 : AV} {a0 : A} {a1 : B} {h : kA4} {F : AV → kA4 → Option γ} {G : Z → Option δ} {Q : δ → γ → Prop} (he : env g = .pure (T2 t)) (s0 : snapD h x0 = some a0) (s1 : snapD h x1 = some a1)
    (K : ∀ c, Sim (F (enc c) h) (G c) Q) : Sim (kA3 (kAx (env g) [x0, x1] h) F) (kA0 (some (t a0 a1)) G) Q := by
  rw [he, kDh, callT2, s0, kA2, s1, kA2]
  exact K _
theorem sim_callQ2 {γ δ : Type} {A B Z : Type} [Cod A] [Cod B] {env : Nat → Contract} {g : Nat} {e : Z → AV} {t : A → B → Option Z} {x0 x1 : AV} {a0 : A} {a1 : B} {h : kA4} {F : AV → kA4 → Option γ} {G : Z → Option δ} {Q : δ → γ → Prop} (he : env g = .pure (C2 e t)) (s0 : snapD h x0 = some a0) (s1 : snapD h x1 = some a1)
    (K : ∀ c, Sim (kA3 (kEe (e c) ([x0, x1].all (kD0 depth)) h) F) (G c) Q) : Sim (kA3 (kCq (env g) [x0, x1] h) F) (kA0 (t a0 a1) G) Q := by
  rw [he, kEx]
  unfold C2
  rw [callR2, s0, kA2, s1, kA2]
  cases t a0 a1 with
  | none => exact kD5
  | some c => exact K c
theorem kE2 {γ δ : Type} {A B Z : Type} [Cod A] [Cod B] [CodR Z] {env : Nat → Contract} {g : Nat} {t : A → B → Z} {x0 x1 : AV} {a0 : A} {a1 : B} {h : kA4} {F : AV → kA4 → Option γ} {G : Z → Option δ} {Q : δ → γ → Prop} (he : env g = .pure (T2 t)) (s0 : snapD h x0 = some a0) (s1 : snapD h x1 = some a1)
    (K : ∀ c, Sim (F (enc c) h) (G c) Q) : Sim (kA3 (kCq (env g) [x0, x1] h) F) (kA0 (some (t a0 a1)) G) Q := by
  rw [he, kEx, callT2, s0, kA2, s1, kA2]
  exact K _
def C3 {A B C Z : Type} [Cod A] [Cod B] [Cod C] (e : Z → AV) (t : A → B → C → Option Z) : List AV → Option AV := R3 (fun a0 a1 a2 => kA0 (t a0 a1 a2) fun c => some (e c))
theorem kIo {P : Program} {env : Nat → Contract} (henv : kBr P env) (hm : P.follows .mixedOrders = true) {g : Nat} (hb : kAh P g) {A B C Z : Type} [Cod A] [Cod B] [Cod C] {e : Z → AV} {t : A → B → C → Option Z}
    (hF : ∀ (a0 : A) (a1 : B) (a2 : C), Sim (kAo P env g [enc a0, enc a1, enc a2] []) (t a0 a1 a2) fun c p => release p.2 depth p.1 = some (e c)) : kAs P g (C3 e t) :=
  pureR3 henv hm hb fun a0 a1 a2 r hr => by
    cases h : t a0 a1 a2 with
    | none => rw [h] at hr; cases hr
    | some c =>
      rw [h] at hr
      cases hr
      obtain ⟨⟨r', h'⟩, h1, h2⟩ := hF a0 a1 a2 c h
      exact ⟨r', h', h1, h2⟩
theorem kF1 {γ δ : Type} {A B C Z : Type} [Cod A] [Cod B] [Cod C] {env : Nat → Contract} {g : Nat} {e : Z → AV} {t : A → B → C → Option Z} {x0 x1 x2 : AV} {a0 : A} {a1 : B} {a2 : C} {h : kA4} {F : AV → kA4 → Option γ} {G : Z → Option δ} {Q : δ → γ → Prop} (he : env g = .pure (C3 e t)) (s0 : snapD h x0 = some a0) (s1 : snapD h x1 = some a1) (s2 : snapD h x2 = some a2)
    (K : ∀ c, Sim (kA3 (kEe (e c) ([x0, x1, x2].all (kD0 depth)) h) F) (G c) Q) : Sim (kA3 (kAx (env g) [x0, x1, x2] h) F) (kA0 (t a0 a1 a2) G) Q := by
  rw [he, kDh]
  unfold C3
  rw [callR3, s0, kA2, s1, kA2, s2, kA2]
  cases t a0 a1 a2 with
  | none => exact kD5
  | some c => exact K c
theorem sim_callV3 {γ δ : Type} {A B C Z : Type} [Cod A] [Cod B] [Cod C] [CodR Z] {env : Nat → Contract} {g : Nat} {t : A → B → C → Z} {x0 x1 x2 : AV} {a0 : A} {a1 : B} {a2 : C} {h : kA4} {F : AV → kA4 → Option γ} {G : Z → Option δ} {Q : δ → γ → Prop} (he : env g = .pure (T3 t)) (s0 : snapD h x0 = some a0) (s1 : snapD h x1 = some a1) (s2 : snapD h x2 = some a2)
    (K : ∀ c, Sim (F (enc c) h) (G c) Q) : Sim (kA3 (kAx (env g) [x0, x1, x2] h) F) (kA0 (some (t a0 a1 a2)) G) Q := by
  rw [he, kDh, callT3, s0, kA2, s1, kA2, s2, kA2]
  exact K _
def C4 {A B C D Z : Type} [Cod A] [Cod B] [Cod C] [Cod D] (e : Z → AV) (t : A → B → C → D → Option Z) : List AV → Option AV := R4 (fun a0 a1 a2 a3 => kA0 (t a0 a1 a2 a3) fun c => some (e c))
theorem pureC4 {P : Program} {env : Nat → Contract} (henv : kBr P env) (hm : P.follows .mixedOrders = true) {g : Nat} (hb : kAh P g) {A B C D Z : Type} [Cod A] [Cod B] [Cod C] [Cod D] {e : Z → AV} {t : A → B → C → D → Option Z}
    (hF : ∀ (a0 : A) (a1 : B) (a2 : C) (a3 : D), Sim (kAo P env g [enc a0, enc a1, enc a2, enc a3] []) (t a0 a1 a2 a3) fun c p => release p.2 depth p.1 = some (e c)) : kAs P g (C4 e t) :=
  pureR4 henv hm hb fun a0 a1 a2 a3 r hr => by
    cases h : t a0 a1 a2 a3 with
    | none => rw [h] at hr; cases hr
    | some c =>
      rw [h] at hr
      cases hr
      obtain ⟨⟨r', h'⟩, h1, h2⟩ := hF a0 a1 a2 a3 c h
      exact ⟨r', h', h1, h2⟩
theorem sim_call4 {γ δ : Type} {A B C D Z : Type} [Cod A] [Cod B] [Cod C] [Cod D] {env : Nat → Contract} {g : Nat} {e : Z → AV} {t : A → B → C → D → Option Z} {x0 x1 x2 x3 : AV} {a0 : A} {a1 : B} {a2 : C} {a3 : D} {h : kA4} {F : AV → kA4 → Option γ} {G : Z → Option δ} {Q : δ → γ → Prop} (he : env g = .pure (C4 e t)) (s0 : snapD h x0 = some a0) (s1 : snapD h x1 = some a1) (s2 : snapD h x2 = some a2) (s3 : snapD h x3 = some a3)
    (K : ∀ c, Sim (kA3 (kEe (e c) ([x0, x1, x2, x3].all (kD0 depth)) h) F) (G c) Q) : Sim (kA3 (kAx (env g) [x0, x1, x2, x3] h) F) (kA0 (t a0 a1 a2 a3) G) Q := by
  rw [he, kDh]
  unfold C4
  rw [callR4, s0, kA2, s1, kA2, s2, kA2, s3, kA2]
  cases t a0 a1 a2 a3 with
  | none => exact kD5
  | some c => exact K c
theorem sim_callQ4 {γ δ : Type} {A B C D Z : Type} [Cod A] [Cod B] [Cod C] [Cod D] {env : Nat → Contract} {g : Nat} {e : Z → AV} {t : A → B → C → D → Option Z} {x0 x1 x2 x3 : AV} {a0 : A} {a1 : B} {a2 : C} {a3 : D} {h : kA4} {F : AV → kA4 → Option γ} {G : Z → Option δ} {Q : δ → γ → Prop} (he : env g = .pure (C4 e t)) (s0 : snapD h x0 = some a0) (s1 : snapD h x1 = some a1) (s2 : snapD h x2 = some a2) (s3 : snapD h x3 = some a3)
    (K : ∀ c, Sim (kA3 (kEe (e c) ([x0, x1, x2, x3].all (kD0 depth)) h) F) (G c) Q) : Sim (kA3 (kCq (env g) [x0, x1, x2, x3] h) F) (kA0 (t a0 a1 a2 a3) G) Q := by
  rw [he, kEx]
  unfold C4
  rw [callR4, s0, kA2, s1, kA2, s2, kA2, s3, kA2]
  cases t a0 a1 a2 a3 with
  | none => exact kD5
  | some c => exact K c
section
variable {α γ δ : Type} {Q : δ → γ → Prop}
theorem kC1 {v : AV} {h : kA4} {F : AV → kA4 → Option γ} {Y : Option δ} (K : Sim (F v h) Y Q) : Sim (kA3 (some (v, h)) F) Y Q := K
theorem kDt {p : Option α} {f : α → Option (AV × kA4)} {F : AV → kA4 → Option γ} {Y : Option δ} (K : Sim (kA0 p fun a => kA3 (f a) F) Y Q) : Sim (kA3 (kA0 p f) F) Y Q := by
  cases p <;> exact K
theorem sim_o2 {p : Option (AV × kA4)} {f : AV → kA4 → Option (AV × kA4)} {F : AV → kA4 → Option γ} {Y : Option δ} (K : Sim (kA3 p fun a h => kA3 (f a h) F) Y Q) : Sim (kA3 (kA3 p f) F) Y Q := by
  cases p <;> exact K
theorem kAy {x : Option (AV × kA4)} {f : AV → kA4 → Option γ} {r : γ} (h : kA3 x f = some r) : ∃ a g, x = some (a, g) ∧ f a g = some r := by
  cases x with
  | none => cases h
  | some p => exact ⟨p.1, p.2, rfl, h⟩
theorem kBx {β : Type} {env : Nat → Contract} {g : Nat} {f : List AV → kA4 → Option (AV × kA4)} {args : List AV} {h : kA4} {Y : Option β} {R : β → AV × kA4 → Prop} {F : AV → kA4 → Option γ} {G : β → Option δ} (he : env g = .gen f) (S : Sim (f args h) Y R)
    (K : ∀ c a h', R c (a, h') → Sim (F a h') (G c) Q) : Sim (kA3 (kAx (env g) args h) F) (kA0 Y G) Q := by
  rw [he]
  exact kGl S K
theorem kEp {h : kA4} {v r : AV} (hn : ((ids h depth v).map (·.1)).Nodup) (hr : rel h depth v = some r) : release h depth v = some r := by
  unfold release
  rw [nodupB_of hn]
  exact hr
theorem ids_tup (h : kA4) (cs : List AV) : ids h depth (.tup cs) = cs.flatMap (ids h 7) := rfl
theorem ids_agg (h : kA4) (d : Nat) (cs : List AV) : ids h (d + 1) (.agg cs) = cs.flatMap (ids h d) := rfl
theorem kH4 (h : kA4) (cs : List AV) : ids h depth (.agg cs) = cs.flatMap (ids h 7) := rfl
theorem ids_iv (h : kA4) (d : Nat) (n : Int) : ids h d (iv n) = [] := ids_sc h d rfl
theorem ids_bv (h : kA4) (d : Nat) (n : Bool) : ids h d (bv n) = [] := ids_sc h d rfl
theorem ids_sv (h : kA4) (d : Nat) (n : ByteArray) : ids h d (sv n) = [] := ids_sc h d rfl
theorem ids_bt (h : kA4) (d : Nat) (n : UInt8) : ids h d (bt n) = [] := ids_sc h d rfl
theorem kGv (h : kA4) (d : Nat) : ids h d kBd = [] := ids_sc h d rfl
theorem ids_enc {A : Type} [Row A] (h : kA4) (d : Nat) (s : Sl A) : ids h d (Sl.enc s) = [] := ids_nr h d (kI4 s)
theorem rel_tup (h : kA4) (cs : List AV) : rel h depth (.tup cs) = kA0 (kBb (rel h 7) cs) fun cs => some (.tup cs) := by
  show (match kBb (rel h 7) cs with | some cs => some (AV.tup cs) | none => none) = _
  cases kBb (rel h 7) cs <;> rfl
theorem kHp (h : kA4) (d : Nat) (cs : List AV) : rel h (d + 1) (.agg cs) = kA0 (kBb (rel h d) cs) fun cs => some (.agg cs) := by
  show (match kBb (rel h d) cs with | some cs => some (AV.agg cs) | none => none) = _
  cases kBb (rel h d) cs <;> rfl
theorem kGu (h : kA4) (cs : List AV) : rel h depth (.agg cs) = kA0 (kBb (rel h 7) cs) fun cs => some (.agg cs) := kHp h 7 cs
theorem rel_iv (h : kA4) (d : Nat) (n : Int) : rel h d (iv n) = some (iv n) := rel_sc h d rfl
theorem rel_bv (h : kA4) (d : Nat) (n : Bool) : rel h d (bv n) = some (bv n) := rel_sc h d rfl
theorem rel_sv (h : kA4) (d : Nat) (n : ByteArray) : rel h d (sv n) = some (sv n) := rel_sc h d rfl
theorem rel_bt (h : kA4) (d : Nat) (n : UInt8) : rel h d (bt n) = some (bt n) := rel_sc h d rfl
theorem kGz (h : kA4) (d : Nat) : rel h d kBd = some kBd := rel_sc h d rfl
theorem rel_enc {A : Type} [Row A] (h : kA4) (d : Nat) (s : Sl A) : rel h d (Sl.enc s) = some (Sl.enc s) := rel_nr h d (kI4 s)
theorem omapc {α β : Type} (f : α → Option β) (a : α) (l : List α) : kBb f (a :: l) = kA0 (f a) fun b => kA0 (kBb f l) fun bs => some (b :: bs) := kCh f a l
theorem omapn {α β : Type} (f : α → Option β) : kBb f [] = some [] := rfl
section
variable {A : Type} [Row A] [NR A] {B : Base}
theorem Hold.idsD {h : kA4} {L : List Ent} (O : Hold B h L) (i : Nat) {x : AV} {s : Sl A} (hi : L[i]? = some (x, obS s)) (d : Nat) : (ids h (d + 1) x).map (·.1) = (kE8 x).toList := by
  cases s with
  | none =>
    have := O.nilE hi
    subst this
    rfl
  | some l =>
    obtain ⟨o, rfl, h2⟩ := O.sl (k := Row.w A) (rows := l.map Row.cells) hi
    have e1 : ids h (d + 1) (.sl o (l.map (Row.cells (A := A))).length 0 (l.map (Row.cells (A := A))).length) = [(o, l.length)] := by
      show (match h[o]? with | some ob => (o, _) :: (ob.rows.take _).flatMap fun (r : List AV) => r.flatMap (ids h d) | none => []) = _
      rw [h2]
      simp only [List.length_map]
      rw [List.take_of_length_le (by simp), NR.ids_rows]
    rw [e1]
    rfl
theorem Hold.relD {h : kA4} {L : List Ent} (O : Hold B h L) (i : Nat) {x : AV} {s : Sl A} (hi : L[i]? = some (x, obS s)) (d : Nat) : Eng.rel h (d + 1) x = some (rS s) := by
  cases s with
  | none =>
    have := O.nilE hi
    subst this
    rfl
  | some l =>
    obtain ⟨o, rfl, h2⟩ := O.sl (k := Row.w A) (rows := l.map Row.cells) hi
    show (match h[o]? with | some ob => if ob.rows.length = _ ∧ 0 = 0 ∧ _ ≤ _ then (match kBb (kBb (Eng.rel h d)) (ob.rows.take _) with | some rows => some (AV.nw ob.k rows) | none => none) else none | none => none) = _
    rw [h2]
    simp only [List.length_map]
    rw [if_pos ⟨trivial, trivial, Nat.le_refl _⟩, List.take_of_length_le (by simp), NR.rel_rows]
    rfl
end
def matS {A : Type} [Row A] (s : Sl A) (b : Nat) : AV := match s with
  | none => kBd
  | some l => .sl b l.length 0 l.length
def matH {A : Type} [Row A] (s : Sl A) : kA4 := match s with
  | none => []
  | some l => [⟨Row.w A, l.map Row.cells⟩]
theorem mat_rS {A : Type} [Row A] [Scal A] (d b : Nat) (s : Sl A) : mat (d + 1) (rS s) b = (matS s b, matH s) := by
  cases s with
  | none => rfl
  | some l =>
    show (AV.sl b (l.map Row.cells).length 0 (l.map Row.cells).length, (⟨Row.w A, (kCt (mat d) (l.map Row.cells) (b + 1)).1⟩ : AObj) :: (kCt (mat d) (l.map Row.cells) (b + 1)).2) = _
    rw [mat_rows]
    simp [matS, matH]
theorem noF_rS {A : Type} [Row A] [Scal A] (d : Nat) (s : Sl A) : noF (d + 1) (rS s) = true := by
  cases s with
  | none => rfl
  | some l => exact noF_rows d l
theorem mat_tup (b : Nat) (cs : List AV) : mat depth (.tup cs) b = (.tup (kC0 (mat 7) cs b).1, (kC0 (mat 7) cs b).2) := rfl
theorem mat_agg (d b : Nat) (cs : List AV) : mat (d + 1) (.agg cs) b = (.agg (kC0 (mat d) cs b).1, (kC0 (mat d) cs b).2) := rfl
theorem mat_aggD (b : Nat) (cs : List AV) : mat depth (.agg cs) b = (.agg (kC0 (mat 7) cs b).1, (kC0 (mat 7) cs b).2) := rfl
theorem noF_aggD (cs : List AV) : noF depth (.agg cs) = cs.all (noF 7) := rfl
theorem matLc (m : AV → Nat → AV × kA4) (a : AV) (as : List AV) (b : Nat) : kC0 m (a :: as) b = ((m a b).1 :: (kC0 m as (b + (m a b).2.length)).1, (m a b).2 ++ (kC0 m as (b + (m a b).2.length)).2) := rfl
theorem matLn (m : AV → Nat → AV × kA4) (b : Nat) : kC0 m [] b = ([], []) := rfl
theorem mat_iv (d b : Nat) (n : Int) : mat d (iv n) b = (iv n, []) := kGk d b rfl
theorem mat_bv (d b : Nat) (n : Bool) : mat d (bv n) b = (bv n, []) := kGk d b rfl
theorem mat_sv (d b : Nat) (n : ByteArray) : mat d (sv n) b = (sv n, []) := kGk d b rfl
theorem mat_bt (d b : Nat) (n : UInt8) : mat d (bt n) b = (bt n, []) := kGk d b rfl
theorem mat_nilS (d b : Nat) : mat d kBd b = (kBd, []) := kGk d b rfl
theorem noF_tup (cs : List AV) : noF depth (.tup cs) = cs.all (noF 7) := rfl
theorem noF_agg (d : Nat) (cs : List AV) : noF (d + 1) (.agg cs) = cs.all (noF d) := rfl
theorem noF_iv (d : Nat) (n : Int) : noF d (iv n) = true := noF_sc d rfl
theorem noF_bv (d : Nat) (n : Bool) : noF d (bv n) = true := noF_sc d rfl
theorem noF_sv (d : Nat) (n : ByteArray) : noF d (sv n) = true := noF_sc d rfl
theorem noF_bt (d : Nat) (n : UInt8) : noF d (bt n) = true := noF_sc d rfl
theorem noF_nilS (d : Nat) : noF d kBd = true := noF_sc d rfl
theorem Hold.allocS {B : Base} {A : Type} [Row A] {h : kA4} {L : List Ent} (O : Hold B h L) (s : Sl A) : Hold B (h ++ matH s) (L ++ [(matS s h.length, obS s)]) := by
  cases s with
  | none =>
    show Hold B (h ++ []) _
    rw [List.append_nil]
    exact O.addnil
  | some l =>
    have := O.alloc (.sl (Row.w A) (l.map Row.cells)) rfl
    simpa [EV.at, obS, matS, matH] using this
section
variable {γ δ : Type} {B : Base} {h : kA4} {L : List Ent} {ok : Bool} {F : AV → kA4 → Option γ} {Y : Option δ} {Q : δ → γ → Prop}
theorem hand_of {r v : AV} {t : kA4} (hn : noF depth r = true) (hm : mat depth r h.length = (v, t)) : kEe r ok h = some (v, h ++ t) := by
  unfold kEe
  rw [hn, Bool.true_or, if_pos rfl, hm]
end
theorem Hold.one {B : Base} {A : Type} [Row A] {h : kA4} {L : List Ent} (O : Hold B h L) (i : Nat) {x : AV} {s : Sl A} (hi : L[i]? = some (x, obS s)) : x.cells = [x] ∧ x.flat = true := by
  cases s with
  | none =>
    have := O.nilE hi
    subst this
    exact ⟨rfl, rfl⟩
  | some l =>
    obtain ⟨o, rfl, h2⟩ := O.sl (k := Row.w A) (rows := l.map Row.cells) hi
    exact ⟨rfl, rfl⟩
theorem Hold.nd2 {B : Base} {h : kA4} {L : List Ent} (O : Hold B h L) : (L.flatMap fun e => (kE8 e.1).toList).Nodup := by
  have : ∀ L : List Ent, (L.flatMap fun e => (kE8 e.1).toList) = L.filterMap fun e => kE8 e.1 := by
    intro L
    induction L with
    | nil => rfl
    | cons e L ih =>
      rw [List.flatMap_cons, List.filterMap_cons, ih]
      cases kE8 e.1 <;> rfl
  rw [this]
  exact O.nd
theorem kFe {α δ : Type} {p : Prop} (hp : p) {X : Option α} {Y : Option δ} {Q : δ → α → Prop} (K : Sim X Y Q) : Sim (kEr p X) Y Q := by
  rw [guardP_pos hp]
  exact K
theorem at_of {x : Option AV} {v : AV} {h : kA4} (e : x = some v) : (kA0 x fun v => some (v, h)) = some (v, h) := by
  rw [e]
  rfl
end
structure l00Src where
  code : Sl UInt8
  pos : Int
  seed : Int
@[simp] theorem cells_scv (v : Value) : AV.cells (.sc v) = [.sc v] := rfl
@[simp] theorem flat_scv (v : Value) : AV.flat (.sc v) = true := rfl
structure Wd where
  v : Int
instance : CodR Wd where
  enc u := .sc (.int .u64 u.v)
  dec | .sc (.int .u64 n) => some ⟨n⟩ | _ => none
  de _ := rfl
  ed x a h := by
    split at h
    · cases h; rfl
    · cases h
  plain _ := rfl
structure f6dice where
  b : Sl UInt8
  i : Int
  h : Int
theorem C1_T1 {P : Program} {g : Nat} {A : Type} [Cod A] {t : A → Bool} (h : kAs P g (T1 t)) : kAs P g (C1 (fun c : Bool => enc c) fun a => some (t a)) := h
theorem callP0 {A : Type} [Cod A] {env : Nat → Contract} {g : Nat} {t : A → Option Bool} {x : AV} {a : A} {h : kA4} (he : env g = .pure (C1 (fun c : Bool => enc c) t)) (sa : snapD h x = some a) : Sim (kAx (env g) (x :: []) h) (t a) fun b r => r = (bv b, h) := by
  rw [he, kDh]
  unfold C1
  rw [callR1, sa, kA2]
  cases t a with
  | none => exact kD5
  | some c =>
    rw [kA2, kA2, kAk (by rfl)]
    exact kA6 rfl
theorem kEl {σ ρ : Type} {step : σ → Option (Sum σ ρ)} (Inv : Nat → σ → Prop) (N : Nat) (Post : ρ → Prop)
    (next : ∀ k s, k < N → Inv k s → (∃ s', step s = some (.inl s') ∧ Inv (k + 1) s') ∨ ∃ r, step s = some (.inr r) ∧ Post r)
    (fin : ∀ s, Inv N s → ∃ r, step s = some (.inr r) ∧ Post r) {s : σ} (h : Inv 0 s) : ∃ r, kBa step s = some r ∧ Post r := by
  have key : ∀ m k s, k + m = N → Inv k s → ∃ r, kBa step s = some r ∧ Post r := by
    intro m
    induction m with
    | zero =>
      intro k s hk hi
      have : k = N := by omega
      subst this
      obtain ⟨r, h1, h2⟩ := fin s hi
      exact ⟨r, kB7 h1, h2⟩
    | succ m ih =>
      intro k s hk hi
      rcases next k s (by omega) hi with ⟨s', h1, h2⟩ | ⟨r, h1, h2⟩
      · rw [kBg h1]
        exact ih (k + 1) s' (by omega) h2
      · exact ⟨r, kB7 h1, h2⟩
  exact key N 0 s (by omega) h
theorem kGy {σ ρ : Type} {step : σ → Option (Sum σ ρ)} (N : Nat) (st : Nat → σ) (r : ρ) (next : ∀ k, k < N → step (st k) = some (.inl (st (k + 1)))) (fin : step (st N) = some (.inr r)) : ∀ k, k ≤ N → kBa step (st k) = some r := by
  have key : ∀ m k, k + m = N → kBa step (st k) = some r := by
    intro m
    induction m with
    | zero =>
      intro k hk
      have : k = N := by omega
      subst this
      exact kB7 fin
    | succ m ih =>
      intro k hk
      rw [kBg (next k (by omega))]
      exact ih (k + 1) (by omega)
  exact fun k hk => key (N - k) k (by omega)
def kD7 {A R : Type} (f : Nat → A → Option R) : List A → Nat → Option R
  | [], _ => none
  | a :: l, k => match f k a with
    | some r => some r
    | none => kD7 f l (k + 1)
theorem kEs {ρ A R : Type} {step : Int → Option (Sum Int ρ)} (l : List A) (f : Nat → A → Option R) (e1 : ρ) (e2 : R → ρ)
    (next : ∀ (k : Nat) a, l[k]? = some a → step (k : Int) = some (match f k a with | none => .inl ((k + 1 : Nat) : Int) | some r => .inr (e2 r)))
    (fin : step ((l.length : Nat) : Int) = some (.inr e1)) : kBa step 0 = some (match kD7 f l 0 with | none => e1 | some r => e2 r) := by
  have key : ∀ (suf pre : List A), l = pre ++ suf → kBa step (pre.length : Nat) = some (match kD7 f suf pre.length with | none => e1 | some r => e2 r) := by
    intro suf
    induction suf with
    | nil =>
      intro pre hl
      simp at hl
      subst hl
      exact kB7 fin
    | cons a suf ih =>
      intro pre hl
      have ha : l[pre.length]? = some a := by rw [hl]; simp
      have h1 := next pre.length a ha
      unfold kD7
      cases e : f pre.length a with
      | none =>
        rw [e] at h1
        rw [kBg h1]
        have := ih (pre ++ [a]) (by simp [hl])
        simpa using this
      | some r =>
        rw [e] at h1
        exact kB7 h1
  exact key l [] rfl
theorem kFv {A R : Type} {f : Nat → A → Option R} : ∀ {l : List A} {k : Nat}, (∀ i a, l[i]? = some a → f (k + i) a = none) → kD7 f l k = none
  | [], _, _ => rfl
  | a :: l, k, h => by
    unfold kD7
    have h0 := h 0 a rfl
    simp only [Nat.add_zero] at h0
    rw [h0]
    exact kFv fun i a ha => by
      have := h (i + 1) a (by simpa using ha)
      rw [← this]
      congr 1
      omega
theorem kAs.mono' {P : Program} {g : Nat} {F F' : List AV → Option AV} (h : kAs P g F) (hm : ∀ ds r, F' ds = some r → F ds = some r) : kAs P g F' := fun ds r hr => h ds r (hm ds r hr)
theorem nr_iv (n : Int) : isNR (iv n) = true := rfl
theorem nr_bv (n : Bool) : isNR (bv n) = true := rfl
theorem nr_sv (n : ByteArray) : isNR (sv n) = true := rfl
instance : NR Box := ⟨fun _ => rfl⟩
instance : NR Spot := ⟨fun _ => rfl⟩
instance : NR Frac := ⟨fun _ => rfl⟩
instance : NR Point := ⟨fun b => by simp only [Row.cells, Point.cells, List.all_cons, List.all_nil, kI4, nr_iv, nr_bv, nr_sv, Bool.and_self]⟩
instance : NR Stroke := ⟨fun b => by simp only [Row.cells, Stroke.cells, List.all_cons, List.all_nil, kI4, nr_iv, nr_bv, nr_sv, Bool.and_self]⟩
instance : NR Note := ⟨fun b => by simp only [Row.cells, Note.cells, List.all_cons, List.all_nil, kI4, nr_iv, nr_bv, nr_sv, Bool.and_self]⟩
instance : NR Pair := ⟨fun b => by simp only [Row.cells, Pair.cells, List.all_cons, List.all_nil, kI4, nr_iv, nr_bv, nr_sv, Bool.and_self]⟩
instance : NR Symbol := ⟨fun b => by simp only [Row.cells, Symbol.cells, List.all_cons, List.all_nil, kI4, nr_iv, nr_bv, nr_sv, Bool.and_self]⟩
instance : NR Line := ⟨fun b => by simp only [Row.cells, Line.cells, List.all_cons, List.all_nil, kI4, nr_iv, nr_bv, nr_sv, Bool.and_self]⟩
structure Part where
  cost : Int
  frm : Int
  deriving DecidableEq
def Part.cells (b : Part) : List AV := [iv b.cost, iv b.frm]
def Part.un : List AV → Option Part
  | [c0, c1] => kA0 (dec c0 : Option Int) fun v0 => kA0 (dec c1 : Option Int) fun v1 => some ⟨v0, v1⟩
  | _ => none
instance : Row Part where
  w := 2
  cells := Part.cells
  uncells := Part.un
  un b := by
    show (kA0 (dec (enc b.cost) : Option Int) fun v0 => kA0 (dec (enc b.frm) : Option Int) fun v1 => some (⟨v0, v1⟩ : Part)) = some b
    simp only [Cod.de, kA2]
  nu x b h := by
    unfold Part.un at h
    split at h
    · obtain ⟨v0, e0, h⟩ := kAm h
      obtain ⟨v1, e1, h⟩ := kAm h
      cases h
      rw [Cod.ed _ _ e0]
      rw [Cod.ed _ _ e1]
      rfl
    · cases h
  len _ := rfl
  fine b := Row.fine b.cost ∧ Row.fine b.frm
instance : CodR Part where
  enc b := .agg b.cells
  dec | .agg cs => Part.un cs | _ => none
  de b := Row.un b
  ed x b h := by
    split at h
    · have e := Row.nu (A := Part) _ _ h
      rw [e]; rfl
    · cases h
  plain _ := rfl
@[simp] theorem enc_Part (b : Part) : enc b = .agg [iv b.cost, iv b.frm] := rfl
@[simp] theorem cells_Part (b : Part) : Row.cells b = [iv b.cost, iv b.frm] := rfl
instance : Scal Part := ⟨fun _ => rfl⟩
instance : NR Part := ⟨fun b => by simp only [Row.cells, Part.cells, List.all_cons, List.all_nil, kI4, nr_iv, nr_bv, nr_sv, Bool.and_self]⟩
structure Channel where
  name : ByteArray
  unit : ByteArray
  low : Int
  high : Int
  deriving DecidableEq
def Channel.cells (b : Channel) : List AV := [sv b.name, sv b.unit, iv b.low, iv b.high]
def Channel.un : List AV → Option Channel
  | [c0, c1, c2, c3] => kA0 (dec c0 : Option ByteArray) fun v0 => kA0 (dec c1 : Option ByteArray) fun v1 => kA0 (dec c2 : Option Int) fun v2 => kA0 (dec c3 : Option Int) fun v3 => some ⟨v0, v1, v2, v3⟩
  | _ => none
instance : Row Channel where
  w := 4
  cells := Channel.cells
  uncells := Channel.un
  un b := by
    show (kA0 (dec (enc b.name) : Option ByteArray) fun v0 => kA0 (dec (enc b.unit) : Option ByteArray) fun v1 => kA0 (dec (enc b.low) : Option Int) fun v2 => kA0 (dec (enc b.high) : Option Int) fun v3 => some (⟨v0, v1, v2, v3⟩ : Channel)) = some b
    simp only [Cod.de, kA2]
  nu x b h := by
    unfold Channel.un at h
    split at h
    · obtain ⟨v0, e0, h⟩ := kAm h
      obtain ⟨v1, e1, h⟩ := kAm h
      obtain ⟨v2, e2, h⟩ := kAm h
      obtain ⟨v3, e3, h⟩ := kAm h
      cases h
      rw [Cod.ed _ _ e0]
      rw [Cod.ed _ _ e1]
      rw [Cod.ed _ _ e2]
      rw [Cod.ed _ _ e3]
      rfl
    · cases h
  len _ := rfl
  fine b := Row.fine b.name ∧ Row.fine b.unit ∧ Row.fine b.low ∧ Row.fine b.high
instance : CodR Channel where
  enc b := .agg b.cells
  dec | .agg cs => Channel.un cs | _ => none
  de b := Row.un b
  ed x b h := by
    split at h
    · have e := Row.nu (A := Channel) _ _ h
      rw [e]; rfl
    · cases h
  plain _ := rfl
@[simp] theorem enc_Channel (b : Channel) : enc b = .agg [sv b.name, sv b.unit, iv b.low, iv b.high] := rfl
@[simp] theorem cells_Channel (b : Channel) : Row.cells b = [sv b.name, sv b.unit, iv b.low, iv b.high] := rfl
instance : Scal Channel := ⟨fun _ => rfl⟩
instance : NR Channel := ⟨fun b => by simp only [Row.cells, Channel.cells, List.all_cons, List.all_nil, kI4, nr_iv, nr_bv, nr_sv, Bool.and_self]⟩
structure FRows where
  values : (Sl (Sl Int))
  deriving DecidableEq
def FRows.cells (b : FRows) : List AV := [Sl.enc b.values]
def FRows.un : List AV → Option FRows
  | [c0] => kA0 (dec c0 : Option (Sl (Sl Int))) fun v0 => some ⟨v0⟩
  | _ => none
instance : Row FRows where
  w := 1
  cells := FRows.cells
  uncells := FRows.un
  un b := by
    show (kA0 (dec (enc b.values) : Option (Sl (Sl Int))) fun v0 => some (⟨v0⟩ : FRows)) = some b
    simp only [Cod.de, kA2]
  nu x b h := by
    unfold FRows.un at h
    split at h
    · obtain ⟨v0, e0, h⟩ := kAm h
      cases h
      rw [Cod.ed _ _ e0]
      rfl
    · cases h
  len _ := rfl
  fine b := Row.fine b.values
instance : Cod FRows where
  enc b := .agg b.cells
  dec | .agg cs => FRows.un cs | _ => none
  de b := Row.un b
  ed x b h := by
    split at h
    · have e := Row.nu (A := FRows) _ _ h
      rw [e]; rfl
    · cases h
@[simp] theorem enc_Rows (b : FRows) : enc b = .agg [Sl.enc b.values] := rfl
@[simp] theorem cells_Rows (b : FRows) : Row.cells b = [Sl.enc b.values] := rfl
instance : NR FRows := ⟨fun b => by simp only [Row.cells, FRows.cells, List.all_cons, List.all_nil, kI4, nr_iv, nr_bv, nr_sv, Bool.and_self]⟩
structure File where
  channels : (Sl Channel)
  strokes : (Sl FRows)
  notes : (Sl Note)
  deriving DecidableEq
def File.cells (b : File) : List AV := [Sl.enc b.channels, Sl.enc b.strokes, Sl.enc b.notes]
def File.un : List AV → Option File
  | [c0, c1, c2] => kA0 (dec c0 : Option (Sl Channel)) fun v0 => kA0 (dec c1 : Option (Sl FRows)) fun v1 => kA0 (dec c2 : Option (Sl Note)) fun v2 => some ⟨v0, v1, v2⟩
  | _ => none
instance : Row File where
  w := 3
  cells := File.cells
  uncells := File.un
  un b := by
    show (kA0 (dec (enc b.channels) : Option (Sl Channel)) fun v0 => kA0 (dec (enc b.strokes) : Option (Sl FRows)) fun v1 => kA0 (dec (enc b.notes) : Option (Sl Note)) fun v2 => some (⟨v0, v1, v2⟩ : File)) = some b
    simp only [Cod.de, kA2]
  nu x b h := by
    unfold File.un at h
    split at h
    · obtain ⟨v0, e0, h⟩ := kAm h
      obtain ⟨v1, e1, h⟩ := kAm h
      obtain ⟨v2, e2, h⟩ := kAm h
      cases h
      rw [Cod.ed _ _ e0]
      rw [Cod.ed _ _ e1]
      rw [Cod.ed _ _ e2]
      rfl
    · cases h
  len _ := rfl
  fine b := Row.fine b.channels ∧ Row.fine b.strokes ∧ Row.fine b.notes
instance : Cod File where
  enc b := .agg b.cells
  dec | .agg cs => File.un cs | _ => none
  de b := Row.un b
  ed x b h := by
    split at h
    · have e := Row.nu (A := File) _ _ h
      rw [e]; rfl
    · cases h
@[simp] theorem enc_File (b : File) : enc b = .agg [Sl.enc b.channels, Sl.enc b.strokes, Sl.enc b.notes] := rfl
@[simp] theorem cells_File (b : File) : Row.cells b = [Sl.enc b.channels, Sl.enc b.strokes, Sl.enc b.notes] := rfl
instance : NR File := ⟨fun b => by simp only [Row.cells, File.cells, List.all_cons, List.all_nil, kI4, nr_iv, nr_bv, nr_sv, Bool.and_self]⟩
end Go.Eng
