/-
  THE ENGINE, PART 33: the typed layer. A function's run is held against a plain function of typed values ('Sim'); own memory is told by a list of what is owned ('Hold').
-/
import Derived.Test.YtbamachgomdjkaaDoorEngTxt
namespace Go.Eng
set_option linter.unusedVariables false
set_option linter.unusedSimpArgs false
open Cod (enc dec)

/-- Wherever the plain run `Y` gives something, the run `X` gives something that answers to it. -/
def Sim {α β : Type} (X : Option α) (Y : Option β) (Q : β → α → Prop) : Prop := ∀ y, Y = some y → ∃ x, X = some x ∧ Q y x

section sim
variable {α β γ δ : Type} {Q : δ → γ → Prop}

theorem sim_ret {x : γ} {y : δ} (h : Q y x) : Sim (some x) (some y) Q := fun y' e => by
  cases e
  exact ⟨x, rfl, h⟩
theorem sim_no {X : Option γ} : Sim X none Q := fun _ e => by cases e
theorem sim_let {x : Option α} {v : α} {F : α → Option γ} {Y : Option δ} (h : x = some v) (K : Sim (F v) Y Q) : Sim (obind x F) Y Q := by
  subst h
  exact K
theorem sim_let2 {x : Option (α × β)} {v : α} {w : β} {F : α → β → Option γ} {Y : Option δ} (h : x = some (v, w)) (K : Sim (F v w) Y Q) : Sim (obind2 x F) Y Q := by
  subst h
  exact K
theorem sim_bind {x : Option α} {y : Option β} {R : β → α → Prop} {F : α → Option γ} {G : β → Option δ} (h : Sim x y R) (K : ∀ b a, R b a → Sim (F a) (G b) Q) : Sim (obind x F) (obind y G) Q := by
  intro z hz
  cases y with
  | none => cases hz
  | some b =>
    obtain ⟨a, rfl, hr⟩ := h b rfl
    exact K b a hr z hz
theorem sim_bind2 {x : Option (α × Heap)} {y : Option β} {R : β → α × Heap → Prop} {F : α → Heap → Option γ} {G : β → Option δ} (h : Sim x y R) (K : ∀ b a h, R b (a, h) → Sim (F a h) (G b) Q) : Sim (obind2 x F) (obind y G) Q := by
  intro z hz
  cases y with
  | none => cases hz
  | some b =>
    obtain ⟨⟨a, h'⟩, rfl, hr⟩ := h b rfl
    exact K b a h' hr z hz
theorem sim_cond {b : Bool} {x x' : Option γ} {y y' : Option δ} (h1 : b = true → Sim x y Q) (h2 : b = false → Sim x' y' Q) : Sim (condB (bv b) x x') (cond b y y') Q := by
  cases b with
  | true => exact h1 rfl
  | false => exact h2 rfl
/-- A guarded run. -/
theorem sim_guardT {b : Bool} {h : Heap} {X : Option (AV × Heap)} {Y : Option β} {e : β → AV} {d : β} {F : AV → Heap → Option γ} {G : β → Option δ}
    (h1 : b = true → Sim X Y (fun y r => r = (e y, h))) (K : ∀ c, Sim (F (cond b (e c) und) h) (G c) Q) : Sim (obind2 (guardB (bv b) true X (some (und, h))) F) (obind (cond b Y (some d)) G) Q := by
  cases b with
  | true => exact sim_bind2 (h1 rfl) fun c a h' hr => by cases hr; exact K c
  | false => exact K d
theorem sim_guardF {b : Bool} {h : Heap} {X : Option (AV × Heap)} {Y : Option β} {e : β → AV} {d : β} {F : AV → Heap → Option γ} {G : β → Option δ}
    (h1 : b = false → Sim X Y (fun y r => r = (e y, h))) (K : ∀ c, Sim (F (cond b und (e c)) h) (G c) Q) : Sim (obind2 (guardB (bv b) false X (some (und, h))) F) (obind (cond b (some d) Y) G) Q := by
  cases b with
  | false => exact sim_bind2 (h1 rfl) fun c a h' hr => by cases hr; exact K c
  | true => exact K d
theorem pick_b (b c d : Bool) : aPick (bv b) (cond b (bv c) und) (bv d) = some (bv (cond b c d)) := by cases b <;> rfl
theorem pick_b' (b c d : Bool) : aPick (bv b) (bv d) (cond b und (bv c)) = some (bv (cond b d c)) := by cases b <;> rfl
end sim

/-! ### Loops -/

def loopT {σ ρ : Type} (step : σ → Option (Sum σ ρ)) (s : σ) : Option ρ :=
  match step s with
  | none => none
  | some (.inl s') => loopT step s'
  | some (.inr r) => some r
partial_fixpoint

theorem loopT_next {σ ρ : Type} {step : σ → Option (Sum σ ρ)} {s s' : σ} (h : step s = some (.inl s')) : loopT step s = loopT step s' := by
  rw [loopT, h]
theorem loopT_end {σ ρ : Type} {step : σ → Option (Sum σ ρ)} {s : σ} {r : ρ} (h : step s = some (.inr r)) : loopT step s = some r := by
  rw [loopT, h]

theorem loop_sim {σ ρ : Type} {step : σ → Option (Sum σ ρ)} {hm xm : List Bool} {body : TM → Heap → Option Res} {Rel : σ → TM → Heap → Prop} {Post : ρ → Res → Prop}
    (H : ∀ s tm h, Rel s tm h → Sim (body tm h) (step s) fun y r => match y with
      | .inl s' => r.1 = .normal ∧ Rel s' (restr hm r.2.1) r.2.2
      | .inr q => r.1 ≠ .normal ∧ Post q (r.1, restr xm r.2.1, r.2.2)) {s : σ} {tm : TM} {h : Heap} (R : Rel s tm h) : Sim (loopP hm xm body tm h) (loopT step s) Post := by
  intro r hr
  revert tm h
  refine loopT.partial_correctness (step := step) (motive := fun s r => ∀ {tm h}, Rel s tm h → ∃ x, loopP hm xm body tm h = some x ∧ Post r x) ?_ s r hr
  intro f ih s r hs tm h R
  cases e : step s with
  | none => rw [e] at hs; cases hs
  | some y =>
    obtain ⟨⟨ax, tm', h'⟩, hb, hq⟩ := H s tm h R y e
    rw [e] at hs
    rw [loopP.eq_1, hb]
    cases y with
    | inl s' =>
      obtain ⟨h1, h2⟩ := hq
      simp only at h1 h2
      subst h1
      exact ih s' r hs h2
    | inr q =>
      obtain ⟨h1, h2⟩ := hq
      simp only at hs
      cases hs
      cases ax with
      | normal => exact absurd rfl h1
      | exit i => exact ⟨_, rfl, h2⟩
      | ret => exact ⟨_, rfl, h2⟩

/-! ### Reading tables -/

def getI {A : Type} (l : List A) (i : Int) : Option A := obind (idx (iv i) l.length) fun m => l[m]?
theorem getI_some {A : Type} {l : List A} {i : Int} {a : A} (h : getI l i = some a) : ∃ m : Nat, i = (m : Int) ∧ m < l.length ∧ l[m]? = some a ∧ idx (iv i) l.length = some m := by
  unfold getI at h
  cases e : idx (iv i) l.length with
  | none => rw [e] at h; cases h
  | some m =>
    rw [e] at h
    have h2 : l[m]? = some a := h
    have h3 := (List.getElem?_eq_some_iff.1 h2).1
    refine ⟨m, ?_, h3, h2, rfl⟩
    simp only [idx, iv] at e
    split at e
    · cases e; omega
    · cases e
theorem getI_nat {A : Type} {l : List A} {m : Nat} {a : A} (h : l[m]? = some a) : getI l (m : Int) = some a := by
  have h3 := (List.getElem?_eq_some_iff.1 h).1
  unfold getI
  rw [idx_lt h3, obind_sm, h]
theorem Tab.ld {A : Type} [Row A] {h : Heap} {x : AV} {s : Sl A} (T : Tab h x s) {m : Nat} {a : A} (hm : (s.getD [])[m]? = some a) (g : Bool) (n j : Nat) : aLoad g n (elp x m j) h = cut g n ((Row.cells a).drop j) := by
  rw [T.load, hm, obind_sm]
theorem sim_get {A γ δ : Type} [Row A] {h : Heap} {x : AV} {s : Sl A} (T : Tab h x s) {i : Int} {F : AV → Option γ} {G : A → Option δ} {Q : δ → γ → Prop}
    (K : ∀ m a, i = ((m : Nat) : Int) → (s.getD [])[m]? = some a → Sim (F (elp x m 0)) (G a) Q) : Sim (obind (aIndexAddr (Row.w A) x (iv i) h) F) (obind (getI (s.getD []) i) G) Q := by
  rw [T.idx]
  intro y hy
  cases e : getI (s.getD []) i with
  | none => rw [e] at hy; cases hy
  | some a =>
    rw [e] at hy
    obtain ⟨m, h1, h2, h3, h4⟩ := getI_some e
    rw [h4, obind_sm, obind_sm]
    exact K m a h1 h3 y hy

/-! ### What is owned -/

def idOf : AV → Option Nat
  | .sl o .. => some o
  | .ptr o .. => some o
  | _ => none
/-- What lies behind a value that is the only way to it: nothing, a slice's rows, a variable. -/
inductive EV where
  | nil
  | sl (k : Nat) (rows : List (List AV))
  | pt (k : Nat) (cs : List AV)
abbrev Ent := AV × EV
def EV.ob : EV → Option AObj
  | .nil => none
  | .sl k rows => some ⟨k, rows⟩
  | .pt k cs => some ⟨k, [cs]⟩
/-- The value of it, at the object `o`. -/
def EV.at (o : Nat) : EV → AV
  | .nil => nilS
  | .sl _ rows => .sl o rows.length 0 rows.length
  | .pt .. => .ptr o 1 0 0
def entOK (h : Heap) (e : Ent) : Prop := ∃ o, e.1 = e.2.at o ∧ ∀ ob, e.2.ob = some ob → h[o]? = some ob
/-- The heap at the beginning, and those of its objects that were handed over. -/
structure Base where
  h0 : Heap
  F : List Nat
structure Hold (B : Base) (h : Heap) (L : List Ent) : Prop where
  ok : ∀ e ∈ L, entOK h e
  nd : (L.filterMap fun e => idOf e.1).Nodup
  len : B.h0.length ≤ h.length
  keep : ∀ o, o < B.h0.length → o ∉ B.F → h[o]? = B.h0[o]?
  mine : ∀ e ∈ L, ∀ o, idOf e.1 = some o → o ∈ B.F ∨ B.h0.length ≤ o
section hold
variable {B : Base}

theorem Hold.nil (h : Heap) : Hold ⟨h, []⟩ h [] := ⟨fun e h => (by cases h), by simp, Nat.le_refl _, fun _ _ _ => rfl, fun e h => (by cases h)⟩

theorem at_id {v : EV} {o o' : Nat} (h : idOf (v.at o) = some o') : o' = o ∧ ∃ ob, v.ob = some ob := by
  cases v with
  | nil => cases h
  | sl k rows => cases h; exact ⟨rfl, _, rfl⟩
  | pt k cs => cases h; exact ⟨rfl, _, rfl⟩
theorem id_at {v : EV} {ob : AObj} (h : v.ob = some ob) (o : Nat) : idOf (v.at o) = some o := by
  cases v with
  | nil => cases h
  | sl k rows => rfl
  | pt k cs => rfl
theorem entOK_lt {h : Heap} {e : Ent} (k : entOK h e) {o : Nat} (ho : idOf e.1 = some o) : ∃ ob, e.2.ob = some ob ∧ h[o]? = some ob := by
  obtain ⟨o', h1, h2⟩ := k
  rw [h1] at ho
  obtain ⟨rfl, ob, h3⟩ := at_id ho
  exact ⟨ob, h3, h2 ob h3⟩

/-- A new object. -/
theorem Hold.alloc {h : Heap} {L : List Ent} (O : Hold B h L) (v : EV) {ob : AObj} (hv : v.ob = some ob) : Hold B (h ++ [ob]) (L ++ [(v.at h.length, v)]) := by
  have hid := id_at hv h.length
  have hlen := O.len
  refine ⟨fun e he => ?_, ?_, by simp; omega, fun o ho hf => by rw [List.getElem?_append_left (by omega)]; exact O.keep o ho hf, fun e he o ho => ?_⟩
  rotate_left 2
  · rcases List.mem_append.1 he with he | he
    · exact O.mine e he o ho
    · have : e = (v.at h.length, v) := by simpa using he
      subst this
      rw [hid] at ho
      cases ho
      exact .inr hlen
  · rcases List.mem_append.1 he with he | he
    · obtain ⟨o, h1, h2⟩ := O.ok _ he
      exact ⟨o, h1, fun ob' e' => by rw [List.getElem?_append_left (List.getElem?_eq_some_iff.1 (h2 ob' e')).1]; exact h2 ob' e'⟩
    · have : e = (v.at h.length, v) := by simpa using he
      subst this
      exact ⟨h.length, rfl, fun ob' e' => by rw [hv] at e'; cases e'; simp⟩
  · rw [List.filterMap_append, List.nodup_append]
    refine ⟨O.nd, by simp [hid], ?_⟩
    intro a ha b hb e
    simp only [List.filterMap_cons, hid, List.filterMap_nil, List.mem_singleton] at hb
    subst hb e
    obtain ⟨e, he, h1⟩ := List.mem_filterMap.1 ha
    obtain ⟨ob', h2, h3⟩ := entOK_lt (O.ok e he) h1
    have := (List.getElem?_eq_some_iff.1 h3).1
    omega

theorem nodup_get {L : List Ent} (hn : (L.filterMap fun e => idOf e.1).Nodup) {i j : Nat} {a b : Ent} {o : Nat} (hi : L[i]? = some a) (hj : L[j]? = some b) (ha : idOf a.1 = some o) (hb : idOf b.1 = some o) : i = j := by
  induction L generalizing i j with
  | nil => simp at hi
  | cons e L ih =>
    have hn' : (L.filterMap fun e => idOf e.1).Nodup := by
      rw [List.filterMap_cons] at hn
      split at hn
      · exact hn
      · exact (List.nodup_cons.1 hn).2
    have key : ∀ {k : Nat} {c : Ent}, L[k]? = some c → idOf c.1 = some o → idOf e.1 = some o → False := by
      intro k c hk hc he
      rw [List.filterMap_cons] at hn
      simp only [he] at hn
      exact (List.nodup_cons.1 hn).1 (List.mem_filterMap.2 ⟨c, List.mem_of_getElem? hk, hc⟩)
    cases i with
    | zero =>
      simp at hi
      subst hi
      cases j with
      | zero => rfl
      | succ j => exact (key hj hb ha).elim
    | succ i =>
      cases j with
      | zero =>
        simp at hj
        subst hj
        exact (key hi ha hb).elim
      | succ j => rw [ih hn' hi hj]

theorem filterMap_set {L : List Ent} {i : Nat} {a b : Ent} (hi : L[i]? = some a) (h : idOf a.1 = idOf b.1) : ((L.set i b).filterMap fun e => idOf e.1) = L.filterMap fun e => idOf e.1 := by
  induction L generalizing i with
  | nil => rfl
  | cons e L ih =>
    cases i with
    | zero =>
      simp at hi
      subst hi
      simp only [List.set_cons_zero, List.filterMap_cons, h]
    | succ i => simp only [List.set_cons_succ, List.filterMap_cons, ih hi]

/-- An object is changed. -/
theorem Hold.update {h : Heap} {L : List Ent} (O : Hold B h L) {i : Nat} {x : AV} {v v' : EV} {ob' : AObj} {o : Nat} (hi : L[i]? = some (x, v)) (hx : idOf x = some o) (hv : v'.ob = some ob') : Hold B (h.set o ob') (L.set i (v'.at o, v')) := by
  have hid := id_at hv o
  obtain ⟨ob2, h1, h2⟩ := entOK_lt (O.ok _ (List.mem_of_getElem? hi)) hx
  have olt := (List.getElem?_eq_some_iff.1 h2).1
  have hmine := O.mine _ (List.mem_of_getElem? hi) o hx
  refine ⟨fun e he => ?_, ?_, by simpa using O.len, fun o' ho hf => ?_, fun e he o' ho => ?_⟩
  rotate_left 2
  · have hne3 : o ≠ o' := by
      rintro rfl
      rcases hmine with g | g
      · exact hf g
      · omega
    rw [List.getElem?_set_ne hne3]
    exact O.keep o' ho hf
  · rcases List.mem_or_eq_of_mem_set he with he | he
    · exact O.mine e he o' ho
    · subst he
      rw [hid] at ho
      cases ho
      exact hmine
  · obtain ⟨j, hj⟩ := List.mem_iff_getElem?.1 he
    rw [List.getElem?_set] at hj
    split at hj
    · split at hj
      · cases hj
        exact ⟨o, rfl, fun ob e' => by simp only at e'; rw [hv] at e'; cases e'; simp [olt]⟩
      · cases hj
    · rename_i hne
      obtain ⟨o2, g1, g2⟩ := O.ok e (List.mem_of_getElem? hj)
      refine ⟨o2, g1, fun ob e' => ?_⟩
      have g3 : idOf e.1 = some o2 := by rw [g1]; exact id_at e' o2
      have hne2 : o ≠ o2 := by
        intro e
        subst e
        exact hne (nodup_get O.nd hi hj hx g3)
      rw [List.getElem?_set_ne hne2]
      exact g2 ob e'
  · rw [filterMap_set hi (by rw [hx, hid])]
    exact O.nd
/-- Nil becomes a new object. -/
theorem Hold.fill {h : Heap} {L : List Ent} (O : Hold B h L) {i : Nat} (v : EV) {ob : AObj} (hv : v.ob = some ob) (hi : L[i]? = some (nilS, .nil)) : Hold B (h ++ [ob]) (L.set i (v.at h.length, v)) := by
  have h1 := O.alloc v hv
  have key : ∀ (L : List Ent) (i : Nat), L[i]? = some (nilS, .nil) → ∀ e : Ent, ((L.set i e).filterMap fun e => idOf e.1).Perm ((L ++ [e]).filterMap fun e => idOf e.1) := by
    intro L
    induction L with
    | nil => intro i hi; simp at hi
    | cons a L ih =>
      intro i hi e
      cases i with
      | zero =>
        simp at hi
        subst hi
        simp only [List.set_cons_zero, List.cons_append, List.filterMap_cons, List.filterMap_append, show idOf (nilS, EV.nil).1 = none from rfl, List.filterMap_nil]
        cases idOf e.1 with
        | none => simp
        | some o => simpa using (List.perm_append_singleton o (L.filterMap fun e => idOf e.1)).symm
      | succ i =>
        simp only [List.set_cons_succ, List.cons_append, List.filterMap_cons]
        cases idOf a.1 with
        | none => exact ih i (by simpa using hi) e
        | some o => exact (ih i (by simpa using hi) e).cons _
  have hm : ∀ e ∈ L.set i (v.at h.length, v), e ∈ L ++ [(v.at h.length, v)] := fun e he => by
    rcases List.mem_or_eq_of_mem_set he with he | he
    · exact List.mem_append.2 (.inl he)
    · exact List.mem_append.2 (.inr (by simp [he]))
  exact ⟨fun e he => h1.ok e (hm e he), (key L i hi _).symm.nodup h1.nd, h1.len, h1.keep, fun e he => h1.mine e (hm e he)⟩

theorem Hold.addnil {h : Heap} {L : List Ent} (O : Hold B h L) : Hold B h (L ++ [(nilS, .nil)]) := by
  refine ⟨fun e he => ?_, ?_, O.len, O.keep, fun e he o ho => ?_⟩
  · rcases List.mem_append.1 he with he | he
    · exact O.ok e he
    · have : e = (nilS, .nil) := by simpa using he
      subst this
      exact ⟨0, rfl, fun ob e => by cases e⟩
  · rw [List.filterMap_append]
    simpa [idOf, nilS] using O.nd
  · rcases List.mem_append.1 he with he | he
    · exact O.mine e he o ho
    · have : e = (nilS, .nil) := by simpa using he
      subst this
      cases ho

/-! #### Variables -/

theorem Hold.ptr {h : Heap} {L : List Ent} (O : Hold B h L) {i o k : Nat} {cs : List AV} (hi : L[i]? = some (.ptr o 1 0 0, .pt k cs)) : h[o]? = some ⟨k, [cs]⟩ := by
  obtain ⟨o', h1, h2⟩ := O.ok _ (List.mem_of_getElem? hi)
  cases h1
  exact h2 _ rfl
theorem Hold.ld {h : Heap} {L : List Ent} (O : Hold B h L) (i : Nat) {o k : Nat} {cs : List AV} (hi : L[i]? = some (.ptr o 1 0 0, .pt k cs)) (g : Bool) (s j : Nat) : aLoad g s (.ptr o 1 0 j) h = cut g s (cs.drop j) := by
  simp [aLoad, O.ptr hi]
theorem sim_box {γ δ : Type} {h : Heap} {L : List Ent} (O : Hold B h L) {cs : List AV} (hf : cs.all AV.flat = true) {F : AV → Heap → Option γ} {Y : Option δ} {Q : δ → γ → Prop}
    (K : ∀ o h', Hold B h' (L ++ [(.ptr o 1 0 0, .pt cs.length cs)]) → Sim (F (.ptr o 1 0 0) h') Y Q) : Sim (obind2 (aBox cs h) F) Y Q := by
  unfold aBox
  rw [if_pos hf]
  exact K h.length _ (O.alloc (.pt cs.length cs) rfl)
theorem sim_store {γ δ : Type} {h : Heap} {L : List Ent} (O : Hold B h L) (i : Nat) {o k s j : Nat} {cs cs' : List AV} {v : AV} (hi : L[i]? = some (.ptr o 1 0 0, .pt k cs)) (h1 : v.cells.length = s) (h2 : j + s ≤ cs.length) (h3 : v.cells.all AV.flat = true) (h4 : splice cs j v.cells = cs')
    {F : Heap → Option γ} {Y : Option δ} {Q : δ → γ → Prop} (K : ∀ h', Hold B h' (L.set i (.ptr o 1 0 0, .pt k cs')) → Sim (F h') Y Q) : Sim (obind (aStore s (.ptr o 1 0 j) v h) F) Y Q := by
  subst h4
  have h5 := O.ptr hi
  have : aStore s (.ptr o 1 0 j) v h = some (h.set o ⟨k, [splice cs j v.cells]⟩) := by
    simp only [aStore, h5, List.length_cons, List.length_nil, Nat.zero_add, if_true, List.getElem?_cons_zero]
    rw [if_pos ⟨h1, h2, h3⟩]
    rfl
  rw [this]
  exact K _ (O.update (v' := .pt k (splice cs j v.cells)) hi rfl rfl)

/-! #### Slices -/

/-- Its cells hold no part of the own heap. -/
def isNR : AV → Bool
  | .sc _ | .fs .. | .fptr .. => true
  | _ => false
class NR (A : Type) [Row A] : Prop where
  nr : ∀ a : A, (Row.cells a).all isNR = true
theorem snap_nr (h : Heap) (d : Nat) {a : AV} (ha : isNR a = true) : snap h d a = some a := by
  cases a <;> simp [isNR] at ha <;> cases d <;> rfl
theorem rel_nr (h : Heap) (d : Nat) {a : AV} (ha : isNR a = true) : rel h d a = some a := by
  cases a <;> simp [isNR] at ha <;> cases d <;> rfl
theorem ids_nr (h : Heap) (d : Nat) {a : AV} (ha : isNR a = true) : ids h d a = [] := by
  cases a <;> simp [isNR] at ha <;> cases d <;> rfl
theorem flat_nr {a : AV} (ha : isNR a = true) : a.flat = true := by
  cases a <;> simp [isNR] at ha <;> rfl
theorem nr_sl {A : Type} [Row A] (s : Sl A) : isNR (Sl.enc s) = true := by cases s <;> rfl

section slices
variable {A : Type} [Row A]
def obS (s : Sl A) : EV := match s with
  | none => .nil
  | some l => .sl (Row.w A) (l.map Row.cells)
theorem NR.mem [NR A] {a : A} {c : AV} (hc : c ∈ Row.cells a) : isNR c = true := List.all_eq_true.1 (NR.nr a) c hc
theorem NR.flat [NR A] (a : A) : (Row.cells a).all AV.flat = true := List.all_eq_true.2 fun c hc => flat_nr (NR.mem hc)
theorem NR.snap_rows [NR A] (h : Heap) (d : Nat) (l : List A) : omap (omap (snap h d)) (l.map Row.cells) = some (l.map Row.cells) := omap_id fun r hr => by
  obtain ⟨a, _, rfl⟩ := List.mem_map.1 hr
  exact omap_id fun c hc => snap_nr h d (NR.mem hc)
theorem NR.rel_rows [NR A] (h : Heap) (d : Nat) (l : List A) : omap (omap (rel h d)) (l.map Row.cells) = some (l.map Row.cells) := omap_id fun r hr => by
  obtain ⟨a, _, rfl⟩ := List.mem_map.1 hr
  exact omap_id fun c hc => rel_nr h d (NR.mem hc)
theorem NR.ids_rows [NR A] (h : Heap) (d : Nat) (l : List A) : (l.map Row.cells).flatMap (fun r => r.flatMap (ids h d)) = [] := by
  rw [List.flatMap_eq_nil_iff]
  intro r hr
  obtain ⟨a, _, rfl⟩ := List.mem_map.1 hr
  rw [List.flatMap_eq_nil_iff]
  exact fun c hc => ids_nr h d (NR.mem hc)
theorem Tab.slN [NR A] {h : Heap} {o n : Nat} {l : List A} (ho : h[o]? = some ⟨Row.w A, l.map Row.cells⟩) (hn : n = l.length) : Tab h (.sl o n 0 n) (some l) := by
  subst hn
  refine ⟨by simp, fun ix => ?_, fun i j off => rfl, fun g n i j => ?_, ?_⟩
  · simp only [aIndexAddr, ho, List.length_map, and_self, if_true, Option.getD_some, elp]
    cases Eng.idx ix l.length <;> rfl
  · simp only [aLoad, elp, ho, List.length_map, if_true, List.getElem?_map, Option.getD_some, Nat.zero_add]
    cases l[i]? <;> rfl
  · have h1 : Eng.snap h depth (AV.sl o l.length 0 l.length) = some (.fs (Row.w A) (l.map Row.cells)) := by
      show (match h[o]? with | some ob => if ob.rows.length = l.length ∧ 0 + l.length ≤ l.length then (match omap (omap (Eng.snap h 7)) ((ob.rows.drop 0).take l.length) with | some rows => some (AV.fs ob.k rows) | none => none) else none | none => none) = _
      rw [ho]
      simp only [List.length_map]
      rw [if_pos ⟨trivial, by omega⟩, List.drop_zero, List.take_of_length_le (by simp), NR.snap_rows]
    unfold snapD
    rw [h1]
    exact Cod.de (some l : Sl A)
/-- An owned slice that is not nil. -/
theorem Hold.sl {h : Heap} {L : List Ent} (O : Hold B h L) {i k : Nat} {x : AV} {rows : List (List AV)} (hi : L[i]? = some (x, .sl k rows)) : ∃ o, x = .sl o rows.length 0 rows.length ∧ h[o]? = some ⟨k, rows⟩ := by
  obtain ⟨o, h1, h2⟩ := O.ok _ (List.mem_of_getElem? hi)
  exact ⟨o, h1, h2 _ rfl⟩
theorem Hold.nilE {h : Heap} {L : List Ent} (O : Hold B h L) {i : Nat} {x : AV} (hi : L[i]? = some (x, .nil)) : x = nilS := by
  obtain ⟨o, h1, _⟩ := O.ok _ (List.mem_of_getElem? hi)
  exact h1
theorem Hold.tab [NR A] {h : Heap} {L : List Ent} (O : Hold B h L) (i : Nat) {x : AV} {s : Sl A} (hi : L[i]? = some (x, obS s)) : Tab h x s := by
  cases s with
  | none =>
    have := O.nilE hi
    subst this
    exact Tab.nil h
  | some l =>
    obtain ⟨o, rfl, h2⟩ := O.sl (k := Row.w A) (rows := l.map Row.cells) hi
    rw [List.length_map]
    exact Tab.slN h2 rfl
/-- .. with what is appended. -/
def appS (s : Sl A) (l : List A) : Sl A := match s, l with
  | none, [] => none
  | none, l => some l
  | some k, l => some (k ++ l)
def appO (s : Sl A) (l : List A) : Option (Sl A) := if (s.getD []).length + l.length ≤ 4294967296 then some (appS s l) else none
theorem appS_getD {A : Type} (s : Sl A) (l : List A) : (appS s l).getD [] = s.getD [] ++ l := by
  cases s with
  | none => cases l <;> rfl
  | some k => rfl
theorem appO_some {A : Type} {s : Sl A} {l : List A} (h : (s.getD []).length + l.length ≤ 4294967296) : appO s l = some (appS s l) := if_pos h
theorem bytes_le {n b : Nat} (hn : n ≤ 4294967296) (hb : b ≤ 1024) : n * b ≤ maxBytes ∧ n ≤ maxBytes := by
  have h1 : n * b ≤ 4294967296 * 1024 := Nat.mul_le_mul hn hb
  have h2 : maxBytes = 140737488355328 := rfl
  omega
theorem Hold.append {h : Heap} {L : List Ent} (O : Hold B h L) (i : Nat) {x src : AV} {s : Sl A} {new : List A} {bytes : Nat} (hi : L[i]? = some (x, obS s)) (hs : aSrc false (Row.w A) src h = some (new.map Row.cells)) (hb : bytes ≤ 1024) (hl : (s.getD []).length + new.length ≤ 4294967296) :
    ∃ x' h', aAppend false (Row.w A) bytes x src h = some (x', h') ∧ Hold B h' (L.set i (x', obS (appS s new))) := by
  obtain ⟨b1, b2⟩ := bytes_le hl hb
  cases s with
  | none =>
    have := O.nilE hi
    subst this
    cases new with
    | nil =>
      refine ⟨nilS, h, ?_, ?_⟩
      · unfold aAppend
        rw [hs]
        rfl
      · have : L.set i (nilS, obS (appS (none : Sl A) [])) = L := List.ext_getElem? fun j => by
          by_cases e : i = j
          · subst e
            rw [List.getElem?_set_self (List.getElem?_eq_some_iff.1 hi).1, hi]
            rfl
          · rw [List.getElem?_set_ne e]
        rw [this]
        exact O
    | cons a new =>
      refine ⟨_, _, ?_, O.fill (.sl (Row.w A) ((a :: new).map Row.cells)) rfl hi⟩
      unfold aAppend
      rw [hs]
      simp only [nilS]
      rw [if_neg (by simp)]
      simp only [Option.getD_none, List.length_nil, Nat.zero_add] at b1 b2
      rw [if_pos (by simpa using ⟨b1, b2⟩)]
      rfl
  | some l =>
    obtain ⟨o, rfl, h2⟩ := O.sl (k := Row.w A) (rows := l.map Row.cells) hi
    refine ⟨_, _, ?_, O.update (o := o) (v' := .sl (Row.w A) ((l ++ new).map Row.cells)) hi rfl rfl⟩
    simp only [Option.getD_some] at b1 b2
    unfold aAppend
    rw [hs]
    simp only [h2, List.length_map]
    rw [if_pos ⟨trivial, trivial, trivial, b1, b2, Nat.le_refl _⟩]
    have e1 : List.take l.length (l.map (Row.cells (A := A))) = l.map Row.cells := List.take_of_length_le (by simp)
    have e2 : List.drop (l.length + new.length) (l.map (Row.cells (A := A))) = [] := List.drop_eq_nil_of_le (by simp)
    rw [e1, e2]
    simp [EV.at]
theorem sim_append {γ δ : Type} {h : Heap} {L : List Ent} (O : Hold B h L) (i : Nat) {x src : AV} {s : Sl A} (new : List A) {bytes : Nat} (hi : L[i]? = some (x, obS s)) (hs : aSrc false (Row.w A) src h = some (new.map Row.cells)) (hb : bytes ≤ 1024)
    {F : AV → Heap → Option γ} {G : Sl A → Option δ} {Q : δ → γ → Prop} (K : ∀ x' h', Hold B h' (L.set i (x', obS (appS s new))) → Sim (F x' h') (G (appS s new)) Q) : Sim (obind2 (aAppend false (Row.w A) bytes x src h) F) (obind (appO s new) G) Q := by
  unfold appO
  split
  · rename_i hl
    obtain ⟨x', h', e, O'⟩ := O.append i hi hs hb hl
    rw [e]
    exact K x' h' O'
  · exact sim_no
/-- The rows of an owned slice, or of one that is only read, as what is appended. -/
theorem Hold.src {h : Heap} {L : List Ent} (O : Hold B h L) (i : Nat) {x : AV} {s : Sl A} (hi : L[i]? = some (x, obS s)) : aSrc false (Row.w A) x h = some ((s.getD []).map Row.cells) := by
  cases s with
  | none =>
    have := O.nilE hi
    subst this
    rfl
  | some l =>
    obtain ⟨o, rfl, h2⟩ := O.sl (k := Row.w A) (rows := l.map Row.cells) hi
    simp [aSrc, h2, List.take_of_length_le]
/-- A new slice of given elements. -/
theorem sim_build {γ δ : Type} {h : Heap} {L : List Ent} (O : Hold B h L) (l : List A) {z : List AV} {n : Nat} {parts : List (Nat × AV)} (hz : z.length = Row.w A) (hp : aFillRows (zrows z n) parts = some (l.map Row.cells)) (hn : n = l.length)
    {F : AV → Heap → Option γ} {Y : Option δ} {Q : δ → γ → Prop} (K : ∀ x' h', Hold B h' (L ++ [(x', obS (some l))]) → Sim (F x' h') Y Q) : Sim (obind2 (aBuildSlice z n parts h) F) Y Q := by
  subst hn
  have e : aBuildSlice z l.length parts h = some (.sl h.length l.length 0 l.length, h ++ [⟨Row.w A, l.map Row.cells⟩]) := by
    unfold aBuildSlice
    rw [hp, hz]
  rw [e]
  have := O.alloc (.sl (Row.w A) (l.map Row.cells)) rfl
  refine K _ _ ?_
  simpa [EV.at, obS] using this
def makeO (a : A) (n : Int) : Option (List A) := if 0 ≤ n ∧ n ≤ 4294967296 then some (List.replicate n.toNat a) else none
def setS (s : Sl A) (i : Int) (a : A) : Sl A := s.map fun l => l.set i.toNat a
/-- A table of results: nil, or new memory. -/
def rS (s : Sl A) : AV := match s with
  | none => nilS
  | some l => .nw (Row.w A) (l.map Row.cells)
theorem Hold.rel [NR A] {h : Heap} {L : List Ent} (O : Hold B h L) (i : Nat) {x : AV} {s : Sl A} (hi : L[i]? = some (x, obS s)) : release h depth x = some (rS s) := by
  cases s with
  | none =>
    have := O.nilE hi
    subst this
    exact release_nil h
  | some l =>
    obtain ⟨o, rfl, h2⟩ := O.sl (k := Row.w A) (rows := l.map Row.cells) hi
    have e1 : ids h depth (.sl o (l.map (Row.cells (A := A))).length 0 (l.map (Row.cells (A := A))).length) = [(o, l.length)] := by
      show (match h[o]? with | some ob => (o, _) :: (ob.rows.take _).flatMap fun (r : List AV) => r.flatMap (ids h 7) | none => []) = _
      rw [h2]
      simp only [List.length_map]
      rw [List.take_of_length_le (by simp), NR.ids_rows]
    unfold release
    rw [e1]
    show (match nodupB [o] with | true => Eng.rel h depth _ | false => none) = _
    have : nodupB [o] = true := rfl
    rw [this]
    show (match h[o]? with | some ob => if ob.rows.length = _ ∧ 0 = 0 ∧ _ ≤ _ then (match omap (omap (Eng.rel h 7)) (ob.rows.take _) with | some rows => some (AV.nw ob.k rows) | none => none) else none | none => none) = _
    rw [h2]
    simp only [List.length_map]
    rw [if_pos ⟨trivial, trivial, Nat.le_refl _⟩, List.take_of_length_le (by simp), NR.rel_rows]
    rfl
theorem sim_hand [Scal A] {γ δ : Type} {h : Heap} {L : List Ent} (O : Hold B h L) {s : Sl A} {ok : Bool}
    {F : AV → Heap → Option γ} {Y : Option δ} {Q : δ → γ → Prop} (K : ∀ x' h', Hold B h' (L ++ [(x', obS s)]) → Sim (F x' h') Y Q) : Sim (obind2 (hand (rS s) ok h) F) Y Q := by
  cases s with
  | none =>
    show Sim (obind2 (hand nilS ok h) F) Y Q
    rw [hand_nil]
    exact K _ _ O.addnil
  | some l =>
    show Sim (obind2 (hand (nwl l) ok h) F) Y Q
    rw [hand_nwl]
    have := O.alloc (.sl (Row.w A) (l.map Row.cells)) rfl
    refine K _ _ ?_
    simpa [EV.at, obS] using this
end slices
end hold
instance : NR Int := ⟨fun _ => rfl⟩
instance : NR Bool := ⟨fun _ => rfl⟩
instance : NR ByteArray := ⟨fun _ => rfl⟩
instance : NR UInt8 := ⟨fun _ => rfl⟩
instance {A : Type} [Row A] : NR (Sl A) := ⟨fun s => by cases s <;> rfl⟩

/-! ### Small operations -/

theorem conv_byte (b : UInt8) : aConvInt .i64 (bt b) = some (iv (b.toNat : Int)) := by
  have h0 : aConvInt .i64 (bt b) = some (iv (wr (b.toNat : Int))) := rfl
  have := b.toNat_lt
  rw [h0, wr_id (by omega) (by omega)]
def byteI (n : Int) : UInt8 := (IntKind.u8.wrap n).toNat.toUInt8
theorem conv_u8 (n : Int) : aConvInt .u8 (iv n) = some (bt (byteI n)) := by
  have h0 : aConvInt .u8 (iv n) = some (.sc (.int .u8 (IntKind.u8.wrap n))) := rfl
  have h1 : 0 ≤ IntKind.u8.wrap n ∧ IntKind.u8.wrap n < 256 := by
    simp only [IntKind.wrap, IntKind.bits, IntKind.signed]
    simp only [Bool.false_and, Bool.false_eq_true, if_false]
    omega
  rw [h0]
  unfold bt byteI
  congr 3
  have h3 : ((IntKind.u8.wrap n).toNat.toUInt8).toNat = (IntKind.u8.wrap n).toNat := by
    simp [Nat.toUInt8, UInt8.toNat_ofNat]
    omega
  rw [h3]
  omega
def quoI (a b : Int) : Option Int := bif decide (b = 0) then none else some (wr (a.tdiv b))
def remI (a b : Int) : Option Int := bif decide (b = 0) then none else some (a.tmod b)
/-! ### Parts of slices and strings -/

def getB (s : ByteArray) (i : Int) : Option UInt8 := getI (bl s) i
theorem sim_getB {γ δ : Type} {s : ByteArray} {i : Int} {F : AV → Option γ} {G : UInt8 → Option δ} {Q : δ → γ → Prop} (K : ∀ b, Sim (F (bt b)) (G b) Q) : Sim (obind (aIndexStr (sv s) (iv i)) F) (obind (getB s i) G) Q := by
  rw [idx_str]
  unfold getB getI
  rw [bl_len]
  cases idx (iv i) s.size with
  | none => exact sim_no
  | some m =>
    simp only [obind_sm]
    cases (bl s)[m]? with
    | none => exact sim_no
    | some b => exact K b
def catO (a b : ByteArray) : Option ByteArray := if ((a.size + b.size : Nat) : Int) ≤ 9223372036854775807 then some (a ++ b) else none
theorem sim_cat {γ δ : Type} {a b : ByteArray} {F : AV → Option γ} {G : ByteArray → Option δ} {Q : δ → γ → Prop} (K : ∀ c, Sim (F (sv c)) (G c) Q) : Sim (obind (aBin .add (sv a) (sv b)) F) (obind (catO a b) G) Q := by
  have e : aBin .add (sv a) (sv b) = (catO a b).map sv := by
    have h0 : aBin .add (sv a) (sv b) = (match (if ((a.size + b.size : Nat) : Int) ≤ 9223372036854775807 then some (Value.string (a ++ b)) else none) with | some v => some (AV.sc v) | none => none) := rfl
    rw [h0]
    unfold catO
    by_cases h : ((a.size + b.size : Nat) : Int) ≤ 9223372036854775807
    · rw [if_pos h, if_pos h]
      rfl
    · rw [if_neg h, if_neg h]
      rfl
  rw [e]
  cases catO a b with
  | none => exact sim_no
  | some c => exact K c
def bndI (x : Option Int) (d n : Nat) : Option Nat := match x with
  | none => some d
  | some i => idx (iv i) (n + 1)
def subS {A : Type} (s : Sl A) (lo hi : Option Int) : Option (Sl A) :=
  obind (bndI hi (s.getD []).length (s.getD []).length) fun h => obind (bndI lo 0 h) fun l => some (s.map fun k => (k.take h).drop l)
def subB (s : ByteArray) (lo hi : Option Int) : Option ByteArray :=
  obind (bndI hi s.size s.size) fun h => obind (bndI lo 0 h) fun l => some (s.extract l h)
theorem sim_subBX {γ δ : Type} {s : ByteArray} {F : AV → Option γ} {G : ByteArray → Option δ} {Q : δ → γ → Prop} (lo hi : Option Int) (K : ∀ c, Sim (F (sv c)) (G c) Q) : Sim (obind (aSliceStr (sv s) (lo.map iv) (hi.map iv)) F) (obind (subB s lo hi) G) Q := by
  have hb : ∀ (x : Option Int) d n, bound (x.map iv) d n = bndI x d n := fun x d n => by cases x <;> rfl
  have e : aSliceStr (sv s) (lo.map iv) (hi.map iv) = (subB s lo hi).map sv := by
    show (match bound (hi.map iv) s.size s.size with | some h => (match bound (lo.map iv) 0 h with | some l => some (AV.sc (.string (s.extract l h))) | none => none) | none => none) = _
    rw [hb]
    unfold subB
    cases bndI hi s.size s.size with
    | none => rfl
    | some hh =>
      simp only [hb, obind_sm]
      cases bndI lo 0 hh <;> rfl
  rw [e]
  cases subB s lo hi with
  | none => exact sim_no
  | some c => exact K c
section
variable {γ δ : Type} {s : ByteArray} {F : AV → Option γ} {G : ByteArray → Option δ} {Q : δ → γ → Prop}
theorem sim_subB10 {lo : Int} (K : ∀ c, Sim (F (sv c)) (G c) Q) : Sim (obind (aSliceStr (sv s) (some (iv lo)) none) F) (obind (subB s (some lo) none) G) Q := sim_subBX (some lo) none K
theorem sim_subB01 {hi : Int} (K : ∀ c, Sim (F (sv c)) (G c) Q) : Sim (obind (aSliceStr (sv s) none (some (iv hi))) F) (obind (subB s none (some hi)) G) Q := sim_subBX none (some hi) K
theorem sim_subB11 {lo hi : Int} (K : ∀ c, Sim (F (sv c)) (G c) Q) : Sim (obind (aSliceStr (sv s) (some (iv lo)) (some (iv hi))) F) (obind (subB s (some lo) (some hi)) G) Q := sim_subBX (some lo) (some hi) K
end
section
variable {A γ δ : Type} [Row A] {s : Sl A} {h : Heap} {F : AV → Option γ} {G : Sl A → Option δ} {Q : δ → γ → Prop}
end

/-! ### More of what is owned -/

section hold2
variable {B : Base}
theorem sel_sub {L : List Ent} : ∀ (js : List Nat), js.Nodup → (L.filterMap fun e => idOf e.1).Nodup → ((js.filterMap (L[·]?)).filterMap fun e => idOf e.1).Nodup := by
  intro js hj hn
  induction js with
  | nil => simp
  | cons j js ih =>
    have h1 := List.nodup_cons.1 hj
    rw [List.filterMap_cons]
    split
    · exact ih h1.2
    · rename_i e he
      rw [List.filterMap_cons]
      split
      · exact ih h1.2
      · rename_i o ho
        refine List.nodup_cons.2 ⟨fun hm => ?_, ih h1.2⟩
        obtain ⟨e2, h2, h3⟩ := List.mem_filterMap.1 hm
        obtain ⟨j2, h4, h5⟩ := List.mem_filterMap.1 h2
        have := nodup_get hn he h5 ho h3
        subst this
        exact h1.1 h4
/-- Some of what is owned, in another order. -/
theorem Hold.sel {h : Heap} {L L' : List Ent} (O : Hold B h L) (js : List Nat) (hj : js.Nodup) (e : L' = js.filterMap (L[·]?)) : Hold B h L' := by
  subst e
  have hm : ∀ e ∈ js.filterMap (L[·]?), e ∈ L := fun e he => by
    obtain ⟨j, _, h2⟩ := List.mem_filterMap.1 he
    exact List.mem_of_getElem? h2
  exact ⟨fun e he => O.ok e (hm e he), sel_sub js hj O.nd, O.len, O.keep, fun e he => O.mine e (hm e he)⟩
theorem Hold.start {h : Heap} {L : List Ent} {i o : Nat} {x : AV} {v : EV} (O : Hold B h L) (hi : L[i]? = some (x, v)) (hx : idOf x = some o) : Hold ⟨h, [o]⟩ h [(x, v)] :=
  ⟨fun e he => by
    have : e = (x, v) := by simpa using he
    subst this
    exact O.ok _ (List.mem_of_getElem? hi), by simp [hx], Nat.le_refl _, fun _ _ _ => rfl, fun e he o' ho' => by
    have : e = (x, v) := by simpa using he
    subst this
    rw [hx] at ho'
    cases ho'
    exact .inl (by simp)⟩

section
variable {A : Type} [Row A]
theorem Hold.snap7 [NR A] {h : Heap} {L : List Ent} (O : Hold B h L) (i : Nat) {x : AV} {s : Sl A} (hi : L[i]? = some (x, obS s)) (d : Nat := 6) : snap h (d + 1) x = some (Sl.enc s) := by
  cases s with
  | none =>
    have := O.nilE hi
    subst this
    rfl
  | some l =>
    obtain ⟨o, rfl, ho⟩ := O.sl (k := Row.w A) (rows := l.map Row.cells) hi
    show (match h[o]? with | some ob => if ob.rows.length = _ ∧ 0 + _ ≤ _ then (match omap (omap (snap h d)) ((ob.rows.drop 0).take _) with | some rows => some (AV.fs ob.k rows) | none => none) else none | none => none) = _
    rw [ho]
    simp only [List.length_map]
    rw [if_pos ⟨trivial, by omega⟩, List.drop_zero, List.take_of_length_le (by simp), NR.snap_rows]
    rfl
theorem omap_nr (h : Heap) (d : Nat) {cs : List AV} (hc : cs.all isNR = true) : omap (snap h d) cs = some cs := omap_id fun c hm => snap_nr h d (List.all_eq_true.1 hc c hm)
theorem snapD_nr [Cod A] [NR A] (h : Heap) (a : A) (he : enc a = .agg (Row.cells a)) : snapD h (.agg (Row.cells a)) = some a := by
  unfold snapD
  have : snap h depth (.agg (Row.cells a)) = some (.agg (Row.cells a)) := by
    show (match omap (snap h 7) (Row.cells a) with | some cs => some (AV.agg cs) | none => none) = _
    rw [omap_nr h 7 (NR.nr a)]
  rw [this, obind_sm, ← he]
  exact Cod.de a
/-- What a pointer shows. -/
def Pt.get {A : Type} (p : Pt A) : Option A := p.tab[p.i]?
@[simp] theorem get_pt1 {A : Type} (a : A) : (⟨[a], 0⟩ : Pt A).get = some a := rfl
theorem get_ptAt {A : Type} {l : List A} {m : Nat} {a : A} (h : l[m]? = some a) : (⟨l, m⟩ : Pt A).get = some a := h
theorem matL_sc {d : Nat} {ps : List AV} (hp : ps.all isSc = true) (b : Nat) : matL (mat d) ps b = (ps, []) := matL_id fun c hc b => mat_sc d b (List.all_eq_true.1 hp c hc)
end

end hold2
/-! ### Calls: by a plain typed function -/

/-- The contract of a function of 0 arguments: the plain function `t`, its results told by `e`. -/
def C0 {Z : Type}  (e : Z → AV) (t : Option Z) : List AV → Option AV := R0 (obind (t ) fun c => some (e c))
/-- The contract of a function of 1 arguments: the plain function `t`, its results told by `e`. -/
def C1 {A Z : Type} [Cod A] (e : Z → AV) (t : A → Option Z) : List AV → Option AV := R1 (fun a0 => obind (t a0) fun c => some (e c))
theorem pureC1 {P : Program} {env : Nat → Contract} (henv : EnvOK P env) (hm : P.follows .mixedOrders = true) {g : Nat} (hb : HasBody P g) {A Z : Type} [Cod A] {e : Z → AV} {t : A → Option Z}
    (hF : ∀ (a0 : A), Sim (denFn P env g [enc a0] []) (t a0) fun c p => release p.2 depth p.1 = some (e c)) : PureOK P g (C1 e t) :=
  pureR1 henv hm hb fun a0 r hr => by
    cases h : t a0 with
    | none => rw [h] at hr; cases hr
    | some c =>
      rw [h] at hr
      cases hr
      obtain ⟨⟨r', h'⟩, h1, h2⟩ := hF a0 c h
      exact ⟨r', h', h1, h2⟩
theorem sim_call1 {γ δ : Type} {A Z : Type} [Cod A] {env : Nat → Contract} {g : Nat} {e : Z → AV} {t : A → Option Z} {x0 : AV} {a0 : A} {h : Heap} {F : AV → Heap → Option γ} {G : Z → Option δ} {Q : δ → γ → Prop} (he : env g = .pure (C1 e t)) (s0 : snapD h x0 = some a0)
    (K : ∀ c, Sim (obind2 (hand (e c) ([x0].all (noRef depth)) h) F) (G c) Q) : Sim (obind2 (aCall (env g) [x0] h) F) (obind (t a0) G) Q := by
  rw [he, aCall_pure]
  unfold C1
  rw [callR1, s0, obind_sm]
  cases t a0 with
  | none => exact sim_no
  | some c => exact K c
theorem sim_callV1 {γ δ : Type} {A Z : Type} [Cod A] [CodR Z] {env : Nat → Contract} {g : Nat} {t : A → Z} {x0 : AV} {a0 : A} {h : Heap} {F : AV → Heap → Option γ} {G : Z → Option δ} {Q : δ → γ → Prop} (he : env g = .pure (T1 t)) (s0 : snapD h x0 = some a0)
    (K : ∀ c, Sim (F (enc c) h) (G c) Q) : Sim (obind2 (aCall (env g) [x0] h) F) (obind (some (t a0)) G) Q := by
  rw [he, aCall_pure, callT1, s0, obind_sm]
  exact K _
theorem sim_callQ1 {γ δ : Type} {A Z : Type} [Cod A] {env : Nat → Contract} {g : Nat} {e : Z → AV} {t : A → Option Z} {x0 : AV} {a0 : A} {h : Heap} {F : AV → Heap → Option γ} {G : Z → Option δ} {Q : δ → γ → Prop} (he : env g = .pure (C1 e t)) (s0 : snapD h x0 = some a0)
    (K : ∀ c, Sim (obind2 (hand (e c) ([x0].all (noRef depth)) h) F) (G c) Q) : Sim (obind2 (aCallQ (env g) [x0] h) F) (obind (t a0) G) Q := by
  rw [he, aCallQ_pure]
  unfold C1
  rw [callR1, s0, obind_sm]
  cases t a0 with
  | none => exact sim_no
  | some c => exact K c
/-- The contract of a function of 2 arguments: the plain function `t`, its results told by `e`. -/
def C2 {A B Z : Type} [Cod A] [Cod B] (e : Z → AV) (t : A → B → Option Z) : List AV → Option AV := R2 (fun a0 a1 => obind (t a0 a1) fun c => some (e c))
theorem pureC2 {P : Program} {env : Nat → Contract} (henv : EnvOK P env) (hm : P.follows .mixedOrders = true) {g : Nat} (hb : HasBody P g) {A B Z : Type} [Cod A] [Cod B] {e : Z → AV} {t : A → B → Option Z}
    (hF : ∀ (a0 : A) (a1 : B), Sim (denFn P env g [enc a0, enc a1] []) (t a0 a1) fun c p => release p.2 depth p.1 = some (e c)) : PureOK P g (C2 e t) :=
  pureR2 henv hm hb fun a0 a1 r hr => by
    cases h : t a0 a1 with
    | none => rw [h] at hr; cases hr
    | some c =>
      rw [h] at hr
      cases hr
      obtain ⟨⟨r', h'⟩, h1, h2⟩ := hF a0 a1 c h
      exact ⟨r', h', h1, h2⟩
theorem sim_call2 {γ δ : Type} {A B Z : Type} [Cod A] [Cod B] {env : Nat → Contract} {g : Nat} {e : Z → AV} {t : A → B → Option Z} {x0 x1 : AV} {a0 : A} {a1 : B} {h : Heap} {F : AV → Heap → Option γ} {G : Z → Option δ} {Q : δ → γ → Prop} (he : env g = .pure (C2 e t)) (s0 : snapD h x0 = some a0) (s1 : snapD h x1 = some a1)
    (K : ∀ c, Sim (obind2 (hand (e c) ([x0, x1].all (noRef depth)) h) F) (G c) Q) : Sim (obind2 (aCall (env g) [x0, x1] h) F) (obind (t a0 a1) G) Q := by
  rw [he, aCall_pure]
  unfold C2
  rw [callR2, s0, obind_sm, s1, obind_sm]
  cases t a0 a1 with
  | none => exact sim_no
  | some c => exact K c
theorem sim_callVQ2 {γ δ : Type} {A B Z : Type} [Cod A] [Cod B] [CodR Z] {env : Nat → Contract} {g : Nat} {t : A → B → Z} {x0 x1 : AV} {a0 : A} {a1 : B} {h : Heap} {F : AV → Heap → Option γ} {G : Z → Option δ} {Q : δ → γ → Prop} (he : env g = .pure (T2 t)) (s0 : snapD h x0 = some a0) (s1 : snapD h x1 = some a1)
    (K : ∀ c, Sim (F (enc c) h) (G c) Q) : Sim (obind2 (aCallQ (env g) [x0, x1] h) F) (obind (some (t a0 a1)) G) Q := by
  rw [he, aCallQ_pure, callT2, s0, obind_sm, s1, obind_sm]
  exact K _
/-- The contract of a function of 3 arguments: the plain function `t`, its results told by `e`. -/
def C3 {A B C Z : Type} [Cod A] [Cod B] [Cod C] (e : Z → AV) (t : A → B → C → Option Z) : List AV → Option AV := R3 (fun a0 a1 a2 => obind (t a0 a1 a2) fun c => some (e c))
/-- The contract of a function of 4 arguments: the plain function `t`, its results told by `e`. -/
def C4 {A B C D Z : Type} [Cod A] [Cod B] [Cod C] [Cod D] (e : Z → AV) (t : A → B → C → D → Option Z) : List AV → Option AV := R4 (fun a0 a1 a2 a3 => obind (t a0 a1 a2 a3) fun c => some (e c))
/-- The contract of a function of 5 arguments: the plain function `t`, its results told by `e`. -/
def C5 {A B C D E Z : Type} [Cod A] [Cod B] [Cod C] [Cod D] [Cod E] (e : Z → AV) (t : A → B → C → D → E → Option Z) : List AV → Option AV := R5 (fun a0 a1 a2 a3 a4 => obind (t a0 a1 a2 a3 a4) fun c => some (e c))
/-- The contract of a function of 6 arguments: the plain function `t`, its results told by `e`. -/
def C6 {A B C D E F Z : Type} [Cod A] [Cod B] [Cod C] [Cod D] [Cod E] [Cod F] (e : Z → AV) (t : A → B → C → D → E → F → Option Z) : List AV → Option AV := R6 (fun a0 a1 a2 a3 a4 a5 => obind (t a0 a1 a2 a3 a4 a5) fun c => some (e c))
/-- The contract of a function of 7 arguments: the plain function `t`, its results told by `e`. -/
def C7 {A B C D E F G Z : Type} [Cod A] [Cod B] [Cod C] [Cod D] [Cod E] [Cod F] [Cod G] (e : Z → AV) (t : A → B → C → D → E → F → G → Option Z) : List AV → Option AV := R7 (fun a0 a1 a2 a3 a4 a5 a6 => obind (t a0 a1 a2 a3 a4 a5 a6) fun c => some (e c))
/-- The contract of a function of 8 arguments: the plain function `t`, its results told by `e`. -/
def C8 {A B C D E F G H Z : Type} [Cod A] [Cod B] [Cod C] [Cod D] [Cod E] [Cod F] [Cod G] [Cod H] (e : Z → AV) (t : A → B → C → D → E → F → G → H → Option Z) : List AV → Option AV := R8 (fun a0 a1 a2 a3 a4 a5 a6 a7 => obind (t a0 a1 a2 a3 a4 a5 a6 a7) fun c => some (e c))
/-! ### Guarded runs, side by side; calls that write -/

section
variable {α γ δ : Type} {Q : δ → γ → Prop}
theorem resL_nil (h : Heap) : resL h [] = some [] := rfl
theorem resL_v {h : Heap} {v : AV} {r : List RS} {l : List AV} (e : resL h r = some l) : resL h (.v v :: r) = some (v :: l) := by simp [resL, e]
theorem resL_c {h : Heap} {g : Bool} {s : Nat} {a v : AV} {r : List RS} {l : List AV} (ea : aLoad g s a h = some v) (e : resL h r = some l) : resL h (.c g s a :: r) = some (v :: l) := by simp [resL, e, ea]
theorem sim_retL {δ : Type} {h : Heap} {rs : List RS} {l : List AV} {Y : Option δ} {Q : δ → AV × Heap → Prop} (e : resL h rs = some l) (K : Sim (some (pack l, h)) Y Q) : Sim (retL rs h) Y Q := by
  unfold retL
  rw [e]
  exact K
theorem release_of {h : Heap} {v r : AV} (hn : ((ids h depth v).map (·.1)).Nodup) (hr : rel h depth v = some r) : release h depth v = some r := by
  unfold release
  rw [nodupB_of hn]
  exact hr
theorem ids_tup (h : Heap) (cs : List AV) : ids h depth (.tup cs) = cs.flatMap (ids h 7) := rfl
theorem ids_agg (h : Heap) (d : Nat) (cs : List AV) : ids h (d + 1) (.agg cs) = cs.flatMap (ids h d) := rfl
theorem ids_aggD (h : Heap) (cs : List AV) : ids h depth (.agg cs) = cs.flatMap (ids h 7) := rfl
theorem ids_iv (h : Heap) (d : Nat) (n : Int) : ids h d (iv n) = [] := ids_sc h d rfl
theorem ids_bv (h : Heap) (d : Nat) (n : Bool) : ids h d (bv n) = [] := ids_sc h d rfl
theorem ids_sv (h : Heap) (d : Nat) (n : ByteArray) : ids h d (sv n) = [] := ids_sc h d rfl
theorem ids_bt (h : Heap) (d : Nat) (n : UInt8) : ids h d (bt n) = [] := ids_sc h d rfl
theorem ids_nilS (h : Heap) (d : Nat) : ids h d nilS = [] := ids_sc h d rfl
theorem ids_enc {A : Type} [Row A] (h : Heap) (d : Nat) (s : Sl A) : ids h d (Sl.enc s) = [] := ids_nr h d (nr_sl s)
theorem rel_tup (h : Heap) (cs : List AV) : rel h depth (.tup cs) = obind (omap (rel h 7) cs) fun cs => some (.tup cs) := by
  show (match omap (rel h 7) cs with | some cs => some (AV.tup cs) | none => none) = _
  cases omap (rel h 7) cs <;> rfl
theorem rel_agg (h : Heap) (d : Nat) (cs : List AV) : rel h (d + 1) (.agg cs) = obind (omap (rel h d) cs) fun cs => some (.agg cs) := by
  show (match omap (rel h d) cs with | some cs => some (AV.agg cs) | none => none) = _
  cases omap (rel h d) cs <;> rfl
theorem rel_aggD (h : Heap) (cs : List AV) : rel h depth (.agg cs) = obind (omap (rel h 7) cs) fun cs => some (.agg cs) := rel_agg h 7 cs
theorem rel_iv (h : Heap) (d : Nat) (n : Int) : rel h d (iv n) = some (iv n) := rel_sc h d rfl
theorem rel_bv (h : Heap) (d : Nat) (n : Bool) : rel h d (bv n) = some (bv n) := rel_sc h d rfl
theorem rel_sv (h : Heap) (d : Nat) (n : ByteArray) : rel h d (sv n) = some (sv n) := rel_sc h d rfl
theorem rel_bt (h : Heap) (d : Nat) (n : UInt8) : rel h d (bt n) = some (bt n) := rel_sc h d rfl
theorem rel_nilS (h : Heap) (d : Nat) : rel h d nilS = some nilS := rel_sc h d rfl
theorem rel_enc {A : Type} [Row A] (h : Heap) (d : Nat) (s : Sl A) : rel h d (Sl.enc s) = some (Sl.enc s) := rel_nr h d (nr_sl s)
theorem omapc {α β : Type} (f : α → Option β) (a : α) (l : List α) : omap f (a :: l) = obind (f a) fun b => obind (omap f l) fun bs => some (b :: bs) := omap_cons f a l
theorem omapn {α β : Type} (f : α → Option β) : omap f [] = some [] := rfl
section
variable {A : Type} [Row A] [NR A] {B : Base}
theorem Hold.idsD {h : Heap} {L : List Ent} (O : Hold B h L) (i : Nat) {x : AV} {s : Sl A} (hi : L[i]? = some (x, obS s)) (d : Nat) : (ids h (d + 1) x).map (·.1) = (idOf x).toList := by
  cases s with
  | none =>
    have := O.nilE hi
    subst this
    rfl
  | some l =>
    obtain ⟨o, rfl, h2⟩ := O.sl (k := Row.w A) (rows := l.map Row.cells) hi
    have e1 : ids h (d + 1) (.sl o (l.map (Row.cells (A := A))).length 0 (l.map (Row.cells (A := A))).length) = [(o, l.length)] := by
      show (match h[o]? with | some ob => (o, _) :: (ob.rows.take _).flatMap fun (r : List AV) => r.flatMap (ids h d) | none => []) = _
      rw [h2]
      simp only [List.length_map]
      rw [List.take_of_length_le (by simp), NR.ids_rows]
    rw [e1]
    rfl
theorem Hold.relD {h : Heap} {L : List Ent} (O : Hold B h L) (i : Nat) {x : AV} {s : Sl A} (hi : L[i]? = some (x, obS s)) (d : Nat) : Eng.rel h (d + 1) x = some (rS s) := by
  cases s with
  | none =>
    have := O.nilE hi
    subst this
    rfl
  | some l =>
    obtain ⟨o, rfl, h2⟩ := O.sl (k := Row.w A) (rows := l.map Row.cells) hi
    show (match h[o]? with | some ob => if ob.rows.length = _ ∧ 0 = 0 ∧ _ ≤ _ then (match omap (omap (Eng.rel h d)) (ob.rows.take _) with | some rows => some (AV.nw ob.k rows) | none => none) else none | none => none) = _
    rw [h2]
    simp only [List.length_map]
    rw [if_pos ⟨trivial, trivial, Nat.le_refl _⟩, List.take_of_length_le (by simp), NR.rel_rows]
    rfl
end
/-- What is new in a result, laid out: its value, its objects. -/
def matS {A : Type} [Row A] (s : Sl A) (b : Nat) : AV := match s with
  | none => nilS
  | some l => .sl b l.length 0 l.length
def matH {A : Type} [Row A] (s : Sl A) : Heap := match s with
  | none => []
  | some l => [⟨Row.w A, l.map Row.cells⟩]
theorem mat_rS {A : Type} [Row A] [Scal A] (d b : Nat) (s : Sl A) : mat (d + 1) (rS s) b = (matS s b, matH s) := by
  cases s with
  | none => rfl
  | some l =>
    show (AV.sl b (l.map Row.cells).length 0 (l.map Row.cells).length, (⟨Row.w A, (matR (mat d) (l.map Row.cells) (b + 1)).1⟩ : AObj) :: (matR (mat d) (l.map Row.cells) (b + 1)).2) = _
    rw [mat_rows]
    simp [matS, matH]
theorem noF_rS {A : Type} [Row A] [Scal A] (d : Nat) (s : Sl A) : noF (d + 1) (rS s) = true := by
  cases s with
  | none => rfl
  | some l => exact noF_rows d l
theorem mat_tup (b : Nat) (cs : List AV) : mat depth (.tup cs) b = (.tup (matL (mat 7) cs b).1, (matL (mat 7) cs b).2) := rfl
theorem mat_agg (d b : Nat) (cs : List AV) : mat (d + 1) (.agg cs) b = (.agg (matL (mat d) cs b).1, (matL (mat d) cs b).2) := rfl
theorem mat_aggD (b : Nat) (cs : List AV) : mat depth (.agg cs) b = (.agg (matL (mat 7) cs b).1, (matL (mat 7) cs b).2) := rfl
theorem noF_aggD (cs : List AV) : noF depth (.agg cs) = cs.all (noF 7) := rfl
theorem matLc (m : AV → Nat → AV × Heap) (a : AV) (as : List AV) (b : Nat) : matL m (a :: as) b = ((m a b).1 :: (matL m as (b + (m a b).2.length)).1, (m a b).2 ++ (matL m as (b + (m a b).2.length)).2) := rfl
theorem matLn (m : AV → Nat → AV × Heap) (b : Nat) : matL m [] b = ([], []) := rfl
theorem mat_iv (d b : Nat) (n : Int) : mat d (iv n) b = (iv n, []) := mat_sc d b rfl
theorem mat_bv (d b : Nat) (n : Bool) : mat d (bv n) b = (bv n, []) := mat_sc d b rfl
theorem mat_sv (d b : Nat) (n : ByteArray) : mat d (sv n) b = (sv n, []) := mat_sc d b rfl
theorem mat_bt (d b : Nat) (n : UInt8) : mat d (bt n) b = (bt n, []) := mat_sc d b rfl
theorem mat_nilS (d b : Nat) : mat d nilS b = (nilS, []) := mat_sc d b rfl
theorem noF_tup (cs : List AV) : noF depth (.tup cs) = cs.all (noF 7) := rfl
theorem noF_agg (d : Nat) (cs : List AV) : noF (d + 1) (.agg cs) = cs.all (noF d) := rfl
theorem noF_iv (d : Nat) (n : Int) : noF d (iv n) = true := noF_sc d rfl
theorem noF_bv (d : Nat) (n : Bool) : noF d (bv n) = true := noF_sc d rfl
theorem noF_sv (d : Nat) (n : ByteArray) : noF d (sv n) = true := noF_sc d rfl
theorem noF_bt (d : Nat) (n : UInt8) : noF d (bt n) = true := noF_sc d rfl
theorem noF_nilS (d : Nat) : noF d nilS = true := noF_sc d rfl
theorem Hold.allocS {B : Base} {A : Type} [Row A] {h : Heap} {L : List Ent} (O : Hold B h L) (s : Sl A) : Hold B (h ++ matH s) (L ++ [(matS s h.length, obS s)]) := by
  cases s with
  | none =>
    show Hold B (h ++ []) _
    rw [List.append_nil]
    exact O.addnil
  | some l =>
    have := O.alloc (.sl (Row.w A) (l.map Row.cells)) rfl
    simpa [EV.at, obS, matS, matH] using this
section
variable {γ δ : Type} {B : Base} {h : Heap} {L : List Ent} {ok : Bool} {F : AV → Heap → Option γ} {Y : Option δ} {Q : δ → γ → Prop}
theorem hand_of {r v : AV} {t : Heap} (hn : noF depth r = true) (hm : mat depth r h.length = (v, t)) : hand r ok h = some (v, h ++ t) := by
  unfold hand
  rw [hn, Bool.true_or, if_pos rfl, hm]
theorem sim_hand1 {A1 : Type} [Row A1] (O : Hold B h L) (s1 : Sl A1) (C : AV → AV) (hC : ∀ b, mat depth (C (rS s1)) b = (C (matS s1 b), matH s1)) (hn : noF depth (C (rS s1)) = true)
    (K : ∀ x1 h', Hold B h' (L ++ [(x1, obS s1)]) → Sim (F (C x1) h') Y Q) : Sim (obind2 (hand (C (rS s1)) ok h) F) Y Q := by
  rw [hand_of hn (hC h.length)]
  exact K _ _ (O.allocS s1)
end
theorem Hold.one {B : Base} {A : Type} [Row A] {h : Heap} {L : List Ent} (O : Hold B h L) (i : Nat) {x : AV} {s : Sl A} (hi : L[i]? = some (x, obS s)) : x.cells = [x] ∧ x.flat = true := by
  cases s with
  | none =>
    have := O.nilE hi
    subst this
    exact ⟨rfl, rfl⟩
  | some l =>
    obtain ⟨o, rfl, h2⟩ := O.sl (k := Row.w A) (rows := l.map Row.cells) hi
    exact ⟨rfl, rfl⟩
theorem Hold.nd2 {B : Base} {h : Heap} {L : List Ent} (O : Hold B h L) : (L.flatMap fun e => (idOf e.1).toList).Nodup := by
  have : ∀ L : List Ent, (L.flatMap fun e => (idOf e.1).toList) = L.filterMap fun e => idOf e.1 := by
    intro L
    induction L with
    | nil => rfl
    | cons e L ih =>
      rw [List.flatMap_cons, List.filterMap_cons, ih]
      cases idOf e.1 <;> rfl
  rw [this]
  exact O.nd
end

/-- The source of draws. -/
structure l00Src where
  code : Sl UInt8
  pos : Int
  seed : Int
@[simp] theorem cells_scv (v : Value) : AV.cells (.sc v) = [.sc v] := rfl
@[simp] theorem flat_scv (v : Value) : AV.flat (.sc v) = true := rfl
structure Wd where
  v : Int
instance : CodR Wd where
  enc u := .sc (.int .u64 u.v)
  dec | .sc (.int .u64 n) => some ⟨n⟩ | _ => none
  de _ := rfl
  ed x a h := by
    split at h
    · cases h; rfl
    · cases h
  plain _ := rfl
structure f6dice where
  b : Sl UInt8
  i : Int
  h : Int
def fromA (q : Sl UInt8) : AV := .np 3 [[Sl.enc q, iv 0, .sc (.int .u64 0)]] 0 0
theorem C1_T1 {P : Program} {g : Nat} {A : Type} [Cod A] {t : A → Bool} (h : PureOK P g (T1 t)) : PureOK P g (C1 (fun c : Bool => enc c) fun a => some (t a)) := h
theorem callP0 {A : Type} [Cod A] {env : Nat → Contract} {g : Nat} {t : A → Option Bool} {x : AV} {a : A} {h : Heap} (he : env g = .pure (C1 (fun c : Bool => enc c) t)) (sa : snapD h x = some a) : Sim (aCall (env g) (x :: []) h) (t a) fun b r => r = (bv b, h) := by
  rw [he, aCall_pure]
  unfold C1
  rw [callR1, sa, obind_sm]
  cases t a with
  | none => exact sim_no
  | some c =>
    rw [obind_sm, obind_sm, hand_plain (by rfl)]
    exact sim_ret rfl
theorem callP1 {A X : Type} [Cod A] [Cod X] {env : Nat → Contract} {g : Nat} {t : A → X → Option Bool} {x y : AV} {a : A} {b : X} {h : Heap} (he : env g = .pure (C2 (fun c : Bool => enc c) t)) (sa : snapD h x = some a) (sb : snapD h y = some b) : Sim (aCall (env g) (x :: [y]) h) (t a b) fun b r => r = (bv b, h) := by
  rw [he, aCall_pure]
  unfold C2
  rw [callR2, sa, obind_sm, sb, obind_sm]
  cases t a b with
  | none => exact sim_no
  | some c =>
    rw [obind_sm, obind_sm, hand_plain (by rfl)]
    exact sim_ret rfl
theorem snapD_cloE {X : Type} [Row X] (h : Heap) {g : Nat} (k : Clo g (Pt X)) : snapD h (.fn g [enc k.val]) = some k := by
  have : snap h 7 (enc k.val) = some (enc k.val) := rfl
  exact snapD_clo k.val this
/-- A loop that ends: what holds behind it. -/
theorem loopT_ex {σ ρ : Type} {step : σ → Option (Sum σ ρ)} (Inv : Nat → σ → Prop) (N : Nat) (Post : ρ → Prop)
    (next : ∀ k s, k < N → Inv k s → (∃ s', step s = some (.inl s') ∧ Inv (k + 1) s') ∨ ∃ r, step s = some (.inr r) ∧ Post r)
    (fin : ∀ s, Inv N s → ∃ r, step s = some (.inr r) ∧ Post r) {s : σ} (h : Inv 0 s) : ∃ r, loopT step s = some r ∧ Post r := by
  have key : ∀ m k s, k + m = N → Inv k s → ∃ r, loopT step s = some r ∧ Post r := by
    intro m
    induction m with
    | zero =>
      intro k s hk hi
      have : k = N := by omega
      subst this
      obtain ⟨r, h1, h2⟩ := fin s hi
      exact ⟨r, loopT_end h1, h2⟩
    | succ m ih =>
      intro k s hk hi
      rcases next k s (by omega) hi with ⟨s', h1, h2⟩ | ⟨r, h1, h2⟩
      · rw [loopT_next h1]
        exact ih (k + 1) s' (by omega) h2
      · exact ⟨r, loopT_end h1, h2⟩
  exact key N 0 s (by omega) h
/-- A loop along the numbers from `k0` on: `f` tells what it gives at each of them. -/
theorem loopT_at {σ ρ : Type} {step : σ → Option (Sum σ ρ)} (N : Nat) (st : Nat → σ) (r : ρ) (next : ∀ k, k < N → step (st k) = some (.inl (st (k + 1)))) (fin : step (st N) = some (.inr r)) : ∀ k, k ≤ N → loopT step (st k) = some r := by
  have key : ∀ m k, k + m = N → loopT step (st k) = some r := by
    intro m
    induction m with
    | zero =>
      intro k hk
      have : k = N := by omega
      subst this
      exact loopT_end fin
    | succ m ih =>
      intro k hk
      rw [loopT_next (next k (by omega))]
      exact ih (k + 1) (by omega)
  exact fun k hk => key (N - k) k (by omega)
/-- A run along a list: a state, or an early end. -/
def runL {S A R : Type} (f : S → Nat → A → Sum S R) : List A → Nat → S → Sum S R
  | [], _, s => .inl s
  | a :: l, k, s => match f s k a with
    | .inl s' => runL f l (k + 1) s'
    | .inr r => .inr r
/-- A search along a list: nothing is carried. -/
def firstL {A R : Type} (f : Nat → A → Option R) : List A → Nat → Option R
  | [], _ => none
  | a :: l, k => match f k a with
    | some r => some r
    | none => firstL f l (k + 1)
theorem loopT_first {ρ A R : Type} {step : Int → Option (Sum Int ρ)} (l : List A) (f : Nat → A → Option R) (e1 : ρ) (e2 : R → ρ)
    (next : ∀ (k : Nat) a, l[k]? = some a → step (k : Int) = some (match f k a with | none => .inl ((k + 1 : Nat) : Int) | some r => .inr (e2 r)))
    (fin : step ((l.length : Nat) : Int) = some (.inr e1)) : loopT step 0 = some (match firstL f l 0 with | none => e1 | some r => e2 r) := by
  have key : ∀ (suf pre : List A), l = pre ++ suf → loopT step (pre.length : Nat) = some (match firstL f suf pre.length with | none => e1 | some r => e2 r) := by
    intro suf
    induction suf with
    | nil =>
      intro pre hl
      simp at hl
      subst hl
      exact loopT_end fin
    | cons a suf ih =>
      intro pre hl
      have ha : l[pre.length]? = some a := by rw [hl]; simp
      have h1 := next pre.length a ha
      unfold firstL
      cases e : f pre.length a with
      | none =>
        rw [e] at h1
        rw [loopT_next h1]
        have := ih (pre ++ [a]) (by simp [hl])
        simpa using this
      | some r =>
        rw [e] at h1
        exact loopT_end h1
  exact key l [] rfl
theorem firstL_none {A R : Type} {f : Nat → A → Option R} : ∀ {l : List A} {k : Nat}, (∀ i a, l[i]? = some a → f (k + i) a = none) → firstL f l k = none
  | [], _, _ => rfl
  | a :: l, k, h => by
    unfold firstL
    have h0 := h 0 a rfl
    simp only [Nat.add_zero] at h0
    rw [h0]
    exact firstL_none fun i a ha => by
      have := h (i + 1) a (by simpa using ha)
      rw [← this]
      congr 1
      omega
/-- A law that is true. -/
theorem PureOK.mono' {P : Program} {g : Nat} {F F' : List AV → Option AV} (h : PureOK P g F) (hm : ∀ ds r, F' ds = some r → F ds = some r) : PureOK P g F' := fun ds r hr => h ds r (hm ds r hr)
theorem lawC1 {P : Program} {g : Nat} {A : Type} [Cod A] {t : A → Option Bool} (h : PureOK P g (C1 (fun c : Bool => enc c) t)) {ok : A → Bool} (ht : ∀ a, ok a = true → t a = some true) : PureOK P g (G1 ok fun _ => bv true) :=
  h.mono' fun ds r hr => by
    unfold G1 at hr
    unfold C1
    match ds with
    | [] => cases hr
    | [x] =>
      obtain ⟨a, h1, h2⟩ := obind_ex hr
      simp only at h2
      cases e : ok a with
      | false => rw [e] at h2; cases h2
      | true =>
        rw [e] at h2
        cases h2
        show obind (dec x) _ = _
        rw [h1, obind_sm]
        show (obind (t a) fun c => _) = _
        rw [ht a e]
        rfl
    | _ :: _ :: _ => cases hr
theorem nr_iv (n : Int) : isNR (iv n) = true := rfl
theorem nr_bv (n : Bool) : isNR (bv n) = true := rfl
theorem nr_sv (n : ByteArray) : isNR (sv n) = true := rfl
instance : NR Box := ⟨fun _ => rfl⟩
instance : NR Spot := ⟨fun _ => rfl⟩
instance : NR Frac := ⟨fun _ => rfl⟩
instance : NR Point := ⟨fun b => by simp only [Row.cells, Point.cells, List.all_cons, List.all_nil, nr_sl, nr_iv, nr_bv, nr_sv, Bool.and_self]⟩
instance : NR Stroke := ⟨fun b => by simp only [Row.cells, Stroke.cells, List.all_cons, List.all_nil, nr_sl, nr_iv, nr_bv, nr_sv, Bool.and_self]⟩
instance : NR Ink := ⟨fun b => by simp only [Row.cells, Ink.cells, List.all_cons, List.all_nil, nr_sl, nr_iv, nr_bv, nr_sv, Bool.and_self]⟩
instance : NR Note := ⟨fun b => by simp only [Row.cells, Note.cells, List.all_cons, List.all_nil, nr_sl, nr_iv, nr_bv, nr_sv, Bool.and_self]⟩
instance : NR Feat := ⟨fun b => by simp only [Row.cells, Feat.cells, List.all_cons, List.all_nil, nr_sl, nr_iv, nr_bv, nr_sv, Bool.and_self]⟩
instance : NR Pair := ⟨fun b => by simp only [Row.cells, Pair.cells, List.all_cons, List.all_nil, nr_sl, nr_iv, nr_bv, nr_sv, Bool.and_self]⟩
instance : NR Symbol := ⟨fun b => by simp only [Row.cells, Symbol.cells, List.all_cons, List.all_nil, nr_sl, nr_iv, nr_bv, nr_sv, Bool.and_self]⟩
instance : NR Line := ⟨fun b => by simp only [Row.cells, Line.cells, List.all_cons, List.all_nil, nr_sl, nr_iv, nr_bv, nr_sv, Bool.and_self]⟩
instance : NR TreeNode := ⟨fun b => by simp only [Row.cells, TreeNode.cells, List.all_cons, List.all_nil, nr_sl, nr_iv, nr_bv, nr_sv, Bool.and_self]⟩
instance : NR Tree := ⟨fun b => by simp only [Row.cells, Tree.cells, List.all_cons, List.all_nil, nr_sl, nr_iv, nr_bv, nr_sv, Bool.and_self]⟩
instance : NR Bigram := ⟨fun b => by simp only [Row.cells, Bigram.cells, List.all_cons, List.all_nil, nr_sl, nr_iv, nr_bv, nr_sv, Bool.and_self]⟩
instance : NR Model := ⟨fun b => by simp only [Row.cells, Model.cells, List.all_cons, List.all_nil, nr_sl, nr_iv, nr_bv, nr_sv, Bool.and_self]⟩
instance : NR Sentence := ⟨fun b => by simp only [Row.cells, Sentence.cells, List.all_cons, List.all_nil, nr_sl, nr_iv, nr_bv, nr_sv, Bool.and_self]⟩
structure Envelope where
  lowx : (Sl Int)
  highx : (Sl Int)
  lowy : (Sl Int)
  highy : (Sl Int)
  deriving DecidableEq
def Envelope.cells (b : Envelope) : List AV := [Sl.enc b.lowx, Sl.enc b.highx, Sl.enc b.lowy, Sl.enc b.highy]
def Envelope.un : List AV → Option Envelope
  | [c0, c1, c2, c3] => obind (dec c0 : Option (Sl Int)) fun v0 => obind (dec c1 : Option (Sl Int)) fun v1 => obind (dec c2 : Option (Sl Int)) fun v2 => obind (dec c3 : Option (Sl Int)) fun v3 => some ⟨v0, v1, v2, v3⟩
  | _ => none
instance : Row Envelope where
  w := 4
  cells := Envelope.cells
  uncells := Envelope.un
  un b := by
    show (obind (dec (enc b.lowx) : Option (Sl Int)) fun v0 => obind (dec (enc b.highx) : Option (Sl Int)) fun v1 => obind (dec (enc b.lowy) : Option (Sl Int)) fun v2 => obind (dec (enc b.highy) : Option (Sl Int)) fun v3 => some (⟨v0, v1, v2, v3⟩ : Envelope)) = some b
    simp only [Cod.de, obind_sm]
  nu x b h := by
    unfold Envelope.un at h
    split at h
    · obtain ⟨v0, e0, h⟩ := obind_ex h
      obtain ⟨v1, e1, h⟩ := obind_ex h
      obtain ⟨v2, e2, h⟩ := obind_ex h
      obtain ⟨v3, e3, h⟩ := obind_ex h
      cases h
      rw [Cod.ed _ _ e0]
      rw [Cod.ed _ _ e1]
      rw [Cod.ed _ _ e2]
      rw [Cod.ed _ _ e3]
      rfl
    · cases h
  len _ := rfl
  fine b := Row.fine b.lowx ∧ Row.fine b.highx ∧ Row.fine b.lowy ∧ Row.fine b.highy
instance : Cod Envelope where
  enc b := .agg b.cells
  dec | .agg cs => Envelope.un cs | _ => none
  de b := Row.un b
  ed x b h := by
    split at h
    · have e := Row.nu (A := Envelope) _ _ h
      rw [e]; rfl
    · cases h
@[simp] theorem enc_Envelope (b : Envelope) : enc b = .agg [Sl.enc b.lowx, Sl.enc b.highx, Sl.enc b.lowy, Sl.enc b.highy] := rfl
@[simp] theorem cells_Envelope (b : Envelope) : Row.cells b = [Sl.enc b.lowx, Sl.enc b.highx, Sl.enc b.lowy, Sl.enc b.highy] := rfl
instance : NR Envelope := ⟨fun b => by simp only [Row.cells, Envelope.cells, List.all_cons, List.all_nil, nr_sl, nr_iv, nr_bv, nr_sv, Bool.and_self]⟩
structure Part where
  cost : Int
  frm : Int
  deriving DecidableEq
def Part.cells (b : Part) : List AV := [iv b.cost, iv b.frm]
def Part.un : List AV → Option Part
  | [c0, c1] => obind (dec c0 : Option Int) fun v0 => obind (dec c1 : Option Int) fun v1 => some ⟨v0, v1⟩
  | _ => none
instance : Row Part where
  w := 2
  cells := Part.cells
  uncells := Part.un
  un b := by
    show (obind (dec (enc b.cost) : Option Int) fun v0 => obind (dec (enc b.frm) : Option Int) fun v1 => some (⟨v0, v1⟩ : Part)) = some b
    simp only [Cod.de, obind_sm]
  nu x b h := by
    unfold Part.un at h
    split at h
    · obtain ⟨v0, e0, h⟩ := obind_ex h
      obtain ⟨v1, e1, h⟩ := obind_ex h
      cases h
      rw [Cod.ed _ _ e0]
      rw [Cod.ed _ _ e1]
      rfl
    · cases h
  len _ := rfl
  fine b := Row.fine b.cost ∧ Row.fine b.frm
instance : CodR Part where
  enc b := .agg b.cells
  dec | .agg cs => Part.un cs | _ => none
  de b := Row.un b
  ed x b h := by
    split at h
    · have e := Row.nu (A := Part) _ _ h
      rw [e]; rfl
    · cases h
  plain _ := rfl
@[simp] theorem enc_Part (b : Part) : enc b = .agg [iv b.cost, iv b.frm] := rfl
@[simp] theorem cells_Part (b : Part) : Row.cells b = [iv b.cost, iv b.frm] := rfl
instance : Scal Part := ⟨fun _ => rfl⟩
instance : NR Part := ⟨fun b => by simp only [Row.cells, Part.cells, List.all_cons, List.all_nil, nr_sl, nr_iv, nr_bv, nr_sv, Bool.and_self]⟩
structure Ar2 where
  a0 : Int
  a1 : Int
  deriving DecidableEq
def Ar2.cells (b : Ar2) : List AV := [iv b.a0, iv b.a1]
def Ar2.un : List AV → Option Ar2
  | [c0, c1] => obind (dec c0 : Option Int) fun v0 => obind (dec c1 : Option Int) fun v1 => some ⟨v0, v1⟩
  | _ => none
instance : Row Ar2 where
  w := 2
  cells := Ar2.cells
  uncells := Ar2.un
  un b := by
    show (obind (dec (enc b.a0) : Option Int) fun v0 => obind (dec (enc b.a1) : Option Int) fun v1 => some (⟨v0, v1⟩ : Ar2)) = some b
    simp only [Cod.de, obind_sm]
  nu x b h := by
    unfold Ar2.un at h
    split at h
    · obtain ⟨v0, e0, h⟩ := obind_ex h
      obtain ⟨v1, e1, h⟩ := obind_ex h
      cases h
      rw [Cod.ed _ _ e0]
      rw [Cod.ed _ _ e1]
      rfl
    · cases h
  len _ := rfl
  fine b := Row.fine b.a0 ∧ Row.fine b.a1
instance : CodR Ar2 where
  enc b := .agg b.cells
  dec | .agg cs => Ar2.un cs | _ => none
  de b := Row.un b
  ed x b h := by
    split at h
    · have e := Row.nu (A := Ar2) _ _ h
      rw [e]; rfl
    · cases h
  plain _ := rfl
@[simp] theorem enc_Ar2 (b : Ar2) : enc b = .agg [iv b.a0, iv b.a1] := rfl
@[simp] theorem cells_Ar2 (b : Ar2) : Row.cells b = [iv b.a0, iv b.a1] := rfl
instance : Scal Ar2 := ⟨fun _ => rfl⟩
instance : NR Ar2 := ⟨fun b => by simp only [Row.cells, Ar2.cells, List.all_cons, List.all_nil, nr_sl, nr_iv, nr_bv, nr_sv, Bool.and_self]⟩
structure Ar6 where
  a0 : Int
  a1 : Int
  a2 : Int
  a3 : Int
  a4 : Int
  a5 : Int
  deriving DecidableEq
def Ar6.cells (b : Ar6) : List AV := [iv b.a0, iv b.a1, iv b.a2, iv b.a3, iv b.a4, iv b.a5]
def Ar6.un : List AV → Option Ar6
  | [c0, c1, c2, c3, c4, c5] => obind (dec c0 : Option Int) fun v0 => obind (dec c1 : Option Int) fun v1 => obind (dec c2 : Option Int) fun v2 => obind (dec c3 : Option Int) fun v3 => obind (dec c4 : Option Int) fun v4 => obind (dec c5 : Option Int) fun v5 => some ⟨v0, v1, v2, v3, v4, v5⟩
  | _ => none
instance : Row Ar6 where
  w := 6
  cells := Ar6.cells
  uncells := Ar6.un
  un b := by
    show (obind (dec (enc b.a0) : Option Int) fun v0 => obind (dec (enc b.a1) : Option Int) fun v1 => obind (dec (enc b.a2) : Option Int) fun v2 => obind (dec (enc b.a3) : Option Int) fun v3 => obind (dec (enc b.a4) : Option Int) fun v4 => obind (dec (enc b.a5) : Option Int) fun v5 => some (⟨v0, v1, v2, v3, v4, v5⟩ : Ar6)) = some b
    simp only [Cod.de, obind_sm]
  nu x b h := by
    unfold Ar6.un at h
    split at h
    · obtain ⟨v0, e0, h⟩ := obind_ex h
      obtain ⟨v1, e1, h⟩ := obind_ex h
      obtain ⟨v2, e2, h⟩ := obind_ex h
      obtain ⟨v3, e3, h⟩ := obind_ex h
      obtain ⟨v4, e4, h⟩ := obind_ex h
      obtain ⟨v5, e5, h⟩ := obind_ex h
      cases h
      rw [Cod.ed _ _ e0]
      rw [Cod.ed _ _ e1]
      rw [Cod.ed _ _ e2]
      rw [Cod.ed _ _ e3]
      rw [Cod.ed _ _ e4]
      rw [Cod.ed _ _ e5]
      rfl
    · cases h
  len _ := rfl
  fine b := Row.fine b.a0 ∧ Row.fine b.a1 ∧ Row.fine b.a2 ∧ Row.fine b.a3 ∧ Row.fine b.a4 ∧ Row.fine b.a5
instance : CodR Ar6 where
  enc b := .agg b.cells
  dec | .agg cs => Ar6.un cs | _ => none
  de b := Row.un b
  ed x b h := by
    split at h
    · have e := Row.nu (A := Ar6) _ _ h
      rw [e]; rfl
    · cases h
  plain _ := rfl
@[simp] theorem enc_Ar6 (b : Ar6) : enc b = .agg [iv b.a0, iv b.a1, iv b.a2, iv b.a3, iv b.a4, iv b.a5] := rfl
@[simp] theorem cells_Ar6 (b : Ar6) : Row.cells b = [iv b.a0, iv b.a1, iv b.a2, iv b.a3, iv b.a4, iv b.a5] := rfl
instance : Scal Ar6 := ⟨fun _ => rfl⟩
instance : NR Ar6 := ⟨fun b => by simp only [Row.cells, Ar6.cells, List.all_cons, List.all_nil, nr_sl, nr_iv, nr_bv, nr_sv, Bool.and_self]⟩
structure Channel where
  name : ByteArray
  unit : ByteArray
  low : Int
  high : Int
  deriving DecidableEq
def Channel.cells (b : Channel) : List AV := [sv b.name, sv b.unit, iv b.low, iv b.high]
def Channel.un : List AV → Option Channel
  | [c0, c1, c2, c3] => obind (dec c0 : Option ByteArray) fun v0 => obind (dec c1 : Option ByteArray) fun v1 => obind (dec c2 : Option Int) fun v2 => obind (dec c3 : Option Int) fun v3 => some ⟨v0, v1, v2, v3⟩
  | _ => none
instance : Row Channel where
  w := 4
  cells := Channel.cells
  uncells := Channel.un
  un b := by
    show (obind (dec (enc b.name) : Option ByteArray) fun v0 => obind (dec (enc b.unit) : Option ByteArray) fun v1 => obind (dec (enc b.low) : Option Int) fun v2 => obind (dec (enc b.high) : Option Int) fun v3 => some (⟨v0, v1, v2, v3⟩ : Channel)) = some b
    simp only [Cod.de, obind_sm]
  nu x b h := by
    unfold Channel.un at h
    split at h
    · obtain ⟨v0, e0, h⟩ := obind_ex h
      obtain ⟨v1, e1, h⟩ := obind_ex h
      obtain ⟨v2, e2, h⟩ := obind_ex h
      obtain ⟨v3, e3, h⟩ := obind_ex h
      cases h
      rw [Cod.ed _ _ e0]
      rw [Cod.ed _ _ e1]
      rw [Cod.ed _ _ e2]
      rw [Cod.ed _ _ e3]
      rfl
    · cases h
  len _ := rfl
  fine b := Row.fine b.name ∧ Row.fine b.unit ∧ Row.fine b.low ∧ Row.fine b.high
instance : CodR Channel where
  enc b := .agg b.cells
  dec | .agg cs => Channel.un cs | _ => none
  de b := Row.un b
  ed x b h := by
    split at h
    · have e := Row.nu (A := Channel) _ _ h
      rw [e]; rfl
    · cases h
  plain _ := rfl
@[simp] theorem enc_Channel (b : Channel) : enc b = .agg [sv b.name, sv b.unit, iv b.low, iv b.high] := rfl
@[simp] theorem cells_Channel (b : Channel) : Row.cells b = [sv b.name, sv b.unit, iv b.low, iv b.high] := rfl
instance : Scal Channel := ⟨fun _ => rfl⟩
instance : NR Channel := ⟨fun b => by simp only [Row.cells, Channel.cells, List.all_cons, List.all_nil, nr_sl, nr_iv, nr_bv, nr_sv, Bool.and_self]⟩
structure Rows where
  values : (Sl (Sl Int))
  deriving DecidableEq
def Rows.cells (b : Rows) : List AV := [Sl.enc b.values]
def Rows.un : List AV → Option Rows
  | [c0] => obind (dec c0 : Option (Sl (Sl Int))) fun v0 => some ⟨v0⟩
  | _ => none
instance : Row Rows where
  w := 1
  cells := Rows.cells
  uncells := Rows.un
  un b := by
    show (obind (dec (enc b.values) : Option (Sl (Sl Int))) fun v0 => some (⟨v0⟩ : Rows)) = some b
    simp only [Cod.de, obind_sm]
  nu x b h := by
    unfold Rows.un at h
    split at h
    · obtain ⟨v0, e0, h⟩ := obind_ex h
      cases h
      rw [Cod.ed _ _ e0]
      rfl
    · cases h
  len _ := rfl
  fine b := Row.fine b.values
instance : Cod Rows where
  enc b := .agg b.cells
  dec | .agg cs => Rows.un cs | _ => none
  de b := Row.un b
  ed x b h := by
    split at h
    · have e := Row.nu (A := Rows) _ _ h
      rw [e]; rfl
    · cases h
@[simp] theorem enc_Rows (b : Rows) : enc b = .agg [Sl.enc b.values] := rfl
@[simp] theorem cells_Rows (b : Rows) : Row.cells b = [Sl.enc b.values] := rfl
instance : NR Rows := ⟨fun b => by simp only [Row.cells, Rows.cells, List.all_cons, List.all_nil, nr_sl, nr_iv, nr_bv, nr_sv, Bool.and_self]⟩
structure File where
  channels : (Sl Channel)
  strokes : (Sl Rows)
  notes : (Sl Note)
  deriving DecidableEq
def File.cells (b : File) : List AV := [Sl.enc b.channels, Sl.enc b.strokes, Sl.enc b.notes]
def File.un : List AV → Option File
  | [c0, c1, c2] => obind (dec c0 : Option (Sl Channel)) fun v0 => obind (dec c1 : Option (Sl Rows)) fun v1 => obind (dec c2 : Option (Sl Note)) fun v2 => some ⟨v0, v1, v2⟩
  | _ => none
instance : Row File where
  w := 3
  cells := File.cells
  uncells := File.un
  un b := by
    show (obind (dec (enc b.channels) : Option (Sl Channel)) fun v0 => obind (dec (enc b.strokes) : Option (Sl Rows)) fun v1 => obind (dec (enc b.notes) : Option (Sl Note)) fun v2 => some (⟨v0, v1, v2⟩ : File)) = some b
    simp only [Cod.de, obind_sm]
  nu x b h := by
    unfold File.un at h
    split at h
    · obtain ⟨v0, e0, h⟩ := obind_ex h
      obtain ⟨v1, e1, h⟩ := obind_ex h
      obtain ⟨v2, e2, h⟩ := obind_ex h
      cases h
      rw [Cod.ed _ _ e0]
      rw [Cod.ed _ _ e1]
      rw [Cod.ed _ _ e2]
      rfl
    · cases h
  len _ := rfl
  fine b := Row.fine b.channels ∧ Row.fine b.strokes ∧ Row.fine b.notes
instance : Cod File where
  enc b := .agg b.cells
  dec | .agg cs => File.un cs | _ => none
  de b := Row.un b
  ed x b h := by
    split at h
    · have e := Row.nu (A := File) _ _ h
      rw [e]; rfl
    · cases h
@[simp] theorem enc_File (b : File) : enc b = .agg [Sl.enc b.channels, Sl.enc b.strokes, Sl.enc b.notes] := rfl
@[simp] theorem cells_File (b : File) : Row.cells b = [Sl.enc b.channels, Sl.enc b.strokes, Sl.enc b.notes] := rfl
instance : NR File := ⟨fun b => by simp only [Row.cells, File.cells, List.all_cons, List.all_nil, nr_sl, nr_iv, nr_bv, nr_sv, Bool.and_self]⟩
end Go.Eng
