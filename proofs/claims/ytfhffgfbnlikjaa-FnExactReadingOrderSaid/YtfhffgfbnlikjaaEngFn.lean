import Derived.Test.YtfhffgfbnlikjaaEngCode
namespace Go.Eng
set_option linter.unusedVariables false
set_option linter.unusedSimpArgs false
open Go.RowKit
variable {P : Program} {N : Nat} {X : Nat → Prop} {w : World} {ρ : RM}
theorem nodupB_ok : ∀ {l : List Nat}, nodupB l = true → l.Nodup
  | [], _ => List.nodup_nil
  | a :: l, h => by
    simp only [nodupB, Bool.and_eq_true] at h
    exact List.nodup_cons.2 ⟨by simpa using h.1, nodupB_ok h.2⟩
def Told (ρ1 σ : RM) (base : Nat) (is : List (Nat × Nat)) : Prop :=
  ∀ (m o n : Nat), is[m]? = some (o, n) → ∀ io, ρ1 o = some io → σ (base + m) = some ⟨io.b, io.C, io.k, n⟩
theorem Told.left {ρ1 σ : RM} {base : Nat} {is js : List (Nat × Nat)} (h : Told ρ1 σ base (is ++ js)) : Told ρ1 σ base is := fun m o n hm => h m o n (by rw [List.getElem?_append_left (List.getElem?_eq_some_iff.1 hm).1]; exact hm)
theorem Told.right {ρ1 σ : RM} {base k : Nat} {is js : List (Nat × Nat)} (h : Told ρ1 σ base (is ++ js)) (hk : k = base + is.length) : Told ρ1 σ k js := fun m o n hm io hio => by
  have := h (is.length + m) o n (by rw [List.getElem?_append_right (by omega)]; simpa using hm) io hio
  rw [hk, Nat.add_assoc]
  exact this
theorem Told.tail {ρ1 σ : RM} {base : Nat} {i : Nat × Nat} {js : List (Nat × Nat)} (h : Told ρ1 σ base (i :: js)) : Told ρ1 σ (base + 1) js := Told.right (is := [i]) h rfl
def Objs (X : Nat → Prop) (w : World) (σ : RM) (base : Nat) (obs : kA4) : Prop := ∀ m ob, obs[m]? = some ob → ∃ io, σ (base + m) = some io ∧ ORep (Own X σ) w σ io ob
theorem Objs.append {σ : RM} {base k : Nat} {as bs : kA4} (h1 : Objs X w σ base as) (h2 : Objs X w σ k bs) (hk : k = base + as.length) : Objs X w σ base (as ++ bs) := fun m ob hm => by
  by_cases hlt : m < as.length
  · rw [List.getElem?_append_left hlt] at hm
    exact h1 m ob hm
  · rw [List.getElem?_append_right (by omega)] at hm
    have := h2 _ ob hm
    rw [hk, show base + as.length + (m - as.length) = base + m by omega] at this
    exact this
def Goes (X : Nat → Prop) (w : World) (ρ1 : RM) (m : AV → Nat → AV × kA4) (rl : AV → Option AV) (is : AV → List (Nat × Nat)) (a : AV) : Prop :=
  ∀ r, rl a = some r → ∀ v, Rep (Own X ρ1) w ρ1 a v → (∀ base, (m r base).2.length = (is a).length) ∧ (∀ (x o n : Nat), (is a)[x]? = some (o, n) → ∃ io, ρ1 o = some io) ∧
    ∀ base σ, (∀ b, Owns σ b → Owns ρ1 b) → Told ρ1 σ base (is a) → Rep (Own X σ) w σ (m r base).1 v ∧ Objs X w σ base (m r base).2 ∧ (a.flat = true → (m r base).1.flat = true)
theorem goesL {ρ1 : RM} {m : AV → Nat → AV × kA4} {rl : AV → Option AV} {is : AV → List (Nat × Nat)} (hg : ∀ a, Goes X w ρ1 m rl is a) {V : Nat → Value → Prop} : ∀ (as rs : List AV) (k : Nat), kBb rl as = some rs → (∀ (i : Nat) (a : AV), as[i]? = some a → ∃ v, V (k + i) v ∧ Rep (Own X ρ1) w ρ1 a v) →
    (∀ base, (kC0 m rs base).2.length = (as.flatMap is).length ∧ (kC0 m rs base).1.length = as.length) ∧ (∀ (x o n : Nat), (as.flatMap is)[x]? = some (o, n) → ∃ io, ρ1 o = some io) ∧
    ∀ base σ, (∀ b, Owns σ b → Owns ρ1 b) → Told ρ1 σ base (as.flatMap is) → (∀ (i : Nat) (c : AV), (kC0 m rs base).1[i]? = some c → ∃ v, V (k + i) v ∧ Rep (Own X σ) w σ c v) ∧ Objs X w σ base (kC0 m rs base).2 ∧ (as.all AV.flat = true → (kC0 m rs base).1.all AV.flat = true)
  | [], rs, k, h, _ => by
    simp [kBb] at h
    subst h
    exact ⟨fun _ => ⟨rfl, rfl⟩, fun x o n hx => by simp at hx, fun base σ _ _ => ⟨fun i c hc => by simp [kC0] at hc, fun m ob hm => by simp [kC0] at hm, fun _ => rfl⟩⟩
  | a :: as, rs, k, h, hv => by
    simp only [kBb] at h
    split at h
    · rename_i r hr
      split at h
      · rename_i rs' hrs
        cases h
        obtain ⟨v, hvv, hrep⟩ := hv 0 a rfl
        obtain ⟨g1, g2, g3⟩ := hg a r hr v hrep
        obtain ⟨t1, t2, t3⟩ := goesL hg as rs' (k + 1) hrs (fun i x hx => by have := hv (i + 1) x (by simpa using hx); rw [show k + (i + 1) = k + 1 + i by omega] at this; exact this)
        refine ⟨fun base => ⟨by simp only [kC0, List.length_append, List.flatMap_cons]; rw [g1, (t1 _).1], by simp only [kC0, List.length_cons]; rw [(t1 _).2]⟩, fun x o n hx => ?_, fun base σ hsub ht => ?_⟩
        · simp only [List.flatMap_cons] at hx
          by_cases hlt : x < (is a).length
          · rw [List.getElem?_append_left hlt] at hx; exact g2 x o n hx
          · rw [List.getElem?_append_right (by omega)] at hx; exact t2 _ o n hx
        · simp only [List.flatMap_cons] at ht
          obtain ⟨p1, p2, p3⟩ := g3 base σ hsub ht.left
          obtain ⟨q1, q2, q3⟩ := t3 (base + (m r base).2.length) σ hsub (ht.right (by rw [g1]))
          refine ⟨fun i c hc => ?_, ?_, fun hf => ?_⟩
          · simp only [kC0] at hc
            match i with
            | 0 => simp at hc; subst hc; exact ⟨v, hvv, p1⟩
            | i + 1 =>
              obtain ⟨u, e1, e2⟩ := q1 i c (by simpa using hc)
              exact ⟨u, by rw [show k + (i + 1) = k + 1 + i by omega]; exact e1, e2⟩
          · simp only [kC0]
            exact p2.append q2 rfl
          · simp only [List.all_cons, Bool.and_eq_true] at hf
            simp only [kC0, List.all_cons, Bool.and_eq_true]
            exact ⟨p3 hf.1, q3 hf.2⟩
      · cases h
    · cases h
theorem goesR {ρ1 : RM} {m : AV → Nat → AV × kA4} {rl : AV → Option AV} {is : AV → List (Nat × Nat)} (hg : ∀ a, Goes X w ρ1 m rl is a) {V : Nat → Nat → Value → Prop} {w0 : Nat} : ∀ (as rs : List (List AV)) (k : Nat), kBb (kBb rl) as = some rs → (∀ i j a, kB4 as i j = some a → ∃ v, V (k + i) j v ∧ Rep (Own X ρ1) w ρ1 a v) →
    (∀ row ∈ as, row.length = w0 ∧ row.all AV.flat = true) →
    (∀ base, (kCt m rs base).2.length = (as.flatMap fun r => r.flatMap is).length ∧ (kCt m rs base).1.length = as.length) ∧ (∀ (x o n : Nat), (as.flatMap fun r => r.flatMap is)[x]? = some (o, n) → ∃ io, ρ1 o = some io) ∧
    ∀ base σ, (∀ b, Owns σ b → Owns ρ1 b) → Told ρ1 σ base (as.flatMap fun r => r.flatMap is) → (∀ i j c, kB4 (kCt m rs base).1 i j = some c → ∃ v, V (k + i) j v ∧ Rep (Own X σ) w σ c v) ∧ Objs X w σ base (kCt m rs base).2 ∧
      ∀ row ∈ (kCt m rs base).1, row.length = w0 ∧ row.all AV.flat = true
  | [], rs, k, h, _, _ => by
    simp [kBb] at h
    subst h
    exact ⟨fun _ => ⟨rfl, rfl⟩, fun x o n hx => by simp at hx, fun base σ _ _ => ⟨fun i j c hc => by simp [kCt, kB4] at hc, fun m ob hm => by simp [kCt] at hm, by simp [kCt]⟩⟩
  | a :: as, rs, k, h, hv, hw => by
    simp only [kBb] at h
    split at h
    · rename_i r hr
      split at h
      · rename_i rs' hrs
        cases h
        obtain ⟨g1, g2, g3⟩ := goesL hg (V := fun j v => V k j v) a r 0 hr (fun j x hx => by have := hv 0 j x (by simpa [kB4] using hx); simpa using this)
        obtain ⟨t1, t2, t3⟩ := goesR hg (V := V) as rs' (k + 1) hrs (fun i j x hx => by have := hv (i + 1) j x (by simpa [kB4] using hx); rw [show k + (i + 1) = k + 1 + i by omega] at this; exact this) (fun row hrow => hw row (by simp [hrow]))
        refine ⟨fun base => ⟨by simp only [kCt, List.length_append, List.flatMap_cons]; rw [(g1 _).1, (t1 _).1], by simp only [kCt, List.length_cons]; rw [(t1 _).2]⟩, fun x o n hx => ?_, fun base σ hsub ht => ?_⟩
        · simp only [List.flatMap_cons] at hx
          by_cases hlt : x < (a.flatMap is).length
          · rw [List.getElem?_append_left hlt] at hx; exact g2 x o n hx
          · rw [List.getElem?_append_right (by omega)] at hx; exact t2 _ o n hx
        · simp only [List.flatMap_cons] at ht
          obtain ⟨p1, p2, p3⟩ := g3 base σ hsub ht.left
          obtain ⟨q1, q2, q3⟩ := t3 (base + (kC0 m r base).2.length) σ hsub (ht.right (by rw [(g1 _).1]))
          refine ⟨fun i j c hc => ?_, ?_, fun row hrow => ?_⟩
          · simp only [kCt] at hc
            match i with
            | 0 =>
              have := p1 j c (by simpa [kB4] using hc)
              simpa using this
            | i + 1 =>
              obtain ⟨u, e1, e2⟩ := q1 i j c (by simpa [kB4] using hc)
              exact ⟨u, by rw [show k + (i + 1) = k + 1 + i by omega]; exact e1, e2⟩
          · simp only [kCt]
            exact p2.append q2 rfl
          · simp only [kCt, List.mem_cons] at hrow
            rcases hrow with rfl | hrow
            · obtain ⟨z1, z2⟩ := hw a (by simp)
              exact ⟨by rw [(g1 _).2, z1], p3 z2⟩
            · exact q3 row hrow
      · cases h
    · cases h
theorem goes_ok {h : kA4} {ρ1 : RM} (hr : HRep P X ρ1 h w) : ∀ (d : Nat) (a : AV), Goes X w ρ1 (mat d) (rel h d) (ids h d) a := by
  have hmono : ∀ {a : AV} {v : Value} {σ τ : RM}, (∀ b, Owns σ b → Owns ρ1 b) → Rep (Own X ρ1) w RM.none a v → Rep (Own X σ) w RM.none a v := fun {a v σ τ} hsub hh => hh.mono (fun b _ hn => ⟨fun h' => hn (h'.imp id (hsub b)), rfl⟩) RM.none (fun _ _ e => by cases e)
  have hplain : ∀ (d : Nat) (a : AV), (∀ base, mat d a base = (a, [])) → (∀ v (σ : RM), (∀ b, Owns σ b → Owns ρ1 b) → Rep (Own X ρ1) w ρ1 a v → Rep (Own X σ) w σ a v) → rel h d a = some a → ids h d a = [] → Goes X w ρ1 (mat d) (rel h d) (ids h d) a := fun d a h1 h2 h3 h4 r hrr v hv => by
    rw [h3] at hrr
    cases hrr
    rw [h4]
    exact ⟨fun base => by rw [h1]; rfl, fun x o n hx => by simp at hx, fun base σ hsub _ => by rw [h1]; exact ⟨h2 v σ hsub hv, fun m ob hm => by simp at hm, fun hf => hf⟩⟩
  have hfptr : ∀ {k rows i j} v (σ : RM), (∀ b, Owns σ b → Owns ρ1 b) → Rep (Own X ρ1) w ρ1 (.fptr k rows i j) v → Rep (Own X σ) w σ (.fptr k rows i j) v := fun v σ hsub hv => by
    cases hv with
    | fptr h1 h2 h3 h4 => exact .fptr h1 (fun hp h' => h2 hp (h'.imp id (hsub _))) h3 fun i j c hc => hmono (τ := σ) hsub (h4 i j c hc)
  have hfs : ∀ {k rows} v (σ : RM), (∀ b, Owns σ b → Owns ρ1 b) → Rep (Own X ρ1) w ρ1 (.fs k rows) v → Rep (Own X σ) w σ (.fs k rows) v := fun v σ hsub hv => by
    cases hv with
    | fs h1 h2 h3 h4 h5 h6 => exact .fs h1 h2 h3 (fun hp h' => h4 hp (h'.imp id (hsub _))) h5 fun i j c hc => hmono (τ := σ) hsub (h6 i j c hc)
  have hsc : ∀ {u} v (σ : RM), (∀ b, Owns σ b → Owns ρ1 b) → Rep (Own X ρ1) w ρ1 (.sc u) v → Rep (Own X σ) w σ (.sc u) v := fun v σ _ hv => by cases hv; exact .sc (by assumption)
  intro d
  induction d with
  | zero =>
    intro a
    cases a
    case sc u => exact hplain 0 _ (fun _ => rfl) hsc rfl rfl
    case fptr => exact hplain 0 _ (fun _ => rfl) hfptr rfl rfl
    case fs => exact hplain 0 _ (fun _ => rfl) hfs rfl rfl
    all_goals (intro r hrr; simp [rel] at hrr)
  | succ d ih =>
    intro a
    cases a
    case sc u => exact hplain _ _ (fun _ => rfl) hsc rfl rfl
    case fptr => exact hplain _ _ (fun _ => rfl) hfptr rfl rfl
    case fs => exact hplain _ _ (fun _ => rfl) hfs rfl rfl
    case agg cs =>
      intro r hrr v hv
      simp only [rel] at hrr
      split at hrr
      · rename_i rs hrs
        cases hrr
        cases hv with
        | @agg _ _ vs hf hn hre =>
          obtain ⟨g1, g2, g3⟩ := goesL ih (V := fun i v => vs[i]? = some v) cs rs 0 hrs (fun i a hi => by
            have hlt := (List.getElem?_eq_some_iff.1 hi).1
            have h3 : vs[i]? = some (vs[i]'(by omega)) := Array.getElem?_eq_getElem _
            exact ⟨_, by rw [Nat.zero_add]; exact h3, hre i a _ hi h3⟩)
          refine ⟨fun base => (g1 base).1, g2, fun base σ hsub ht => ?_⟩
          obtain ⟨p1, p2, p3⟩ := g3 base σ hsub ht
          refine ⟨.agg (p3 hf) (by rw [(g1 base).2]; exact hn) fun i c u h1 h2 => ?_, p2, fun hf' => by cases hf'⟩
          obtain ⟨u', e1, e2⟩ := p1 i c h1
          rw [Nat.zero_add, h2] at e1
          cases e1
          exact e2
      · cases hrr
    case tup cs =>
      intro r hrr v hv
      simp only [rel] at hrr
      split at hrr
      · rename_i rs hrs
        cases hrr
        cases hv with
        | @tup _ _ vs hn hre =>
          obtain ⟨g1, g2, g3⟩ := goesL ih (V := fun i v => vs[i]? = some v) cs rs 0 hrs (fun i a hi => by
            have hlt := (List.getElem?_eq_some_iff.1 hi).1
            have h3 : vs[i]? = some (vs[i]'(by omega)) := Array.getElem?_eq_getElem _
            exact ⟨_, by rw [Nat.zero_add]; exact h3, hre i a _ hi h3⟩)
          refine ⟨fun base => (g1 base).1, g2, fun base σ hsub ht => ?_⟩
          obtain ⟨p1, p2, p3⟩ := g3 base σ hsub ht
          refine ⟨.tup (by rw [(g1 base).2]; exact hn) fun i c u h1 h2 => ?_, p2, fun hf' => by cases hf'⟩
          obtain ⟨u', e1, e2⟩ := p1 i c h1
          rw [Nat.zero_add, h2] at e1
          cases e1
          exact e2
      · cases hrr
    case fn f cs =>
      intro r hrr v hv
      simp only [rel] at hrr
      split at hrr
      · rename_i rs hrs
        cases hrr
        cases hv with
        | @fn _ _ _ vs hn hre =>
          obtain ⟨g1, g2, g3⟩ := goesL ih (V := fun i v => vs[i]? = some v) cs rs 0 hrs (fun i a hi => by
            have hlt := (List.getElem?_eq_some_iff.1 hi).1
            have h3 : vs[i]? = some (vs[i]'(by omega)) := Array.getElem?_eq_getElem _
            exact ⟨_, by rw [Nat.zero_add]; exact h3, hre i a _ hi h3⟩)
          refine ⟨fun base => (g1 base).1, g2, fun base σ hsub ht => ?_⟩
          obtain ⟨p1, p2, p3⟩ := g3 base σ hsub ht
          refine ⟨.fn (by rw [(g1 base).2]; exact hn) fun i c u h1 h2 => ?_, p2, fun _ => rfl⟩
          obtain ⟨u', e1, e2⟩ := p1 i c h1
          rw [Nat.zero_add, h2] at e1
          cases e1
          exact e2
      · cases hrr
    case ptr o ep i j =>
      intro r hrr v hv
      simp only [rel] at hrr
      split at hrr
      · rename_i ob hob
        split at hrr
        · rename_i hep
          split at hrr
          · rename_i rows hrows
            cases hrr
            cases hv with
            | @ptr _ _ _ _ _ ad io hio he ha =>
              have q := hr.look (List.prefix_refl _) hio hob
              have hids : ids h (d + 1) (.ptr o ep i j) = (o, ob.rows.length) :: ob.rows.flatMap fun r => r.flatMap (ids h d) := by simp only [ids, hob]
              rw [hids]
              obtain ⟨g1, g2, g3⟩ := goesR ih (V := fun i j v => w.cell? ⟨io.b, i * io.k + j, none⟩ = some v) (w0 := io.k) ob.rows rows 0 hrows (fun i j a hc => by
                obtain ⟨u, e1, e2⟩ := q.cells i j a hc
                exact ⟨u, by rw [Nat.zero_add]; exact e1, e2⟩) q.wid
              refine ⟨fun base => by simp only [mat, List.length_cons]; rw [(g1 _).1], fun x o' n hx => ?_, fun base σ hsub ht => ?_⟩
              · match x with
                | 0 => simp at hx; obtain ⟨rfl, rfl⟩ := hx; exact ⟨io, hio⟩
                | x + 1 => exact g2 x o' n (by simpa using hx)
              · have hσ : σ base = some ⟨io.b, io.C, io.k, ob.rows.length⟩ := by have := ht 0 o ob.rows.length rfl io hio; simpa using this
                obtain ⟨p1, p2, p3⟩ := g3 (base + 1) σ hsub ht.tail
                have hlen : rows.length = ob.rows.length := (kCj hrows).1
                have hml : (kCt (mat d) rows (base + 1)).1.length = ob.rows.length := (g1 _).2
                refine ⟨.ptr hσ (by simp only; omega) fun _ => ha (by rw [← q.ep, hep]), fun m ob' hm => ?_, fun _ => rfl⟩
                simp only [mat] at hm
                match m with
                | 0 =>
                  simp at hm
                  subst hm
                  refine ⟨⟨io.b, io.C, io.k, ob.rows.length⟩, by rw [Nat.add_zero]; exact hσ, q.k, by simp only; rw [hml], by have := q.le; have := q.ep; simp only; omega, p3, q.there, fun i j c hc => ?_, q.lt, q.thaw⟩
                  obtain ⟨u, e1, e2⟩ := p1 i j c hc
                  exact ⟨u, by rw [Nat.zero_add] at e1; exact e1, e2⟩
                | m + 1 =>
                  have := p2 m ob' (by simpa using hm)
                  rw [show base + 1 + m = base + (m + 1) by omega] at this
                  exact this
          · cases hrr
        · cases hrr
      · cases hrr
    case sl o ep i n =>
      intro r hrr v hv
      simp only [rel] at hrr
      split at hrr
      · rename_i ob hob
        split at hrr
        · rename_i hc
          obtain ⟨hep, rfl, hn⟩ := hc
          split at hrr
          · rename_i rows hrows
            cases hrr
            cases hv with
            | @sl _ _ _ _ _ cap ad io hio he ha =>
              have q := hr.look (List.prefix_refl _) hio hob
              obtain ⟨a1, a2, a3⟩ := ha (by rw [← q.ep, hep])
              have hids : ids h (d + 1) (.sl o ep 0 n) = (o, n) :: (ob.rows.take n).flatMap fun r => r.flatMap (ids h d) := by simp only [ids, hob]
              rw [hids]
              have htk : (ob.rows.take n).length = n := by simp; omega
              obtain ⟨g1, g2, g3⟩ := goesR ih (V := fun i j v => w.cell? ⟨io.b, i * io.k + j, none⟩ = some v) (w0 := io.k) (ob.rows.take n) rows 0 hrows (fun i j a hc => by
                obtain ⟨row, z1, z2⟩ := kB5 hc
                rw [List.getElem?_take] at z1
                split at z1
                · obtain ⟨u, e1, e2⟩ := q.cells i j a (by unfold kB4; rw [z1]; exact z2)
                  exact ⟨u, by rw [Nat.zero_add]; exact e1, e2⟩
                · cases z1) (fun row hrow => q.wid row (List.mem_of_mem_take hrow))
              refine ⟨fun base => by simp only [mat, List.length_cons]; rw [(g1 _).1], fun x o' n' hx => ?_, fun base σ hsub ht => ?_⟩
              · match x with
                | 0 => simp at hx; obtain ⟨rfl, rfl⟩ := hx; exact ⟨io, hio⟩
                | x + 1 => exact g2 x o' n' (by simpa using hx)
              · have hσ : σ base = some ⟨io.b, io.C, io.k, n⟩ := by have := ht 0 o n rfl io hio; simpa using this
                obtain ⟨p1, p2, p3⟩ := g3 (base + 1) σ hsub ht.tail
                have hlen : rows.length = n := by rw [(kCj hrows).1, htk]
                have hml : (kCt (mat d) rows (base + 1)).1.length = n := by rw [(g1 _).2, htk]
                refine ⟨?_, fun m ob' hm => ?_, fun _ => rfl⟩
                · simp only [mat]
                  rw [hlen]
                  exact .sl hσ (Nat.le_refl _) fun _ => ⟨a1, a2, fun hp => by rw [a3 hp]⟩
                simp only [mat] at hm
                match m with
                | 0 =>
                  simp at hm
                  subst hm
                  refine ⟨⟨io.b, io.C, io.k, n⟩, by rw [Nat.add_zero]; exact hσ, q.k, by simp only; rw [hml], by have := q.le; have := q.ep; simp only; omega, p3, q.there, fun i j c hc => ?_, q.lt, q.thaw⟩
                  obtain ⟨u, e1, e2⟩ := p1 i j c hc
                  exact ⟨u, by rw [Nat.zero_add] at e1; exact e1, e2⟩
                | m + 1 =>
                  have := p2 m ob' (by simpa using hm)
                  rw [show base + 1 + m = base + (m + 1) by omega] at this
                  exact this
          · cases hrr
        · cases hrr
      · cases hrr
    all_goals (intro r hrr; simp [rel] at hrr)
def relRM (ρ : RM) (is : List (Nat × Nat)) : RM := fun m => match is[m]? with
  | some (o, n) => match ρ o with
    | some io => some ⟨io.b, io.C, io.k, n⟩
    | none => none
  | none => none
theorem kEn {is : List (Nat × Nat)} {m : Nat} {io : OI} (e : relRM ρ is m = some io) : ∃ o n i1, is[m]? = some (o, n) ∧ ρ o = some i1 ∧ io = ⟨i1.b, i1.C, i1.k, n⟩ := by
  unfold relRM at e
  split at e
  · rename_i o n hm
    split at e
    · rename_i i1 hi
      cases e
      exact ⟨o, n, i1, hm, hi, rfl⟩
    · cases e
  · cases e
theorem release_ok {h : kA4} (hr : HRep P X ρ h w) {B : Nat} (hB : ∀ o io, ρ o = some io → B ≤ io.b) {a r : AV} {v : Value} (hv : Rep (Own X ρ) w ρ a v) (hrel : release h depth a = some r) : RepN X B w r v := by
  unfold release at hrel
  split at hrel
  · rename_i hnd
    have hnd := nodupB_ok hnd
    obtain ⟨g1, g2, g3⟩ := goes_ok hr depth a r hrel v hv
    refine ⟨relRM ρ (ids h depth a), fun m io e => ?_, fun base => ⟨fun m io e => ?_, fun H hH => ?_⟩⟩
    · obtain ⟨o, n, i1, e1, e2, rfl⟩ := kEn e
      exact hB _ i1 e2
    · rw [g1]
      obtain ⟨o, n, i1, e1, e2, rfl⟩ := kEn e
      exact (List.getElem?_eq_some_iff.1 e1).1
    · have htold : Told ρ (sh base (relRM ρ (ids h depth a))) base (ids h depth a) := fun m o n hm io hio => by
        unfold sh
        rw [if_pos (by omega), show base + m - base = m by omega]
        unfold relRM
        simp only [hm, hio]
      obtain ⟨p1, p2, _⟩ := g3 base _ (fun b ⟨o, io, e, e'⟩ => by
        obtain ⟨e1, e2⟩ := kGo e
        obtain ⟨o', n, i1, e3, e4, rfl⟩ := kEn e2
        exact ⟨_, i1, e4, e'⟩) htold
      refine ⟨⟨fun o io e => ?_, fun o o' io io' e e' hb => ?_⟩, p1⟩
      · obtain ⟨e1, e2⟩ := kGo e
        have hlt : o - base < (mat depth r base).2.length := by
          rw [g1]
          obtain ⟨o', n, i1, e3, e4, rfl⟩ := kEn e2
          exact (List.getElem?_eq_some_iff.1 e3).1
        have e4 : (mat depth r base).2[o - base]? = some ((mat depth r base).2[o - base]) := List.getElem?_eq_getElem hlt
        obtain ⟨io2, f1, f2⟩ := p2 _ _ e4
        have e5 := hH _ _ e4
        rw [show base + (o - base) = o by omega] at f1 e5
        rw [e] at f1
        cases f1
        exact ⟨_, e5, f2⟩
      · obtain ⟨e1, e2⟩ := kGo e
        obtain ⟨e3, e4⟩ := kGo e'
        obtain ⟨p, n, i1, hm, hi1, rfl⟩ := kEn e2
        obtain ⟨p', n', i2, hm', hi2, rfl⟩ := kEn e4
        have := hr.inj _ _ _ _ hi1 hi2 hb
        subst this
        have h1 : ((ids h depth a).map (·.1))[o - base]? = some p := by rw [List.getElem?_map, hm]; rfl
        have h2 : ((ids h depth a).map (·.1))[o' - base]? = some p := by rw [List.getElem?_map, hm']; rfl
        have := (List.getElem?_inj (List.getElem?_eq_some_iff.1 h1).1 hnd).1 (h1.trans h2.symm)
        omega
  · cases hrel
def resV (tmps : Array Value) : ResultVar → Sem Value := fun x => match x with
  | .tmp t => pure (tmps.getD t undef)
  | .cell b t => do loadVar t (← asAddr (tmps.getD b undef))
theorem res_ok {h : kA4} (hr : HRep P X ρ h w) {tm : TM} {a : Act} (ht : TRep X ρ w tm a) : ∀ (rs : List ResultVar) (l : List AV), kI8 P tm h rs = some l →
    ∃ vs : List Value, (rs.mapM (resV a.tmps)).run P w = .ok vs w ∧ vs.length = l.length ∧ ∀ (i : Nat) (c : AV) (v : Value), l[i]? = some c → vs[i]? = some v → Rep (Own X ρ) w ρ c v
  | [], l, h => by
    simp [kI8] at h
    subst h
    exact ⟨[], by simp, rfl, fun i c v h => by simp at h⟩
  | .tmp t :: rs, l, h => by
    simp only [kI8] at h
    split at h
    · rename_i l' hl
      cases h
      obtain ⟨vs, e1, e2, e3⟩ := res_ok hr ht rs l' hl
      refine ⟨a.tmps.getD t undef :: vs, by
        rw [List.mapM_cons]
        simp only [Sem.run_bind, e1, resV, Sem.run_pure, Result.andThen_ok], by simp [e2], fun i c v h1 h2 => ?_⟩
      match i with
      | 0 => simp at h1 h2; subst h1 h2; have := ht.getD t; simpa using this
      | i + 1 => exact e3 i c v (by simpa using h1) (by simpa using h2)
    · cases h
  | .cell b t :: rs, l, h => by
    simp only [kI8] at h
    split at h
    · rename_i s g hs hg
      split at h
      · rename_i v hv
        split at h
        · rename_i l' hl
          cases h
          obtain ⟨vs, e1, e2, e3⟩ := res_ok hr ht rs l' hl
          obtain ⟨u, p1, p2⟩ := load_ok (P := P) hs hg (List.prefix_refl _) hr (ht.getD b) hv
          have hload : (do loadVar t (← asAddr (a.tmps.getD b undef)) : Sem Value).run P w = .ok u w := by
            unfold Instr.loadAt at p1
            generalize a.tmps.getD b undef = z at p1
            cases z with
            | pointer x => cases x with
              | some x => simpa [asAddr, Instr.sureAddr] using p1
              | none => simp [Instr.sureAddr] at p1
            | _ => simp [Instr.sureAddr] at p1
          refine ⟨u :: vs, by
            rw [List.mapM_cons]
            have hload' : (resV a.tmps (.cell b t)).run P w = .ok u w := hload
            simp only [Sem.run_bind, hload', e1, Sem.run_pure, Result.andThen_ok], by simp [e2], fun i c v h1 h2 => ?_⟩
          match i with
          | 0 => simp at h1 h2; subst h1 h2; exact p2
          | i + 1 => exact e3 i c v (by simpa using h1) (by simpa using h2)
        · cases h
      · cases h
    · cases h
theorem results_ok {h : kA4} (hr : HRep P X ρ h w) {tm : TM} {a : Act} (ht : TRep X ρ w tm a) {fn : Func} {l : List AV} (hl : kI8 P tm h fn.results.toList = some l) :
    ∃ v, (results fn a.tmps).run P w = .ok v w ∧ Rep (Own X ρ) w ρ (pack l) v := by
  obtain ⟨vs, e1, e2, e3⟩ := res_ok hr ht fn.results.toList l hl
  have hrun : (results fn a.tmps).run P w = .ok (if h : vs.toArray.size = 1 then vs.toArray[0] else .tuple vs.toArray) w := by
    unfold results
    rw [Array.mapM_eq_mapM_toList]
    simp only [Sem.run_bind, Sem.run_map]
    have : (fn.results.toList.mapM (resV a.tmps)).run P w = .ok vs w := e1
    unfold resV at this
    erw [this]
    rfl
  refine ⟨_, hrun, ?_⟩
  clear hl e1 hrun
  match l, vs, e2, e3 with
  | [c], [v], _, e3 => exact e3 0 c v rfl rfl
  | [], [], _, _ => exact .tup rfl fun i c v h => by simp at h
  | c :: d :: l, v :: u :: vs, e2, e3 =>
    simp only [pack]
    rw [dif_neg (by simp)]
    exact .tup (by simp at e2 ⊢; exact e2) fun i c v h1 h2 => e3 i c v h1 (by simpa using h2)
def kAh (P : Program) (g : Nat) : Prop := ∃ fn c, P.funcs[g]? = some fn ∧ fn.body = some c ∧ (fn.name == "runtime.NumGoroutine") = false
theorem kD2 {g : Nat} (hb : kAh P g) (args : Array Value) (w : World) : (callFunc g args).run P w = .ok (.enter g args) w := by
  obtain ⟨fn, c, h1, h2, h3⟩ := hb
  unfold callFunc
  simp only [Sem.run_bind, run_program, Result.andThen_ok, h1, h3, h2]
  simp
theorem gen_of_denM {W : Bool} {env : Nat → Contract} (henv : kBr P env) (hm : P.follows .mixedOrders = true) {g : Nat} (hb : kAh P g) : GenOK P g (denFnM W P env g) := by
  intro as h r h' hd X ρ w vs hr hn hvs
  unfold kI3
  rw [kD2 hb]
  simp only
  obtain ⟨fn, c, h1, h2, h3⟩ := hb
  unfold denFnM at hd
  simp only [h1, h2] at hd
  split at hd
  · rename_i hle
    have hlen : (frame fn.ntmps as).length = (kBk fn).length := by simp [frame, kBk]; omega
    have hst : St P fn.ntmps X ρ w (frame fn.ntmps as) h { tmps := vs ++ Array.replicate (fn.ntmps - vs.size) undef, defers := [] } w := by
      refine St.start hr ⟨by simp [frame, hn], fun t c v e1 e2 => ?_⟩ rfl (by simp; omega)
      unfold frame at e1
      by_cases ht : t < as.length
      · rw [List.getElem?_append_left ht] at e1
        rw [Array.getElem?_append_left (by omega)] at e2
        exact hvs t c v e1 e2
      · rw [List.getElem?_append_right (by omega)] at e1
        rw [Array.getElem?_append_right (by omega)] at e2
        rw [List.getElem?_replicate] at e1
        rw [Array.getElem?_replicate] at e2
        split at e1
        · split at e2
          · cases e1; cases e2; exact kFx
          · cases e2
        · cases e1
    refine calls_of_wp h1 h2 (Code.wp_mono (fun e a' w' hp => ?_) (code_ok henv hm c _ h _ (r, h') _ w hlen hd hst))
    have key : ∀ (ax : AX), (ax = .normal ∨ ax = .ret) → (∃ tm h2, kFq P fn.results.toList ax tm h2 = some (r, h') ∧ St P fn.ntmps X ρ w tm h2 a' w') →
        a'.defers = [] ∧ ∃ v, (results fn a'.tmps).run P w' = .ok v w' ∧ ∃ v_1, Ending.returned v = .returned v_1 ∧ Wrote P X ρ w h' r v_1 w' := fun ax hax ⟨tm, h2, k1, k2⟩ => by
      obtain ⟨ρ', s1, s2, s3⟩ := k2.ex
      have k3 : ∃ l, kI8 P tm h2 fn.results.toList = some l ∧ pack l = r ∧ h2 = h' := by
        rcases hax with rfl | rfl <;>
          (
            simp only [kFq] at k1
            split at k1
            · rename_i l hl
              simp only [Option.some.injEq, Prod.mk.injEq] at k1
              exact ⟨l, hl, k1.1, k1.2⟩
            · cases k1)
      obtain ⟨l, hl, rfl, rfl⟩ := k3
      obtain ⟨v, e1, e2⟩ := results_ok s2 s3 hl
      exact ⟨k2.defers, v, e1, v, rfl, ρ', s2, s1, e2⟩
    cases e with
    | normal => exact key .normal (.inl rfl) hp
    | ret => exact key .ret (.inr rfl) hp
    | exit i =>
      obtain ⟨tm, h2, k1, _⟩ := hp
      simp [kFq] at k1
    | _ => exact hp.elim
  · cases hd
theorem kD3 {env : Nat → Contract} (henv : kBr P env) (hm : P.follows .mixedOrders = true) {g : Nat} (hb : kAh P g) : GenOK P g (kAo P env g) := gen_of_denM (W := false) henv hm hb
theorem pure_of_denM {W : Bool} {env : Nat → Contract} (henv : kBr P env) (hm : P.follows .mixedOrders = true) {g : Nat} (hb : kAh P g) {F : List AV → Option AV}
    (hF : ∀ ds r, F ds = some r → ∃ r' h', denFnM W P env g ds [] = some (r', h') ∧ release h' depth r' = some r) : kAs P g F := by
  intro ds r hr X w vs hg hn hvs
  obtain ⟨r', h', h1, h2⟩ := hF ds r hr
  refine (gen_of_denM (W := W) henv hm hb ds [] r' h' h1 X RM.none w vs (HRep.empty X [] w hg) hn hvs).mono fun e w' ⟨v, he, ρ', g1, g2, g3⟩ => ⟨v, he, g2.below, release_ok g1 (fun o io hio => ?_) g3 h2⟩
  by_cases hlt : io.b < w.heap.size
  · exact absurd ⟨o, io, hio, rfl⟩ (g2.keep io.b hlt (fun ⟨o, i, e, _⟩ => by cases e)).1
  · omega
theorem kFs {env : Nat → Contract} (henv : kBr P env) (hm : P.follows .mixedOrders = true) {g : Nat} (hb : kAh P g) {F : List AV → Option AV}
    (hF : ∀ ds r, F ds = some r → ∃ r' h', kAo P env g ds [] = some (r', h') ∧ release h' depth r' = some r) : kAs P g F := pure_of_denM (W := false) henv hm hb hF
end Go.Eng
