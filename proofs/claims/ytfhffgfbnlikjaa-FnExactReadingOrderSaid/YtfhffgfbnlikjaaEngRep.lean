import Derived.Test.YtfhffgfbnlikjaaEngDen
import Derived.Below
import Derived.Lib.LaidTab
import Derived.Lib.ItoaNum
namespace Go.Eng
set_option linter.unusedVariables false
set_option linter.unusedSimpArgs false
open Go.RowKit
structure OI where
  b : Nat
  C : Nat
  k : Nat
  ep : Nat
abbrev RM := Nat → Option OI
def RM.none : RM := fun _ => Option.none
def RM.put (ρ : RM) (o : Nat) (io : OI) : RM := fun x => if x = o then some io else ρ x
def Owns (ρ : RM) (b : Nat) : Prop := ∃ o io, ρ o = some io ∧ io.b = b
def Own (X : Nat → Prop) (ρ : RM) (b : Nat) : Prop := X b ∨ Owns ρ b
def kB4 (rows : List (List AV)) (i j : Nat) : Option AV := (rows[i]?).bind (·[j]?)
theorem kB5 {rows : List (List AV)} {i j : Nat} {c : AV} (h : kB4 rows i j = some c) : ∃ row, rows[i]? = some row ∧ row[j]? = some c := by
  unfold kB4 at h
  cases hr : rows[i]? with
  | none => simp [hr] at h
  | some row => exact ⟨row, rfl, by simpa [hr] using h⟩
inductive Rep (own : Nat → Prop) (w : World) : RM → AV → Value → Prop
  | sc {ρ : RM} {v : Value} (h : v.oneCell' = true) : Rep own w ρ (.sc v) v
  | top {ρ : RM} {v : Value} : Rep own w ρ .top v
  | agg {ρ : RM} {cs : List AV} {vs : Array Value} (hf : cs.all AV.flat = true) (hn : vs.size = cs.length)
      (h : ∀ (i : Nat) (c : AV) (v : Value), cs[i]? = some c → vs[i]? = some v → Rep own w ρ c v) : Rep own w ρ (.agg cs) (.agg vs)
  | tup {ρ : RM} {cs : List AV} {vs : Array Value} (hn : vs.size = cs.length)
      (h : ∀ (i : Nat) (c : AV) (v : Value), cs[i]? = some c → vs[i]? = some v → Rep own w ρ c v) : Rep own w ρ (.tup cs) (.tuple vs)
  | ptr {ρ : RM} {o ep i j : Nat} {a : Addr} {io : OI} (hρ : ρ o = some io) (he : ep ≤ io.ep)
      (h : io.ep = ep → a = ⟨io.b, i * io.k + j, none⟩) : Rep own w ρ (.ptr o ep i j) (.pointer (some a))
  | sl {ρ : RM} {o ep i n cap : Nat} {a : Addr} {io : OI} (hρ : ρ o = some io) (he : ep ≤ io.ep)
      (h : io.ep = ep → n ≤ cap ∧ i + cap = io.C ∧ (0 < cap → a = ⟨io.b, i * io.k, none⟩)) : Rep own w ρ (.sl o ep i n) (.slice (some a) n cap)
  | fs {ρ : RM} {k : Nat} {rows : List (List AV)} {a : Addr} {cap : Nat} {cf : Nat → Nat → Value}
      (hk : ∀ row ∈ rows, row.length = k ∧ row.all AV.flat = true) (hc : rows.length ≤ cap) (ha : 0 < rows.length → a.spot = none)
      (hown : 0 < rows.length * k → ¬ own a.block)
      (hcell : ∀ i j c, kB4 rows i j = some c → w.cell? ⟨a.block, a.off + i * k + j, none⟩ = some (cf i j))
      (h : ∀ i j c, kB4 rows i j = some c → Rep own w RM.none c (cf i j)) : Rep own w ρ (.fs k rows) (.slice (some a) rows.length cap)
  | fptr {ρ : RM} {k : Nat} {rows : List (List AV)} {b off i j : Nat} {cf : Nat → Nat → Value}
      (hk : ∀ row ∈ rows, row.length = k ∧ row.all AV.flat = true)
      (hown : 0 < rows.length * k → ¬ own b)
      (hcell : ∀ i j c, kB4 rows i j = some c → w.cell? ⟨b, off + i * k + j, none⟩ = some (cf i j))
      (h : ∀ i j c, kB4 rows i j = some c → Rep own w RM.none c (cf i j)) : Rep own w ρ (.fptr k rows i j) (.pointer (some ⟨b, off + i * k + j, none⟩))
  | fn {ρ : RM} {f : Nat} {cs : List AV} {vs : Array Value} (hn : vs.size = cs.length)
      (h : ∀ (i : Nat) (c : AV) (v : Value), cs[i]? = some c → vs[i]? = some v → Rep own w ρ c v) : Rep own w ρ (.fn f cs) (.func (.func f) #[] vs)
theorem Rep.flat {own : Nat → Prop} {w : World} {ρ : RM} {a : AV} {v : Value} (h : Rep own w ρ a v) (hf : a.flat = true) : v.oneCell' = true := by
  cases h <;> first | assumption | rfl | simp [AV.flat] at hf
theorem lt_of_cell {rows : List (List AV)} {k : Nat} (hk : ∀ row ∈ rows, row.length = k ∧ row.all AV.flat = true) (h : 0 < rows.length * k) : ∃ c, kB4 rows 0 0 = some c := by
  have h1 : 0 < rows.length := Nat.pos_of_mul_pos_right h
  have h2 : 0 < k := Nat.pos_of_mul_pos_left h
  match rows, h1 with
  | row :: _, _ =>
    have h3 := (hk row (by simp)).1
    match row, h3 with
    | c :: _, _ => exact ⟨c, rfl⟩
    | [], h3 => simp at h3; omega
theorem Rep.mono {own own' : Nat → Prop} {w w' : World} {ρ : RM} {a : AV} {v : Value}
    (hw : ∀ b, b < w.heap.size → ¬ own b → ¬ own' b ∧ w'.heap[b]? = w.heap[b]?) (h : Rep own w ρ a v) :
    ∀ ρ' : RM, (∀ o io, ρ o = some io → ∃ io', ρ' o = some io' ∧ io.ep ≤ io'.ep ∧ (io'.ep = io.ep → io' = io)) → Rep own' w' ρ' a v := by
  induction h with
  | sc h => exact fun _ _ => .sc h
  | top => exact fun _ _ => .top
  | agg hf hn _ ih => exact fun ρ' hρ => .agg hf hn fun i c v h1 h2 => ih i c v h1 h2 ρ' hρ
  | tup hn _ ih => exact fun ρ' hρ => .tup hn fun i c v h1 h2 => ih i c v h1 h2 ρ' hρ
  | fn hn _ ih => exact fun ρ' hρ => .fn hn fun i c v h1 h2 => ih i c v h1 h2 ρ' hρ
  | ptr h1 h2 h3 =>
    intro ρ' hρ
    obtain ⟨io', e1, e2, e3⟩ := hρ _ _ h1
    exact .ptr e1 (by omega) fun e => by
      have h4 := e3 (by omega)
      subst h4
      exact h3 e
  | sl h1 h2 h3 =>
    intro ρ' hρ
    obtain ⟨io', e1, e2, e3⟩ := hρ _ _ h1
    exact .sl e1 (by omega) fun e => by
      have h4 := e3 (by omega)
      subst h4
      exact h3 e
  | @fs ρ k rows a cap cf hk hc ha hown hcell _ ih =>
    intro ρ' _
    have hb : 0 < rows.length * k → a.block < w.heap.size := fun h => by
      obtain ⟨c, h0⟩ := lt_of_cell hk h
      exact World.block_lt_of_cell? w (⟨a.block, a.off + 0 * k + 0, Option.none⟩ : Addr) (hcell 0 0 c h0)
    refine .fs hk hc ha (fun h => (hw _ (hb h) (hown h)).1) (cf := cf) (fun i j c h => ?_) fun i j c h => ih i j c h RM.none (fun o io h => by cases h)
    have h1 := hcell i j c h
    have h2 : 0 < rows.length * k := by
      obtain ⟨row, e1, e2⟩ := kB5 h
      have e3 := (List.getElem?_eq_some_iff.1 e1).1
      have e4 := (List.getElem?_eq_some_iff.1 e2).1
      have e5 := (hk row (List.mem_of_getElem? e1)).1
      exact Nat.mul_pos (by omega) (by omega)
    rw [World.cell?_of_block (w := w) (a := ⟨a.block, a.off + i * k + j, Option.none⟩) ((hw _ (hb h2) (hown h2)).2)]
    exact h1
  | @fptr ρ k rows b off i j cf hk hown hcell _ ih =>
    intro ρ' _
    have hb : 0 < rows.length * k → b < w.heap.size := fun h => by
      obtain ⟨c, h0⟩ := lt_of_cell hk h
      exact World.block_lt_of_cell? w (⟨b, off + 0 * k + 0, Option.none⟩ : Addr) (hcell 0 0 c h0)
    refine .fptr hk (fun h => (hw _ (hb h) (hown h)).1) (cf := cf) (fun i j c h => ?_) fun i j c h => ih i j c h RM.none (fun o io h => by cases h)
    have h1 := hcell i j c h
    have h2 : 0 < rows.length * k := by
      obtain ⟨row, e1, e2⟩ := kB5 h
      have e3 := (List.getElem?_eq_some_iff.1 e1).1
      have e4 := (List.getElem?_eq_some_iff.1 e2).1
      have e5 := (hk row (List.mem_of_getElem? e1)).1
      exact Nat.mul_pos (by omega) (by omega)
    rw [World.cell?_of_block (w := w) (a := ⟨b, off + i * k + j, Option.none⟩) ((hw _ (hb h2) (hown h2)).2)]
    exact h1
structure ORep (own : Nat → Prop) (w : World) (ρ : RM) (io : OI) (ob : AObj) : Prop where
  k : ob.k = io.k
  ep : ob.rows.length = io.ep
  le : io.ep ≤ io.C
  wid : ∀ row ∈ ob.rows, row.length = io.k ∧ row.all AV.flat = true
  there : ∀ x, x < io.C * io.k → (w.cell? ⟨io.b, x, none⟩).isSome = true ∧ w.frozen? ⟨io.b, x, none⟩ = false
  cells : ∀ i j c, kB4 ob.rows i j = some c → ∃ v, w.cell? ⟨io.b, i * io.k + j, none⟩ = some v ∧ Rep own w ρ c v
  lt : io.b < w.heap.size
  thaw : io.k ≠ 1 → ∀ x, w.frozen? ⟨io.b, x, none⟩ = false
structure HRep0 X (ρ : RM) (h : kA4) (w : World) : Prop where
  obj : ∀ (o : Nat) (io : OI), ρ o = some io → ∃ ob, h[o]? = some ob ∧ ORep (Own X ρ) w ρ io ob
  inj : ∀ o o' io io', ρ o = some io → ρ o' = some io' → io.b = io'.b → o = o'
def libTabs : List (String × IntKind × List Int) := []
def GlobIs (P : Program) (w : World) (n : String) (k : IntKind) : List Int → Prop
  | [] => (k = .i64 ∧ ∃ g, ∃ m : Int, P.globalNamed n = some g ∧ w.cell? ⟨g, 0, Option.none⟩ = some (.int .i64 m)) ∨ (k ≠ .i64 ∧ ∃ t p, w.var? P n = some #[.iface t p])
  | z :: zs => Lib.TabIs P w n k (z :: zs)
def Glob (P : Program) (w : World) : Prop := ∀ t ∈ libTabs, ∀ g, P.globalNamed t.1 = some g → GlobIs P w t.1 t.2.1 t.2.2
def GlobOK (P : Program) (ρ : RM) (w : World) : Prop := ∀ t ∈ libTabs, ∀ g, P.globalNamed t.1 = some g → GlobIs P w t.1 t.2.1 t.2.2 ∧ ¬ Owns ρ g
theorem GlobOK.glob {P : Program} {ρ : RM} {w : World} (h : GlobOK P ρ w) : Glob P w := fun t ht g hg => (h t ht g hg).1
theorem Glob.ok {P : Program} {w : World} (h : Glob P w) : GlobOK P RM.none w := fun t ht g hg => ⟨h t ht g hg, fun ⟨_, _, e, _⟩ => by cases e⟩
theorem var_block {P : Program} {w w' : World} {n : String} {g : Nat} {cs : Array Value} (hg : P.globalNamed n = some g) (h : w.var? P n = some cs) (hb : g < w.heap.size → w'.heap[g]? = w.heap[g]?) : w'.var? P n = some cs := by
  unfold World.var? at *
  rw [hg] at *
  simp only [Option.bind_some] at *
  rw [hb]
  · exact h
  · cases e : w.heap[g]? with
    | none => rw [e] at h; cases h
    | some o => exact (Array.getElem?_eq_some_iff.1 e).1
theorem var_lt {P : Program} {w : World} {n : String} {g : Nat} {cs : Array Value} (hg : P.globalNamed n = some g) (h : w.var? P n = some cs) : g < w.heap.size := by
  unfold World.var? at *
  rw [hg] at *
  simp only [Option.bind_some] at *
  cases e : w.heap[g]? with
  | none => rw [e] at h; cases h
  | some o => exact (Array.getElem?_eq_some_iff.1 e).1
theorem kIk {w : World} {b o : Nat} {v : Value} (h : w.cell? ⟨b, o, Option.none⟩ = some v) : b < w.heap.size := by
  unfold World.cell? at h
  cases e : w.heap[b]? with
  | none => simp [e] at h
  | some x => exact (Array.getElem?_eq_some_iff.1 e).1
theorem tabIs_block {P : Program} {w w' : World} {n : String} {k : IntKind} {zs : List Int} {g : Nat} (hg : P.globalNamed n = some g) (h : GlobIs P w n k zs) (hb : g < w.heap.size → w'.heap[g]? = w.heap[g]?) : GlobIs P w' n k zs := by
  cases zs with
  | nil =>
    rcases h with ⟨h1, g', m, h2, h3⟩ | ⟨h1, t, p, h2⟩
    · rw [hg] at h2
      cases h2
      refine .inl ⟨h1, g, m, hg, ?_⟩
      rw [World.cell?_of_block (w := w) (a := ⟨g, 0, Option.none⟩) (hb (kIk h3))]
      exact h3
    · exact .inr ⟨h1, t, p, var_block hg h2 hb⟩
  | cons z zs => exact var_block hg h hb
theorem tabIs_lt {P : Program} {w : World} {n : String} {k : IntKind} {zs : List Int} {g : Nat} (hg : P.globalNamed n = some g) (h : GlobIs P w n k zs) : g < w.heap.size := by
  cases zs with
  | nil =>
    rcases h with ⟨h1, g', m, h2, h3⟩ | ⟨h1, t, p, h2⟩
    · rw [hg] at h2
      cases h2
      exact kIk h3
    · exact var_lt hg h2
  | cons z zs => exact var_lt hg h
theorem Glob.none {P : Program} {w : World} (h : libTabs.all (fun t => (P.globalNamed t.1).isNone) = true) : Glob P w := fun t ht g hg => by
  have := List.all_eq_true.1 h t ht
  rw [hg] at this
  cases this
structure HRep (P : Program) X (ρ : RM) (h : kA4) (w : World) : Prop extends HRep0 X ρ h w where
  glob : GlobOK P ρ w
abbrev CountsDraws : Prop := True
structure Step (ρ : RM) (w : World) (ρ' : RM) (w' : World) : Prop where
  os : w'.os = w.os
  tape : w'.tape = w.tape
  output : w'.output = w.output
  size : w.heap.size ≤ w'.heap.size
  keep : ∀ b, b < w.heap.size → ¬ Owns ρ b → ¬ Owns ρ' b ∧ w'.heap[b]? = w.heap[b]?
  ext : ∀ o io, ρ o = some io → ∃ io', ρ' o = some io' ∧ io.ep ≤ io'.ep ∧ (io'.ep = io.ep → io' = io)
  drawn : CountsDraws → w.drawn ≤ w'.drawn
structure BelowD (B : Nat) (w w' : World) : Prop extends Below B w w' where
  drawn : CountsDraws → w.drawn ≤ w'.drawn
theorem Step.refl (ρ : RM) (w : World) : Step ρ w ρ w := ⟨rfl, rfl, rfl, Nat.le_refl _, fun _ _ h => ⟨h, rfl⟩, fun _ io h => ⟨io, h, Nat.le_refl _, fun _ => rfl⟩, fun _ => Nat.le_refl _⟩
theorem Step.trans {ρ₁ ρ₂ ρ₃ : RM} {w₁ w₂ w₃ : World} (h : Step ρ₁ w₁ ρ₂ w₂) (g : Step ρ₂ w₂ ρ₃ w₃) : Step ρ₁ w₁ ρ₃ w₃ :=
  ⟨g.os.trans h.os, g.tape.trans h.tape, g.output.trans h.output, Nat.le_trans h.size g.size,
    fun b hb hn => by
      obtain ⟨h1, h2⟩ := h.keep b hb hn
      obtain ⟨g1, g2⟩ := g.keep b (Nat.lt_of_lt_of_le hb h.size) h1
      exact ⟨g1, g2.trans h2⟩,
    fun o io ho => by
      obtain ⟨i2, e1, e2, e3⟩ := h.ext o io ho
      obtain ⟨i3, f1, f2, f3⟩ := g.ext o i2 e1
      refine ⟨i3, f1, by omega, fun e => ?_⟩
      have a1 := e3 (by omega)
      subst a1
      exact f3 e, fun d => Nat.le_trans (h.drawn d) (g.drawn d)⟩
theorem Step.rep {X : Nat → Prop} {ρ ρ' : RM} {w w' : World} (h : Step ρ w ρ' w') {a : AV} {v : Value} (hr : Rep (Own X ρ) w ρ a v) : Rep (Own X ρ') w' ρ' a v :=
  hr.mono (fun b hb hn => ⟨fun hh => hh.elim (fun hx => hn (.inl hx)) (h.keep b hb (fun ho => hn (.inr ho))).1, (h.keep b hb (fun ho => hn (.inr ho))).2⟩) ρ' h.ext
theorem Step.drew (ρ : RM) (w : World) : Step ρ w ρ w.drew := ⟨rfl, rfl, rfl, Nat.le_refl _, fun _ _ h => ⟨h, rfl⟩, fun _ io h => ⟨io, h, Nat.le_refl _, fun _ => rfl⟩, fun _ => Nat.le_succ _⟩
theorem Step.below {ρ' : RM} {w w' : World} (h : Step RM.none w ρ' w') : BelowD w.heap.size w w' :=
  ⟨⟨h.os, h.tape, h.output, h.size, fun b hb => (h.keep b hb (fun ⟨o, io, e, _⟩ => by cases e)).2⟩, h.drawn⟩
theorem GlobOK.step {P : Program} {ρ ρ' : RM} {w w' : World} (h : GlobOK P ρ w) (st : Step ρ w ρ' w') : GlobOK P ρ' w' := fun t ht g hg => by
  obtain ⟨h1, h2⟩ := h t ht g hg
  have h3 := st.keep g (tabIs_lt hg h1) h2
  exact ⟨tabIs_block hg h1 fun _ => h3.2, h3.1⟩
theorem HRep0.lt {X : Nat → Prop} {ρ : RM} {h : kA4} {w : World} (hr : HRep0 X ρ h w) {o : Nat} {io : OI} (ho : ρ o = some io) : o < h.length := by
  obtain ⟨ob, e, _⟩ := hr.obj o io ho
  exact (List.getElem?_eq_some_iff.1 e).1
theorem HRep0.fresh {X : Nat → Prop} {ρ : RM} {h : kA4} {w : World} (hr : HRep0 X ρ h w) {o : Nat} (ho : h.length ≤ o) : ρ o = none := by
  cases e : ρ o with
  | none => rfl
  | some io => have := hr.lt e; omega
theorem HRep0.empty (X : Nat → Prop) (h : kA4) (w : World) : HRep0 X RM.none h w := ⟨fun _ _ e => (by cases e), fun _ _ _ _ e _ => (by cases e)⟩
theorem HRep.empty {P : Program} (X : Nat → Prop) (h : kA4) (w : World) (hg : Glob P w) : HRep P X RM.none h w := ⟨HRep0.empty X h w, hg.ok⟩
theorem HRep.pfx {P : Program} {X : Nat → Prop} {ρ : RM} {h h' : kA4} {w : World} (hr : HRep P X ρ h w) (hp : h <+: h') : HRep P X ρ h' w :=
  ⟨⟨fun o io e => by
    obtain ⟨ob, e1, r⟩ := hr.obj o io e
    obtain ⟨t, rfl⟩ := hp
    exact ⟨ob, by rw [List.getElem?_append_left (hr.lt e)]; exact e1, r⟩, hr.inj⟩, hr.glob⟩
theorem HRep.drew {P : Program} {X : Nat → Prop} {ρ : RM} {h : kA4} {w : World} (hr : HRep P X ρ h w) : HRep P X ρ h w.drew :=
  ⟨⟨fun o io e => by
    obtain ⟨ob, e1, r⟩ := hr.obj o io e
    exact ⟨ob, e1, ⟨r.k, r.ep, r.le, r.wid, r.there, fun i j c hc => by
      obtain ⟨v, h1, h2⟩ := r.cells i j c hc
      exact ⟨v, h1, (Step.drew ρ w).rep h2⟩, r.lt, r.thaw⟩⟩, hr.inj⟩, hr.glob.step (Step.drew ρ w)⟩
theorem kEu (w : World) (o : Obj) {b : Nat} (hb : b < w.heap.size) : (w.alloc o).heap[b]? = w.heap[b]? := by
  show (w.heap.push o)[b]? = _
  rw [Array.getElem?_push, if_neg (by omega)]
theorem kCc (w : World) (o : Obj) : (w.alloc o).heap[w.heap.size]? = some o := by
  show (w.heap.push o)[w.heap.size]? = _
  simp
theorem kCl {ρ : RM} {o x : Nat} {io : OI} (h : x ≠ o) : (ρ.put o io) x = ρ x := by unfold RM.put; rw [if_neg h]
theorem kC4 {ρ : RM} {o : Nat} {io : OI} : (ρ.put o io) o = some io := by unfold RM.put; rw [if_pos rfl]
theorem Step.alloc {ρ : RM} {w : World} (o : Nat) (ho : ρ o = none) (ob : Obj) (io : OI) (hb : io.b = w.heap.size) : Step ρ w (ρ.put o io) (w.alloc ob) :=
  ⟨rfl, rfl, rfl, by simp, fun b hlt hn => ⟨fun ⟨x, i, e, e'⟩ => by
      by_cases hx : x = o
      · subst hx; rw [kC4] at e; cases e; omega
      · rw [kCl hx] at e; exact hn ⟨x, i, e, e'⟩, kEu w ob hlt⟩,
    fun x i e => ⟨i, by rw [kCl (fun e' => by subst e'; rw [ho] at e; cases e)]; exact e, Nat.le_refl _, fun _ => rfl⟩, fun _ => Nat.le_refl _⟩
theorem HRep.alloc {P : Program} {X : Nat → Prop} {ρ : RM} {h : kA4} {w : World} (hr : HRep P X ρ h w) (o : Nat) (ho : ρ o = Option.none) (ob : AObj) (hob : h[o]? = some ob) (C : Nat) (cs : Array Value) (elem : TypeId) (fz : Nat × Nat)
    (hC : ob.rows.length ≤ C) (hsz : C * ob.k ≤ cs.size) (hfz : ∀ x, x < C * ob.k → ¬ (fz.1 ≤ x ∧ x < fz.2)) (hz : ob.k ≠ 1 → fz = (0, 0)) (hwid : ∀ row ∈ ob.rows, row.length = ob.k ∧ row.all AV.flat = true)
    (hcs : ∀ i j c, kB4 ob.rows i j = some c → ∃ v, cs[i * ob.k + j]? = some v ∧ Rep (Own X ρ) w ρ c v) :
    HRep P X (ρ.put o ⟨w.heap.size, C, ob.k, ob.rows.length⟩) h (w.alloc (.cells cs elem fz)) := by
  have hs : Step ρ w (ρ.put o ⟨w.heap.size, C, ob.k, ob.rows.length⟩) (w.alloc (.cells cs elem fz)) := Step.alloc o ho _ _ rfl
  have hcell : ∀ x, (w.alloc (.cells cs elem fz)).cell? ⟨w.heap.size, x, none⟩ = cs[x]? := fun x => by
    unfold World.cell?
    rw [kCc]
    rfl
  refine ⟨⟨fun x io e => ?_, fun x y io io' e e' hb => ?_⟩, hr.glob.step hs⟩
  · by_cases hx : x = o
    · subst hx
      rw [kC4] at e
      cases e
      refine ⟨ob, hob, rfl, rfl, hC, hwid, fun x hx => ⟨?_, ?_⟩, fun i j c hc => ?_, by simp, fun hk x => ?_⟩
      · rw [hcell]
        simp only at hx
        rw [Array.getElem?_eq_getElem (by omega)]
        rfl
      · have := hfz x hx
        obtain ⟨lo, hi⟩ := fz
        unfold World.frozen?
        rw [kCc]
        simp at this ⊢
        exact this
      · obtain ⟨v, h1, h2⟩ := hcs i j c hc
        exact ⟨v, by rw [hcell]; exact h1, hs.rep h2⟩
      · rw [hz hk]
        unfold World.frozen?
        rw [kCc]
        simp
    · rw [kCl hx] at e
      obtain ⟨ob', e1, r⟩ := hr.obj x io e
      have hb : (w.alloc (.cells cs elem fz)).heap[io.b]? = w.heap[io.b]? := kEu w _ r.lt
      refine ⟨ob', e1, r.k, r.ep, r.le, r.wid, fun x hx => ?_, fun i j c hc => ?_, by have := r.lt; simp; omega, fun hk x => by rw [World.frozen?_of_block (w := w) (a := ⟨io.b, x, Option.none⟩) hb]; exact r.thaw hk x⟩
      · rw [World.cell?_of_block (w := w) (a := ⟨io.b, x, Option.none⟩) hb, World.frozen?_of_block (w := w) (a := ⟨io.b, x, Option.none⟩) hb]
        exact r.there x hx
      · obtain ⟨v, h1, h2⟩ := r.cells i j c hc
        exact ⟨v, by rw [World.cell?_of_block (w := w) (a := ⟨io.b, _, Option.none⟩) hb]; exact h1, hs.rep h2⟩
  · by_cases hx : x = o <;> by_cases hy : y = o
    · rw [hx, hy]
    · subst hx
      rw [kC4] at e
      rw [kCl hy] at e'
      cases e
      obtain ⟨_, _, r⟩ := hr.obj y io' e'
      have := r.lt
      simp at hb
      omega
    · subst hy
      rw [kC4] at e'
      rw [kCl hx] at e
      cases e'
      obtain ⟨_, _, r⟩ := hr.obj x io e
      have := r.lt
      simp at hb
      omega
    · rw [kCl hx] at e
      rw [kCl hy] at e'
      exact hr.inj x y io io' e e' hb
end Go.Eng
