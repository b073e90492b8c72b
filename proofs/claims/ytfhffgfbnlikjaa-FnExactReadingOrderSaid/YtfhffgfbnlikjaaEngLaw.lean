import Derived.Test.YtfhffgfbnlikjaaEngArg
namespace Go.Eng
set_option linter.unusedVariables false
set_option linter.unusedSimpArgs false
open Go.RowKit Go.ChangeShapes
section
variable {P : Program}
theorem IsC.intE {t : TypeId} {k : IntKind} {cs : List AV} (ht : P.underlying t = some (.int k)) (h : IsC P t cs) : ∃ n, cs = [.sc (.int k n)] ∧ (Lit.int k n).wf = true := by
  cases h with
  | int h hw => rw [ht] at h; cases h; exact ⟨_, rfl, hw⟩
  | bool h => rw [ht] at h; cases h
  | str h _ => rw [ht] at h; cases h
  | nil h => rw [ht] at h; cases h
  | fs h _ _ => rw [ht] at h; cases h
  | agg h _ => rw [ht] at h; cases h
theorem IsC.sliceE {t e : TypeId} {cs : List AV} (ht : P.underlying t = some (.slice e)) (h : IsC P t cs) : cs = [kBd] ∨ ∃ rows, cs = [.fs (P.cellsOf e) rows] ∧ rows.length ≤ maxLen ∧ ∀ row ∈ rows, IsC P e row := by
  cases h with
  | int h hw => rw [ht] at h; cases h
  | bool h => rw [ht] at h; cases h
  | str h _ => rw [ht] at h; cases h
  | nil h => exact .inl rfl
  | fs h h2 h3 => rw [ht] at h; cases h; exact .inr ⟨_, rfl, h2, h3⟩
  | agg h _ => rw [ht] at h; cases h
theorem IsC.structE {t : TypeId} {fs : Array Field} {cs : List AV} (ht : P.underlying t = some (.struct fs)) (h : IsC P t cs) : IsFs P fs.toList cs := by
  cases h with
  | int h hw => rw [ht] at h; cases h
  | bool h => rw [ht] at h; cases h
  | str h _ => rw [ht] at h; cases h
  | nil h => rw [ht] at h; cases h
  | fs h _ _ => rw [ht] at h; cases h
  | agg h h2 => rw [ht] at h; cases h; exact h2
theorem IsFs.consE {f : Field} {fs : List Field} {cs : List AV} (h : IsFs P (f :: fs) cs) : ∃ a r, cs = a ++ r ∧ IsC P f.type a ∧ IsFs P fs r := by
  cases h with
  | cons h1 h2 => exact ⟨_, _, rfl, h1, h2⟩
theorem IsFs.nilE {cs : List AV} (h : IsFs P [] cs) : cs = [] := by
  cases h; rfl
def IsV (P : Program) (t : TypeId) (a : AV) : Prop := match P.underlying t with
  | some (.struct _) => ∃ cs, a = .agg cs ∧ IsC P t cs
  | _ => IsC P t [a]
def IsVs (P : Program) : List TypeId → List AV → Prop
  | [], as => as = []
  | t :: ts, as => ∃ a r, as = a :: r ∧ IsV P t a ∧ IsVs P ts r
theorem IsV.intE {t : TypeId} {k : IntKind} {a : AV} (ht : P.underlying t = some (.int k)) (h : IsV P t a) : ∃ n, a = .sc (.int k n) ∧ (Lit.int k n).wf = true := by
  unfold IsV at h
  rw [ht] at h
  obtain ⟨b, e, h2⟩ := IsC.intE ht h
  exact ⟨b, by simpa using e, h2⟩
theorem IsV.sliceE {t e : TypeId} {a : AV} (ht : P.underlying t = some (.slice e)) (h : IsV P t a) : a = kBd ∨ ∃ rows, a = .fs (P.cellsOf e) rows ∧ rows.length ≤ maxLen ∧ ∀ row ∈ rows, IsC P e row := by
  unfold IsV at h
  rw [ht] at h
  rcases IsC.sliceE ht h with e1 | ⟨r, e1, h2, h3⟩
  · exact .inl (by simpa using e1)
  · exact .inr ⟨r, by simpa using e1, h2, h3⟩
theorem IsV.structE {t : TypeId} {fs : Array Field} {a : AV} (ht : P.underlying t = some (.struct fs)) (h : IsV P t a) : ∃ cs, a = .agg cs ∧ IsC P t cs := by
  unfold IsV at h
  rw [ht] at h
  exact h
variable {H : Type} {enc : TypeId × Value → H}
theorem value_ok (hl : laidOutB P = true) {ts : List TypeId} (hts : plainIn P ts = true) {W : World} {base : Nat} {sp : Nat → Bool} {t : TypeId} (ht : t ∈ ts) {v : Value} {d : DataW H} {p : List MemPlace}
    (hv : Value.okWide P W .any base t v) (h : DataW.Trod enc P W 0 sp true t v d p) : ∃ a, IsV P t a ∧ Rep nown W RM.none a v := by
  obtain ⟨fuel, hf⟩ := h
  obtain ⟨as, g1, g2, g3⟩ := cells_of hl hts fuel t v.cells.toList _ ht hf
  have hp := List.all_eq_true.1 hts t ht
  simp only [Bool.and_eq_true] at hp
  obtain ⟨_, hp⟩ := hp
  have one : ∀ (cs : List AV) (u : Value), kIp W cs [u] → ∃ a, cs = [a] ∧ Rep nown W RM.none a u := fun cs u hc => by
    obtain ⟨q1, q2, q3⟩ := hc
    match cs, q1 with
    | [a], _ => exact ⟨a, rfl, q3 0 a u rfl rfl⟩
  unfold Value.okWide at hv
  unfold IsV
  split at hp
  · rename_i hu
    rw [hu] at hv ⊢
    obtain ⟨b, rfl⟩ := Go.WideShapes.okWide_bool (P := P) (w := W) (r := .any) (base := base) hu (by unfold Value.okWide; rw [hu]; exact hv)
    obtain ⟨a, rfl, q⟩ := one as _ g2
    exact ⟨a, g1, q⟩
  · rename_i hu
    rw [hu] at hv ⊢
    obtain ⟨b, rfl⟩ := Go.WideShapes.okWide_int (P := P) (w := W) (r := .any) (base := base) hu (by unfold Value.okWide; rw [hu]; exact hv)
    obtain ⟨a, rfl, q⟩ := one as _ g2
    exact ⟨a, g1, q⟩
  · rename_i hu
    rw [hu] at hv ⊢
    obtain ⟨b, rfl⟩ := Go.WideShapes.okWide_string (P := P) (w := W) (r := .any) (base := base) hu (by unfold Value.okWide; rw [hu]; exact hv)
    obtain ⟨a, rfl, q⟩ := one as _ g2
    exact ⟨a, g1, q⟩
  · rename_i hu
    rw [hu] at hv ⊢
    obtain ⟨x, len, cap, rfl⟩ := Go.WideShapes.okWide_slice (P := P) (w := W) (r := .any) (base := base) hu (by unfold Value.okWide; rw [hu]; exact hv)
    obtain ⟨a, rfl, q⟩ := one as _ g2
    exact ⟨a, g1, q⟩
  · rename_i fs hu
    rw [hu] at hv ⊢
    obtain ⟨cs, rfl, h1, _⟩ := hv
    obtain ⟨q1, q2, q3⟩ := g2
    exact ⟨.agg as, ⟨as, rfl, g1⟩, .agg q2 (by rw [q1]; rfl) fun i c v e1 e2 => q3 i c v e1 (by simpa [Value.cells] using e2)⟩
  · cases hp
theorem args_ok (hl : laidOutB P = true) {ts : List TypeId} (hts : plainIn P ts = true) {W : World} {base : Nat} {sp : Nat → Bool} :
    ∀ (l : List TypeId) (vs : List Value) (ds : List (DataW H)) (p : List MemPlace), (∀ t ∈ l, t ∈ ts) → DataW.TrodAll enc P W 0 sp true l vs ds p → (∀ (j : Nat) t v, l[j]? = some t → vs[j]? = some v → Value.okWide P W .any base t v) →
      ∃ as, IsVs P l as ∧ as.length = vs.length ∧ (∀ (i : Nat) (a : AV) (v : Value), as[i]? = some a → vs[i]? = some v → Rep nown W RM.none a v) ∧ ds.length = l.length
  | [], vs, ds, p, _, h, _ => by
    obtain ⟨rfl, rfl, rfl⟩ := trodAll_nil h
    exact ⟨[], rfl, rfl, fun i a v e => by simp at e, rfl⟩
  | t :: l, vs, ds, p, hm, h, hok => by
    obtain ⟨v, vs', d, ds', p1, p2, rfl, rfl, rfl, h1, h2⟩ := trodAll_cons h
    obtain ⟨a, g1, g2⟩ := value_ok hl hts (hm t (by simp)) (hok 0 t v rfl rfl) h1
    obtain ⟨as, g3, g4, g5, g6⟩ := args_ok hl hts l vs' ds' p2 (fun u hu => hm u (by simp [hu])) h2 (fun j u w e1 e2 => hok (j + 1) u w (by simpa using e1) (by simpa using e2))
    refine ⟨a :: as, ⟨a, as, rfl, g1, g3⟩, by simp [g4], fun i c u e1 e2 => ?_, by simp [g6]⟩
    match i with
    | 0 => simp at e1 e2; subst e1 e2; exact g2
    | i + 1 => exact g5 i c u (by simpa using e1) (by simpa using e2)
theorem argsAgain (hl : laidOutB P = true) {W W' : World} (hb : Below W.heap.size W W') :
    ∀ (l : List TypeId) (vs : List Value) (ds : List (DataW H)) (p : List MemPlace), (∀ t ∈ l, P.readableRec t = true ∧ t < P.types.size) → DataW.TrodAll enc P W 0 (fun _ => true) true l vs ds p → (∀ x ∈ p, x.block < W.heap.size) →
      DataW.TrodAll enc P W' 0 (fun b => decide (b < W.heap.size)) true l vs ds p
  | [], vs, ds, p, _, h, _ => by
    obtain ⟨rfl, rfl, rfl⟩ := trodAll_nil h
    rfl
  | t :: l, vs, ds, p, hm, h, hlt => by
    obtain ⟨v, vs', d, ds', p1, p2, rfl, rfl, rfl, h1, h2⟩ := trodAll_cons h
    exact ⟨p1, p2, Below.trod hl (hm t (by simp)).1 (hm t (by simp)).2 h1 hb (fun x hx => hlt x (by simp [hx])), argsAgain hl hb l vs' ds' p2 (fun u hu => hm u (by simp [hu])) h2 (fun x hx => hlt x (by simp [hx])), rfl⟩
end
def lawParams (P : Program) (ts : List TypeId) (fn : Func) : Bool := plainIn P ts && fn.params.toList.all fun t => ts.contains t && P.readableRec t
theorem repN_bool {X : Nat → Prop} {B : Nat} {w : World} {b : Bool} {v : Value} (h : RepN X B w (bv b) v) : v = .bool b := by
  obtain ⟨ρ0, _, h2⟩ := h
  obtain ⟨h3, h4⟩ := h2 0
  obtain ⟨_, g⟩ := h4 (mat depth (bv b) 0).2 (fun i ob e => by simpa using e)
  have : (mat depth (bv b) 0).1 = bv b := rfl
  rw [this] at g
  cases g
  rfl
theorem law_calls {C : Checked} {f : FuncId} {fn : Func} {s : ChangeSpec} {H : Type} {enc : TypeId × Value → H}
    (hl : laidOutB C.prog = true) (hvars : s.vars = []) {tb : TypeId} (hres : fn.resultTypes = #[tb]) (htb : C.prog.underlying tb = some .bool)
    {ts : List TypeId} (hts : lawParams C.prog ts fn = true)
    (hspec : ∀ ds : List (DataW H), ds.length = fn.params.size → s.fn H ds = { results := [.lit (.bool true)], args := ds })
    (hb : kAh C.prog f) {F : List AV → Option AV} (hp : kAs C.prog f F) (hF : ∀ as, IsVs C.prog fn.params.toList as → F as = some (bv true))
    (W : World) (base : Nat) (args : Array Value) (ds gs : List (DataW H)) (before : List MemPlace)
    (hval : ∀ (j : Nat) t v, fn.params[j]? = some t → args[j]? = some v → Value.okWide C.prog W .any base t v)
    (hW : DataW.Whole enc C.prog fn.params.toList s.vars false W args.toList ds gs before) (hg : Glob C.prog W) :
    Calls C.prog f args W fun e W' => ∃ v, e = .returned v ∧ s.post enc C.prog fn false true false false W args v W' := by
  have hW' := hW
  obtain ⟨p, q, hA, hV, rfl, _, _⟩ := hW
  rw [hvars] at hV
  obtain ⟨rfl, rfl⟩ := trodVars_none hV
  unfold lawParams at hts
  simp only [Bool.and_eq_true] at hts
  obtain ⟨hts1, hts2⟩ := hts
  have hin : ∀ t ∈ fn.params.toList, t ∈ ts ∧ C.prog.readableRec t = true := fun t ht => by
    have := List.all_eq_true.1 hts2 t ht
    simp only [Bool.and_eq_true, List.contains_iff_mem] at this
    exact this
  obtain ⟨as, g1, g2, g3, g4⟩ := args_ok hl hts1 (base := base) fn.params.toList args.toList ds p (fun t ht => (hin t ht).1) hA (fun j t v e1 e2 => hval j t v (by simpa using e1) (by simpa using e2))
  have hcall := hp as _ (hF as g1) noX W args hg (by simpa using g2.symm) (fun i d v e1 e2 => g3 i d v e1 (by simpa using e2))
  unfold kI3 at hcall
  rw [kD2 hb] at hcall
  simp only at hcall
  refine hcall.mono fun e W' ⟨v, he, hbel, hr⟩ => ⟨v, he, ?_⟩
  have hv := repN_bool hr
  subst hv
  have hsp := hspec ds (by rw [g4]; simp)
  have hlt : ∀ x ∈ p, x.block < W.heap.size := fun x hx => hW'.lt x (by simpa using hx)
  have hret : s.fn H (ds ++ []) = { results := [.lit (.bool true)], args := ds } := by rw [List.append_nil]; exact hsp
  refine ⟨ds, [], p ++ [], [], p, [], hW', ?_, ?_, ?_, Below.frame hbel.toBelow _, fun h => by cases h⟩
  · rw [hret, hres]
    exact trodAll_mk1 (shut_bool htb true)
  · rw [hret]
    refine argsAgain hl hbel.toBelow _ _ _ _ (fun t ht => ⟨(hin t ht).2, ?_⟩) hA hlt
    have := List.all_eq_true.1 hts1 t (hin t ht).1
    simp only [Bool.and_eq_true] at this
    have h2 := this.1
    unfold isVar at h2
    simp only [Bool.and_eq_true, decide_eq_true_eq] at h2
    exact h2.1
  · rw [hret, hvars]
    rfl
theorem law_lifted {C : Checked} {os : Os} {f : FuncId} {fn : Func} {s : ChangeSpec} {conds : List PathCond} {H : Type} {enc : TypeId × Value → H}
    (own : ownKnob C.prog.godebug = none) (started : os.Started) (noInit : C.prog.inits.idxOf? f = none) (hfn : C.prog.funcs[f]? = some fn)
    (witness : ∃ (w : World) (tape : Tape) (i : Input), w.os = os ∧ (w.forCall tape i).Shaped C.prog ∧ i.vars = [] ∧ Input.okWide C.prog (w.forCall tape i) .any w.heap.size f i ∧
      s.pre6 enc C.prog fn conds false (w.forCall tape i).memory i.args ∧ ({} : Assume).holds C.prog (lone (Frame.enter C.prog f i.args .normal) [] (w.forCall tape i)))
    (hl : laidOutB C.prog = true) (hvars : s.vars = []) {tb : TypeId} (hres : fn.resultTypes = #[tb]) (htb : C.prog.underlying tb = some .bool)
    {ts : List TypeId} (hts : lawParams C.prog ts fn = true)
    (hspec : ∀ ds : List (DataW H), ds.length = fn.params.size → s.fn H ds = { results := [.lit (.bool true)], args := ds })
    (hb : kAh C.prog f) {F : List AV → Option AV} (hp : kAs C.prog f F) (hF : ∀ as, IsVs C.prog fn.params.toList as → F as = some (bv true)) (hgl : libTabs.all (fun t => (C.prog.globalNamed t.1).isNone) = true) :
    ReturnsInHanded {} C os f .any (s.pre6 enc C.prog fn conds false) (s.post enc C.prog fn false true false false) := by
  exact returnsInHanded_of_change own started noInit hfn witness fun W base args ds gs before hval hW _ _ => law_calls hl hvars hres htb hts hspec hb hp hF W base args ds gs before hval hW (Glob.none hgl)
end Go.Eng
