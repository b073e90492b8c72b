/-
  The law FnExactRelationNamed holds, for all arguments: it returns true, and its arguments read behind the call as before. No condition.
-/
import Derived.Test.YtnimdpcfgfkdhaaFnExactRelationNamedGen
import Derived.Test.YtnimdpcfgfkdhaaRows
namespace Go.Proofs.Ytnimdpcfgfkdhaa
open Go Go.Eng Go.Eng.Cod

theorem nil_ok : EnvOK Try.prog (envL []) := envL_ok (fun _ h => by cases h)

def names : List ByteArray := [⟨#[110, 111, 110, 101]⟩, ⟨#[114, 105, 103, 104, 116]⟩, ⟨#[97, 98, 111, 118, 101]⟩, ⟨#[98, 101, 108, 111, 119]⟩, ⟨#[117, 112, 112, 101, 114]⟩, ⟨#[108, 111, 119, 101, 114]⟩, ⟨#[105, 110, 115, 105, 100, 101]⟩]
@[simp] theorem names_len : names.length = 7 := rfl

theorem ok_impl_relationNames : PureOK Try.prog n_impl_relationNames (R0 (some (nwl names))) := pureR0 nil_ok mixed hb_impl_relationNames fun r h => by
  cases h
  apply pureG
  simp [e_impl_relationNames, aBuildSlice, zrows, aFillRows]
  exact release_sl _ names rfl rfl rfl

theorem ok_spec_l20Names : PureOK Try.prog n_spec_l20Names (R0 (some (nwl names))) := pureR0 nil_ok mixed hb_spec_l20Names fun r h => by
  cases h
  apply pureG
  simp [e_spec_l20Names, aBuildSlice, zrows, aFillRows]
  exact release_sl _ names rfl rfl rfl

def find (s : ByteArray) : List ByteArray → Nat → Int
  | [], _ => -1
  | x :: r, i => bif decide (x = s) then (i : Int) else find s r (i + 1)
def relationNamed (s : ByteArray) : Int × Int := bif decide (find s names 0 < 0) then (0, 3) else (find s names 0, 0)
theorem find_pos (s : ByteArray) : ∀ (l : List ByteArray) (i : Nat), find s l i = -1 ∨ 0 ≤ find s l i
  | [], _ => .inl rfl
  | x :: r, i => by
    unfold find
    cases decide (x = s)
    · simpa using find_pos s r (i + 1)
    · right; simp

theorem lp_spec_RelationNamed (env : Nat → Contract) (h : Heap) (x z : AV) (s : ByteArray) (l : List ByteArray) (hm : l.length ≤ maxLen) (T : Tab h x (some l)) : ∀ (suf pre : List ByteArray), l = pre ++ suf →
    (obind (loopP hm0_spec_RelationNamed xm0_spec_RelationNamed (lb0_spec_RelationNamed env) [sv s, und, .top, .top, x, iv (pre.length : Nat), z, .top, .top, .top, .top, .top, .top, .top, .top, .top, .top, .top, .top, .top] h) fun r => lk0_spec_RelationNamed env r.1 r.2.1 r.2.2)
    = some (.tup [iv (bif decide (find s suf pre.length < 0) then 0 else find s suf pre.length), iv (bif decide (find s suf pre.length < 0) then 3 else 0)], h) := by
  intro suf
  induction suf with
  | nil =>
    intro pre hl
    rw [loopP.eq_1]
    simp [e_lb0_spec_RelationNamed, T.len, stp_end hl, restr, e_lk0x0_spec_RelationNamed, find]
  | cons a suf ih =>
    intro pre hl
    have S := Stp.mk' hl hm
    have ih' := ih (pre ++ [a]) (by simp [hl])
    have hi := T.idx (iv (pre.length : Nat))
    rw [loopP.eq_1]
    simp at hi ih'
    simp [e_lb0_spec_RelationNamed, T.len, hi, S.idx, S.lt, T.load, S.get, S.elt, S.nn, cut, S.wr, find]
    by_cases e : a = s
    · simp [e, restr, e_lk0r_spec_RelationNamed, S.nn]
    · simp [e, restr, ih']

theorem ok_spec_RelationNamed : PureOK Try.prog n_spec_RelationNamed (T1 relationNamed) :=
  pureT1 (envL_ok (l := [(n_spec_l20Names, .pure (R0 (some (nwl names))))]) (by simpa [ContractOK] using ok_spec_l20Names)) mixed hb_spec_RelationNamed fun s => by
  have T : Tab [⟨1, names.map Row.cells⟩] (.sl 0 7 0 7) (some names) := Tab.sl rfl rfl rfl
  have L := fun env z => lp_spec_RelationNamed env _ (.sl 0 7 0 7) z s names (by decide) T names [] rfl
  simp at L
  simp [e_spec_RelationNamed, envL, L, relationNamed]
  cases decide (find s names 0 < 0) <;> simp

theorem lp_slices_Index (env : Nat → Contract) (h : Heap) (x z u v : AV) (s : ByteArray) (q : Sl ByteArray) (hm : (q.getD []).length ≤ maxLen) (T : Tab h x q) : ∀ (suf pre : List ByteArray), q.getD [] = pre ++ suf →
    (obind (loopP hm0_slices_Index_string_string xm0_slices_Index_string_string (lb0_slices_Index_string_string env) [x, sv s, u, v, .top, .top, z, iv ((q.getD []).length : Nat), iv (pre.length : Nat), .top, .top, .top, .top, .top, .top, .top, .top, .top, .top] h) fun r => lk0_slices_Index_string_string env r.1 r.2.1 r.2.2)
    = some (iv (find s suf pre.length), h) := by
  intro suf
  induction suf with
  | nil =>
    intro pre hl
    rw [loopP.eq_1]
    simp [e_lb0_slices_Index_string_string, stp_end hl, restr, e_lk0x0_slices_Index_string_string, find]
  | cons a suf ih =>
    intro pre hl
    have S := Stp.mk' hl hm
    have ih' := ih (pre ++ [a]) (by simp [hl])
    have hi := T.idx (iv (pre.length : Nat))
    rw [loopP.eq_1]
    simp at hi ih'
    simp [e_lb0_slices_Index_string_string, hi, S.idx, S.lt, T.load, S.get, S.elt, cut, S.wr, find]
    by_cases e : a = s
    · simp [e, restr, e_lk0r_slices_Index_string_string]
    · have e2 : ¬ s = a := fun e' => e e'.symm
      simp [e, e2, restr, ih']

theorem ok_slices_Index : PureOK Try.prog n_slices_Index_string_string (G2 (fun (l : Sl ByteArray) (_ : ByteArray) => decide ((l.getD []).length ≤ maxLen)) fun l s => iv (find s (l.getD []) 0)) :=
  pureG2 nil_ok mixed hb_slices_Index_string_string fun q s hl => by
  simp at hl
  have T := Tab.enc [] q
  have L := fun env z u v => lp_slices_Index env [] _ z u v s q hl T (q.getD []) [] rfl
  simp at L
  simp [e_slices_Index_string_string, T.len, L]

theorem ok_impl_RelationNamed : PureOK Try.prog n_impl_RelationNamed (T1 relationNamed) :=
  pureT1 (envL_ok (l := [(n_impl_relationNames, .pure (R0 (some (nwl names)))), (n_slices_Index_string_string, .pure (G2 (fun (l : Sl ByteArray) (_ : ByteArray) => decide ((l.getD []).length ≤ maxLen)) fun l s => iv (find s (l.getD []) 0)))])
    (by simpa [ContractOK] using ⟨ok_impl_relationNames, ok_slices_Index⟩)) mixed hb_impl_RelationNamed fun s => by
  have T : Tab [⟨1, names.map Row.cells⟩] (.sl 0 7 0 7) (some names) := Tab.sl rfl rfl rfl
  simp [e_impl_RelationNamed, envL, T.snap, maxLen, relationNamed]
  cases decide (find s names 0 < 0) <;> simp

theorem ok_laws_FnExactRelationNamed : PureOK Try.prog n_laws_FnExactRelationNamed (T1 fun _ : ByteArray => true) :=
  pureT1 (envL_ok (l := [(n_spec_RelationNamed, .pure (T1 relationNamed)), (n_impl_RelationNamed, .pure (T1 relationNamed))])
    (by simpa [ContractOK] using ⟨ok_spec_RelationNamed, ok_impl_RelationNamed⟩)) mixed hb_laws_FnExactRelationNamed fun s => by
  simp [e_laws_FnExactRelationNamed, envL]
theorem law_FnExactRelationNamed (b : ByteArray) (_ : Row.fine b) : T1 (fun _ : ByteArray => true) [enc b] = some (bv true) := T1_enc _ b

theorem isC_9 {cs : List AV} (h : IsC Try.prog 9 cs) : ∃ x : ByteArray, cs = Row.cells x ∧ Row.fine x := by
  obtain ⟨n, rfl, hn⟩ := IsC.strE Try.underlying9 h
  exact ⟨n, rfl, hn⟩
theorem own : ownKnob Try.prog.godebug = none := by kernel_rfl
theorem laidOut : laidOutB Try.prog = true := by kernel_rfl

set_option maxRecDepth 100000 in
theorem holds : Rows.FnExactRelationNamedSaid :=
  OpenClaim.holds_of_wide 4 Try.f4 rfl rfl rfl rfl rfl rfl rfl ⟨rfl, rfl, rfl, rfl, rfl⟩ rfl rfl rfl rfl rfl (by kernel_rfl) Try.func4 (by kernel_rfl)
    (of_decide_eq_true (by kernel_rfl)) (by unfold Func.isWrapper; rw [if_neg (by decide +kernel)]; exact ⟨rfl, rfl⟩)
    (fun os started H enc _ => law_lifted (C := Try.checked) (s := Rows.fnExactRelationNamedSpec) own started (by kernel_rfl) Try.func4
      (ChangeSpec.witness6 (enc := enc) (C := Try.checked) false ⟨#[], #[.string ⟨#[]⟩], []⟩ 8 (by kernel_rfl) (by kernel_rfl) (by kernel_rfl) (by kernel_rfl))
      laidOut rfl (tb := 4) rfl Try.underlying4 (ts := [9]) (by kernel_rfl)
      (fun ds h => by match ds, h with | [d0], _ => rfl)
      hb_laws_FnExactRelationNamed ok_laws_FnExactRelationNamed (by
    intro l h
    obtain ⟨a0, l0, rfl, g0, k0⟩ := h
    cases k0
    obtain ⟨b0, e0, w0⟩ := isC_9 (isV_one (by kernel_rfl) g0)
    obtain rfl := one_enc e0
    exact law_FnExactRelationNamed b0 w0))
#print axioms holds
end Go.Proofs.Ytnimdpcfgfkdhaa
