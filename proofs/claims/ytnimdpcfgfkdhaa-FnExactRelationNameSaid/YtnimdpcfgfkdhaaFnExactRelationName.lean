/-
  The law FnExactRelationName holds, for all arguments: it returns true, and its arguments read behind the call as before. No condition.
-/
import Derived.Test.YtnimdpcfgfkdhaaFnExactRelationNameGen
import Derived.Test.YtnimdpcfgfkdhaaRows
namespace Go.Proofs.Ytnimdpcfgfkdhaa
open Go Go.Eng Go.Eng.Cod

theorem nil_ok : EnvOK Try.prog (envL []) := envL_ok (fun _ h => by cases h)

def within (a b c : Int) : Bool := decide (b ≤ a) && decide (a ≤ c)

theorem ok_impl_within : PureOK Try.prog n_impl_within (T3 within) := pureT3 nil_ok mixed hb_impl_within fun a b c => by
  simp [e_impl_within, within]

theorem ok_spec_l00In : PureOK Try.prog n_spec_l00In (T3 within) := pureT3 nil_ok mixed hb_spec_l00In fun a b c => by
  simp [e_spec_l00In, within]

def names : List ByteArray := [⟨#[110, 111, 110, 101]⟩, ⟨#[114, 105, 103, 104, 116]⟩, ⟨#[97, 98, 111, 118, 101]⟩, ⟨#[98, 101, 108, 111, 119]⟩, ⟨#[117, 112, 112, 101, 114]⟩, ⟨#[108, 111, 119, 101, 114]⟩, ⟨#[105, 110, 115, 105, 100, 101]⟩]
@[simp] theorem names_len : names.length = 7 := rfl

theorem ok_impl_relationNames : PureOK Try.prog n_impl_relationNames (R0 (some (nwl names))) := pureR0 nil_ok mixed hb_impl_relationNames fun r h => by
  cases h
  apply pureG
  simp [e_impl_relationNames, aBuildSlice, zrows, aFillRows]
  exact release_sl _ names rfl rfl rfl

theorem ok_spec_l20Names : PureOK Try.prog n_spec_l20Names (R0 (some (nwl names))) := pureR0 nil_ok mixed hb_spec_l20Names fun r h => by
  cases h
  apply pureG
  simp [e_spec_l20Names, aBuildSlice, zrows, aFillRows]
  exact release_sl _ names rfl rfl rfl

def relationName (r : Int) : ByteArray := bif within r 0 6 then names.getD r.toNat ⟨#[]⟩ else ⟨#[]⟩
theorem names_at {r : Int} (h : within r 0 6 = true) : idx (iv r) 7 = some r.toNat ∧ names[r.toNat]? = some (relationName r) := by
  have h' := h
  simp [within] at h'
  have : r = 0 ∨ r = 1 ∨ r = 2 ∨ r = 3 ∨ r = 4 ∨ r = 5 ∨ r = 6 := by omega
  rcases this with rfl | rfl | rfl | rfl | rfl | rfl | rfl <;> exact ⟨rfl, rfl⟩

theorem ok_impl_RelationName : PureOK Try.prog n_impl_RelationName (T1 relationName) :=
  pureT1 (envL_ok (l := [(n_impl_within, .pure (T3 within)), (n_impl_relationNames, .pure (R0 (some (nwl names))))]) (by simpa [ContractOK] using ⟨ok_impl_within, ok_impl_relationNames⟩)) mixed hb_impl_RelationName fun b => by
  simp [e_impl_RelationName, envL]
  cases h : within b 0 6
  · simp [relationName, h]
  · have T : Tab [⟨1, names.map Row.cells⟩] (.sl 0 7 0 7) (some names) := Tab.sl rfl rfl rfl
    obtain ⟨h1, h2⟩ := names_at h
    have h3 := T.idx (iv b)
    simp at h3
    simp [h3, h1, T.load, h2, cut]

theorem ok_spec_RelationName : PureOK Try.prog n_spec_RelationName (T1 relationName) :=
  pureT1 (envL_ok (l := [(n_spec_l00In, .pure (T3 within)), (n_spec_l20Names, .pure (R0 (some (nwl names))))]) (by simpa [ContractOK] using ⟨ok_spec_l00In, ok_spec_l20Names⟩)) mixed hb_spec_RelationName fun b => by
  simp [e_spec_RelationName, envL]
  cases h : within b 0 6
  · simp [relationName, h]
  · have T : Tab [⟨1, names.map Row.cells⟩] (.sl 0 7 0 7) (some names) := Tab.sl rfl rfl rfl
    obtain ⟨h1, h2⟩ := names_at h
    have h3 := T.idx (iv b)
    simp at h3
    simp [h3, h1, T.load, h2, cut]

theorem ok_laws_FnExactRelationName : PureOK Try.prog n_laws_FnExactRelationName (T1 fun _ : Int => true) :=
  pureT1 (envL_ok (l := [(n_spec_RelationName, .pure (T1 relationName)), (n_impl_RelationName, .pure (T1 relationName))])
    (by simpa [ContractOK] using ⟨ok_spec_RelationName, ok_impl_RelationName⟩)) mixed hb_laws_FnExactRelationName fun b => by
  simp [e_laws_FnExactRelationName, envL]
theorem law_FnExactRelationName (b : Int) (_ : Row.fine b) : T1 (fun _ : Int => true) [enc b] = some (bv true) := T1_enc _ b

theorem isC_2 {cs : List AV} (h : IsC Try.prog 2 cs) : ∃ x : Int, cs = Row.cells x ∧ Row.fine x := by
  obtain ⟨n, rfl, hn⟩ := IsC.intE Try.underlying2 h
  exact ⟨n, rfl, fine_int hn⟩
theorem own : ownKnob Try.prog.godebug = none := by kernel_rfl
theorem laidOut : laidOutB Try.prog = true := by kernel_rfl

set_option maxRecDepth 100000 in
theorem holds : Rows.FnExactRelationNameSaid :=
  OpenClaim.holds_of_wide 3 Try.f3 rfl rfl rfl rfl rfl rfl rfl ⟨rfl, rfl, rfl, rfl, rfl⟩ rfl rfl rfl rfl rfl (by kernel_rfl) Try.func3 (by kernel_rfl)
    (of_decide_eq_true (by kernel_rfl)) (by unfold Func.isWrapper; rw [if_neg (by decide +kernel)]; exact ⟨rfl, rfl⟩)
    (fun os started H enc _ => law_lifted (C := Try.checked) (s := Rows.fnExactRelationNameSpec) own started (by kernel_rfl) Try.func3
      (ChangeSpec.witness6 (enc := enc) (C := Try.checked) false ⟨#[], #[.int .i64 0], []⟩ 8 (by kernel_rfl) (by kernel_rfl) (by kernel_rfl) (by kernel_rfl))
      laidOut rfl (tb := 4) rfl Try.underlying4 (ts := [2]) (by kernel_rfl)
      (fun ds h => by match ds, h with | [d0], _ => rfl)
      hb_laws_FnExactRelationName ok_laws_FnExactRelationName (by
    intro l h
    obtain ⟨a0, l0, rfl, g0, k0⟩ := h
    cases k0
    obtain ⟨b0, e0, w0⟩ := isC_2 (isV_one (by kernel_rfl) g0)
    obtain rfl := one_enc e0
    exact law_FnExactRelationName b0 w0))
#print axioms holds
end Go.Proofs.Ytnimdpcfgfkdhaa
