import Derived.Test.YtfhffgfbnlikjaaEngWrite
namespace Go.Eng
set_option linter.unusedVariables false
set_option linter.unusedSimpArgs false
variable {P : Program} {X : Nat → Prop} {own : Nat → Prop} {w : World} {ρ : RM}
theorem kAl {α β : Type} {x : Option α} {f : α → Option β} {y : β} (h : kA0 x f = some y) : ∃ a, x = some a ∧ f a = some y := by
  cases x with
  | none => simp [kA0] at h
  | some a => exact ⟨a, rfl, h⟩
theorem kAu {α γ β : Type} {x : Option (α × γ)} {f : α → γ → Option β} {y : β} (h : kA3 x f = some y) : ∃ a c, x = some (a, c) ∧ f a c = some y := by
  cases x with
  | none => simp [kA3] at h
  | some a => exact ⟨a.1, a.2, rfl, h⟩
theorem convOfBytes_ok {src dst e : TypeId} (hs : P.underlying src = some (.slice e)) (he : P.underlying e = some (.int .u8)) (hd : P.underlying dst = some .string) {h : kA4} (hr : HRep P X ρ h w) {x v : AV} {px : Value} (hx : Rep (Own X ρ) w ρ x px)
    (hl : kI7 x h = some v) : ∃ u, (convert src dst px).run P w = .ok u w ∧ Rep (Own X ρ) w ρ v u := by
  unfold kI7 at hl
  split at hl
  · rename_i rows hrows
    split at hl
    · rename_i l hb
      cases hl
      obtain ⟨news, hsrc, hwid, hcells⟩ := src_ok (P := P) (tx := src) (k := 1) (by omega) (by simp [hs]) hr hx hrows
      have key : ∀ (rows : List (List AV)) (l : List UInt8), bytesOf rows = some l → ∃ ns : List Int, rows = ns.map (fun n => [AV.sc (.int .u8 n)]) ∧ l = ns.map fun n => UInt8.ofNat n.toNat := by
        intro rows
        induction rows with
        | nil => intro l h; simp [bytesOf] at h; exact ⟨[], rfl, h⟩
        | cons r rows ih =>
          intro l h
          unfold bytesOf at h
          split at h
          · rename_i e0; cases e0
          · rename_i n r' e0
            cases e0
            split at h
            · rename_i l' hl'
              cases h
              obtain ⟨ns, h1, h2⟩ := ih l' hl'
              exact ⟨n :: ns, by rw [h1]; rfl, by rw [h2]; rfl⟩
            · cases h
          · cases h
      obtain ⟨ns, h1, h2⟩ := key rows l hb
      have hnews : news = ns.map (Value.int .u8) := by
        apply List.ext_getElem?
        intro j
        have hlen : news.length = ns.length := by rw [hsrc.newsLen, h1]; simp
        by_cases hj : j < ns.length
        · obtain ⟨v, p1, p2⟩ := hcells j 0 (.sc (.int .u8 ns[j])) (by rw [h1]; simp [kB4, hj])
          rw [Nat.mul_one, Nat.add_zero] at p1
          rw [p1, p2.int_inv]
          simp [hj]
        · rw [List.getElem?_eq_none (by omega), List.getElem?_eq_none (by simp; omega)]
      refine ⟨.string ⟨l.toArray⟩, ?_, .sc rfl⟩
      have hlr : rows.length = ns.length := by rw [h1]; simp
      have hcl := hsrc.cells
      cases hx with
      | @sc _ v hv =>
        have e0 : px = .slice none 0 0 ∧ rows = [] := by
          unfold aSrc at hrows
          split at hrows
          · rename_i e1 e2
            cases e2
            cases hrows
            exact ⟨rfl, rfl⟩
          all_goals first
            | (exact absurd ‹false = true› (by decide))
            | (rename_i e1 e2; first | cases e2 | cases e1 | cases hrows)
        obtain ⟨rfl, rfl⟩ := e0
        have : ns = [] := List.eq_nil_of_length_eq_zero (by rw [← hlr]; rfl)
        subst this
        subst h2
        rw [run_convert_bytes_nil w src e hs he 0 0 dst hd]
        rfl
      | @sl _ o ep i n cap a io hio hle hA =>
        simp only [Builtin.firstCells, Nat.mul_one] at hcl
        have hn := hsrc.len w
        simp [Builtin.lenOf] at hn
        rw [run_convert_bytes_string w src dst e _ n cap hs he hd, run_bytesToString w _ n cap ns (by rw [hn, hcl, hnews]), foldl_push_bytes]
        rw [h2]
        simp only [ByteArray.empty, ByteArray.emptyWithCapacity]
        simp
        rfl
      | @fs _ k rows' a cap cf hk hc ha hown hcell hrep =>
        simp only [Builtin.firstCells, Nat.mul_one] at hcl
        have hn := hsrc.len w
        simp [Builtin.lenOf] at hn
        rw [run_convert_bytes_string w src dst e _ rows'.length cap hs he hd, run_bytesToString w _ rows'.length cap ns (by rw [hn, hcl, hnews]), foldl_push_bytes]
        rw [h2]
        simp only [ByteArray.empty, ByteArray.emptyWithCapacity]
        simp
        rfl
      | _ => simp [aSrc] at hrows
    · cases hl
  · cases hl
end Go.Eng
