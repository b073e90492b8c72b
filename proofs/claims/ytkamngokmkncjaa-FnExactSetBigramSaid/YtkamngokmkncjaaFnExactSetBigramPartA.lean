/-
  Functions that the law FnExactSetBigram reaches: their walks and contracts, part 1.
-/
import Derived.Test.YtkamngokmkncjaaFnExactSetBigramGen
namespace Go.Proofs.Ytkamngokmkncjaa
open Go Go.Eng Go.Eng.Cod
set_option maxRecDepth 100000
set_option linter.unusedVariables false
set_option linter.unusedSimpArgs false

theorem nil_ok : EnvOK Try.prog (envL []) := E0

def within (a b c : Int) : Bool := decide (b ≤ a) && decide (a ≤ c)

theorem ok_impl_within : PureOK Try.prog n_impl_within (T3 within) := pureT3 nil_ok mixed hb_impl_within fun a b c => by
  simp [e_impl_within, within]

theorem ok_spec_l00In : PureOK Try.prog n_spec_l00In (T3 within) := pureT3 nil_ok mixed hb_spec_l00In fun a b c => by
  simp [e_spec_l00In, within]

theorem ok_laws_toBigram : PureOK Try.prog n_laws_toBigram (T1 fun b : Bigram => b) := pureT1 E0 mixed hb_laws_toBigram fun b => by
  simp [e_laws_toBigram, envL, aBox, aLoad, cut, aStore, splice, retL, resL, pack]

theorem ok_laws_eqBigram : PureOK Try.prog n_laws_eqBigram (T2 fun a b : Bigram => decide (a = b)) := pureT2 E0 mixed hb_laws_eqBigram fun a b => by
  simp [e_laws_eqBigram, envL, aBox, aLoad, cut]
  obtain ⟨a0, a1, a2⟩ := a
  obtain ⟨b0, b1, b2⟩ := b
  simp

def isLow (b : UInt8) : Bool := decide ((97 : Int) ≤ (b.toNat : Int)) && decide ((b.toNat : Int) ≤ 122)

theorem ok_impl_isLetter : PureOK Try.prog n_impl_isLetter (T1 isLow) := pureT1 E0 mixed hb_impl_isLetter fun b => by
  simp [e_impl_isLetter, isLow]

theorem ok_spec_l01Small : PureOK Try.prog n_spec_l01Small (T1 isLow) := pureT1 E0 mixed hb_spec_l01Small fun b => by
  simp [e_spec_l01Small, isLow]

def isWord (s : ByteArray) : Bool := (bl s).all isLow && (decide (1 ≤ s.size) && decide (s.size ≤ 10))

theorem ok_impl_isCost : PureOK Try.prog n_impl_isCost (T1 fun y => within y 0 1000000) := pureT1 (E1 ok_impl_within) mixed hb_impl_isCost fun y => by
  simp [e_impl_isCost, envL]

def isFirst (s : ByteArray) : Bool := decide (s = ⟨#[]⟩) || isWord s
def validBigram (b : Bigram) : Bool := isWord b.second && (isFirst b.first && within b.cost 0 1000000)
theorem fit_bigram {b : Bigram} (h : fit b = true) : fit b.first = true ∧ fit b.second = true := by
  rw [fit_iff, wt_Bigram] at h
  rw [fit_iff, fit_iff]
  omega

def before (a b : Bigram) : Bool := ltS a.first b.first || (decide (a.first = b.first) && ltS a.second b.second)
def beforeAt (l : List Bigram) (i j : Nat) : Bool := match l[i]?, l[j]? with
  | some a, some b => before a b
  | _, _ => false
theorem ok_spec_l18Before : PureOK Try.prog n_spec_l18Before (G2 (fun p q : Pt Bigram => decide (p.i < p.tab.length) && decide (q.i < q.tab.length)) fun p q => bv (match p.tab[p.i]?, q.tab[q.i]? with
    | some a, some b => before a b
    | _, _ => false)) :=
  pureG2 E0 mixed hb_spec_l18Before fun p q h => by
  obtain ⟨l, i⟩ := p
  obtain ⟨m, j⟩ := q
  simp at h
  obtain ⟨hi, hj⟩ := h
  obtain ⟨a, ha⟩ : ∃ b, l[i]'hi = b := ⟨_, rfl⟩
  obtain ⟨b, hb⟩ : ∃ b, m[j]'hj = b := ⟨_, rfl⟩
  have L := fun g n j h => load_fptr (A := Bigram) g n 3 i j l h
  have M := fun g n k h => load_fptr (A := Bigram) g n 3 j k m h
  cases w1 : ltS a.first b.first
  · simp [e_spec_l18Before, L, M, hi, hj, ha, hb, cut, before, w1]
    cases decide (a.first = b.first) <;> simp [L, M, hi, hj, ha, hb, cut]
  · simp [e_spec_l18Before, L, M, hi, hj, ha, hb, cut, before, w1]

def cmpS (a b : ByteArray) : Int := bif ltS a b then -1 else bif decide (a = b) then 0 else 1
theorem ok_cmp_isNaN_string : PureOK Try.prog n_cmp_isNaN_string (T1 fun _ : ByteArray => false) := pureT1 E0 mixed hb_cmp_isNaN_string fun a => by
  simp [e_cmp_isNaN_string]

theorem ok_cmp_Compare_string : PureOK Try.prog n_cmp_Compare_string (T2 cmpS) := pureT2 (E1 ok_cmp_isNaN_string) mixed hb_cmp_Compare_string fun a b => by
  cases w1 : ltS a b <;> by_cases w2 : a = b <;> simp [e_cmp_Compare_string, envL, cmpS, w1, w2]
  all_goals simp_all

def orI : List Int → Int
  | [] => 0
  | a :: l => bif decide (a = 0) then orI l else a

theorem lp_cmp_Or_int (env : Nat → Contract) {y0 y1 y4 y17 : AV} (q : Sl Int) (hq : fit q = true) :
    (obind (loopP hm0_cmp_Or_int xm0_cmp_Or_int (lb0_cmp_Or_int env) [y0, y1, .top, iv 0, y4, .top, Sl.enc q, iv ((q.getD []).length : Nat), iv 0, .top, .top, .top, .top, .top, .top, .top, .top, y17] []) fun r => lk0_cmp_Or_int env r.1 r.2.1 r.2.2) = some (iv (orI (q.getD [])), []) := by
  have T := lookT q (w := 1) rfl
  have L := loop_over (q.getD []) (fit_max hq) (hmk := hm0_cmp_Or_int) (xm := xm0_cmp_Or_int) (body := lb0_cmp_Or_int env) (K := fun r => lk0_cmp_Or_int env r.1 r.2.1 r.2.2) (σ := Unit) (fun _ (i : Nat) => [y0, y1, .top, iv 0, y4, .top, Sl.enc q, iv ((q.getD []).length : Nat), iv (i : Nat), .top, .top, .top, .top, .top, .top, .top, .top, y17]) (fun _ => [])
    (fun _ _ => True) (fun _ suf => some (iv (orI suf), []))
    (fun pre k suf u hl hi S => by
      by_cases hk : k = 0
      · right
        refine ⟨(), trivial, ?_, by simp [orI, hk]⟩
        rw [loopP.eq_1]
        simp [e_lb0_cmp_Or_int, T.len, T.idx, T.load, S.idx, S.lt, S.elt, cut, S.wr, hk, restr]
      · left
        rw [loopP.eq_1]
        simp [e_lb0_cmp_Or_int, T.len, T.idx, T.load, S.idx, S.lt, S.elt, cut, S.wr, hk, restr, e_lk0r_cmp_Or_int, orI])
    (fun u hi => by
      rw [loopP.eq_1]
      simp [e_lb0_cmp_Or_int, T.len, restr, e_lk0x0_cmp_Or_int, orI]) () trivial
  simpa using L
theorem ok_cmp_Or_int : PureOK Try.prog n_cmp_Or_int (G1 (fun q : Sl Int => fit q) fun q => iv (orI (q.getD []))) :=
  pureG1 E0 mixed hb_cmp_Or_int fun q hq => by
  have T := lookT q (w := 1) rfl
  have L := fun env {y0 y1 y4 y17} => @lp_cmp_Or_int env y0 y1 y4 y17 q hq
  simp [e_cmp_Or_int, T.len, L]

def cmpB (a b : Bigram) : Int := orI [cmpS a.first b.first, cmpS a.second b.second]
theorem cmpB_before (a b : Bigram) : decide (0 ≤ cmpB a b) = !before a b := by
  unfold cmpB before cmpS orI orI orI
  cases ltS a.first b.first <;> by_cases h : a.first = b.first <;> cases ltS a.second b.second <;> by_cases h2 : a.second = b.second <;> simp [h, h2]

theorem ok_impl_compareBigrams : PureOK Try.prog n_impl_compareBigrams (T2 cmpB) := pureT2 (E2 ok_cmp_Compare_string ok_cmp_Or_int) mixed hb_impl_compareBigrams fun a b => by
  have S := fun (M N : AObj) => snapD_sl (A := Int) [M, N, ⟨1, [[iv (cmpS a.first b.first)], [iv (cmpS a.second b.second)]]⟩] (o := 2) (ep := 2) (n := 2) [cmpS a.first b.first, cmpS a.second b.second] rfl rfl rfl
  have f : fit (some [cmpS a.first b.first, cmpS a.second b.second] : Sl Int) = true := rfl
  simp [e_impl_compareBigrams, envL, aBox, aLoad, cut, aBuildSlice, zrows, aFillRows, S, f, cmpB]

section
open Go.Shelf Go.RowKit Go.Lib
/-! ### slices.Insert of one pair of words, by its own text -/
theorem run_copy_k {P : Program} (w : World) (dT sT ty elem : TypeId) (k b o dLen dCap : Nat) (a : Addr) (sLen sCap : Nat) (cs : List Value)
    (hu : P.underlying dT = some (.slice elem)) (hs : (P.info? elem).map (·.size) = some k) (hn : cs.length = Nat.min sLen dLen * k)
    (hsrc : ∀ j v, cs[j]? = some v → w.cell? (a.add j) = some v) (hc : ∀ j, j < cs.length → (w.cell? ⟨b, o + j, none⟩).isSome = true) (hf : ∀ j, j < cs.length → w.frozen? ⟨b, o + j, none⟩ = false) (h1 : ∀ v ∈ cs, v.oneCell' = true) :
    (Builtin.copy_ #[dT, sT] ty #[.slice (some ⟨b, o, none⟩) dLen dCap, .slice (some a) sLen sCap]).run P w = .ok (goInt (Nat.min sLen dLen)) (w.setCells b o cs) := by
  have hl := run_loadCells_list (P := P) w a cs hsrc
  have hst := run_storeCells_cells (P := P) b o cs 0 w (by simpa using hc) (by simpa using hf) h1
  cases hq : P.info? elem with
  | none => simp [hq] at hs
  | some i =>
    have hi : i.size = k := by simpa [hq] using hs
    rw [hn] at hl
    simp [Builtin.copy_, run_underlying hu, Builtin.lenOf, Builtin.firstCells, sizeOf, typeInfo, hq, hi, hl, hst]

theorem ins_room (b c i n vb vc : Nat) (cs vs : List Value) (w : World) (hi : i < n) (hroom : n + 1 ≤ c) (hbig : n ≤ 1000000) (hvb : vb ≠ b)
    (hcl : cs.length = n * 3) (hvl : vs.length = 3)
    (hcs : ∀ j v, cs[j]? = some v → w.cell? ⟨b, j, none⟩ = some v) (hsp : ∀ j, j < (n + 1) * 3 → (w.cell? ⟨b, j, none⟩).isSome = true) (hfz : ∀ j, w.frozen? ⟨b, j, none⟩ = false)
    (hvs : ∀ j v, vs[j]? = some v → w.cell? ⟨vb, j, none⟩ = some v) (h1c : ∀ v ∈ cs, v.oneCell' = true) (h1v : ∀ v ∈ vs, v.oneCell' = true)
    (tA tB : TypeId) (kA kB : Nat) (hsa : w.shape? vb = some (tA, kA)) (hsb : w.shape? b = some (tB, kB)) (hkB : kB ≠ 0) (hfa : ∀ j, w.frozen? ⟨vb, j, none⟩ = false) :
    Calls Try.prog 23 #[.slice (some ⟨b, 0, none⟩) n c, .int .i64 i, .slice (some ⟨vb, 0, none⟩) 1 vc] w fun e w' =>
      e = .returned (.slice (some ⟨b, 0, none⟩) (n + 1) c) ∧ w' = (w.drew.setCells b ((i + 1) * 3) (cs.drop (i * 3))).setCells b (i * 3) vs := by
  have mixed : Try.prog.follows .mixedOrders = true := by kernel_rfl
  have t0 := Try.underlying29
  have hsz : (Try.prog.info? 35).map (·.size) = some 3 := by kernel_rfl
  have hz2 : ¬ ((i : Int) = (n : Int)) := by omega
  have hov : ∀ lb cb, (callFunc 35 #[.slice (some ⟨vb, 0, none⟩) 1 vc, .slice (some ⟨b, (i + 1) * 3, none⟩) lb cb]).run Try.prog w = .ok (.value (.bool false)) w := fun lb cb => by
    rw [run_callFunc_extern Try.func35 (by kernel_rfl) (by kernel_rfl) (by kernel_rfl) (e := Extern.SlicesOverlaps.overlaps #[29, 29] #[4]) (by kernel_rfl),
      Go.Lib.run_overlaps_apart w 29 4 35 Try.underlying29 3 Try.sizeOf35 ⟨vb, 0, none⟩ ⟨b, (i + 1) * 3, none⟩ 1 vc lb cb hvb tA tB kA kB hsa hsb hkB (hfa 0) (hfa kA)]
    rfl
  have hdl : (cs.drop (i * 3)).length = (n - i) * 3 := by rw [List.length_drop, hcl]; omega
  have hw1 : IntKind.i64.wrap ((i : Int) + 1) = (i : Int) + 1 := by rw [IntKind.wrap_i64]; omega
  have hw2 : IntKind.i64.wrap ((n : Int) + 1) = (n : Int) + 1 := by rw [IntKind.wrap_i64]; omega
  have hb1 : (0 : Int) ≤ (i : Int) + 1 := by omega
  have hin : i ≤ n := by omega
  have htn : ((i : Int) + 1).toNat = i + 1 := by omega
  have htn2 : ((n : Int) + 1).toNat = n + 1 := by omega
  have hb2 : ¬ (c = i + 1) := by omega
  have hb3 : (i : Int) ≤ (n : Int) + 1 := by omega
  have hb4 : ¬ (c = i) := by omega
  have hcp1 : ∀ ty dc sc, (Builtin.copy_ #[29, 29] ty #[.slice (some ⟨b, (i + 1) * 3, none⟩) (n - i) dc, .slice (some ⟨b, i * 3, none⟩) (n + 1 - i) sc]).run Try.prog w.drew = .ok (goInt (n - i : Nat)) (w.drew.setCells b ((i + 1) * 3) (cs.drop (i * 3))) := fun ty dc sc => by
    have hm : Nat.min (n + 1 - i) (n - i) = n - i := by simp only [Nat.min_def]; split <;> omega
    have := run_copy_k (P := Try.prog) w.drew 29 29 ty 35 3 b ((i + 1) * 3) (n - i) dc ⟨b, i * 3, none⟩ (n + 1 - i) sc (cs.drop (i * 3)) Try.underlying29 hsz (by rw [hdl, hm])
      (fun j v hj => by rw [Addr.add_lit]; exact hcs (i * 3 + j) v (by rwa [List.getElem?_drop] at hj))
      (fun j hj => hsp _ (by omega)) (fun j hj => hfz _) (fun v hv => h1c v (List.mem_of_mem_drop hv))
    rw [hm] at this
    exact this
  obtain ⟨W1, hW1⟩ : ∃ W1, W1 = w.drew.setCells b ((i + 1) * 3) (cs.drop (i * 3)) := ⟨_, rfl⟩
  have hsp1 : ∀ k, k < (n + 1) * 3 → (W1.cell? ⟨b, k, none⟩).isSome = true := fun k hk => by
    rw [hW1]
    exact isSome_setCells b (cs.drop (i * 3)) ((i + 1) * 3) w.drew (fun j hj => hsp _ (by rw [hdl] at hj; omega)) k (hsp k hk)
  have hcp2 : ∀ (W : World), (∀ x, W.cell? x = W1.cell? x) → (∀ x, W.frozen? x = W1.frozen? x) → ∀ ty dc, (Builtin.copy_ #[29, 29] ty #[.slice (some ⟨b, i * 3, none⟩) (n + 1 - i) dc, .slice (some ⟨vb, 0, none⟩) 1 vc]).run Try.prog W = .ok (goInt (1 : Nat)) (W.setCells b (i * 3) vs) := fun W hWc hWf ty dc => by
    have hm : Nat.min 1 (n + 1 - i) = 1 := by simp only [Nat.min_def]; split <;> omega
    have := run_copy_k (P := Try.prog) W 29 29 ty 35 3 b (i * 3) (n + 1 - i) dc ⟨vb, 0, none⟩ 1 vc vs Try.underlying29 hsz (by rw [hvl, hm])
      (fun j v hj => by
        rw [Addr.add_lit, hWc, hW1, World.cell?_setCells_out b _ _ _ _ (fun h _ => absurd h hvb), Nat.zero_add]
        exact hvs j v hj)
      (fun j hj => by rw [hWc]; exact hsp1 _ (by omega)) (fun j hj => by rw [hWf, hW1, World.frozen?_setCells]; exact hfz _) h1v
    rw [hm] at this
    exact this
  rw [← hW1] at hcp1
  go_enter Try.func23, Try.ntmps23
  go_wp2_with (simp only [hov])
  go_region_law_o (refine step_copy_runI rfl _ _ 29 29 rfl _ _ (by simp [Act.eval, Act.put]) (by simp [Act.eval, Act.put]) (hcp1 _ _ _) ?_)
  go_wp2_with (at_builtin; refine wpList_copy_runI _ rfl _ _ 29 29 rfl _ _ rfl rfl (hcp2 _ (fun _ => rfl) (fun _ => rfl) _ _) ?_)
  go_ret
  first | exact ⟨rfl, rfl⟩ | exact ⟨rfl, by rw [hW1]⟩
def zW : Value := Value.agg #[Value.string { data := #[] }, Value.string { data := #[] }, Value.int IntKind.i64 0]
theorem zW_cells : zW.cells.size = 3 := rfl

theorem ins_grow (b c i n vb vc : Nat) (cs vs : List Value) (w : World) (hi : i < n) (hnc : n ≤ c) (hroom : c < n + 1) (hbig : n ≤ 1000000)
    (hcl : cs.length = n * 3) (hvl : vs.length = 3)
    (hcs : ∀ j v, cs[j]? = some v → w.cell? ⟨b, j, none⟩ = some v)
    (hvs : ∀ j v, vs[j]? = some v → w.cell? ⟨vb, j, none⟩ = some v) (h1c : ∀ v ∈ cs, v.oneCell' = true) (h1v : ∀ v ∈ vs, v.oneCell' = true) :
    Calls Try.prog 23 #[.slice (some ⟨b, 0, none⟩) n c, .int .i64 i, .slice (some ⟨vb, 0, none⟩) 1 vc] w fun e w' =>
      e = .returned (.slice (some ⟨w.heap.size, 0, none⟩) (n + 1) (grownCap w (n + 1) c 35)) ∧
      w' = (((w.alloc (.cells ((cs.take (i * 3)).toArray ++ Builtin.zeroCells zW.cells (n + 1 - i) ++ Builtin.zeroCells zW.cells (grownCap w (n + 1) c 35 - (n + 1))) 35)).drew.setCells w.heap.size (i * 3) vs).drew).setCells w.heap.size ((i + 1) * 3) (cs.drop (i * 3)) := by
  have mixed : Try.prog.follows .mixedOrders = true := by kernel_rfl
  have t0 := Try.underlying29
  obtain ⟨i0, hi0, hz0, hzs, hzb⟩ := info_parts (P := Try.prog) (e := 35) (z := zW) (size := 3) (bytes := 40) (by kernel_rfl)
  have hz2 : ¬ ((i : Int) = (n : Int)) := by omega
  have hz3 : (c : Int) < (n : Int) + 1 := by omega
  have hsz : (Try.prog.info? 35).map (·.size) = some 3 := by rw [hi0]; simp [hzs]
  have hbw : b < w.heap.size := block_lt_of_cell (hcs 0 _ (List.getElem?_eq_getElem (by omega)))
  have hvw : vb < w.heap.size := block_lt_of_cell (hvs 0 _ (List.getElem?_eq_getElem (by omega)))
  have hkk : (n : Int) + 1 - (i : Int) = ((n + 1 - i : Nat) : Int) := by omega
  have hik : i + (n + 1 - i) = n + 1 := by omega
  have hold : (Builtin.firstCells i0.size i (.slice (some ⟨b, 0, none⟩) i c)).run Try.prog w.drew = .ok (cs.take (i * 3)).toArray w.drew := by
    rw [hzs]
    exact run_firstCells_some w.drew 3 i ⟨b, 0, none⟩ i c (cs.take (i * 3)) (by rw [List.length_take]; omega) (fun j v hj => by
      rw [Addr.add_lit, Nat.zero_add]
      rw [List.getElem?_take] at hj
      split at hj
      · exact hcs j v hj
      · cases hj)
  have hrz : ∀ ty, (Builtin.append_ #[29, 3] ty #[.slice (some ⟨b, 0, none⟩) i c, .int .i64 ((n : Int) + 1 - (i : Int))]).run Try.prog w =
      .ok (.slice (some ⟨w.heap.size, 0, none⟩) (n + 1) (grownCap w (n + 1) c 35)) (w.drew.alloc (.cells ((cs.take (i * 3)).toArray ++ Builtin.zeroCells zW.cells (n + 1 - i) ++ Builtin.zeroCells zW.cells (grownCap w (n + 1) c 35 - (n + 1))) 35)) := fun ty => by
    have h := Go.Lib.run_append_grow_zeros w 29 3 ty 35 i0 _ .i64 .i64 Try.underlying29 Try.underlying3 hi0 hz0 (some ⟨b, 0, none⟩) i c (cs.take (i * 3)) hold (n + 1 - i) (by omega) (by omega) (by omega) (by omega) (by rw [hzb]; omega) (by rw [hzb, hik]; exact growslice_fits hroom (by omega))
    rw [hik] at h
    rw [hkk]
    exact h
  obtain ⟨G, hG⟩ : ∃ G, G = grownCap w (n + 1) c 35 := ⟨_, rfl⟩
  obtain ⟨ROW, hROW⟩ : ∃ ROW : Array Value, ROW = (cs.take (i * 3)).toArray ++ Builtin.zeroCells zW.cells (n + 1 - i) ++ Builtin.zeroCells zW.cells (G - (n + 1)) := ⟨_, rfl⟩
  rw [← hG] at hrz ⊢
  rw [← hROW] at hrz ⊢
  have hRl : (n + 1) * 3 ≤ ROW.size := by
    rw [hROW]
    simp [Builtin.zeroCells, zW_cells]
    omega
  obtain ⟨W1, hW1⟩ : ∃ W1, W1 = w.drew.alloc (.cells ROW 35) := ⟨_, rfl⟩
  rw [← hW1] at hrz
  have hN : ∀ j, j < (n + 1) * 3 → (W1.cell? ⟨w.heap.size, j, none⟩).isSome = true := fun j hj => by
    rw [hW1, World.cell?_alloc_at (w := w.drew) ROW _ w.heap.size j rfl, Array.getElem?_eq_getElem (by omega)]; rfl
  have hNf : ∀ j, W1.frozen? ⟨w.heap.size, j, none⟩ = false := fun j => by rw [hW1]; exact World.frozen?_alloc_at (w := w.drew) ROW _ w.heap.size j rfl
  have hOb : ∀ j v, w.cell? ⟨b, j, none⟩ = some v → W1.cell? ⟨b, j, none⟩ = some v := fun j v h => by rw [hW1, World.cell?_alloc_past (w := w.drew) _ b j hbw]; exact h
  have hOv : ∀ j v, w.cell? ⟨vb, j, none⟩ = some v → W1.cell? ⟨vb, j, none⟩ = some v := fun j v h => by rw [hW1, World.cell?_alloc_past (w := w.drew) _ vb j hvw]; exact h
  have hcpA : ∀ (W : World), (∀ x, W.cell? x = W1.cell? x) → (∀ x, W.frozen? x = W1.frozen? x) → ∀ ty dc, (Builtin.copy_ #[29, 29] ty #[.slice (some ⟨w.heap.size, i * 3, none⟩) (n + 1 - i) dc, .slice (some ⟨vb, 0, none⟩) 1 vc]).run Try.prog W = .ok (goInt (1 : Nat)) (W.setCells w.heap.size (i * 3) vs) := fun W hWc hWf ty dc => by
    have hm : Nat.min 1 (n + 1 - i) = 1 := by simp only [Nat.min_def]; split <;> omega
    have := run_copy_k (P := Try.prog) W 29 29 ty 35 3 w.heap.size (i * 3) (n + 1 - i) dc ⟨vb, 0, none⟩ 1 vc vs Try.underlying29 hsz (by rw [hvl, hm])
      (fun j v hj => by rw [Addr.add_lit, hWc, Nat.zero_add]; exact hOv _ v (hvs j v hj))
      (fun j hj => by rw [hWc]; exact hN _ (by omega)) (fun j hj => by rw [hWf]; exact hNf _) h1v
    rw [hm] at this
    exact this
  have hGn : n + 1 ≤ G := by rw [hG]; exact grownCap_ge w _ _ _
  have hG63 : G ≤ 9223372036854775807 := by
    have := grownCap_le_maxLen w (n + 1) c 35 (by unfold maxLen; omega)
    rw [← hG] at this
    unfold maxLen at this
    omega
  have hGi : ¬ (G = i) := by omega
  have hGim : ¬ (G = i + 1) := by omega
  have hci : ¬ (c = i) := by omega
  have hbN : b ≠ w.heap.size := by omega
  have hdl : (cs.drop (i * 3)).length = (n - i) * 3 := by rw [List.length_drop, hcl]; omega
  have hcpB : ∀ (W : World), (∀ x, W.cell? x = (W1.setCells w.heap.size (i * 3) vs).cell? x) → (∀ x, W.frozen? x = (W1.setCells w.heap.size (i * 3) vs).frozen? x) → ∀ ty dc sc, (Builtin.copy_ #[29, 29] ty #[.slice (some ⟨w.heap.size, (i + 1) * 3, none⟩) (n - i) dc, .slice (some ⟨b, i * 3, none⟩) (n - i) sc]).run Try.prog W = .ok (goInt (n - i : Nat)) (W.setCells w.heap.size ((i + 1) * 3) (cs.drop (i * 3))) := fun W hWc hWf ty dc sc => by
    have hm : Nat.min (n - i) (n - i) = n - i := Nat.min_self _
    have := run_copy_k (P := Try.prog) W 29 29 ty 35 3 w.heap.size ((i + 1) * 3) (n - i) dc ⟨b, i * 3, none⟩ (n - i) sc (cs.drop (i * 3)) Try.underlying29 hsz (by rw [hdl, hm])
      (fun j v hj => by
        rw [Addr.add_lit, hWc, World.cell?_setCells_out _ _ _ _ _ (fun h _ => absurd h hbN)]
        exact hOb _ v (hcs (i * 3 + j) v (by rwa [List.getElem?_drop] at hj)))
      (fun j hj => by rw [hWc]; exact isSome_setCells w.heap.size vs (i * 3) W1 (fun t ht => hN _ (by omega)) _ (hN _ (by rw [hdl] at hj; omega)))
      (fun j hj => by rw [hWf, World.frozen?_setCells]; exact hNf _) (fun v hv => h1c v (List.mem_of_mem_drop hv))
    rw [hm] at this
    exact this
  subst hW1
  have hE1 : ∀ x, ((w.alloc (.cells ROW 35)).drew).cell? x = (w.drew.alloc (.cells ROW 35)).cell? x := fun x => rfl
  have hE2 : ∀ x, ((w.alloc (.cells ROW 35)).drew).frozen? x = (w.drew.alloc (.cells ROW 35)).frozen? x := fun x => rfl
  have hF1 : ∀ x, (((w.alloc (.cells ROW 35)).drew.setCells w.heap.size (i * 3) vs).drew).cell? x = ((w.drew.alloc (.cells ROW 35)).setCells w.heap.size (i * 3) vs).cell? x := fun x => rfl
  have hF2 : ∀ x, (((w.alloc (.cells ROW 35)).drew.setCells w.heap.size (i * 3) vs).drew).frozen? x = ((w.drew.alloc (.cells ROW 35)).setCells w.heap.size (i * 3) vs).frozen? x := fun x => rfl
  have hw1 : IntKind.i64.wrap ((i : Int) + 1) = (i : Int) + 1 := by rw [IntKind.wrap_i64]; omega
  have hw2 : IntKind.i64.wrap ((n : Int) + 1) = (n : Int) + 1 := by rw [IntKind.wrap_i64]; omega
  have hw3 : IntKind.i64.wrap ((n : Int) + 1 - (i : Int)) = (n : Int) + 1 - (i : Int) := by rw [IntKind.wrap_i64]; omega
  have hb1 : (0 : Int) ≤ (i : Int) + 1 := by omega
  have hin : i ≤ n := by omega
  have hic : i ≤ c := by omega
  have htn : ((i : Int) + 1).toNat = i + 1 := by omega
  have hb3 : (i : Int) ≤ (n : Int) := by omega
  have hb5 : (i : Int) ≤ (n : Int) + 1 := by omega
  clear hkk hik hold hROW hG hRl
  go_enter Try.func23, Try.ntmps23
  go_wp2_with (first
    | (at_builtin; refine Go.Lib.wpList_append_run _ rfl _ _ _ _ rfl _ _ rfl rfl _ _ (hrz _) ?_)
    | (at_builtin; refine wpList_copy_runI _ rfl _ _ 29 29 rfl _ _ rfl rfl (hcpA _ hE1 hE2 _ _) ?_)
    | (at_builtin; refine wpList_copy_runI _ rfl _ _ 29 29 rfl _ _ rfl rfl (hcpB _ (fun _ => rfl) (fun _ => rfl) _ _ _) ?_))
  go_region_law_o (refine step_copy_runI rfl _ _ 29 29 rfl (.slice (some ⟨w.heap.size, (i + 1) * 3, none⟩) (n - i) (G - (i + 1))) (.slice (some ⟨b, i * 3, none⟩) (n - i) (c - i)) (by simp [Act.eval, Act.put]) (by simp [Act.eval, Act.put]) (hcpB _ hF1 hF2 3 (G - (i + 1)) (c - i)) ?_)
  go_wp2
  go_ret
  exact ⟨rfl, rfl⟩

theorem ins_end (base : Option Addr) (n c vb vc : Nat) (w : World) (hnil : base = none → n = 0) (u : Value) (w1 : World)
    (hrun : (Builtin.append_ #[29, 29] 29 #[.slice base n c, .slice (some ⟨vb, 0, none⟩) 1 vc]).run Try.prog w = .ok u w1) :
    Calls Try.prog 23 #[.slice base n c, .int .i64 n, .slice (some ⟨vb, 0, none⟩) 1 vc] w fun e w' => e = .returned u ∧ w' = w1 := by
  have mixed : Try.prog.follows .mixedOrders = true := by kernel_rfl
  have t0 := Try.underlying29
  go_enter Try.func23, Try.ntmps23
  cases base with
  | none =>
    have h0 := hnil rfl
    subst h0
    go_wp2_with (at_builtin; refine Go.Lib.wpList_append_run _ rfl _ _ _ _ rfl _ _ rfl rfl _ _ hrun ?_)
    go_ret
    exact ⟨rfl, rfl⟩
  | some a =>
    obtain ⟨ab, ao, asp⟩ := a
    go_wp2_with (at_builtin; refine Go.Lib.wpList_append_run _ rfl _ _ _ _ rfl _ _ rfl rfl _ _ hrun ?_)
    all_goals (go_ret; exact ⟨rfl, rfl⟩)
end

theorem shape_of {w : World} {b j : Nat} (h : (w.cell? ⟨b, j, none⟩).isSome = true) : ∃ t k, w.shape? b = some (t, k) ∧ k ≠ 0 := by
  unfold World.cell? at h
  unfold World.shape?
  split at h
  · rename_i c e f hc
    simp only at hc
    rw [hc]
    refine ⟨e, c.size, rfl, fun h0 => ?_⟩
    simp at h
    omega
  · cases h
/-- The values of a block, as a list. -/
def rowOf (w : World) (b m : Nat) : List Value := (List.range m).map fun t => (w.cell? ⟨b, t, none⟩).getD (.int .i64 0)
theorem rowOf_len (w : World) (b m : Nat) : (rowOf w b m).length = m := by simp [rowOf]
theorem rowOf_get {w : World} {b m t : Nat} (ht : t < m) (hs : (w.cell? ⟨b, t, none⟩).isSome = true) : (rowOf w b m)[t]? = w.cell? ⟨b, t, none⟩ := by
  unfold rowOf
  rw [List.getElem?_map, List.getElem?_range ht]
  obtain ⟨v, hv⟩ := Option.isSome_iff_exists.1 hs
  rw [hv]
  simp [hv]
theorem rowOf_one {X : Nat → Prop} {w : World} {ρ : RM} {io : OI} {ob : AObj} (R : ORep (Own X ρ) w ρ io ob) (hk : io.k = 3) {n : Nat} (hn : ob.rows.length = n) : ∀ v ∈ rowOf w io.b (n * 3), v.oneCell' = true := fun v hv => by
  obtain ⟨t, ht, rfl⟩ := List.mem_map.1 hv
  have ht' : t < n * 3 := List.mem_range.1 ht
  have hi : t / 3 < ob.rows.length := by omega
  obtain ⟨row, hrow⟩ : ∃ r, ob.rows[t / 3]? = some r := ⟨_, List.getElem?_eq_getElem hi⟩
  obtain ⟨w1, w2⟩ := R.wid row (List.mem_of_getElem? hrow)
  obtain ⟨c, hc⟩ : ∃ c, row[t % 3]? = some c := ⟨_, List.getElem?_eq_getElem (by omega)⟩
  obtain ⟨u, e1, e2⟩ := R.cells (t / 3) (t % 3) c (by unfold cellAt; rw [hrow]; exact hc)
  have et : t / 3 * io.k + t % 3 = t := by rw [hk]; omega
  rw [et] at e1
  rw [e1]
  exact e2.flat (List.all_eq_true.1 w2 c (List.mem_of_getElem? hc))
/-- What Insert does to an own slice and a row. -/
def insF : List AV → Heap → Option (AV × Heap)
  | [.sc (.slice none 0 0), .sc (.int .i64 i), .sl o2 1 0 1], h => match h[o2]? with
    | some ob2 => if i = 0 ∧ ob2.rows.length = 1 then aAppend false 3 40 (.sc (.slice none 0 0)) (.sl o2 1 0 1) h else none
    | none => none
  | [.sl o ep 0 n, .sc (.int .i64 i), .sl o2 1 0 1], h => match h[o]?, h[o2]? with
    | some ob, some ob2 => if ob.rows.length = ep ∧ n = ep ∧ ob.k = 3 ∧ ob2.k = 3 ∧ ob2.rows.length = 1 ∧ o ≠ o2 ∧ n ≤ 1000000 ∧ 0 ≤ i ∧ i ≤ n then
        (if i = n then aAppend false 3 40 (.sl o ep 0 n) (.sl o2 1 0 1) h else some (.sl o (n + 1) 0 (n + 1), h.set o ⟨3, ob.rows.take i.toNat ++ ob2.rows ++ ob.rows.drop i.toNat⟩)) else none
    | _, _ => none
  | _, _ => none
theorem cell_take {rows new : List (List AV)} {i i' j : Nat} {c : AV} (hl : new.length = 1) (hi : i ≤ rows.length) (h : cellAt (rows.take i ++ new ++ rows.drop i) i' j = some c) :
    (i' < i ∧ cellAt rows i' j = some c) ∨ (i' = i ∧ cellAt new 0 j = some c) ∨ (i < i' ∧ cellAt rows (i' - 1) j = some c) := by
  unfold cellAt at *
  have tl : (rows.take i).length = i := by simp; omega
  by_cases h1 : i' < i
  · left
    rw [List.append_assoc, List.getElem?_append_left (by omega), List.getElem?_take, if_pos h1] at h
    exact ⟨h1, h⟩
  · rw [List.append_assoc, List.getElem?_append_right (by omega), tl] at h
    by_cases h2 : i' = i
    · subst h2
      rw [Nat.sub_self, List.getElem?_append_left (by omega)] at h
      exact .inr (.inl ⟨rfl, h⟩)
    · right; right
      rw [List.getElem?_append_right (by omega), hl, List.getElem?_drop] at h
      rw [show i + (i' - i - 1) = i' - 1 by omega] at h
      exact ⟨by omega, h⟩

theorem setCell_comm (w : World) (b o o' : Nat) (v v' : Value) (h : o ≠ o') : (w.setCell ⟨b, o, none⟩ v).setCell ⟨b, o', none⟩ v' = (w.setCell ⟨b, o', none⟩ v').setCell ⟨b, o, none⟩ v := by
  unfold World.setCell
  cases w with
  | mk hp tp dr os out =>
    simp only [World.mk.injEq, and_true]
    apply Array.ext_getElem?
    intro i
    simp only [Array.getElem?_modify]
    by_cases e : b = i
    · simp only [e, if_true, Option.map_map]
      congr 1
      funext x
      cases x <;> simp [Function.comp, Array.setIfInBounds_comm _ _ h]
    · simp only [e, if_false]
theorem setCells_comm1 (b o : Nat) (v : Value) : ∀ (A : List Value) (m : Nat) (w : World), o < m → (w.setCells b m A).setCell ⟨b, o, none⟩ v = (w.setCell ⟨b, o, none⟩ v).setCells b m A
  | [], _, _, _ => rfl
  | x :: r, m, w, h => by
    rw [World.setCells, World.setCells, setCells_comm1 b o v r (m + 1) _ (by omega), setCell_comm w b m o x v (by omega)]
theorem setCells_app (b : Nat) (A : List Value) : ∀ (vs : List Value) (o : Nat) (w : World), (w.setCells b (o + vs.length) A).setCells b o vs = w.setCells b o (vs ++ A)
  | [], _, _ => rfl
  | v :: r, o, w => by
    show ((w.setCells b (o + (r.length + 1)) A).setCell ⟨b, o, none⟩ v).setCells b (o + 1) r = (w.setCell ⟨b, o, none⟩ v).setCells b (o + 1) (r ++ A)
    rw [setCells_comm1 b o v A _ w (by omega), show o + (r.length + 1) = o + 1 + r.length by omega]
    exact setCells_app b A r (o + 1) _
/-- Stores into an array. -/
def setM (A : Array Value) : Nat → List Value → Array Value
  | _, [] => A
  | o, v :: r => setM (A.setIfInBounds o v) (o + 1) r
theorem setM_size : ∀ (vs : List Value) (o : Nat) (A : Array Value), (setM A o vs).size = A.size
  | [], _, _ => rfl
  | v :: r, o, A => by rw [setM, setM_size r]; simp
theorem setM_get : ∀ (vs : List Value) (o : Nat) (A : Array Value) (t : Nat), t < A.size → (setM A o vs)[t]? = if o ≤ t ∧ t < o + vs.length then vs[t - o]? else A[t]?
  | [], o, A, t, _ => by
    rw [if_neg (fun h => by simp only [List.length_nil] at h; omega)]
    rfl
  | v :: r, o, A, t, ht => by
    rw [setM, setM_get r (o + 1) _ t (by simpa using ht)]
    simp only [List.length_cons]
    by_cases h1 : o + 1 ≤ t ∧ t < o + 1 + r.length
    · rw [if_pos h1, if_pos (by omega)]
      rw [show t - o = t - (o + 1) + 1 by omega, List.getElem?_cons_succ]
    · rw [if_neg h1]
      by_cases h2 : t = o
      · subst h2
        rw [if_pos (by omega), Nat.sub_self]
        simp [ht]
      · rw [if_neg (by omega), Array.getElem?_setIfInBounds_ne (fun e => h2 e.symm)]
theorem alloc_set1 (w : World) (A : Array Value) (e : TypeId) (o : Nat) (v : Value) : (w.alloc (.cells A e)).setCell ⟨w.heap.size, o, none⟩ v = w.alloc (.cells (A.setIfInBounds o v) e) := by
  unfold World.setCell World.alloc
  cases w with
  | mk hp tp dr os out =>
    simp only [World.mk.injEq, and_true]
    apply Array.ext_getElem?
    intro i
    simp only [Array.getElem?_modify, Array.getElem?_push]
    by_cases e : hp.size = i
    · subst e
      simp
    · have e' : ¬ i = hp.size := fun h => e h.symm
      simp only [e, e', if_false]
theorem alloc_set (e : TypeId) : ∀ (vs : List Value) (o : Nat) (A : Array Value) (w : World), (w.alloc (.cells A e)).setCells w.heap.size o vs = w.alloc (.cells (setM A o vs) e)
  | [], _, _, _ => rfl
  | v :: r, o, A, w => by
    rw [World.setCells, alloc_set1, alloc_set e r (o + 1) _ w]
    rfl

theorem goneAbs {α : Type} {x : Option α} {a b : α} (h1 : x = some a) (h2 : x = some b) : a = b := Option.some.inj (h1.symm.trans h2)
theorem gen_ins (hbody : HasBody Try.prog 23) : GenOK Try.prog 23 insF := by
  intro az h r h' hF X ρ w vs hr hsz hvs
  unfold insF at hF
  split at hF
  · rename_i i o2
    split at hF
    · rename_i ob2 hob2
      split at hF
      · rename_i hc
        obtain ⟨rfl, hl2⟩ := hc
        obtain ⟨v, u, x, rfl⟩ : ∃ v u x, vs = #[v, u, x] := by
          match vs, hsz with
          | ⟨[v, u, x]⟩, _ => exact ⟨v, u, x, rfl⟩
        have hv := hvs 0 _ v rfl rfl
        have hu := hvs 1 _ u rfl rfl
        have hx := hvs 2 _ x rfl rfl
        cases hv
        cases hu
        cases hx with
        | @sl _ _ _ _ _ cap2 a2 io2 hρ2 he2 hh2 =>
          obtain ⟨ob0, e0, R2⟩ := hr.obj o2 io2 hρ2
          rw [hob2] at e0
          cases e0
          have hep2 : io2.ep = 1 := by rw [← R2.ep]; exact hl2
          obtain ⟨k1, k2, k3⟩ := hh2 hep2
          have ha := k3 (by omega)
          subst ha
          simp only [Nat.zero_mul]
          obtain ⟨u', w', e1, e2⟩ := append_ok (P := Try.prog) (t := 29) (tx := 29) (ty := 29) (e := 35) (k := 2) (b := 40) (st := false) Try.underlying29 (by kernel_rfl) (by kernel_rfl) (z := [.string ⟨#[]⟩, .string ⟨#[]⟩, .int .i64 0]) (by kernel_rfl) rfl ⟨35, Try.underlying29⟩ hr (.sc rfl) (.sl hρ2 he2 hh2) hF
          unfold CallF
          rw [callFunc_body hbody]
          show Calls Try.prog 23 _ w _
          refine (ins_end none 0 0 io2.b cap2 w (fun _ => rfl) u' w' (by simpa using e1)).mono fun e w2 ⟨h1, h2⟩ => ?_
          subst h1 h2
          exact ⟨_, rfl, e2⟩
      · cases hF
    · cases hF
  · rename_i o ep n i o2
    split at hF
    · rename_i ob ob2 hob hob2
      split at hF
      · rename_i hc
        obtain ⟨c1, c2, c3, c4, c5, c6, c7, c8, c9⟩ := hc
        obtain ⟨v, u, x, rfl⟩ : ∃ v u x, vs = #[v, u, x] := by
          match vs, hsz with
          | ⟨[v, u, x]⟩, _ => exact ⟨v, u, x, rfl⟩
        have hv := hvs 0 _ v rfl rfl
        have hu := hvs 1 _ u rfl rfl
        have hx := hvs 2 _ x rfl rfl
        cases hu
        cases hx with
        | @sl _ _ _ _ _ cap2 a2 io2 hρ2 he2 hh2 =>
          obtain ⟨ob0, e0, R2⟩ := hr.obj o2 io2 hρ2
          rw [hob2] at e0
          cases e0
          have hep2 : io2.ep = 1 := by rw [← R2.ep]; exact c5
          obtain ⟨k1, k2, k3⟩ := hh2 hep2
          have ha := k3 (by omega)
          subst ha
          cases hv with
          | @sl _ _ _ _ _ cap a io hρ he hh =>
            obtain ⟨ob0, e0, R⟩ := hr.obj o io hρ
            rw [hob] at e0
            cases e0
            have hep : io.ep = ep := by rw [← R.ep]; exact c1
            obtain ⟨j1, j2, j3⟩ := hh hep
            have hk : io.k = 3 := by rw [← R.k]; exact c3
            have hk2 : io2.k = 3 := by rw [← R2.k]; exact c4
            unfold CallF
            rw [callFunc_body hbody]
            show Calls Try.prog 23 _ w _
            split at hF
            · rename_i hin
              obtain ⟨u', w', e1, e2⟩ := append_ok (P := Try.prog) (t := 29) (tx := 29) (ty := 29) (e := 35) (k := 2) (b := 40) (st := false) Try.underlying29 (by kernel_rfl) (by kernel_rfl) (z := [.string ⟨#[]⟩, .string ⟨#[]⟩, .int .i64 0]) (by kernel_rfl) rfl ⟨35, Try.underlying29⟩ hr (.sl hρ he hh) (.sl hρ2 he2 hh2) hF
              subst hin
              simp only [Nat.zero_mul] at e1 ⊢
              refine (ins_end (some a) n cap io2.b cap2 w (fun h => by cases h) u' w' e1).mono fun e w2 ⟨h1, h2⟩ => ?_
              subst h1 h2
              exact ⟨_, rfl, e2⟩
            · rename_i hin
              cases hF
              obtain ⟨m, rfl⟩ := Int.eq_ofNat_of_zero_le c8
              have hmn : m < n := by omega
              have ha := j3 (by omega)
              subst ha
              simp only [Nat.zero_mul, Int.toNat_natCast]
              have hne : io2.b ≠ io.b := fun e => c6 (hr.inj o2 o io2 io hρ2 hρ e).symm
              have hC : n ≤ io.C := by have := R.le; omega
              have hC2 : 1 ≤ io2.C := by have := R2.le; omega
              have there : ∀ t, t < n * 3 → (w.cell? ⟨io.b, t, none⟩).isSome = true := fun t ht => (R.there t (by rw [hk]; have := Nat.mul_le_mul_right 3 hC; omega)).1
              have there2 : ∀ t, t < 3 → (w.cell? ⟨io2.b, t, none⟩).isSome = true := fun t ht => (R2.there t (by rw [hk2]; omega)).1
              have csl := rowOf_len w io.b (n * 3)
              have vsl := rowOf_len w io2.b 3
              have csg : ∀ t, t < n * 3 → (rowOf w io.b (n * 3))[t]? = w.cell? ⟨io.b, t, none⟩ := fun t ht => rowOf_get ht (there t ht)
              have vsg : ∀ t, t < 3 → (rowOf w io2.b 3)[t]? = w.cell? ⟨io2.b, t, none⟩ := fun t ht => rowOf_get ht (there2 t ht)
              have h1c := rowOf_one R hk (n := n) (by omega)
              have h1v := rowOf_one R2 hk2 (n := 1) c5
              rw [Nat.one_mul] at h1v
              generalize rowOf w io.b (n * 3) = cs at *
              generalize rowOf w io2.b 3 = vs at *
              have hcs : ∀ j v, cs[j]? = some v → w.cell? ⟨io.b, j, none⟩ = some v := fun j v hj => by
                rw [← csg j (by have := (List.getElem?_eq_some_iff.1 hj).1; omega)]
                exact hj
              have hvs : ∀ j v, vs[j]? = some v → w.cell? ⟨io2.b, j, none⟩ = some v := fun j v hj => by
                rw [← vsg j (by have := (List.getElem?_eq_some_iff.1 hj).1; omega)]
                exact hj
              have wid' : ∀ row ∈ ob.rows.take m ++ ob2.rows ++ ob.rows.drop m, row.length = io.k ∧ row.all AV.flat = true := fun row hrow => by
                simp only [List.mem_append] at hrow
                rcases hrow with (hh | hh) | hh
                · exact R.wid row (List.mem_of_mem_take hh)
                · rw [hk, ← hk2]; exact R2.wid row hh
                · exact R.wid row (List.mem_of_mem_drop hh)
              have rl : (ob.rows.take m ++ ob2.rows ++ ob.rows.drop m).length = n + 1 := by simp; omega
              -- where each cell's value stands
              have src : ∀ i' j c, cellAt (ob.rows.take m ++ ob2.rows ++ ob.rows.drop m) i' j = some c → j < 3 ∧ i' < n + 1 ∧ ∃ v, (i' < m ∧ w.cell? ⟨io.b, i' * 3 + j, none⟩ = some v ∧ cs[i' * 3 + j]? = some v ∨ i' = m ∧ vs[j]? = some v ∨ m < i' ∧ cs[(i' - 1) * 3 + j]? = some v) ∧ Rep (Own X ρ) w ρ c v := fun i' j c hcell => by
                have hlt := cellAt_lt wid' hcell
                rw [rl, hk] at hlt
                refine ⟨hlt.2, hlt.1, ?_⟩
                rcases cell_take c5 (by omega) hcell with ⟨g1, g2⟩ | ⟨g1, g2⟩ | ⟨g1, g2⟩
                · obtain ⟨v, q1, q2⟩ := R.cells i' j c g2
                  rw [hk] at q1
                  exact ⟨v, .inl ⟨g1, q1, by rw [csg _ (by omega)]; exact q1⟩, q2⟩
                · obtain ⟨v, q1, q2⟩ := R2.cells 0 j c g2
                  rw [Nat.zero_mul, Nat.zero_add] at q1
                  exact ⟨v, .inr (.inl ⟨g1, by rw [vsg _ hlt.2]; exact q1⟩), q2⟩
                · obtain ⟨v, q1, q2⟩ := R.cells (i' - 1) j c g2
                  rw [hk] at q1
                  exact ⟨v, .inr (.inr ⟨g1, by rw [csg _ (by omega)]; exact q1⟩), q2⟩
              by_cases hroom : n + 1 ≤ cap
              · have hCap : n + 1 ≤ io.C := by omega
                obtain ⟨tA, kA, sA, _⟩ := shape_of (there2 0 (by omega))
                obtain ⟨tB, kB, sB, nB⟩ := shape_of (there 0 (by omega))
                refine (ins_room io.b cap m n io2.b cap2 cs vs w hmn hroom c7 hne csl vsl hcs (fun j hj => (R.there j (by rw [hk]; have := Nat.mul_le_mul_right 3 hCap; omega)).1) (fun j => R.thaw (by omega) j) hvs h1c h1v tA tB kA kB sA sB nB (fun j => R2.thaw (by omega) j)).mono fun e w' ⟨h1, h2⟩ => ?_
                subst h1
                rw [show (m + 1) * 3 = m * 3 + vs.length by omega, setCells_app] at h2
                subst h2
                have dl : (vs ++ cs.drop (m * 3)).length = (n + 1 - m) * 3 := by rw [List.length_append, List.length_drop]; omega
                have cc : (n + 1) * 3 ≤ io.C * 3 := Nat.mul_le_mul_right 3 hCap
                obtain ⟨hr2, st2⟩ := hr.drew.write (ob' := ⟨3, ob.rows.take m ++ ob2.rows ++ ob.rows.drop m⟩) hρ hob hk.symm (by rw [rl]; omega) (by rw [rl]; exact hCap) wid' (m * 3) (vs ++ cs.drop (m * 3)) (by rw [dl, hk]; omega) (fun i' j c hcell => by
                  obtain ⟨hj, hi', v, hv, hrep⟩ := src i' j c hcell
                  refine ⟨v, ?_, (Step.drew ρ w).rep hrep⟩
                  rw [hk]
                  rcases hv with ⟨g1, g2, _⟩ | ⟨g1, g2⟩ | ⟨g1, g2⟩
                  · rw [if_neg (by omega)]
                    exact g2
                  · subst g1
                    rw [if_pos (by omega), List.getElem?_append_left (by omega)]
                    rw [show i' * 3 + j - i' * 3 = j by omega]
                    exact g2
                  · rw [if_pos (by omega), List.getElem?_append_right (by omega), vsl, List.getElem?_drop]
                    rw [show m * 3 + (i' * 3 + j - m * 3 - 3) = (i' - 1) * 3 + j by omega]
                    exact g2)
                refine ⟨_, rfl, _, hr2, (Step.drew ρ w).trans st2, .sl put_same (by rw [rl]; exact Nat.le_refl _) fun _ => ⟨hroom, j2, fun _ => by rw [Nat.zero_mul]⟩⟩
              · refine (ins_grow io.b cap m n io2.b cap2 cs vs w hmn j1 (by omega) c7 csl vsl hcs hvs h1c h1v).mono fun e w' ⟨h1, h2⟩ => ?_
                subst h1
                have hG := grownCap_ge w (n + 1) cap 35
                generalize grownCap w (n + 1) cap 35 = G at *
                obtain ⟨ROW, hROW⟩ : ∃ ROW : Array Value, ROW = (cs.take (m * 3)).toArray ++ Builtin.zeroCells zW.cells (n + 1 - m) ++ Builtin.zeroCells zW.cells (G - (n + 1)) := ⟨_, rfl⟩
                rw [← hROW] at h2
                have Rl : ROW.size = G * 3 := by
                  rw [hROW]
                  simp [Builtin.zeroCells, zW_cells]
                  omega
                have Rg : ∀ t, t < m * 3 → ROW[t]? = cs[t]? := fun t ht => by
                  have tl : (cs.take (m * 3)).length = m * 3 := by simp; omega
                  rw [hROW, Array.getElem?_append_left (by simp; omega), Array.getElem?_append_left (by simp; omega), List.getElem?_toArray, List.getElem?_take, if_pos ht]
                have hw : w' = (w.drew.drew).alloc (.cells (setM (setM ROW (m * 3) vs) ((m + 1) * 3) (cs.drop (m * 3))) 35) := by
                  have a1 := alloc_set 35 vs (m * 3) ROW w.drew.drew
                  have a2 := alloc_set 35 (cs.drop (m * 3)) ((m + 1) * 3) (setM ROW (m * 3) vs) w.drew.drew
                  rw [← a1] at a2
                  rw [h2, ← a2]
                  have d1 : ∀ (W : World) (b o : Nat) (l : List Value), (W.setCells b o l).drew = W.drew.setCells b o l := fun W b o l => drew_setCells b l o W
                  rw [d1]
                  rfl
                subst hw
                have sz1 : (setM (setM ROW (m * 3) vs) ((m + 1) * 3) (cs.drop (m * 3))).size = G * 3 := by rw [setM_size, setM_size, Rl]
                have dl : (cs.drop (m * 3)).length = (n - m) * 3 := by rw [List.length_drop]; omega
                obtain ⟨hr2, st2⟩ := hr.drew.move (ob' := ⟨3, ob.rows.take m ++ ob2.rows ++ ob.rows.drop m⟩) hρ hk.symm (by rw [rl]; omega) G (setM (setM ROW (m * 3) vs) ((m + 1) * 3) (cs.drop (m * 3))) 35 (by rw [rl]; exact hG) (by rw [sz1, hk]; exact Nat.le_refl _) wid' (fun i' j c hcell => by
                  obtain ⟨hj, hi', v, hv, hrep⟩ := src i' j c hcell
                  refine ⟨v, ?_, (Step.drew ρ w).rep hrep⟩
                  have gG : (n + 1) * 3 ≤ G * 3 := Nat.mul_le_mul_right 3 hG
                  rw [hk, setM_get _ _ _ _ (by rw [setM_size, Rl]; omega)]
                  rcases hv with ⟨g1, _, g2⟩ | ⟨g1, g2⟩ | ⟨g1, g2⟩
                  · rw [if_neg (by omega), setM_get _ _ _ _ (by rw [Rl]; omega), if_neg (by omega), Rg _ (by omega)]
                    exact g2
                  · subst g1
                    rw [if_neg (by omega), setM_get _ _ _ _ (by rw [Rl]; omega), if_pos (by omega)]
                    rw [show i' * 3 + j - i' * 3 = j by omega]
                    exact g2
                  · rw [if_pos (by omega), List.getElem?_drop]
                    rw [show m * 3 + (i' * 3 + j - (m + 1) * 3) = (i' - 1) * 3 + j by omega]
                    exact g2)
                refine ⟨_, rfl, _, hr2, (Step.drew ρ w).trans st2, .sl put_same (by rw [rl]; exact Nat.le_refl _) fun _ => ⟨hG, Nat.zero_add _, fun _ => by rw [Nat.zero_mul]; rfl⟩⟩
      · cases hF
    · cases hF
  · cases hF

/-- A pair is inserted into an own slice. -/
def insO (s : Sl Bigram) (k : Int) (b : Bigram) : Option (Sl Bigram) := bif decide (0 ≤ k) && (decide (k ≤ (((s.getD []).length : Nat) : Int)) && decide ((s.getD []).length ≤ 1000000)) then some (some ((s.getD []).take k.toNat ++ b :: (s.getD []).drop k.toNat)) else none

theorem sim_ins {γ δ : Type} {B : Base} {h : Heap} {L : List Ent} {env : Nat → Contract} {g : Nat} (O : Hold B h L) (i j : Nat) {x y : AV} {s : Sl Bigram} (b : Bigram) (hij : i ≠ j) (hi : L[i]? = some (x, obS s)) (hj : L[j]? = some (y, obS (some [b]))) (he : env g = .gen insF) {k : Int}
    {F : AV → Heap → Option γ} {G : Sl Bigram → Option δ} {Q : δ → γ → Prop} (K : ∀ w x' h', Hold B h' (L.set i (x', obS (w : Sl Bigram))) → Sim (F x' h') (G w) Q) : Sim (obind2 (aCall (env g) [x, iv k, y] h) F) (obind (insO s k b) G) Q := by
  rw [he]
  show Sim (obind2 (insF [x, iv k, y] h) F) _ Q
  unfold insO
  cases hc : decide (0 ≤ k) && (decide (k ≤ (((s.getD []).length : Nat) : Int)) && decide ((s.getD []).length ≤ 1000000)) with
  | false => exact sim_no
  | true =>
    simp only [Bool.and_eq_true, decide_eq_true_eq] at hc
    obtain ⟨c1, c2, c3⟩ := hc
    rw [cond_true, obind_sm]
    obtain ⟨m, rfl⟩ := Int.eq_ofNat_of_zero_le c1
    rw [Int.toNat_natCast]
    have hs := O.src (A := Bigram) (s := some [b]) j hj
    obtain ⟨o2, rfl, h2⟩ := O.sl (k := Row.w Bigram) (rows := [b].map Row.cells) hj
    have hl2 : ([b].map (Row.cells (A := Bigram))).length = 1 := rfl
    rw [hl2] at hs ⊢
    have ap := fun (hb : (s.getD []).length + [b].length ≤ 4294967296) => O.append i (new := [b]) (bytes := 40) hi hs (by decide) hb
    cases s with
    | none =>
      have := O.nilE hi
      subst this
      have m0 : m = 0 := by simp at c2; omega
      subst m0
      obtain ⟨x', h', e1, O'⟩ := ap (by show 0 + 1 ≤ _; omega)
      have e2 : insF [nilS, iv ((0 : Nat) : Int), .sl o2 1 0 1] h = some (x', h') := by
        show (match h[o2]? with
          | some ob2 => if ((0 : Nat) : Int) = 0 ∧ ob2.rows.length = 1 then aAppend false 3 40 (.sc (.slice none 0 0)) (.sl o2 1 0 1) h else none
          | none => none) = _
        rw [h2]
        exact (if_pos (⟨rfl, rfl⟩ : ((0 : Nat) : Int) = 0 ∧ ([b].map (Row.cells (A := Bigram))).length = 1)).trans e1
      rw [e2, obind2_sm]
      exact K _ x' h' O'
    | some l =>
      obtain ⟨o, rfl, h1⟩ := O.sl (k := Row.w Bigram) (rows := l.map Row.cells) hi
      have hw : Row.w Bigram = 3 := rfl
      have hlm : (l.map (Row.cells (A := Bigram))).length = l.length := List.length_map _
      rw [hlm] at ap ⊢
      have hne : o ≠ o2 := fun e => hij (nodup_get O.nd hi hj (o := o) (by rw [hlm]; rfl) (by rw [e]; rfl))
      have c2' : m ≤ l.length := by simp only [Option.getD_some] at c2; omega
      have c3' : l.length ≤ 1000000 := c3
      have cond : (l.map (Row.cells (A := Bigram))).length = l.length ∧ l.length = l.length ∧ Row.w Bigram = 3 ∧ Row.w Bigram = 3 ∧ ([b].map (Row.cells (A := Bigram))).length = 1 ∧ o ≠ o2 ∧ l.length ≤ 1000000 ∧ (0 : Int) ≤ (m : Int) ∧ (m : Int) ≤ (l.length : Int) := ⟨hlm, rfl, hw, hw, rfl, hne, c3', by omega, by omega⟩
      have unf : insF [.sl o l.length 0 l.length, iv (m : Int), .sl o2 1 0 1] h = (if (m : Int) = (l.length : Int) then aAppend false 3 40 (.sl o l.length 0 l.length) (.sl o2 1 0 1) h else some (.sl o (l.length + 1) 0 (l.length + 1), h.set o ⟨3, (l.map Row.cells).take (m : Int).toNat ++ [b].map Row.cells ++ (l.map Row.cells).drop (m : Int).toNat⟩)) := by
        show (match h[o]?, h[o2]? with
          | some ob, some ob2 => if ob.rows.length = l.length ∧ l.length = l.length ∧ ob.k = 3 ∧ ob2.k = 3 ∧ ob2.rows.length = 1 ∧ o ≠ o2 ∧ l.length ≤ 1000000 ∧ (0 : Int) ≤ (m : Int) ∧ (m : Int) ≤ (l.length : Int) then
            (if (m : Int) = (l.length : Int) then aAppend false 3 40 (.sl o l.length 0 l.length) (.sl o2 1 0 1) h else some (.sl o (l.length + 1) 0 (l.length + 1), h.set o ⟨3, ob.rows.take (m : Int).toNat ++ ob2.rows ++ ob.rows.drop (m : Int).toNat⟩)) else none
          | _, _ => none) = _
        rw [h1, h2]
        exact if_pos cond
      rw [unf]
      by_cases hm : m = l.length
      · obtain ⟨x', h', e1, O'⟩ := ap (by show l.length + 1 ≤ _; omega)
        have e1' : aAppend false 3 40 (.sl o l.length 0 l.length) (.sl o2 1 0 1) h = some (x', h') := e1
        rw [if_pos (by omega), e1', obind2_sm]
        refine K _ x' h' ?_
        have e3 : l.take m ++ b :: l.drop m = l ++ [b] := by rw [hm, List.take_length, List.drop_length]
        show Hold B h' (L.set i (x', obS (some (l.take m ++ b :: l.drop m))))
        rw [e3]
        exact O'
      · rw [if_neg (by omega), obind2_sm, Int.toNat_natCast]
        have e4 : (l.map (Row.cells (A := Bigram))).take m ++ [b].map Row.cells ++ (l.map Row.cells).drop m = (l.take m ++ b :: l.drop m).map Row.cells := by simp
        rw [e4]
        have O' := O.update (o := o) (v' := .sl (Row.w Bigram) ((l.take m ++ b :: l.drop m).map Row.cells)) hi (by rw [hlm]; rfl) rfl
        refine K _ _ _ ?_
        have e5 : (l.take m ++ b :: l.drop m).length = l.length + 1 := by simp; omega
        have e6 : EV.at o (.sl (Row.w Bigram) ((l.take m ++ b :: l.drop m).map Row.cells)) = .sl o (l.length + 1) 0 (l.length + 1) := by
          show AV.sl o ((l.take m ++ b :: l.drop m).map Row.cells).length 0 ((l.take m ++ b :: l.drop m).map Row.cells).length = _
          rw [List.length_map, e5]
        rw [e6] at O'
        exact O'
theorem gen_slices_Insert_impl_Bigram_impl_Bigram : GenOK Try.prog n_slices_Insert_impl_Bigram_impl_Bigram insF := gen_ins ⟨Try.f23, _, Try.func23, rfl, by decide⟩

theorem less_irr : ∀ x : List UInt8, Op.bytesLess x x = false
  | [] => rfl
  | a :: x => by simp [Op.bytesLess, less_irr x]
theorem less_trans : ∀ x y z : List UInt8, Op.bytesLess x y = true → Op.bytesLess y z = true → Op.bytesLess x z = true
  | _, _, [], _, h => by cases ‹List UInt8› <;> simp [Op.bytesLess] at h
  | _, [], _ :: _, h, _ => by simp [Op.bytesLess] at h
  | [], _ :: _, _ :: _, _, _ => by simp [Op.bytesLess]
  | a :: x, b :: y, c :: z, h1, h2 => by
    simp only [Op.bytesLess, Bool.or_eq_true, decide_eq_true_eq, Bool.and_eq_true, beq_iff_eq] at h1 h2 ⊢
    rcases h1 with h1 | ⟨rfl, h1⟩
    · rcases h2 with h2 | ⟨rfl, h2⟩
      · left
        rw [UInt8.lt_iff_toNat_lt] at *
        omega
      · left; exact h1
    · rcases h2 with h2 | ⟨rfl, h2⟩
      · left; exact h2
      · right; exact ⟨rfl, less_trans x y z h1 h2⟩
theorem ltS_irr (a : ByteArray) : ltS a a = false := less_irr _
theorem ltS_trans {a b c : ByteArray} (h1 : ltS a b = true) (h2 : ltS b c = true) : ltS a c = true := less_trans _ _ _ h1 h2
theorem before_iff (a b : Bigram) : before a b = true ↔ ltS a.first b.first = true ∨ (a.first = b.first ∧ ltS a.second b.second = true) := by simp [before]
theorem before_trans {a b c : Bigram} (h1 : before a b = true) (h2 : before b c = true) : before a c = true := by
  rw [before_iff] at *
  rcases h1 with h1 | ⟨e1, h1⟩
  · rcases h2 with h2 | ⟨e2, h2⟩
    · exact .inl (ltS_trans h1 h2)
    · exact .inl (e2 ▸ h1)
  · rcases h2 with h2 | ⟨e2, h2⟩
    · exact .inl (e1 ▸ h2)
    · exact .inr ⟨e1.trans e2, ltS_trans h1 h2⟩
def sameB (a b : Bigram) : Bool := decide (a.first = b.first) && decide (a.second = b.second)
theorem sameB_not {a b : Bigram} (h : sameB a b = true) : before a b = false := by
  simp [sameB] at h
  simp [before, h.1, h.2, ltS_irr]
theorem sameB_before {a b c : Bigram} (h : sameB b c = true) : before a b = before a c := by
  simp [sameB] at h
  simp [before, h.1, h.2]
theorem cmpB_zero (a b : Bigram) : decide (cmpB a b = 0) = sameB a b := by
  unfold cmpB cmpS orI orI orI sameB
  by_cases h : a.first = b.first <;> by_cases h2 : a.second = b.second
  · simp [h, h2, ltS_irr]
  · cases ltS a.second b.second <;> simp [h, h2, ltS_irr]
  · cases ltS a.first b.first <;> simp [h]
  · cases ltS a.first b.first <;> simp [h]
def srtB (l : List Bigram) : Bool := (List.range l.length).all fun i => decide (i = 0) || beforeAt l (i - 1) i
theorem srt_of {l : List Bigram} (h : srtB l = true) : ∀ (j i : Nat) (hj : j < l.length) (hi : i < j), before (l[i]'(by omega)) l[j] = true := by
  have h1 : ∀ i, i < l.length → i = 0 ∨ beforeAt l (i - 1) i = true := by
    intro i hi
    have := List.all_eq_true.1 h i (by simp [hi])
    simpa using this
  intro j
  induction j with
  | zero => intro i hj hi; omega
  | succ j ih =>
    intro i hj hi
    have h2 : before (l[j]'(by omega)) l[j + 1] = true := by
      rcases h1 (j + 1) hj with e | e
      · omega
      · have hj' : j < l.length := by omega
        simpa [beforeAt, hj, hj'] using e
    by_cases e : i = j
    · subst e; exact h2
    · exact before_trans (ih i (by omega) (by omega)) h2
/-- How many come before the target. -/
def posB (l : List Bigram) (t : Bigram) : Nat := (l.takeWhile fun a => before a t).length
theorem pos_le (l : List Bigram) (t : Bigram) : posB l t ≤ l.length := (List.takeWhile_prefix _).length_le
theorem pos_ok {l : List Bigram} (h : srtB l = true) (t : Bigram) {m : Nat} (hm : m < l.length) : before l[m] t = decide (m < posB l t) := by
  have key : ∀ (l : List Bigram) (p : Bigram → Bool) (m : Nat) (hm : m < l.length), m < (l.takeWhile p).length → p l[m] = true := by
    intro l p
    induction l with
    | nil => intro m hm; simp at hm
    | cons a l ih =>
      intro m hm hw
      cases hp : p a
      · simp [hp] at hw
      · cases m with
        | zero => simpa using hp
        | succ m =>
          simp only [List.takeWhile_cons, hp, if_true, List.length_cons] at hw
          simpa using ih m (by simpa using hm) (by omega)
  have key2 : ∀ (l : List Bigram) (p : Bigram → Bool) (hm : (l.takeWhile p).length < l.length), p (l[(l.takeWhile p).length]'hm) = false := by
    intro l p
    induction l with
    | nil => intro hm; simp at hm
    | cons a l ih =>
      intro hw
      cases hp : p a
      · simp [hp]
      · have hw' : (l.takeWhile p).length < l.length := by
          simp only [List.takeWhile_cons, hp, if_true, List.length_cons] at hw
          omega
        simpa [hp] using ih hw'
  by_cases hp : m < posB l t
  · rw [key l _ m hm hp]
    simp [hp]
  · have hq : posB l t < l.length := by omega
    have e := key2 l (fun a => before a t) hq
    simp only [hp, decide_false]
    cases hb : before l[m] t
    · rfl
    · exfalso
      by_cases e2 : posB l t = m
      · have : before (l[posB l t]'hq) t = true := by simpa [e2] using hb
        have e' : before (l[posB l t]'hq) t = false := e
        rw [this] at e'
        cases e'
      · have := before_trans (srt_of h m (posB l t) hm (by omega)) hb
        have e' : before (l[posB l t]'hq) t = false := e
        rw [this] at e'
        cases e'
def hitB (l : List Bigram) (t : Bigram) : Bool := match l[posB l t]? with
  | some b => sameB b t
  | none => false
theorem hit_find {l : List Bigram} (h : srtB l = true) (t : Bigram) : l.find? (fun b => sameB b t) = bif hitB l t then l[posB l t]? else none := by
  unfold hitB
  by_cases hp : posB l t < l.length
  · simp only [List.getElem?_eq_getElem hp]
    cases hs : sameB l[posB l t] t
    · simp only [cond_false]
      rw [List.find?_eq_none]
      intro x hx
      obtain ⟨j, hj, rfl⟩ := List.getElem_of_mem hx
      intro hsame
      rcases Nat.lt_trichotomy j (posB l t) with e | e | e
      · have h1 := pos_ok h t hj
        rw [sameB_not hsame] at h1
        simp [e] at h1
      · subst e; rw [hs] at hsame; cases hsame
      · have h1 := srt_of h j (posB l t) hj e
        rw [sameB_before hsame] at h1
        have h2 := pos_ok h t hp
        rw [h1] at h2
        simp at h2
    · simp only [cond_true]
      rw [List.find?_eq_some_iff_getElem]
      refine ⟨hs, posB l t, hp, rfl, fun j hj => ?_⟩
      have h1 := pos_ok h t (m := j) (by omega)
      cases hq : sameB l[j] t
      · rfl
      · rw [sameB_not hq] at h1
        simp [hj] at h1
  · have e : l[posB l t]? = none := List.getElem?_eq_none (by omega)
    rw [e]
    simp only [cond_false]
    rw [List.find?_eq_none]
    intro x hx
    obtain ⟨j, hj, rfl⟩ := List.getElem_of_mem hx
    intro hsame
    have h1 := pos_ok h t hj
    rw [sameB_not hsame] at h1
    have : j < posB l t := by omega
    simp [this] at h1

theorem less_tri : ∀ x y : List UInt8, Op.bytesLess x y = true ∨ x = y ∨ Op.bytesLess y x = true
  | [], [] => .inr (.inl rfl)
  | [], _ :: _ => .inl rfl
  | _ :: _, [] => .inr (.inr rfl)
  | a :: x, b :: y => by
    unfold Op.bytesLess
    have h3 : a < b ∨ a = b ∨ b < a := by
      rcases Nat.lt_trichotomy a.toNat b.toNat with h | h | h
      · exact .inl h
      · exact .inr (.inl (UInt8.toNat_inj.1 h))
      · exact .inr (.inr h)
    rcases h3 with h | h | h
    · exact .inl (by simp [h])
    · subst h
      rcases less_tri x y with k | k | k
      · exact .inl (by simp [k])
      · exact .inr (.inl (by rw [k]))
      · exact .inr (.inr (by simp [k]))
    · exact .inr (.inr (by simp [h]))
theorem ltS_tri (a b : ByteArray) : ltS a b = true ∨ a = b ∨ ltS b a = true := by
  rcases less_tri a.toList b.toList with h | h | h
  · exact .inl h
  · have := beq_toList a b
    rw [h, beq_self_eq_true] at this
    exact .inr (.inl (of_decide_eq_true this.symm))
  · exact .inr (.inr h)

/-- The digits of a number, ahead of a text. -/
def digT (k : Nat) (out : ByteArray) : ByteArray := if _h : k = 0 then out else digT (k / 10) (⟨#[(48 + k % 10).toUInt8]⟩ ++ out)
termination_by k
decreasing_by omega
def markT (k : Nat) : ByteArray := bif decide (k = 0) then ⟨#[109, 48]⟩ else ⟨#[109]⟩ ++ digT k ⟨#[]⟩
theorem size_one (b : UInt8) (out : ByteArray) : ((⟨#[b]⟩ : ByteArray) ++ out).size = 1 + out.size := by
  rw [ByteArray.size_append]
  rfl
theorem add_str (a b : ByteArray) (h : a.size + b.size ≤ 4294967296) : aBin .add (sv a) (sv b) = some (sv (a ++ b)) := by
  have h0 : aBin .add (sv a) (sv b) = (match (if ((a.size + b.size : Nat) : Int) ≤ 9223372036854775807 then some (Value.string (a ++ b)) else none) with | some v => some (AV.sc v) | none => none) := rfl
  rw [h0, if_pos (by omega)]
  rfl
theorem digT_size : ∀ (k : Nat) (out : ByteArray), (digT k out).size ≤ k + out.size := by
  intro k out
  induction k, out using digT.induct with
  | case1 out => rw [digT]; simp
  | case2 k out h ih =>
    rw [digT, dif_neg h]
    rw [size_one] at ih
    omega

/-- The row that a mark leaves: numbers that go up by one, or their texts. -/
def mrow : List Bool → Nat → List AV
  | [], _ => []
  | b :: ks, k => (bif b then sv (markT k) else iv (k : Nat)) :: mrow ks (k + 1)
def mrows (ks : List Bool) : Nat → Nat → List (List AV)
  | _, 0 => []
  | k, m + 1 => mrow ks k :: mrows ks (k + ks.length) m
theorem set_same {h : Heap} {o : Nat} {x : AObj} (ho : h[o]? = some x) : h.set o x = h := by
  obtain ⟨hlt, e⟩ := List.getElem?_eq_some_iff.1 ho
  rw [← e]
  exact List.set_getElem_self hlt
theorem mark_addr {h : Heap} {o n w i : Nat} {P S : List (List AV)} {r : List AV} (ho : h[o]? = some ⟨w, P ++ r :: S⟩) (hi : i = P.length) (hn : P.length + (S.length + 1) = n) : aIndexAddr w (.sl o n 0 n) (iv (i : Nat)) h = some (.ptr o n i 0) := by
  have i1 : idx (iv (i : Int)) n = some i := idx_lt (by omega)
  have hl : (P ++ r :: S).length = n := by simp; omega
  simp only [aIndexAddr, ho, hl, i1, and_self, if_true, Nat.zero_add]
theorem mark_store {h : Heap} {o n w i j : Nat} {P S : List (List AV)} {r : List AV} {v : AV} (ho : h[o]? = some ⟨w, P ++ r :: S⟩) (hi : i = P.length) (hn : P.length + (S.length + 1) = n) (hv : v.cells = [v]) (hf : v.flat = true) (hj : j < r.length) : aStore 1 (.ptr o n i j) v h = some (h.set o ⟨w, P ++ r.set j v :: S⟩) := by
  have hl : (P ++ r :: S).length = n := by simp; omega
  have hg : (P ++ r :: S)[i]? = some r := by simp [hi]
  simp only [aStore, ho, hl, if_true, hg]
  rw [if_pos ⟨by rw [hv]; rfl, by omega, by rw [hv]; simp [hf]⟩]
  congr 3
  rw [hi, hv]
  have hs : splice r j [v] = r.set j v := by
    unfold splice
    simp only [List.length_cons, List.length_nil, Nat.zero_add]
    exact (List.set_eq_take_append_cons_drop (l := r) (i := j) (a := v)).symm ▸ (by simp [hj])
  rw [hs]
  simp

theorem lp2_laws_markText (env : Nat → Contract) {y1 y2 y4 y5 y18 y19 : AV} : ∀ (k : Nat) (out : ByteArray) (h : Heap), k ≤ 8589934592 → k + out.size ≤ 4000000000 →
    ((obind (loopP hm0_laws_markText xm0_laws_markText (lb0_laws_markText env) [iv (k : Nat), y1, y2, sv out, y4, y5, .top, .top, .top, .top, .top, .top, .top, .top, .top, .top, .top, .top, y18, y19] h) fun r => lk0_laws_markText env r.1 r.2.1 r.2.2).map Prod.fst) = some (sv (⟨#[109]⟩ ++ digT k out)) := by
  intro k out
  induction k, out using digT.induct with
  | case1 out =>
    intro h h1 h2
    rw [loopP.eq_1, digT]
    have hs : (⟨#[109]⟩ : ByteArray).size = 1 := rfl
    have ha := add_str ⟨#[109]⟩ out (by omega)
    simp [e_lb0_laws_markText, restr, e_lk0x0_laws_markText, ha]
  | case2 k out hk ih =>
    intro h h1 h2
    have ih' := fun h => ih h (by omega) (by rw [size_one]; omega)
    have p : (0 : Int) < (k : Int) := by omega
    have a1 : (k : Int).tmod 10 = ((k % 10 : Nat) : Int) := by
      have := Int.ofNat_tmod k 10
      exact this.symm
    have a2 : wr (48 + ((k % 10 : Nat) : Int)) = ((48 + k % 10 : Nat) : Int) := by rw [wr_id (by omega) (by omega)]; omega
    have a3 : aConvInt .u8 (iv ((48 + k % 10 : Nat) : Int)) = some (bt (48 + k % 10).toUInt8) := by
      have h0 : aConvInt .u8 (iv ((48 + k % 10 : Nat) : Int)) = some (.sc (.int .u8 (IntKind.u8.wrap ((48 + k % 10 : Nat) : Int)))) := rfl
      rw [h0]
      unfold bt
      congr 3
    have a4 : (k : Int).tdiv 10 = ((k / 10 : Nat) : Int) := (Int.ofNat_tdiv k 10).symm
    have a5 : wr ((k / 10 : Nat) : Int) = ((k / 10 : Nat) : Int) := wr_id (by omega) (by omega)
    have a6 : ∀ b : UInt8, ∀ h : Heap, aBuildSlice [.sc (.int .u8 0)] 1 [(0, bt b)] h = some (.sl h.length 1 0 1, h ++ [⟨1, [[bt b]]⟩]) := fun b h => rfl
    have a7 : ∀ b : UInt8, ∀ h : Heap, aConvStr (.sl h.length 1 0 1) (h ++ [⟨1, [[bt b]]⟩]) = some (sv ⟨#[b]⟩) := by
      intro b h
      have h0 : aSrc false 1 (.sl h.length 1 0 1) (h ++ [⟨1, [[bt b]]⟩]) = some [[bt b]] := by
        simp [aSrc]
      unfold aConvStr
      rw [h0]
      have h1 : bytesOf [[bt b]] = some [b] := by
        show (match bytesOf [] with | some l => some (((b.toNat : Int)).toNat.toUInt8 :: l) | none => none) = _
        simp [bytesOf]
      show (match bytesOf [[bt b]] with | some l => some (AV.sc (Value.string ⟨l.toArray⟩)) | none => none) = _
      rw [h1]
      rfl
    have a8 := add_str ⟨#[(48 + k % 10).toUInt8]⟩ out (by have : (⟨#[(48 + k % 10).toUInt8]⟩ : ByteArray).size = 1 := rfl; omega)
    rw [loopP.eq_1, digT, dif_neg hk]
    simp only [e_lb0_laws_markText, aBin_gtr, obind_sm, condB_bv, p, decide_true, cond_true, aBin_rem _ 10 (by decide), a1, aBin_add, a2, a3, a6, obind2_sm, a7, a8, aBin_quo _ 10 (by decide), a4, a5, restr, cond_false]
    exact ih' _
theorem okB_laws_markText : PureOK Try.prog n_laws_markText (G1 (fun k : Int => decide (0 ≤ k) && decide (k ≤ 100000000)) fun k => sv (markT k.toNat)) :=
  pureG1 E0 mixed hb_laws_markText fun k h => by
  simp at h
  obtain ⟨m, rfl⟩ := Int.eq_ofNat_of_zero_le h.1
  refine plain_of rfl ?_
  by_cases hz : m = 0
  · subst hz
    simp [e_laws_markText, markT]
  · have hz' : ¬ ((m : Nat) : Int) ≤ 0 := by omega
    have hs : (⟨#[]⟩ : ByteArray).size = 0 := rfl
    have L := fun env {y1 y2 y4 y5 y18 y19} h => @lp2_laws_markText env y1 y2 y4 y5 y18 y19 m ⟨#[]⟩ h (by omega) (by omega)
    rw [e_laws_markText]
    simp only [enc_int, aBin_leq, obind_sm, condB_bv, hz', decide_false, cond_false, L, Int.toNat_natCast, markT, hz]

def t_laws_szBigram (a_ : Bigram) (left_ : Int) : Option Int :=
  bif decide ((wr (left_ - (a_.first.size : Int))) < 0) then
    some (-1)
  else
    bif decide ((wr ((wr (left_ - (a_.first.size : Int))) - (a_.second.size : Int))) < 0) then
      some (-1)
    else
      some (wr ((wr (left_ - (a_.first.size : Int))) - (a_.second.size : Int)))

theorem ts_laws_szBigram (env : Nat → Contract)  (a_ : Bigram) (left_ : Int) : Sim (denFn Try.prog env n_laws_szBigram [AV.agg [sv a_.first, sv a_.second, iv a_.cost], iv left_] []) (t_laws_szBigram a_ left_) fun c p => release p.2 depth p.1 = some ((fun c : Int => enc c) c) := by
  have O := Hold.nil []
  generalize hB : (⟨[], []⟩ : Base) = B at O
  clear hB
  rw [e_laws_szBigram]
  unfold t_laws_szBigram
  refine sim_box O (cs := [sv a_.first, sv a_.second, iv a_.cost]) (by first | rfl | simp) (fun o1 h2 O3 => ?_)
  replace O3 : Hold B h2 [(AV.ptr o1 1 0 0, .pt 3 [sv a_.first, sv a_.second, iv a_.cost])] := O3
  refine sim_let (v := AV.ptr o1 1 0 0) rfl ?_
  refine sim_let (v := sv a_.first) (O3.ld 0 rfl false 1 0) ?_
  refine sim_let (v := iv (a_.first.size : Int)) rfl ?_
  refine sim_let (v := iv (wr (left_ - (a_.first.size : Int)))) (aBin_sub _ _) ?_
  refine sim_let (v := bv (decide ((wr (left_ - (a_.first.size : Int))) < 0))) (aBin_lss _ _) ?_
  refine sim_cond (fun c5 => ?_) (fun c5 => ?_)
  · exact sim_ret (release_plain (by rfl) _)
  · refine sim_let (v := AV.ptr o1 1 0 1) rfl ?_
    refine sim_let (v := sv a_.second) (O3.ld 0 rfl false 1 1) ?_
    refine sim_let (v := iv (a_.second.size : Int)) rfl ?_
    refine sim_let (v := iv (wr ((wr (left_ - (a_.first.size : Int))) - (a_.second.size : Int)))) (aBin_sub _ _) ?_
    refine sim_let (v := bv (decide ((wr ((wr (left_ - (a_.first.size : Int))) - (a_.second.size : Int))) < 0))) (aBin_lss _ _) ?_
    refine sim_cond (fun c6 => ?_) (fun c6 => ?_)
    · exact sim_ret (release_plain (by rfl) _)
    · exact sim_ret (release_plain (by rfl) _)
theorem tt_laws_szBigram : PureOK Try.prog n_laws_szBigram (C2 (fun c : Int => enc c) t_laws_szBigram) := pureC2 E0 mixed hb_laws_szBigram fun a_ left_ => ts_laws_szBigram _  a_ left_

def s0_laws_szBigramS (a_ : Sl Bigram) : (Int × Int) → Option (Sum (Int × Int) (Sum Int Int)) := fun (w4, w5) =>
  bif decide (w5 < (((a_.getD []).length : Nat) : Int)) then
    obind (getI (a_.getD []) w5) fun a17 =>
    obind (t_laws_szBigram a17 w4) fun c21 =>
    bif decide (c21 < 0) then
      some (.inr (.inr (-1)))
    else
      some (.inl (c21, wr (w5 + 1)))
  else
    some (.inr (.inl w4))
def t_laws_szBigramS (a_ : Sl Bigram) (left_ : Int) : Option Int :=
  bif decide ((wr (left_ - (((a_.getD []).length : Nat) : Int))) < 0) then
    some (-1)
  else
    obind (loopT (s0_laws_szBigramS a_) (wr (left_ - (((a_.getD []).length : Nat) : Int)), 0)) fun qq27 => match qq27 with
    | (.inl q8) =>
        some q8
    | (.inr q14) =>
        some q14

theorem tl0_laws_szBigramS (env : Nat → Contract) {B : Base} (he_laws_szBigram : env n_laws_szBigram = .pure (C2 (fun c : Int => enc c) t_laws_szBigram)) (a_ : Sl Bigram) (left_ : Int)  {st : Int × Int} {tm : TM} {h : Heap} (R : (fun (st : Int × Int) tm h2 => match st with | (w4, w5) => tm = [Sl.enc a_, iv w4, und, und, AV.top, iv w5, iv left_, Sl.enc a_, iv (((a_.getD []).length : Nat) : Int), iv (wr (left_ - (((a_.getD []).length : Nat) : Int))), iv (wr (left_ - (((a_.getD []).length : Nat) : Int))), bv (decide ((wr (left_ - (((a_.getD []).length : Nat) : Int))) < 0)), AV.top, AV.top, AV.top, AV.top, AV.top, AV.top, AV.top, AV.top, AV.top, AV.top, AV.top, AV.top, AV.top, AV.top, und] ∧ Hold B h2 []) st tm h) : Sim (loopP hm0_laws_szBigramS xm0_laws_szBigramS (lb0_laws_szBigramS env) tm h) (loopT (s0_laws_szBigramS a_) st) (fun (q : Sum Int Int) (r : Res) => match q with | .inl q8 => ∃ (q10 : Int) (z9 : AV) (h6 : Heap), r = (.exit 0, [Sl.enc a_, iv q8, und, und, z9, iv q10, iv left_, Sl.enc a_, iv (((a_.getD []).length : Nat) : Int), iv (wr (left_ - (((a_.getD []).length : Nat) : Int))), iv (wr (left_ - (((a_.getD []).length : Nat) : Int))), bv (decide ((wr (left_ - (((a_.getD []).length : Nat) : Int))) < 0)), AV.top, AV.top, AV.top, AV.top, AV.top, AV.top, AV.top, AV.top, AV.top, AV.top, AV.top, AV.top, AV.top, AV.top, und], h6) ∧ Hold B h6 [] | .inr q14 => ∃ (q13 : Int) (q15 : Int) (h11 : Heap), r = (.ret, [Sl.enc a_, iv q13, und, und, iv q14, iv q15, iv left_, Sl.enc a_, iv (((a_.getD []).length : Nat) : Int), iv (wr (left_ - (((a_.getD []).length : Nat) : Int))), iv (wr (left_ - (((a_.getD []).length : Nat) : Int))), bv (decide ((wr (left_ - (((a_.getD []).length : Nat) : Int))) < 0)), AV.top, AV.top, AV.top, AV.top, AV.top, AV.top, AV.top, AV.top, AV.top, AV.top, AV.top, AV.top, AV.top, AV.top, und], h11) ∧ Hold B h11 []) := by
  refine loop_sim (Rel := fun (st : Int × Int) tm h2 => match st with | (w4, w5) => tm = [Sl.enc a_, iv w4, und, und, AV.top, iv w5, iv left_, Sl.enc a_, iv (((a_.getD []).length : Nat) : Int), iv (wr (left_ - (((a_.getD []).length : Nat) : Int))), iv (wr (left_ - (((a_.getD []).length : Nat) : Int))), bv (decide ((wr (left_ - (((a_.getD []).length : Nat) : Int))) < 0)), AV.top, AV.top, AV.top, AV.top, AV.top, AV.top, AV.top, AV.top, AV.top, AV.top, AV.top, AV.top, AV.top, AV.top, und] ∧ Hold B h2 []) (fun st tm h2 R => ?_) R
  obtain ⟨w4, w5⟩ := st
  obtain ⟨rfl, O3⟩ := R
  rw [e_lb0_laws_szBigramS]
  unfold s0_laws_szBigramS
  dsimp only
  refine sim_let (v := iv (((a_.getD []).length : Nat) : Int)) (Tab.enc h2 a_).len ?_
  refine sim_let (v := bv (decide (w5 < (((a_.getD []).length : Nat) : Int)))) (aBin_lss _ _) ?_
  refine sim_cond (fun c16 => ?_) (fun c16 => ?_)
  · refine sim_get (Tab.enc h2 a_) (fun m18 a17 hi19 hm20 => ?_)
    refine sim_let (v := AV.agg [sv a17.first, sv a17.second, iv a17.cost]) ((Tab.enc h2 a_).ld hm20 true 3 0) ?_
    refine sim_call2 he_laws_szBigram (snapD_nr _ a17 rfl) (snapD_int _ _) (fun c21 => ?_)
    refine sim_let2 (hand_plain (by rfl) _ _) ?_
    refine sim_let (v := bv (decide (c21 < 0))) (aBin_lss _ _) ?_
    refine sim_cond (fun c22 => ?_) (fun c22 => ?_)
    · exact sim_ret ⟨nofun, _, _, _, rfl, O3⟩
    · refine sim_let (v := iv (wr (w5 + 1))) (aBin_add _ _) ?_
      exact sim_ret ⟨rfl, rfl, O3⟩
  · exact sim_ret ⟨nofun, _, _, _, rfl, O3⟩
theorem ts_laws_szBigramS (env : Nat → Contract) (he_laws_szBigram : env n_laws_szBigram = .pure (C2 (fun c : Int => enc c) t_laws_szBigram)) (a_ : Sl Bigram) (left_ : Int) : Sim (denFn Try.prog env n_laws_szBigramS [Sl.enc a_, iv left_] []) (t_laws_szBigramS a_ left_) fun c p => release p.2 depth p.1 = some ((fun c : Int => enc c) c) := by
  have O := Hold.nil []
  generalize hB : (⟨[], []⟩ : Base) = B at O
  clear hB
  rw [e_laws_szBigramS]
  unfold t_laws_szBigramS
  refine sim_let (v := iv (((a_.getD []).length : Nat) : Int)) (Tab.enc [] a_).len ?_
  refine sim_let (v := iv (wr (left_ - (((a_.getD []).length : Nat) : Int)))) (aBin_sub _ _) ?_
  refine sim_let (v := bv (decide ((wr (left_ - (((a_.getD []).length : Nat) : Int))) < 0))) (aBin_lss _ _) ?_
  refine sim_cond (fun c1 => ?_) (fun c1 => ?_)
  · exact sim_ret (release_plain (by rfl) _)
  · refine sim_bind ((tl0_laws_szBigramS env he_laws_szBigram a_ left_) ⟨rfl, O⟩) (fun qq27 r hq => ?_)
    rcases qq27 with q8 | q14
    · obtain ⟨q10, z9, h6, rfl, O7⟩ := hq
      rw [e_lk0x0_laws_szBigramS]
      exact sim_ret (release_plain (by rfl) _)
    · obtain ⟨q13, q15, h11, rfl, O12⟩ := hq
      rw [e_lk0r_laws_szBigramS]
      exact sim_ret (release_plain (by rfl) _)
theorem tt_laws_szBigramS : PureOK Try.prog n_laws_szBigramS (C2 (fun c : Int => enc c) t_laws_szBigramS) := pureC2 (Econs tt_laws_szBigram E0) mixed hb_laws_szBigramS fun a_ left_ => ts_laws_szBigramS _ (by simp [envL]) a_ left_

def t_laws_szModel (a_ : Model) (left_ : Int) : Option Int :=
  obind (t_laws_szBigramS a_.bigrams left_) fun c5 =>
  bif decide (c5 < 0) then
    some (-1)
  else
    some c5

theorem ts_laws_szModel (env : Nat → Contract) (he_laws_szBigramS : env n_laws_szBigramS = .pure (C2 (fun c : Int => enc c) t_laws_szBigramS)) (a_ : Model) (left_ : Int) : Sim (denFn Try.prog env n_laws_szModel [AV.agg [iv a_.default, Sl.enc a_.bigrams], iv left_] []) (t_laws_szModel a_ left_) fun c p => release p.2 depth p.1 = some ((fun c : Int => enc c) c) := by
  have O := Hold.nil []
  generalize hB : (⟨[], []⟩ : Base) = B at O
  clear hB
  rw [e_laws_szModel]
  unfold t_laws_szModel
  refine sim_box O (cs := [iv a_.default, Sl.enc a_.bigrams]) (by first | rfl | simp) (fun o1 h2 O3 => ?_)
  replace O3 : Hold B h2 [(AV.ptr o1 1 0 0, .pt 2 [iv a_.default, Sl.enc a_.bigrams])] := O3
  refine sim_let (v := AV.ptr o1 1 0 1) rfl ?_
  refine sim_let (v := Sl.enc a_.bigrams) (O3.ld 0 rfl false 1 1) ?_
  refine sim_call2 he_laws_szBigramS (snapD_enc _ _) (snapD_int _ _) (fun c5 => ?_)
  refine sim_let2 (hand_plain (by rfl) _ _) ?_
  refine sim_let (v := bv (decide (c5 < 0))) (aBin_lss _ _) ?_
  refine sim_cond (fun c6 => ?_) (fun c6 => ?_)
  · exact sim_ret (release_plain (by rfl) _)
  · exact sim_ret (release_plain (by rfl) _)
theorem tt_laws_szModel : PureOK Try.prog n_laws_szModel (C2 (fun c : Int => enc c) t_laws_szModel) := pureC2 (Econs tt_laws_szBigramS E0) mixed hb_laws_szModel fun a_ left_ => ts_laws_szModel _ (by simp [envL]) a_ left_

def s0_laws_toBigramS (a_ : Sl Bigram) : ((Sl Bigram) × Int) → Option (Sum ((Sl Bigram) × Int) (Sl Bigram)) := fun (w6, w9) =>
  bif decide (w9 < (((a_.getD []).length : Nat) : Int)) then
    obind (getI (a_.getD []) w9) fun a15 =>
    obind (some ((fun b : Bigram => b) a15)) fun c19 =>
    obind (getI (w6.getD []) w9) fun a20 =>
    some (.inl ((setS w6 w9 c19), wr (w9 + 1)))
  else
    some (.inr w6)
def t_laws_toBigramS (a_ : Sl Bigram) : Option (Sl Bigram) :=
  obind (makeO (⟨(⟨#[]⟩ : ByteArray), (⟨#[]⟩ : ByteArray), 0⟩ : Bigram) (((a_.getD []).length : Nat) : Int)) fun l5 =>
  obind (loopT (s0_laws_toBigramS a_) ((some l5), 0)) fun q12 =>
  some q12

theorem tl0_laws_toBigramS (env : Nat → Contract) {B : Base} (he_laws_toBigram : env n_laws_toBigram = .pure (T1 (fun b : Bigram => b))) (a_ : Sl Bigram) (x1 : AV)  {st : (Sl Bigram) × Int} {tm : TM} {h : Heap} (R : (fun (st : (Sl Bigram) × Int) tm h7 => match st with | (w6, w9) => tm = [Sl.enc a_, und, nilS, x1, iv w9, Sl.enc a_, iv (((a_.getD []).length : Nat) : Int), x1, AV.top, AV.top, AV.top, AV.top, AV.top, AV.top, AV.top, AV.top, AV.top, AV.top, AV.top, AV.top, AV.top, AV.top, und] ∧ Hold B h7 [(x1, obS (w6 : Sl Bigram))]) st tm h) : Sim (loopP hm0_laws_toBigramS xm0_laws_toBigramS (lb0_laws_toBigramS env) tm h) (loopT (s0_laws_toBigramS a_) st) (fun (q : Sl Bigram) (r : Res) => match q with | q12 => ∃ (q13 : Int) (h10 : Heap), r = (.exit 0, [Sl.enc a_, und, nilS, x1, iv q13, Sl.enc a_, iv (((a_.getD []).length : Nat) : Int), x1, AV.top, AV.top, AV.top, AV.top, AV.top, AV.top, AV.top, AV.top, AV.top, AV.top, AV.top, AV.top, AV.top, AV.top, und], h10) ∧ Hold B h10 [(x1, obS (q12 : Sl Bigram))]) := by
  refine loop_sim (Rel := fun (st : (Sl Bigram) × Int) tm h7 => match st with | (w6, w9) => tm = [Sl.enc a_, und, nilS, x1, iv w9, Sl.enc a_, iv (((a_.getD []).length : Nat) : Int), x1, AV.top, AV.top, AV.top, AV.top, AV.top, AV.top, AV.top, AV.top, AV.top, AV.top, AV.top, AV.top, AV.top, AV.top, und] ∧ Hold B h7 [(x1, obS (w6 : Sl Bigram))]) (fun st tm h7 R => ?_) R
  obtain ⟨w6, w9⟩ := st
  obtain ⟨rfl, O8⟩ := R
  rw [e_lb0_laws_toBigramS]
  unfold s0_laws_toBigramS
  dsimp only
  refine sim_let (v := iv (((a_.getD []).length : Nat) : Int)) (Tab.enc h7 a_).len ?_
  refine sim_let (v := bv (decide (w9 < (((a_.getD []).length : Nat) : Int)))) (aBin_lss _ _) ?_
  refine sim_cond (fun c14 => ?_) (fun c14 => ?_)
  · refine sim_get (Tab.enc h7 a_) (fun m16 a15 hi17 hm18 => ?_)
    refine sim_let (v := AV.agg [sv a15.first, sv a15.second, iv a15.cost]) ((Tab.enc h7 a_).ld hm18 true 3 0) ?_
    refine sim_callV1 (t := (fun b : Bigram => b)) he_laws_toBigram (snapD_nr _ a15 rfl) (fun c19 => ?_)
    refine sim_get (O8.tab (A := Bigram) (s := w6) 0 rfl) (fun m21 a20 hi22 hm23 => ?_)
    refine sim_set (A := Bigram) O8 0 c19 rfl hi22 hm23 rfl (by simp) (by first | rfl | simp) (by first | rfl | simp [splice]) (fun h24 O25 => ?_)
    replace O25 : Hold B h24 [(x1, obS ((setS w6 w9 c19) : Sl Bigram))] := O25
    refine sim_let (v := iv (wr (w9 + 1))) (aBin_add _ _) ?_
    exact sim_ret ⟨rfl, rfl, O25⟩
  · exact sim_ret ⟨nofun, _, _, rfl, O8⟩
theorem ts_laws_toBigramS (env : Nat → Contract) (he_laws_toBigram : env n_laws_toBigram = .pure (T1 (fun b : Bigram => b))) (a_ : Sl Bigram) : Sim (denFn Try.prog env n_laws_toBigramS [Sl.enc a_] []) (t_laws_toBigramS a_) fun c p => release p.2 depth p.1 = some ((fun c : (Sl Bigram) => rS c) c) := by
  have O := Hold.nil []
  generalize hB : (⟨[], []⟩ : Base) = B at O
  clear hB
  rw [e_laws_toBigramS]
  unfold t_laws_toBigramS
  refine sim_let (v := iv (((a_.getD []).length : Nat) : Int)) (Tab.enc [] a_).len ?_
  refine sim_make (A := Bigram) O (⟨(⟨#[]⟩ : ByteArray), (⟨#[]⟩ : ByteArray), 0⟩ : Bigram) rfl (by decide) (fun l5 x1 h2 O3 => ?_)
  replace O3 : Hold B h2 [(x1, obS ((some l5) : Sl Bigram))] := O3
  refine sim_bind ((tl0_laws_toBigramS env he_laws_toBigram a_ x1) ⟨rfl, O3⟩) (fun qq29 r hq => ?_)
  revert hq
  revert qq29
  intro q12 hq
  obtain ⟨q13, h10, rfl, O11⟩ := hq
  rw [e_lk0x0_laws_toBigramS]
  exact sim_ret (O11.rel (A := Bigram) (s := q12) 0 rfl)
theorem tt_laws_toBigramS : PureOK Try.prog n_laws_toBigramS (C1 (fun c : (Sl Bigram) => rS c) t_laws_toBigramS) := pureC1 (Econs ok_laws_toBigram E0) mixed hb_laws_toBigramS fun a_ => ts_laws_toBigramS _ (by simp [envL]) a_

def t_laws_toModel (a_ : Model) : Option Model :=
  obind (t_laws_toBigramS a_.bigrams) fun c15 =>
  some (⟨a_.default, c15⟩ : Model)

theorem ts_laws_toModel (env : Nat → Contract) (he_laws_toBigramS : env n_laws_toBigramS = .pure (C1 (fun c : (Sl Bigram) => rS c) t_laws_toBigramS)) (a_ : Model) : Sim (denFn Try.prog env n_laws_toModel [AV.agg [iv a_.default, Sl.enc a_.bigrams]] []) (t_laws_toModel a_) fun c p => release p.2 depth p.1 = some ((fun c : Model => AV.agg [iv c.default, rS c.bigrams]) c) := by
  have O := Hold.nil []
  generalize hB : (⟨[], []⟩ : Base) = B at O
  clear hB
  rw [e_laws_toModel]
  unfold t_laws_toModel
  refine sim_box O (cs := [iv a_.default, Sl.enc a_.bigrams]) (by first | rfl | simp) (fun o1 h2 O3 => ?_)
  replace O3 : Hold B h2 [(AV.ptr o1 1 0 0, .pt 2 [iv a_.default, Sl.enc a_.bigrams])] := O3
  refine sim_box O3 (cs := [iv 0, nilS]) (by first | rfl | simp) (fun o5 h6 O7 => ?_)
  replace O7 : Hold B h6 [(AV.ptr o1 1 0 0, .pt 2 [iv a_.default, Sl.enc a_.bigrams]), (AV.ptr o5 1 0 0, .pt 2 [iv 0, nilS])] := O7
  refine sim_box O7 (cs := [iv 0, nilS]) (by first | rfl | simp) (fun o9 h10 O11 => ?_)
  replace O11 : Hold B h10 [(AV.ptr o1 1 0 0, .pt 2 [iv a_.default, Sl.enc a_.bigrams]), (AV.ptr o5 1 0 0, .pt 2 [iv 0, nilS]), (AV.ptr o9 1 0 0, .pt 2 [iv 0, nilS])] := O11
  refine sim_let (v := AV.ptr o1 1 0 0) rfl ?_
  refine sim_let (v := iv a_.default) (O11.ld 0 rfl false 1 0) ?_
  refine sim_let (v := AV.ptr o9 1 0 0) rfl ?_
  refine sim_store O11 2 (cs' := [iv a_.default, nilS]) rfl (by first | rfl | simp) (by simp) (by first | rfl | simp) (by first | rfl | simp [splice]) (fun h13 O14 => ?_)
  replace O14 : Hold B h13 [(AV.ptr o1 1 0 0, .pt 2 [iv a_.default, Sl.enc a_.bigrams]), (AV.ptr o5 1 0 0, .pt 2 [iv 0, nilS]), (AV.ptr o9 1 0 0, .pt 2 [iv a_.default, nilS])] := O14
  refine sim_let (v := AV.ptr o1 1 0 1) rfl ?_
  refine sim_let (v := Sl.enc a_.bigrams) (O14.ld 0 rfl false 1 1) ?_
  refine sim_call1 he_laws_toBigramS (snapD_enc _ _) (fun c15 => ?_)
  refine sim_hand (A := Bigram) O14 (fun x17 h18 O19 => ?_)
  replace O19 : Hold B h18 [(AV.ptr o1 1 0 0, .pt 2 [iv a_.default, Sl.enc a_.bigrams]), (AV.ptr o5 1 0 0, .pt 2 [iv 0, nilS]), (AV.ptr o9 1 0 0, .pt 2 [iv a_.default, nilS]), (x17, obS (c15 : Sl Bigram))] := O19
  refine sim_let (v := AV.ptr o9 1 0 1) rfl ?_
  refine sim_store O19 2 (cs' := [iv a_.default, x17]) rfl (by first | rfl | simp [(O19.one (A := Bigram) (s := c15) 3 rfl).1, (O19.one (A := Bigram) (s := c15) 3 rfl).2]) (by simp) (by first | rfl | simp [(O19.one (A := Bigram) (s := c15) 3 rfl).1, (O19.one (A := Bigram) (s := c15) 3 rfl).2]) (by first | rfl | simp [splice, (O19.one (A := Bigram) (s := c15) 3 rfl).1, (O19.one (A := Bigram) (s := c15) 3 rfl).2]) (fun h20 O21 => ?_)
  replace O21 : Hold B h20 [(AV.ptr o1 1 0 0, .pt 2 [iv a_.default, Sl.enc a_.bigrams]), (AV.ptr o5 1 0 0, .pt 2 [iv 0, nilS]), (AV.ptr o9 1 0 0, .pt 2 [iv a_.default, x17]), (x17, obS (c15 : Sl Bigram))] := O21
  refine sim_let (v := AV.agg [iv a_.default, x17]) (O21.ld 2 rfl true 2 0) ?_
  refine sim_store O21 1 (cs' := [iv a_.default, x17]) rfl (by first | rfl | simp [(O21.one (A := Bigram) (s := c15) 3 rfl).1, (O21.one (A := Bigram) (s := c15) 3 rfl).2]) (by simp) (by first | rfl | simp [(O21.one (A := Bigram) (s := c15) 3 rfl).1, (O21.one (A := Bigram) (s := c15) 3 rfl).2]) (by first | rfl | simp [splice, (O21.one (A := Bigram) (s := c15) 3 rfl).1, (O21.one (A := Bigram) (s := c15) 3 rfl).2]) (fun h22 O23 => ?_)
  replace O23 : Hold B h22 [(AV.ptr o1 1 0 0, .pt 2 [iv a_.default, Sl.enc a_.bigrams]), (AV.ptr o5 1 0 0, .pt 2 [iv a_.default, x17]), (AV.ptr o9 1 0 0, .pt 2 [iv a_.default, x17]), (x17, obS (c15 : Sl Bigram))] := O23
  refine sim_retL (resL_c (v := AV.agg [iv a_.default, x17]) (O23.ld 1 rfl true 2 0) (resL_nil _)) ?_
  dsimp only [pack]
  have O24 : Hold B h22 [(x17, obS (c15 : Sl Bigram))] := O23.sel [3] (by decide) rfl
  exact sim_ret (release_of (by simp only [ids_tup, ids_aggD, ids_agg, ids_iv, ids_bv, ids_sv, ids_bt, ids_nilS, ids_enc, O24.idsD (A := Bigram) (s := c15) 0 rfl, List.map_append, List.map_nil, List.flatMap_cons, List.flatMap_nil, List.append_nil, List.nil_append]; simpa only [List.flatMap_cons, List.flatMap_nil, List.append_nil, List.nil_append] using O24.nd2) (by simp only [rel_tup, rel_aggD, rel_agg, rel_iv, rel_bv, rel_sv, rel_bt, rel_nilS, rel_enc, O24.relD (A := Bigram) (s := c15) 0 rfl, omapc, omapn, obind_sm] <;> rfl))
theorem tt_laws_toModel : PureOK Try.prog n_laws_toModel (C1 (fun c : Model => AV.agg [iv c.default, rS c.bigrams]) t_laws_toModel) := pureC1 (Econs tt_laws_toBigramS E0) mixed hb_laws_toModel fun a_ => ts_laws_toModel _ (by simp [envL]) a_

def s0_spec_IsWord (s_ : ByteArray) : Int → Option (Sum Int (Sum Unit Bool)) := fun w3 =>
  bif decide (w3 < (s_.size : Int)) then
    obind (getB s_ w3) fun b14 =>
    obind (some (isLow b14)) fun c15 =>
    bif !c15 then
      some (.inr (.inr false))
    else
      some (.inl (wr (w3 + 1)))
  else
    some (.inr (.inl ()))
def t_spec_IsWord (s_ : ByteArray) : Option Bool :=
  obind (loopT (s0_spec_IsWord s_) 0) fun qq21 => match qq21 with
  | (.inl _) =>
      obind (some (within (s_.size : Int) 1 10)) fun c8 =>
      some c8
  | (.inr q11) =>
      some q11

theorem tl0_spec_IsWord (env : Nat → Contract) {B : Base} (he_spec_l00In : env n_spec_l00In = .pure (T3 within)) (he_spec_l01Small : env n_spec_l01Small = .pure (T1 isLow)) (s_ : ByteArray)  {st : Int} {tm : TM} {h : Heap} (R : (fun (st : Int) tm h1 => match st with | w3 => tm = [sv s_, und, AV.top, iv w3, AV.top, AV.top, AV.top, AV.top, AV.top, AV.top, AV.top, AV.top, AV.top, AV.top, AV.top, und, und, und] ∧ Hold B h1 []) st tm h) : Sim (loopP hm0_spec_IsWord xm0_spec_IsWord (lb0_spec_IsWord env) tm h) (loopT (s0_spec_IsWord s_) st) (fun (q : Sum Unit Bool) (r : Res) => match q with | .inl _ => ∃ (q7 : Int) (z6 : AV) (h4 : Heap), r = (.exit 0, [sv s_, und, z6, iv q7, AV.top, AV.top, AV.top, AV.top, AV.top, AV.top, AV.top, AV.top, AV.top, AV.top, AV.top, und, und, und], h4) ∧ Hold B h4 [] | .inr q11 => ∃ (q12 : Int) (h9 : Heap), r = (.ret, [sv s_, und, bv q11, iv q12, AV.top, AV.top, AV.top, AV.top, AV.top, AV.top, AV.top, AV.top, AV.top, AV.top, AV.top, und, und, und], h9) ∧ Hold B h9 []) := by
  refine loop_sim (Rel := fun (st : Int) tm h1 => match st with | w3 => tm = [sv s_, und, AV.top, iv w3, AV.top, AV.top, AV.top, AV.top, AV.top, AV.top, AV.top, AV.top, AV.top, AV.top, AV.top, und, und, und] ∧ Hold B h1 []) (fun w3 tm h1 R => ?_) R
  obtain ⟨rfl, O2⟩ := R
  rw [e_lb0_spec_IsWord]
  unfold s0_spec_IsWord
  dsimp only
  refine sim_let (v := iv (s_.size : Int)) rfl ?_
  refine sim_let (v := bv (decide (w3 < (s_.size : Int)))) (aBin_lss _ _) ?_
  refine sim_cond (fun c13 => ?_) (fun c13 => ?_)
  · refine sim_getB (fun b14 => ?_)
    refine sim_callV1 (t := isLow) he_spec_l01Small (snapD_byte _ _) (fun c15 => ?_)
    refine sim_let (v := bv (!c15)) (aUn_not _) ?_
    refine sim_cond (fun c16 => ?_) (fun c16 => ?_)
    · exact sim_ret ⟨nofun, _, _, rfl, O2⟩
    · refine sim_let (v := iv (wr (w3 + 1))) (aBin_add _ _) ?_
      exact sim_ret ⟨rfl, rfl, O2⟩
  · exact sim_ret ⟨nofun, _, _, _, rfl, O2⟩
theorem ts_spec_IsWord (env : Nat → Contract) (he_spec_l00In : env n_spec_l00In = .pure (T3 within)) (he_spec_l01Small : env n_spec_l01Small = .pure (T1 isLow)) (s_ : ByteArray) : Sim (denFn Try.prog env n_spec_IsWord [sv s_] []) (t_spec_IsWord s_) fun c p => release p.2 depth p.1 = some ((fun c : Bool => enc c) c) := by
  have O := Hold.nil []
  generalize hB : (⟨[], []⟩ : Base) = B at O
  clear hB
  rw [e_spec_IsWord]
  unfold t_spec_IsWord
  refine sim_bind ((tl0_spec_IsWord env he_spec_l00In he_spec_l01Small s_) ⟨rfl, O⟩) (fun qq21 r hq => ?_)
  rcases qq21 with _ | q11
  · obtain ⟨q7, z6, h4, rfl, O5⟩ := hq
    rw [e_lk0x0_spec_IsWord]
    refine sim_let (v := iv (s_.size : Int)) rfl ?_
    refine sim_callV3 (t := within) he_spec_l00In (snapD_int _ _) (snapD_int _ _) (snapD_int _ _) (fun c8 => ?_)
    exact sim_ret (release_plain (by rfl) _)
  · obtain ⟨q12, h9, rfl, O10⟩ := hq
    rw [e_lk0r_spec_IsWord]
    exact sim_ret (release_plain (by rfl) _)
theorem tt_spec_IsWord : PureOK Try.prog n_spec_IsWord (C1 (fun c : Bool => enc c) t_spec_IsWord) := pureC1 (Econs ok_spec_l00In (Econs ok_spec_l01Small E0)) mixed hb_spec_IsWord fun s_ => ts_spec_IsWord _ (by simp [envL]) (by simp [envL]) s_

def t_spec_l18First (s_ : ByteArray) : Option Bool :=
  obind (bif decide (s_ = (⟨#[]⟩ : ByteArray)) then some false else (obind (t_spec_IsWord s_) fun c2 => some c2)) fun c3 =>
  some (bif decide (s_ = (⟨#[]⟩ : ByteArray)) then true else c3)

theorem ts_spec_l18First (env : Nat → Contract) (he_spec_IsWord : env n_spec_IsWord = .pure (C1 (fun c : Bool => enc c) t_spec_IsWord)) (s_ : ByteArray) : Sim (denFn Try.prog env n_spec_l18First [sv s_] []) (t_spec_l18First s_) fun c p => release p.2 depth p.1 = some ((fun c : Bool => enc c) c) := by
  have O := Hold.nil []
  generalize hB : (⟨[], []⟩ : Base) = B at O
  clear hB
  rw [e_spec_l18First]
  unfold t_spec_l18First
  refine sim_let (v := bv (decide (s_ = (⟨#[]⟩ : ByteArray)))) (aCmp_eqS _ _) ?_
  refine sim_guardF (e := bv) (fun hb1 => ?_) (fun c3 => ?_)
  · refine sim_call1 he_spec_IsWord (snapD_str _ _) (fun c2 => ?_)
    refine sim_let2 (hand_plain (by rfl) _ _) ?_
    exact sim_ret rfl
  · refine sim_let (v := bv (bif decide (s_ = (⟨#[]⟩ : ByteArray)) then true else c3)) (pick_b' _ _ _) ?_
    exact sim_ret (release_plain (by rfl) _)
theorem tt_spec_l18First : PureOK Try.prog n_spec_l18First (C1 (fun c : Bool => enc c) t_spec_l18First) := pureC1 (Econs tt_spec_IsWord E0) mixed hb_spec_l18First fun s_ => ts_spec_l18First _ (by simp [envL]) s_

def t_spec_l18Bigram (b_ : Bigram) : Option Bool :=
  obind (t_spec_l18First b_.first) fun c1 =>
  obind (bif c1 then (obind (t_spec_IsWord b_.second) fun c3 => some c3) else some false) fun c4 =>
  obind (bif (bif c1 then c4 else false) then (obind (some (within b_.cost 0 1000000)) fun c6 => some c6) else some false) fun c7 =>
  some (bif (bif c1 then c4 else false) then c7 else false)
def tp_spec_l18Bigram (b_p : Pt Bigram) : Option Bool := obind b_p.get fun b_ => t_spec_l18Bigram b_

theorem ts_spec_l18Bigram (env : Nat → Contract) (he_spec_IsWord : env n_spec_IsWord = .pure (C1 (fun c : Bool => enc c) t_spec_IsWord)) (he_spec_l00In : env n_spec_l00In = .pure (T3 within)) (he_spec_l18First : env n_spec_l18First = .pure (C1 (fun c : Bool => enc c) t_spec_l18First)) (b_ : Bigram) {b_p : Pt Bigram} (hp_b_ : b_p.get = some b_) : Sim (denFn Try.prog env n_spec_l18Bigram [AV.fptr (Row.w Bigram) (b_p.tab.map Row.cells) b_p.i 0] []) (t_spec_l18Bigram b_) fun c p => release p.2 depth p.1 = some ((fun c : Bool => enc c) c) := by
  have O := Hold.nil []
  generalize hB : (⟨[], []⟩ : Base) = B at O
  clear hB
  rw [e_spec_l18Bigram]
  unfold t_spec_l18Bigram
  refine sim_let (v := AV.fptr (Row.w Bigram) (b_p.tab.map Row.cells) b_p.i 0) rfl ?_
  refine sim_let (v := AV.fptr (Row.w Bigram) (b_p.tab.map Row.cells) b_p.i 0) rfl ?_
  refine sim_let (v := sv b_.first) (ld_pt hp_b_ false 1 0) ?_
  refine sim_call1 he_spec_l18First (snapD_str _ _) (fun c1 => ?_)
  refine sim_let2 (hand_plain (by rfl) _ _) ?_
  refine sim_guardT (e := bv) (fun hb2 => ?_) (fun c4 => ?_)
  · refine sim_let (v := AV.fptr (Row.w Bigram) (b_p.tab.map Row.cells) b_p.i 0) rfl ?_
    refine sim_let (v := AV.fptr (Row.w Bigram) (b_p.tab.map Row.cells) b_p.i 1) rfl ?_
    refine sim_let (v := sv b_.second) (ld_pt hp_b_ false 1 1) ?_
    refine sim_call1 he_spec_IsWord (snapD_str _ _) (fun c3 => ?_)
    refine sim_let2 (hand_plain (by rfl) _ _) ?_
    exact sim_ret rfl
  · refine sim_let (v := bv (bif c1 then c4 else false)) (pick_b _ _ _) ?_
    refine sim_guardT (e := bv) (fun hb5 => ?_) (fun c7 => ?_)
    · refine sim_let (v := AV.fptr (Row.w Bigram) (b_p.tab.map Row.cells) b_p.i 0) rfl ?_
      refine sim_let (v := AV.fptr (Row.w Bigram) (b_p.tab.map Row.cells) b_p.i 2) rfl ?_
      refine sim_let (v := iv b_.cost) (ld_pt hp_b_ false 1 2) ?_
      refine sim_callV3 (t := within) he_spec_l00In (snapD_int _ _) (snapD_int _ _) (snapD_int _ _) (fun c6 => ?_)
      exact sim_ret rfl
    · refine sim_let (v := bv (bif (bif c1 then c4 else false) then c7 else false)) (pick_b _ _ _) ?_
      exact sim_ret (release_plain (by rfl) _)
theorem tt_spec_l18Bigram : PureOK Try.prog n_spec_l18Bigram (C1 (fun c : Bool => enc c) tp_spec_l18Bigram) := pureC1 (Econs tt_spec_IsWord (Econs ok_spec_l00In (Econs tt_spec_l18First E0))) mixed hb_spec_l18Bigram fun b_p => sim_getP fun b_ hp_b_ => ts_spec_l18Bigram _ (by simp [envL]) (by simp [envL]) (by simp [envL]) b_ hp_b_

def t_spec_l18Before (a_ : Bigram) (b_ : Bigram) : Option Bool :=
  obind (bif ltS a_.first b_.first then some false else (some (decide (a_.first = b_.first)))) fun c2 =>
  obind (bif (!(ltS a_.first b_.first) && c2) then (some (ltS a_.second b_.second)) else some false) fun c13 =>
  obind (bif ltS a_.first b_.first then some false else (some (bif c2 then c13 else false))) fun c23 =>
  some (bif ltS a_.first b_.first then true else c23)
def tp_spec_l18Before (a_p : Pt Bigram) (b_p : Pt Bigram) : Option Bool := obind a_p.get fun a_ => obind b_p.get fun b_ => t_spec_l18Before a_ b_

theorem ts_spec_l18Before (env : Nat → Contract)  (a_ : Bigram) (b_ : Bigram) {a_p : Pt Bigram} (hp_a_ : a_p.get = some a_) {b_p : Pt Bigram} (hp_b_ : b_p.get = some b_) : Sim (denFn Try.prog env n_spec_l18Before [AV.fptr (Row.w Bigram) (a_p.tab.map Row.cells) a_p.i 0, AV.fptr (Row.w Bigram) (b_p.tab.map Row.cells) b_p.i 0] []) (t_spec_l18Before a_ b_) fun c p => release p.2 depth p.1 = some ((fun c : Bool => enc c) c) := by
  have O := Hold.nil []
  generalize hB : (⟨[], []⟩ : Base) = B at O
  clear hB
  rw [e_spec_l18Before]
  unfold t_spec_l18Before
  refine sim_let (v := AV.fptr (Row.w Bigram) (a_p.tab.map Row.cells) a_p.i 0) rfl ?_
  refine sim_let (v := AV.fptr (Row.w Bigram) (a_p.tab.map Row.cells) a_p.i 0) rfl ?_
  refine sim_let (v := sv a_.first) (ld_pt hp_a_ false 1 0) ?_
  refine sim_let (v := AV.fptr (Row.w Bigram) (b_p.tab.map Row.cells) b_p.i 0) rfl ?_
  refine sim_let (v := AV.fptr (Row.w Bigram) (b_p.tab.map Row.cells) b_p.i 0) rfl ?_
  refine sim_let (v := sv b_.first) (ld_pt hp_b_ false 1 0) ?_
  refine sim_let (v := bv (ltS a_.first b_.first)) (str_lss _ _) ?_
  refine sim_g10F (e := bv) (fun hb1 => ?_) (fun y3 y4 y5 y6 y7 y8 y9 y10 y11 c2 => ?_)
  · refine sim_o0 ?_
    refine sim_o1 ?_
    refine sim_let (v := AV.fptr (Row.w Bigram) (a_p.tab.map Row.cells) a_p.i 0) rfl ?_
    refine sim_o0 ?_
    refine sim_o1 ?_
    refine sim_let (v := AV.fptr (Row.w Bigram) (a_p.tab.map Row.cells) a_p.i 0) rfl ?_
    refine sim_o0 ?_
    refine sim_o1 ?_
    refine sim_let (v := sv a_.first) (ld_pt hp_a_ false 1 0) ?_
    refine sim_o0 ?_
    refine sim_o0 ?_
    refine sim_o1 ?_
    refine sim_let (v := AV.fptr (Row.w Bigram) (b_p.tab.map Row.cells) b_p.i 0) rfl ?_
    refine sim_o0 ?_
    refine sim_o1 ?_
    refine sim_let (v := AV.fptr (Row.w Bigram) (b_p.tab.map Row.cells) b_p.i 0) rfl ?_
    refine sim_o0 ?_
    refine sim_o1 ?_
    refine sim_let (v := sv b_.first) (ld_pt hp_b_ false 1 0) ?_
    refine sim_o0 ?_
    refine sim_o1 ?_
    refine sim_let (v := bv (decide (a_.first = b_.first))) (aCmp_eqS _ _) ?_
    refine sim_o0 ?_
    exact sim_ret rfl
  · simp only [gv_FT]
    refine sim_g9T (e := bv) (fun hb12 => ?_) (fun y14 y15 y16 y17 y18 y19 y20 y21 c13 => ?_)
    · refine sim_o0 ?_
      refine sim_o1 ?_
      refine sim_let (v := AV.fptr (Row.w Bigram) (a_p.tab.map Row.cells) a_p.i 0) rfl ?_
      refine sim_o0 ?_
      refine sim_o1 ?_
      refine sim_let (v := AV.fptr (Row.w Bigram) (a_p.tab.map Row.cells) a_p.i 1) rfl ?_
      refine sim_o0 ?_
      refine sim_o1 ?_
      refine sim_let (v := sv a_.second) (ld_pt hp_a_ false 1 1) ?_
      refine sim_o0 ?_
      refine sim_o0 ?_
      refine sim_o1 ?_
      refine sim_let (v := AV.fptr (Row.w Bigram) (b_p.tab.map Row.cells) b_p.i 0) rfl ?_
      refine sim_o0 ?_
      refine sim_o1 ?_
      refine sim_let (v := AV.fptr (Row.w Bigram) (b_p.tab.map Row.cells) b_p.i 1) rfl ?_
      refine sim_o0 ?_
      refine sim_o1 ?_
      refine sim_let (v := sv b_.second) (ld_pt hp_b_ false 1 1) ?_
      refine sim_o0 ?_
      refine sim_let (v := bv (ltS a_.second b_.second)) (str_lss _ _) ?_
      exact sim_ret rfl
    · refine sim_guardF (e := bv) (fun hb22 => ?_) (fun c23 => ?_)
      · simp only [hb22, cond_true, cond_false, Bool.not_true, Bool.not_false, Bool.true_and, Bool.and_true, Bool.false_and, Bool.not_not]
        refine sim_let (v := bv (bif c2 then c13 else false)) (pick_b _ _ _) ?_
        exact sim_ret rfl
      · refine sim_let (v := bv (bif ltS a_.first b_.first then true else c23)) (pick_b' _ _ _) ?_
        exact sim_ret (release_plain (by rfl) _)
theorem tt_spec_l18Before : PureOK Try.prog n_spec_l18Before (C2 (fun c : Bool => enc c) tp_spec_l18Before) := pureC2 E0 mixed hb_spec_l18Before fun a_p b_p => sim_getP fun a_ hp_a_ => sim_getP fun b_ hp_b_ => ts_spec_l18Before _  a_ b_ hp_a_ hp_b_

def s0_spec_l18Ok (m_ : Model) : Int → Option (Sum Int (Sum Unit Bool)) := fun w3 =>
  bif decide (w3 < (((m_.bigrams.getD []).length : Nat) : Int)) then
    obind (getI (m_.bigrams.getD []) w3) fun a16 =>
    obind (t_spec_l18Bigram a16) fun c20 =>
    obind (bif !c20 then some false else (some (decide (0 < w3)))) fun c22 =>
    obind (bif (!(!c20) && c22) then (obind (getI (m_.bigrams.getD []) (wr (w3 - 1))) fun a26 => obind (getI (m_.bigrams.getD []) w3) fun a30 => obind (t_spec_l18Before a26 a30) fun c34 => some (!c34)) else some false) fun c35 =>
    obind (bif !c20 then some false else (some (bif c22 then c35 else false))) fun c51 =>
    bif (bif !c20 then true else c51) then
      some (.inr (.inr false))
    else
      some (.inl (wr (w3 + 1)))
  else
    some (.inr (.inl ()))
def t_spec_l18Ok (m_ : Model) : Option Bool :=
  obind (loopT (s0_spec_l18Ok m_) 0) fun qq57 => match qq57 with
  | (.inl _) =>
      obind (some (within m_.default 0 1000000)) fun c8 =>
      obind (bif c8 then (some (decide ((((m_.bigrams.getD []).length : Nat) : Int) ≤ 60))) else some false) fun c10 =>
      some (bif c8 then c10 else false)
  | (.inr q13) =>
      some q13
def tp_spec_l18Ok (m_p : Pt Model) : Option Bool := obind m_p.get fun m_ => t_spec_l18Ok m_

theorem tl0_spec_l18Ok (env : Nat → Contract) {B : Base} (he_spec_l00In : env n_spec_l00In = .pure (T3 within)) (he_spec_l18Before : env n_spec_l18Before = .pure (C2 (fun c : Bool => enc c) tp_spec_l18Before)) (he_spec_l18Bigram : env n_spec_l18Bigram = .pure (C1 (fun c : Bool => enc c) tp_spec_l18Bigram)) (m_ : Model) (m_p : Pt Model) (hp_m_ : m_p.get = some m_)  {st : Int} {tm : TM} {h : Heap} (R : (fun (st : Int) tm h1 => match st with | w3 => tm = [AV.fptr (Row.w Model) (m_p.tab.map Row.cells) m_p.i 0, und, AV.top, iv w3, AV.top, AV.top, AV.top, AV.top, AV.top, AV.top, AV.top, AV.top, AV.top, AV.top, AV.top, AV.top, AV.top, AV.top, AV.top, AV.top, AV.top, AV.top, AV.top, AV.top, AV.top, AV.top, AV.top, AV.top, AV.top, AV.top, AV.top, AV.top, AV.top, AV.top, AV.top, AV.top, AV.top, AV.top, AV.top, AV.top, AV.top, AV.top, und, und, und, und, und, und, und, und, und, und, und, und, und] ∧ Hold B h1 []) st tm h) : Sim (loopP hm0_spec_l18Ok xm0_spec_l18Ok (lb0_spec_l18Ok env) tm h) (loopT (s0_spec_l18Ok m_) st) (fun (q : Sum Unit Bool) (r : Res) => match q with | .inl _ => ∃ (q7 : Int) (z6 : AV) (h4 : Heap), r = (.exit 0, [AV.fptr (Row.w Model) (m_p.tab.map Row.cells) m_p.i 0, und, z6, iv q7, AV.top, AV.top, AV.top, AV.top, AV.top, AV.top, AV.top, AV.top, AV.top, AV.top, AV.top, AV.top, AV.top, AV.top, AV.top, AV.top, AV.top, AV.top, AV.top, AV.top, AV.top, AV.top, AV.top, AV.top, AV.top, AV.top, AV.top, AV.top, AV.top, AV.top, AV.top, AV.top, AV.top, AV.top, AV.top, AV.top, AV.top, AV.top, und, und, und, und, und, und, und, und, und, und, und, und, und], h4) ∧ Hold B h4 [] | .inr q13 => ∃ (q14 : Int) (h11 : Heap), r = (.ret, [AV.fptr (Row.w Model) (m_p.tab.map Row.cells) m_p.i 0, und, bv q13, iv q14, AV.top, AV.top, AV.top, AV.top, AV.top, AV.top, AV.top, AV.top, AV.top, AV.top, AV.top, AV.top, AV.top, AV.top, AV.top, AV.top, AV.top, AV.top, AV.top, AV.top, AV.top, AV.top, AV.top, AV.top, AV.top, AV.top, AV.top, AV.top, AV.top, AV.top, AV.top, AV.top, AV.top, AV.top, AV.top, AV.top, AV.top, AV.top, und, und, und, und, und, und, und, und, und, und, und, und, und], h11) ∧ Hold B h11 []) := by
  refine loop_sim (Rel := fun (st : Int) tm h1 => match st with | w3 => tm = [AV.fptr (Row.w Model) (m_p.tab.map Row.cells) m_p.i 0, und, AV.top, iv w3, AV.top, AV.top, AV.top, AV.top, AV.top, AV.top, AV.top, AV.top, AV.top, AV.top, AV.top, AV.top, AV.top, AV.top, AV.top, AV.top, AV.top, AV.top, AV.top, AV.top, AV.top, AV.top, AV.top, AV.top, AV.top, AV.top, AV.top, AV.top, AV.top, AV.top, AV.top, AV.top, AV.top, AV.top, AV.top, AV.top, AV.top, AV.top, und, und, und, und, und, und, und, und, und, und, und, und, und] ∧ Hold B h1 []) (fun w3 tm h1 R => ?_) R
  obtain ⟨rfl, O2⟩ := R
  rw [e_lb0_spec_l18Ok]
  unfold s0_spec_l18Ok
  dsimp only
  refine sim_let (v := AV.fptr (Row.w Model) (m_p.tab.map Row.cells) m_p.i 0) rfl ?_
  refine sim_let (v := AV.fptr (Row.w Model) (m_p.tab.map Row.cells) m_p.i 1) rfl ?_
  refine sim_let (v := Sl.enc m_.bigrams) (ld_pt hp_m_ false 1 1) ?_
  refine sim_let (v := iv (((m_.bigrams.getD []).length : Nat) : Int)) (Tab.enc h1 m_.bigrams).len ?_
  refine sim_let (v := bv (decide (w3 < (((m_.bigrams.getD []).length : Nat) : Int)))) (aBin_lss _ _) ?_
  refine sim_cond (fun c15 => ?_) (fun c15 => ?_)
  · refine sim_let (v := AV.fptr (Row.w Model) (m_p.tab.map Row.cells) m_p.i 0) rfl ?_
    refine sim_let (v := AV.fptr (Row.w Model) (m_p.tab.map Row.cells) m_p.i 1) rfl ?_
    refine sim_let (v := Sl.enc m_.bigrams) (ld_pt hp_m_ false 1 1) ?_
    refine sim_get (Tab.enc h1 m_.bigrams) (fun m17 a16 hi18 hm19 => ?_)
    refine sim_eqO (y' := tp_spec_l18Bigram ⟨m_.bigrams.getD [], m17⟩) (by simp only [tp_spec_l18Bigram, get_ptAt hm19, obind_sm]) ?_
    refine sim_callQ1 he_spec_l18Bigram (snapD_elpR _ m_.bigrams hm19) (fun c20 => ?_)
    refine sim_let2 (hand_plain (by rfl) _ _) ?_
    refine sim_let (v := bv (!c20)) (aUn_not _) ?_
    refine sim_g3F (e := bv) (fun hb21 => ?_) (fun y23 y24 c22 => ?_)
    · refine sim_o0 ?_
      refine sim_o1 ?_
      refine sim_let (v := bv (decide (0 < w3))) (aBin_gtr _ _) ?_
      refine sim_o0 ?_
      exact sim_ret rfl
    · simp only [gv_FT]
      refine sim_g15T (e := bv) (fun hb25 => ?_) (fun y36 y37 y38 y39 y40 y41 y42 y43 y44 y45 y46 y47 y48 y49 c35 => ?_)
      · refine sim_o0 ?_
        refine sim_o1 ?_
        refine sim_let (v := AV.fptr (Row.w Model) (m_p.tab.map Row.cells) m_p.i 0) rfl ?_
        refine sim_o0 ?_
        refine sim_o1 ?_
        refine sim_let (v := AV.fptr (Row.w Model) (m_p.tab.map Row.cells) m_p.i 1) rfl ?_
        refine sim_o0 ?_
        refine sim_o1 ?_
        refine sim_let (v := Sl.enc m_.bigrams) (ld_pt hp_m_ false 1 1) ?_
        refine sim_o0 ?_
        refine sim_o0 ?_
        refine sim_o1 ?_
        refine sim_let (v := iv (wr (w3 - 1))) (aBin_sub _ _) ?_
        refine sim_o0 ?_
        refine sim_o1 ?_
        refine sim_get (Tab.enc h1 m_.bigrams) (fun m27 a26 hi28 hm29 => ?_)
        refine sim_o0 ?_
        refine sim_o0 ?_
        refine sim_o1 ?_
        refine sim_let (v := AV.fptr (Row.w Model) (m_p.tab.map Row.cells) m_p.i 0) rfl ?_
        refine sim_o0 ?_
        refine sim_o1 ?_
        refine sim_let (v := AV.fptr (Row.w Model) (m_p.tab.map Row.cells) m_p.i 1) rfl ?_
        refine sim_o0 ?_
        refine sim_o1 ?_
        refine sim_let (v := Sl.enc m_.bigrams) (ld_pt hp_m_ false 1 1) ?_
        refine sim_o0 ?_
        refine sim_o0 ?_
        refine sim_o1 ?_
        refine sim_get (Tab.enc h1 m_.bigrams) (fun m31 a30 hi32 hm33 => ?_)
        refine sim_o0 ?_
        refine sim_o2 ?_
        refine sim_eqO (y' := tp_spec_l18Before ⟨m_.bigrams.getD [], m27⟩ ⟨m_.bigrams.getD [], m31⟩) (by simp only [tp_spec_l18Before, get_ptAt hm29, get_ptAt hm33, obind_sm]) ?_
        refine sim_callQ2 he_spec_l18Before (snapD_elpR _ m_.bigrams hm29) (snapD_elpR _ m_.bigrams hm33) (fun c34 => ?_)
        refine sim_let2 (hand_plain (by rfl) _ _) ?_
        refine sim_o0 ?_
        refine sim_let (v := bv (!c34)) (aUn_not _) ?_
        exact sim_ret rfl
      · refine sim_guardF (e := bv) (fun hb50 => ?_) (fun c51 => ?_)
        · simp only [hb50, cond_true, cond_false, Bool.not_true, Bool.not_false, Bool.true_and, Bool.and_true, Bool.false_and, Bool.not_not]
          refine sim_let (v := bv (bif c22 then c35 else false)) (pick_b _ _ _) ?_
          exact sim_ret rfl
        · refine sim_let (v := bv (bif !c20 then true else c51)) (pick_b' _ _ _) ?_
          refine sim_cond (fun c52 => ?_) (fun c52 => ?_)
          · exact sim_ret ⟨nofun, _, _, rfl, O2⟩
          · refine sim_let (v := iv (wr (w3 + 1))) (aBin_add _ _) ?_
            exact sim_ret ⟨rfl, rfl, O2⟩
  · exact sim_ret ⟨nofun, _, _, _, rfl, O2⟩
theorem ts_spec_l18Ok (env : Nat → Contract) (he_spec_l00In : env n_spec_l00In = .pure (T3 within)) (he_spec_l18Before : env n_spec_l18Before = .pure (C2 (fun c : Bool => enc c) tp_spec_l18Before)) (he_spec_l18Bigram : env n_spec_l18Bigram = .pure (C1 (fun c : Bool => enc c) tp_spec_l18Bigram)) (m_ : Model) {m_p : Pt Model} (hp_m_ : m_p.get = some m_) : Sim (denFn Try.prog env n_spec_l18Ok [AV.fptr (Row.w Model) (m_p.tab.map Row.cells) m_p.i 0] []) (t_spec_l18Ok m_) fun c p => release p.2 depth p.1 = some ((fun c : Bool => enc c) c) := by
  have O := Hold.nil []
  generalize hB : (⟨[], []⟩ : Base) = B at O
  clear hB
  rw [e_spec_l18Ok]
  unfold t_spec_l18Ok
  refine sim_bind ((tl0_spec_l18Ok env he_spec_l00In he_spec_l18Before he_spec_l18Bigram m_ m_p hp_m_) ⟨rfl, O⟩) (fun qq57 r hq => ?_)
  rcases qq57 with _ | q13
  · obtain ⟨q7, z6, h4, rfl, O5⟩ := hq
    rw [e_lk0x0_spec_l18Ok]
    refine sim_let (v := AV.fptr (Row.w Model) (m_p.tab.map Row.cells) m_p.i 0) rfl ?_
    refine sim_let (v := AV.fptr (Row.w Model) (m_p.tab.map Row.cells) m_p.i 0) rfl ?_
    refine sim_let (v := iv m_.default) (ld_pt hp_m_ false 1 0) ?_
    refine sim_callV3 (t := within) he_spec_l00In (snapD_int _ _) (snapD_int _ _) (snapD_int _ _) (fun c8 => ?_)
    refine sim_guardT (e := bv) (fun hb9 => ?_) (fun c10 => ?_)
    · refine sim_let (v := AV.fptr (Row.w Model) (m_p.tab.map Row.cells) m_p.i 0) rfl ?_
      refine sim_let (v := AV.fptr (Row.w Model) (m_p.tab.map Row.cells) m_p.i 1) rfl ?_
      refine sim_let (v := Sl.enc m_.bigrams) (ld_pt hp_m_ false 1 1) ?_
      refine sim_let (v := iv (((m_.bigrams.getD []).length : Nat) : Int)) (Tab.enc h4 m_.bigrams).len ?_
      refine sim_let (v := bv (decide ((((m_.bigrams.getD []).length : Nat) : Int) ≤ 60))) (aBin_leq _ _) ?_
      exact sim_ret rfl
    · refine sim_let (v := bv (bif c8 then c10 else false)) (pick_b _ _ _) ?_
      exact sim_ret (release_plain (by rfl) _)
  · obtain ⟨q14, h11, rfl, O12⟩ := hq
    rw [e_lk0r_spec_l18Ok]
    exact sim_ret (release_plain (by rfl) _)
theorem tt_spec_l18Ok : PureOK Try.prog n_spec_l18Ok (C1 (fun c : Bool => enc c) tp_spec_l18Ok) := pureC1 (Econs ok_spec_l00In (Econs tt_spec_l18Before (Econs tt_spec_l18Bigram E0))) mixed hb_spec_l18Ok fun m_p => sim_getP fun m_ hp_m_ => ts_spec_l18Ok _ (by simp [envL]) (by simp [envL]) (by simp [envL]) m_ hp_m_

def s0_spec_l18Put (list_ : Sl Bigram) (b_ : Bigram) : ((Sl Bigram) × Bool × Int) → Option (Sum ((Sl Bigram) × Bool × Int) ((Sl Bigram) × Bool)) := fun (w10, w13, w14) =>
  bif decide (w14 < (((list_.getD []).length : Nat) : Int)) then
    obind (bif !w13 then (obind (getI (list_.getD []) w14) fun a34 => obind (t_spec_l18Before a34 b_) fun c38 => some (!c38)) else some false) fun c39 =>
    bif (bif !w13 then c39 else false) then
      obind (appO w10 ([b_] : List Bigram)) fun _ =>
      obind (getI (list_.getD []) w14) fun a51 =>
      obind (bif !decide (a51.first = b_.first) then some false else (obind (getI (list_.getD []) w14) fun a56 => some (!decide (a56.second = b_.second)))) fun c60 =>
      bif (bif !decide (a51.first = b_.first) then true else c60) then
        obind (getI (list_.getD []) w14) fun a69 =>
        obind (appO (appS w10 ([b_] : List Bigram)) ([a69] : List Bigram)) fun _ =>
        some (.inl ((appS (appS w10 ([b_] : List Bigram)) ([a69] : List Bigram)), true, wr (w14 + 1)))
      else
        some (.inl ((appS w10 ([b_] : List Bigram)), true, wr (w14 + 1)))
    else
      obind (getI (list_.getD []) w14) fun a85 =>
      obind (bif !decide (a85.first = b_.first) then some false else (obind (getI (list_.getD []) w14) fun a90 => some (!decide (a90.second = b_.second)))) fun c94 =>
      bif (bif !decide (a85.first = b_.first) then true else c94) then
        obind (getI (list_.getD []) w14) fun a103 =>
        obind (appO w10 ([a103] : List Bigram)) fun _ =>
        some (.inl ((appS w10 ([a103] : List Bigram)), w13, wr (w14 + 1)))
      else
        some (.inl (w10, w13, wr (w14 + 1)))
  else
    some (.inr (w10, w13))
def t_spec_l18Put (list_ : Sl Bigram) (b_ : Bigram) : Option (Sl Bigram) :=
  obind (loopT (s0_spec_l18Put list_ b_) ((some ([] : List Bigram)), false, 0)) fun (q18, q19) =>
  bif !q19 then
    obind (appO q18 ([b_] : List Bigram)) fun _ =>
    some (appS q18 ([b_] : List Bigram))
  else
    some q18

theorem tl0_spec_l18Put (env : Nat → Contract) {B : Base} (he_spec_l18Before : env n_spec_l18Before = .pure (C2 (fun c : Bool => enc c) tp_spec_l18Before)) (list_ : Sl Bigram) (b_ : Bigram) (o1 : Nat) (x5 : AV)  {st : (Sl Bigram) × Bool × Int} {tm : TM} {h : Heap} (R : (fun (st : (Sl Bigram) × Bool × Int) tm h11 => match st with | (w10, w13, w14) => ∃ z9, tm = ((Sl.enc list_) :: (AV.agg [sv b_.first, sv b_.second, iv b_.cost]) :: und :: (AV.ptr o1 1 0 0) :: nilS :: z9 :: (bv w13) :: (iv w14) :: x5 :: AV.top :: AV.top :: AV.top :: AV.top :: AV.top :: AV.top :: AV.top :: AV.top :: AV.top :: AV.top :: AV.top :: AV.top :: AV.top :: AV.top :: AV.top :: AV.top :: AV.top :: AV.top :: AV.top :: AV.top :: AV.top :: AV.top :: AV.top :: AV.top :: AV.top :: AV.top :: AV.top :: AV.top :: AV.top :: AV.top :: AV.top :: AV.top :: AV.top :: AV.top :: AV.top :: AV.top :: AV.top :: AV.top :: AV.top :: AV.top :: AV.top :: AV.top :: AV.top :: AV.top :: und :: und :: und :: und :: und :: und :: und :: []) ∧ Hold B h11 [(AV.ptr o1 1 0 0, .pt 3 [sv b_.first, sv b_.second, iv b_.cost]), (z9, obS (w10 : Sl Bigram))]) st tm h) : Sim (loopP hm0_spec_l18Put xm0_spec_l18Put (lb0_spec_l18Put env) tm h) (loopT (s0_spec_l18Put list_ b_) st) (fun (q : (Sl Bigram) × Bool) (r : Res) => match q with | (q18, q19) => ∃ (q20 : Int) (z17 : AV) (h15 : Heap), r = (.exit 0, ((Sl.enc list_) :: (AV.agg [sv b_.first, sv b_.second, iv b_.cost]) :: und :: (AV.ptr o1 1 0 0) :: nilS :: z17 :: (bv q19) :: (iv q20) :: x5 :: AV.top :: AV.top :: AV.top :: AV.top :: AV.top :: AV.top :: AV.top :: AV.top :: AV.top :: AV.top :: AV.top :: AV.top :: AV.top :: AV.top :: AV.top :: AV.top :: AV.top :: AV.top :: AV.top :: AV.top :: AV.top :: AV.top :: AV.top :: AV.top :: AV.top :: AV.top :: AV.top :: AV.top :: AV.top :: AV.top :: AV.top :: AV.top :: AV.top :: AV.top :: AV.top :: AV.top :: AV.top :: AV.top :: AV.top :: AV.top :: AV.top :: AV.top :: AV.top :: AV.top :: und :: und :: und :: und :: und :: und :: und :: []), h15) ∧ Hold B h15 [(AV.ptr o1 1 0 0, .pt 3 [sv b_.first, sv b_.second, iv b_.cost]), (z17, obS (q18 : Sl Bigram))]) := by
  refine loop_sim (Rel := fun (st : (Sl Bigram) × Bool × Int) tm h11 => match st with | (w10, w13, w14) => ∃ z9, tm = ((Sl.enc list_) :: (AV.agg [sv b_.first, sv b_.second, iv b_.cost]) :: und :: (AV.ptr o1 1 0 0) :: nilS :: z9 :: (bv w13) :: (iv w14) :: x5 :: AV.top :: AV.top :: AV.top :: AV.top :: AV.top :: AV.top :: AV.top :: AV.top :: AV.top :: AV.top :: AV.top :: AV.top :: AV.top :: AV.top :: AV.top :: AV.top :: AV.top :: AV.top :: AV.top :: AV.top :: AV.top :: AV.top :: AV.top :: AV.top :: AV.top :: AV.top :: AV.top :: AV.top :: AV.top :: AV.top :: AV.top :: AV.top :: AV.top :: AV.top :: AV.top :: AV.top :: AV.top :: AV.top :: AV.top :: AV.top :: AV.top :: AV.top :: AV.top :: AV.top :: und :: und :: und :: und :: und :: und :: und :: []) ∧ Hold B h11 [(AV.ptr o1 1 0 0, .pt 3 [sv b_.first, sv b_.second, iv b_.cost]), (z9, obS (w10 : Sl Bigram))]) (fun st tm h11 R => ?_) R
  obtain ⟨w10, w13, w14⟩ := st
  obtain ⟨z9, rfl, O12⟩ := R
  rw [e_lb0_spec_l18Put]
  unfold s0_spec_l18Put
  dsimp only
  refine sim_let (v := iv (((list_.getD []).length : Nat) : Int)) (Tab.enc h11 list_).len ?_
  refine sim_let (v := bv (decide (w14 < (((list_.getD []).length : Nat) : Int)))) (aBin_lss _ _) ?_
  refine sim_cond (fun c32 => ?_) (fun c32 => ?_)
  · refine sim_let (v := bv (!w13)) (aUn_not _) ?_
    refine sim_guardT (e := bv) (fun hb33 => ?_) (fun c39 => ?_)
    · refine sim_get (Tab.enc h11 list_) (fun m35 a34 hi36 hm37 => ?_)
      refine sim_eqO (y' := tp_spec_l18Before ⟨list_.getD [], m35⟩ ⟨[b_], 0⟩) (by simp only [tp_spec_l18Before, get_pt1, get_ptAt hm37, obind_sm]) ?_
      refine sim_call2 he_spec_l18Before (snapD_elpR _ list_ hm37) (O12.snapRn 0 rfl b_ rfl rfl) (fun c38 => ?_)
      refine sim_let2 (hand_plain (by rfl) _ _) ?_
      refine sim_let (v := bv (!c38)) (aUn_not _) ?_
      exact sim_ret rfl
    · refine sim_let (v := bv (bif !w13 then c39 else false)) (pick_b _ _ _) ?_
      refine sim_cond (fun c40 => ?_) (fun c40 => ?_)
      · refine sim_let (v := AV.agg [sv b_.first, sv b_.second, iv b_.cost]) (O12.ld 0 rfl true 3 0) ?_
        refine sim_build (A := Bigram) O12 ([b_] : List Bigram) rfl (by first | rfl | simp [aFillRows, zrows]) rfl (fun x41 h42 O43 => ?_)
        replace O43 : Hold B h42 [(AV.ptr o1 1 0 0, .pt 3 [sv b_.first, sv b_.second, iv b_.cost]), (z9, obS (w10 : Sl Bigram)), (x41, obS ((some ([b_] : List Bigram)) : Sl Bigram))] := O43
        refine sim_append (A := Bigram) (s := w10) O43 1 ([b_] : List Bigram) rfl (O43.src (A := Bigram) (s := (some ([b_] : List Bigram))) 2 rfl) (by decide) (fun x46 h47 O48 => ?_)
        replace O48 : Hold B h47 [(AV.ptr o1 1 0 0, .pt 3 [sv b_.first, sv b_.second, iv b_.cost]), (x46, obS ((appS w10 ([b_] : List Bigram)) : Sl Bigram)), (x41, obS ((some ([b_] : List Bigram)) : Sl Bigram))] := O48
        have O50 : Hold B h47 [(AV.ptr o1 1 0 0, .pt 3 [sv b_.first, sv b_.second, iv b_.cost]), (x46, obS ((appS w10 ([b_] : List Bigram)) : Sl Bigram))] := O48.sel [0, 1] (by decide) rfl
        refine sim_get (Tab.enc h47 list_) (fun m52 a51 hi53 hm54 => ?_)
        refine sim_let (v := elp (Sl.enc list_) m52 0) ((Tab.enc h47 list_).fld _ _ _) ?_
        refine sim_let (v := sv a51.first) ((Tab.enc h47 list_).ld hm54 false 1 0) ?_
        refine sim_let (v := AV.ptr o1 1 0 0) rfl ?_
        refine sim_let (v := sv b_.first) (O50.ld 0 rfl false 1 0) ?_
        refine sim_let (v := bv (!decide (a51.first = b_.first))) (aCmp_neS _ _) ?_
        refine sim_g8F (e := bv) (fun hb55 => ?_) (fun y61 y62 y63 y64 y65 y66 y67 c60 => ?_)
        · refine sim_o0 ?_
          refine sim_o0 ?_
          refine sim_o1 ?_
          refine sim_get (Tab.enc h47 list_) (fun m57 a56 hi58 hm59 => ?_)
          refine sim_o0 ?_
          refine sim_o1 ?_
          refine sim_let (v := elp (Sl.enc list_) m57 1) ((Tab.enc h47 list_).fld _ _ _) ?_
          refine sim_o0 ?_
          refine sim_o1 ?_
          refine sim_let (v := sv a56.second) ((Tab.enc h47 list_).ld hm59 false 1 1) ?_
          refine sim_o0 ?_
          refine sim_o1 ?_
          refine sim_let (v := AV.ptr o1 1 0 1) rfl ?_
          refine sim_o0 ?_
          refine sim_o1 ?_
          refine sim_let (v := sv b_.second) (O50.ld 0 rfl false 1 1) ?_
          refine sim_o0 ?_
          refine sim_let (v := bv (!decide (a56.second = b_.second))) (aCmp_neS _ _) ?_
          exact sim_ret rfl
        · refine sim_let (v := bv (bif !decide (a51.first = b_.first) then true else c60)) (pick_b' _ _ _) ?_
          refine sim_cond (fun c68 => ?_) (fun c68 => ?_)
          · refine sim_get (Tab.enc h47 list_) (fun m70 a69 hi71 hm72 => ?_)
            refine sim_let (v := AV.agg [sv a69.first, sv a69.second, iv a69.cost]) ((Tab.enc h47 list_).ld hm72 true 3 0) ?_
            refine sim_build (A := Bigram) O50 ([a69] : List Bigram) rfl (by first | rfl | simp [aFillRows, zrows]) rfl (fun x73 h74 O75 => ?_)
            replace O75 : Hold B h74 [(AV.ptr o1 1 0 0, .pt 3 [sv b_.first, sv b_.second, iv b_.cost]), (x46, obS ((appS w10 ([b_] : List Bigram)) : Sl Bigram)), (x73, obS ((some ([a69] : List Bigram)) : Sl Bigram))] := O75
            refine sim_append (A := Bigram) (s := (appS w10 ([b_] : List Bigram))) O75 1 ([a69] : List Bigram) rfl (O75.src (A := Bigram) (s := (some ([a69] : List Bigram))) 2 rfl) (by decide) (fun x78 h79 O80 => ?_)
            replace O80 : Hold B h79 [(AV.ptr o1 1 0 0, .pt 3 [sv b_.first, sv b_.second, iv b_.cost]), (x78, obS ((appS (appS w10 ([b_] : List Bigram)) ([a69] : List Bigram)) : Sl Bigram)), (x73, obS ((some ([a69] : List Bigram)) : Sl Bigram))] := O80
            have O82 : Hold B h79 [(AV.ptr o1 1 0 0, .pt 3 [sv b_.first, sv b_.second, iv b_.cost]), (x78, obS ((appS (appS w10 ([b_] : List Bigram)) ([a69] : List Bigram)) : Sl Bigram))] := O80.sel [0, 1] (by decide) rfl
            refine sim_let (v := iv (wr (w14 + 1))) (aBin_add _ _) ?_
            exact sim_ret ⟨rfl, _, rfl, O82⟩
          · refine sim_let (v := iv (wr (w14 + 1))) (aBin_add _ _) ?_
            exact sim_ret ⟨rfl, _, rfl, O50⟩
      · refine sim_get (Tab.enc h11 list_) (fun m86 a85 hi87 hm88 => ?_)
        refine sim_let (v := elp (Sl.enc list_) m86 0) ((Tab.enc h11 list_).fld _ _ _) ?_
        refine sim_let (v := sv a85.first) ((Tab.enc h11 list_).ld hm88 false 1 0) ?_
        refine sim_let (v := AV.ptr o1 1 0 0) rfl ?_
        refine sim_let (v := sv b_.first) (O12.ld 0 rfl false 1 0) ?_
        refine sim_let (v := bv (!decide (a85.first = b_.first))) (aCmp_neS _ _) ?_
        refine sim_g8F (e := bv) (fun hb89 => ?_) (fun y95 y96 y97 y98 y99 y100 y101 c94 => ?_)
        · refine sim_o0 ?_
          refine sim_o0 ?_
          refine sim_o1 ?_
          refine sim_get (Tab.enc h11 list_) (fun m91 a90 hi92 hm93 => ?_)
          refine sim_o0 ?_
          refine sim_o1 ?_
          refine sim_let (v := elp (Sl.enc list_) m91 1) ((Tab.enc h11 list_).fld _ _ _) ?_
          refine sim_o0 ?_
          refine sim_o1 ?_
          refine sim_let (v := sv a90.second) ((Tab.enc h11 list_).ld hm93 false 1 1) ?_
          refine sim_o0 ?_
          refine sim_o1 ?_
          refine sim_let (v := AV.ptr o1 1 0 1) rfl ?_
          refine sim_o0 ?_
          refine sim_o1 ?_
          refine sim_let (v := sv b_.second) (O12.ld 0 rfl false 1 1) ?_
          refine sim_o0 ?_
          refine sim_let (v := bv (!decide (a90.second = b_.second))) (aCmp_neS _ _) ?_
          exact sim_ret rfl
        · refine sim_let (v := bv (bif !decide (a85.first = b_.first) then true else c94)) (pick_b' _ _ _) ?_
          refine sim_cond (fun c102 => ?_) (fun c102 => ?_)
          · refine sim_get (Tab.enc h11 list_) (fun m104 a103 hi105 hm106 => ?_)
            refine sim_let (v := AV.agg [sv a103.first, sv a103.second, iv a103.cost]) ((Tab.enc h11 list_).ld hm106 true 3 0) ?_
            refine sim_build (A := Bigram) O12 ([a103] : List Bigram) rfl (by first | rfl | simp [aFillRows, zrows]) rfl (fun x107 h108 O109 => ?_)
            replace O109 : Hold B h108 [(AV.ptr o1 1 0 0, .pt 3 [sv b_.first, sv b_.second, iv b_.cost]), (z9, obS (w10 : Sl Bigram)), (x107, obS ((some ([a103] : List Bigram)) : Sl Bigram))] := O109
            refine sim_append (A := Bigram) (s := w10) O109 1 ([a103] : List Bigram) rfl (O109.src (A := Bigram) (s := (some ([a103] : List Bigram))) 2 rfl) (by decide) (fun x112 h113 O114 => ?_)
            replace O114 : Hold B h113 [(AV.ptr o1 1 0 0, .pt 3 [sv b_.first, sv b_.second, iv b_.cost]), (x112, obS ((appS w10 ([a103] : List Bigram)) : Sl Bigram)), (x107, obS ((some ([a103] : List Bigram)) : Sl Bigram))] := O114
            have O116 : Hold B h113 [(AV.ptr o1 1 0 0, .pt 3 [sv b_.first, sv b_.second, iv b_.cost]), (x112, obS ((appS w10 ([a103] : List Bigram)) : Sl Bigram))] := O114.sel [0, 1] (by decide) rfl
            refine sim_let (v := iv (wr (w14 + 1))) (aBin_add _ _) ?_
            exact sim_ret ⟨rfl, _, rfl, O116⟩
          · refine sim_let (v := iv (wr (w14 + 1))) (aBin_add _ _) ?_
            exact sim_ret ⟨rfl, _, rfl, O12⟩
  · exact sim_ret ⟨nofun, _, _, _, rfl, O12⟩
theorem ts_spec_l18Put (env : Nat → Contract) (he_spec_l18Before : env n_spec_l18Before = .pure (C2 (fun c : Bool => enc c) tp_spec_l18Before)) (list_ : Sl Bigram) (b_ : Bigram) : Sim (denFn Try.prog env n_spec_l18Put [Sl.enc list_, AV.agg [sv b_.first, sv b_.second, iv b_.cost]] []) (t_spec_l18Put list_ b_) fun c p => release p.2 depth p.1 = some ((fun c : (Sl Bigram) => rS c) c) := by
  have O := Hold.nil []
  generalize hB : (⟨[], []⟩ : Base) = B at O
  clear hB
  rw [e_spec_l18Put]
  unfold t_spec_l18Put
  refine sim_box O (cs := [sv b_.first, sv b_.second, iv b_.cost]) (by first | rfl | simp) (fun o1 h2 O3 => ?_)
  replace O3 : Hold B h2 [(AV.ptr o1 1 0 0, .pt 3 [sv b_.first, sv b_.second, iv b_.cost])] := O3
  refine sim_build (A := Bigram) O3 ([] : List Bigram) rfl (by first | rfl | simp [aFillRows, zrows]) rfl (fun x5 h6 O7 => ?_)
  replace O7 : Hold B h6 [(AV.ptr o1 1 0 0, .pt 3 [sv b_.first, sv b_.second, iv b_.cost]), (x5, obS ((some ([] : List Bigram)) : Sl Bigram))] := O7
  refine sim_bind ((tl0_spec_l18Put env he_spec_l18Before list_ b_ o1 x5) ⟨_, rfl, O7⟩) (fun qq121 r hq => ?_)
  obtain ⟨q18, q19⟩ := qq121
  obtain ⟨q20, z17, h15, rfl, O16⟩ := hq
  rw [e_lk0x0_spec_l18Put]
  refine sim_let (v := bv (!q19)) (aUn_not _) ?_
  refine sim_cond (fun c21 => ?_) (fun c21 => ?_)
  · refine sim_let (v := AV.agg [sv b_.first, sv b_.second, iv b_.cost]) (O16.ld 0 rfl true 3 0) ?_
    refine sim_build (A := Bigram) O16 ([b_] : List Bigram) rfl (by first | rfl | simp [aFillRows, zrows]) rfl (fun x22 h23 O24 => ?_)
    replace O24 : Hold B h23 [(AV.ptr o1 1 0 0, .pt 3 [sv b_.first, sv b_.second, iv b_.cost]), (z17, obS (q18 : Sl Bigram)), (x22, obS ((some ([b_] : List Bigram)) : Sl Bigram))] := O24
    refine sim_append (A := Bigram) (s := q18) O24 1 ([b_] : List Bigram) rfl (O24.src (A := Bigram) (s := (some ([b_] : List Bigram))) 2 rfl) (by decide) (fun x27 h28 O29 => ?_)
    replace O29 : Hold B h28 [(AV.ptr o1 1 0 0, .pt 3 [sv b_.first, sv b_.second, iv b_.cost]), (x27, obS ((appS q18 ([b_] : List Bigram)) : Sl Bigram)), (x22, obS ((some ([b_] : List Bigram)) : Sl Bigram))] := O29
    have O31 : Hold B h28 [(AV.ptr o1 1 0 0, .pt 3 [sv b_.first, sv b_.second, iv b_.cost]), (x27, obS ((appS q18 ([b_] : List Bigram)) : Sl Bigram))] := O29.sel [0, 1] (by decide) rfl
    exact sim_ret (O31.rel (A := Bigram) (s := (appS q18 ([b_] : List Bigram))) 1 rfl)
  · exact sim_ret (O16.rel (A := Bigram) (s := q18) 1 rfl)
theorem tt_spec_l18Put : PureOK Try.prog n_spec_l18Put (C2 (fun c : (Sl Bigram) => rS c) t_spec_l18Put) := pureC2 (Econs tt_spec_l18Before E0) mixed hb_spec_l18Put fun list_ b_ => ts_spec_l18Put _ (by simp [envL]) list_ b_

def t_spec_SetBigram (m_ : Model) (b_ : Bigram) : Option (Model × Int) :=
  obind (t_spec_l18Ok m_) fun c13 =>
  obind (bif !c13 then some false else (obind (t_spec_l18Bigram b_) fun c15 => some (!c15))) fun c16 =>
  bif (bif !c13 then true else c16) then
    some ((⟨0, (none : Sl Bigram)⟩ : Model), 1)
  else
    obind (t_spec_l18Put m_.bigrams b_) fun c20 =>
    bif decide (60 < (((c20.getD []).length : Nat) : Int)) then
      some ((⟨0, (none : Sl Bigram)⟩ : Model), 5)
    else
      some ((⟨m_.default, c20⟩ : Model), 0)

theorem ts_spec_SetBigram (env : Nat → Contract) (he_spec_l18Bigram : env n_spec_l18Bigram = .pure (C1 (fun c : Bool => enc c) tp_spec_l18Bigram)) (he_spec_l18Ok : env n_spec_l18Ok = .pure (C1 (fun c : Bool => enc c) tp_spec_l18Ok)) (he_spec_l18Put : env n_spec_l18Put = .pure (C2 (fun c : (Sl Bigram) => rS c) t_spec_l18Put)) (m_ : Model) (b_ : Bigram) : Sim (denFn Try.prog env n_spec_SetBigram [AV.agg [iv m_.default, Sl.enc m_.bigrams], AV.agg [sv b_.first, sv b_.second, iv b_.cost]] []) (t_spec_SetBigram m_ b_) fun c p => release p.2 depth p.1 = some ((fun c : Model × Int => AV.tup [AV.agg [iv c.1.default, rS c.1.bigrams], enc c.2]) c) := by
  have O := Hold.nil []
  generalize hB : (⟨[], []⟩ : Base) = B at O
  clear hB
  rw [e_spec_SetBigram]
  unfold t_spec_SetBigram
  refine sim_box O (cs := [iv m_.default, Sl.enc m_.bigrams]) (by first | rfl | simp) (fun o1 h2 O3 => ?_)
  replace O3 : Hold B h2 [(AV.ptr o1 1 0 0, .pt 2 [iv m_.default, Sl.enc m_.bigrams])] := O3
  refine sim_box O3 (cs := [sv b_.first, sv b_.second, iv b_.cost]) (by first | rfl | simp) (fun o5 h6 O7 => ?_)
  replace O7 : Hold B h6 [(AV.ptr o1 1 0 0, .pt 2 [iv m_.default, Sl.enc m_.bigrams]), (AV.ptr o5 1 0 0, .pt 3 [sv b_.first, sv b_.second, iv b_.cost])] := O7
  refine sim_box O7 (cs := [iv 0, nilS]) (by first | rfl | simp) (fun o9 h10 O11 => ?_)
  replace O11 : Hold B h10 [(AV.ptr o1 1 0 0, .pt 2 [iv m_.default, Sl.enc m_.bigrams]), (AV.ptr o5 1 0 0, .pt 3 [sv b_.first, sv b_.second, iv b_.cost]), (AV.ptr o9 1 0 0, .pt 2 [iv 0, nilS])] := O11
  refine sim_eqO (y' := tp_spec_l18Ok ⟨[m_], 0⟩) (by simp only [tp_spec_l18Ok, get_pt1, obind_sm]) ?_
  refine sim_call1 he_spec_l18Ok (O11.snapRn 0 rfl m_ rfl rfl) (fun c13 => ?_)
  refine sim_let2 (hand_plain (by rfl) _ _) ?_
  refine sim_let (v := bv (!c13)) (aUn_not _) ?_
  refine sim_guardF (e := bv) (fun hb14 => ?_) (fun c16 => ?_)
  · refine sim_eqO (y' := tp_spec_l18Bigram ⟨[b_], 0⟩) (by simp only [tp_spec_l18Bigram, get_pt1, obind_sm]) ?_
    refine sim_call1 he_spec_l18Bigram (O11.snapRn 1 rfl b_ rfl rfl) (fun c15 => ?_)
    refine sim_let2 (hand_plain (by rfl) _ _) ?_
    refine sim_let (v := bv (!c15)) (aUn_not _) ?_
    exact sim_ret rfl
  · refine sim_let (v := bv (bif !c13 then true else c16)) (pick_b' _ _ _) ?_
    refine sim_cond (fun c17 => ?_) (fun c17 => ?_)
    · refine sim_let (v := AV.agg [iv 0, nilS]) (by first | rfl | simp [aBuild, aFill, splice]) ?_
      refine sim_store O11 2 (cs' := [iv 0, nilS]) rfl (by first | rfl | simp) (by simp) (by first | rfl | simp) (by first | rfl | simp [splice]) (fun h18 O19 => ?_)
      replace O19 : Hold B h18 [(AV.ptr o1 1 0 0, .pt 2 [iv m_.default, Sl.enc m_.bigrams]), (AV.ptr o5 1 0 0, .pt 3 [sv b_.first, sv b_.second, iv b_.cost]), (AV.ptr o9 1 0 0, .pt 2 [iv 0, nilS])] := O19
      refine sim_retL (resL_c (v := AV.agg [iv 0, nilS]) (O19.ld 2 rfl true 2 0) (resL_v (v := iv 1) (resL_nil _))) ?_
      dsimp only [pack]
      exact sim_ret (release_plain (by rfl) _)
    · refine sim_let (v := AV.ptr o1 1 0 0) rfl ?_
      refine sim_let (v := iv m_.default) (O11.ld 0 rfl false 1 0) ?_
      refine sim_let (v := AV.ptr o1 1 0 1) rfl ?_
      refine sim_let (v := Sl.enc m_.bigrams) (O11.ld 0 rfl false 1 1) ?_
      refine sim_let (v := AV.agg [sv b_.first, sv b_.second, iv b_.cost]) (O11.ld 1 rfl true 3 0) ?_
      refine sim_callQ2 he_spec_l18Put (snapD_enc _ _) (snapD_nr _ b_ rfl) (fun c20 => ?_)
      refine sim_hand (A := Bigram) O11 (fun x22 h23 O24 => ?_)
      replace O24 : Hold B h23 [(AV.ptr o1 1 0 0, .pt 2 [iv m_.default, Sl.enc m_.bigrams]), (AV.ptr o5 1 0 0, .pt 3 [sv b_.first, sv b_.second, iv b_.cost]), (AV.ptr o9 1 0 0, .pt 2 [iv 0, nilS]), (x22, obS (c20 : Sl Bigram))] := O24
      refine sim_let (v := AV.agg [iv m_.default, x22]) (by first | rfl | simp [aBuild, aFill, splice, (O24.one (A := Bigram) (s := c20) 3 rfl).1, (O24.one (A := Bigram) (s := c20) 3 rfl).2]) ?_
      refine sim_box O24 (cs := [iv 0, nilS]) (by first | rfl | simp) (fun o25 h26 O27 => ?_)
      replace O27 : Hold B h26 [(AV.ptr o1 1 0 0, .pt 2 [iv m_.default, Sl.enc m_.bigrams]), (AV.ptr o5 1 0 0, .pt 3 [sv b_.first, sv b_.second, iv b_.cost]), (AV.ptr o9 1 0 0, .pt 2 [iv 0, nilS]), (x22, obS (c20 : Sl Bigram)), (AV.ptr o25 1 0 0, .pt 2 [iv 0, nilS])] := O27
      refine sim_store O27 4 (cs' := [iv m_.default, x22]) rfl (by first | rfl | simp [(O27.one (A := Bigram) (s := c20) 3 rfl).1, (O27.one (A := Bigram) (s := c20) 3 rfl).2]) (by simp) (by first | rfl | simp [(O27.one (A := Bigram) (s := c20) 3 rfl).1, (O27.one (A := Bigram) (s := c20) 3 rfl).2]) (by first | rfl | simp [splice, (O27.one (A := Bigram) (s := c20) 3 rfl).1, (O27.one (A := Bigram) (s := c20) 3 rfl).2]) (fun h29 O30 => ?_)
      replace O30 : Hold B h29 [(AV.ptr o1 1 0 0, .pt 2 [iv m_.default, Sl.enc m_.bigrams]), (AV.ptr o5 1 0 0, .pt 3 [sv b_.first, sv b_.second, iv b_.cost]), (AV.ptr o9 1 0 0, .pt 2 [iv 0, nilS]), (x22, obS (c20 : Sl Bigram)), (AV.ptr o25 1 0 0, .pt 2 [iv m_.default, x22])] := O30
      refine sim_let (v := AV.ptr o25 1 0 1) rfl ?_
      refine sim_let (v := x22) (O30.ld 4 rfl false 1 1) ?_
      refine sim_let (v := iv (((c20.getD []).length : Nat) : Int)) (O30.tab (A := Bigram) (s := c20) 3 rfl).len ?_
      refine sim_let (v := bv (decide (60 < (((c20.getD []).length : Nat) : Int)))) (aBin_gtr _ _) ?_
      refine sim_cond (fun c31 => ?_) (fun c31 => ?_)
      · refine sim_let (v := AV.agg [iv 0, nilS]) (by first | rfl | simp [aBuild, aFill, splice]) ?_
        refine sim_store O30 2 (cs' := [iv 0, nilS]) rfl (by first | rfl | simp) (by simp) (by first | rfl | simp) (by first | rfl | simp [splice]) (fun h32 O33 => ?_)
        replace O33 : Hold B h32 [(AV.ptr o1 1 0 0, .pt 2 [iv m_.default, Sl.enc m_.bigrams]), (AV.ptr o5 1 0 0, .pt 3 [sv b_.first, sv b_.second, iv b_.cost]), (AV.ptr o9 1 0 0, .pt 2 [iv 0, nilS]), (x22, obS (c20 : Sl Bigram)), (AV.ptr o25 1 0 0, .pt 2 [iv m_.default, x22])] := O33
        refine sim_retL (resL_c (v := AV.agg [iv 0, nilS]) (O33.ld 2 rfl true 2 0) (resL_v (v := iv 5) (resL_nil _))) ?_
        dsimp only [pack]
        exact sim_ret (release_plain (by rfl) _)
      · refine sim_let (v := AV.agg [iv m_.default, x22]) (O30.ld 4 rfl true 2 0) ?_
        refine sim_store O30 2 (cs' := [iv m_.default, x22]) rfl (by first | rfl | simp [(O30.one (A := Bigram) (s := c20) 3 rfl).1, (O30.one (A := Bigram) (s := c20) 3 rfl).2]) (by simp) (by first | rfl | simp [(O30.one (A := Bigram) (s := c20) 3 rfl).1, (O30.one (A := Bigram) (s := c20) 3 rfl).2]) (by first | rfl | simp [splice, (O30.one (A := Bigram) (s := c20) 3 rfl).1, (O30.one (A := Bigram) (s := c20) 3 rfl).2]) (fun h34 O35 => ?_)
        replace O35 : Hold B h34 [(AV.ptr o1 1 0 0, .pt 2 [iv m_.default, Sl.enc m_.bigrams]), (AV.ptr o5 1 0 0, .pt 3 [sv b_.first, sv b_.second, iv b_.cost]), (AV.ptr o9 1 0 0, .pt 2 [iv m_.default, x22]), (x22, obS (c20 : Sl Bigram)), (AV.ptr o25 1 0 0, .pt 2 [iv m_.default, x22])] := O35
        refine sim_retL (resL_c (v := AV.agg [iv m_.default, x22]) (O35.ld 2 rfl true 2 0) (resL_v (v := iv 0) (resL_nil _))) ?_
        dsimp only [pack]
        have O36 : Hold B h34 [(x22, obS (c20 : Sl Bigram))] := O35.sel [3] (by decide) rfl
        exact sim_ret (release_of (by simp only [ids_tup, ids_aggD, ids_agg, ids_iv, ids_bv, ids_sv, ids_bt, ids_nilS, ids_enc, O36.idsD (A := Bigram) (s := c20) 0 rfl, List.map_append, List.map_nil, List.flatMap_cons, List.flatMap_nil, List.append_nil, List.nil_append]; simpa only [List.flatMap_cons, List.flatMap_nil, List.append_nil, List.nil_append] using O36.nd2) (by simp only [rel_tup, rel_aggD, rel_agg, rel_iv, rel_bv, rel_sv, rel_bt, rel_nilS, rel_enc, O36.relD (A := Bigram) (s := c20) 0 rfl, omapc, omapn, obind_sm] <;> rfl))
theorem tt_spec_SetBigram : PureOK Try.prog n_spec_SetBigram (C2 (fun c : Model × Int => AV.tup [AV.agg [iv c.1.default, rS c.1.bigrams], enc c.2]) t_spec_SetBigram) := pureC2 (Econs tt_spec_l18Bigram (Econs tt_spec_l18Ok (Econs tt_spec_l18Put E0))) mixed hb_spec_SetBigram fun m_ b_ => ts_spec_SetBigram _ (by simp [envL]) (by simp [envL]) (by simp [envL]) m_ b_

def s0_impl_IsWord (l5 : List UInt8) : Int → Option (Sum Int (Sum Unit Bool)) := fun w8 =>
  bif decide (w8 < ((((some l5).getD []).length : Nat) : Int)) then
    obind (getI ((some l5).getD []) w8) fun a20 =>
    obind (some (isLow a20)) fun c24 =>
    bif !c24 then
      some (.inr (.inr false))
    else
      some (.inl (wr (w8 + 1)))
  else
    some (.inr (.inl ()))
def t_impl_IsWord (s_ : ByteArray) : Option Bool :=
  obind (bytesO s_) fun l5 =>
  obind (loopT (s0_impl_IsWord l5) 0) fun qq30 => match qq30 with
  | (.inl _) =>
      obind (bif decide (1 ≤ (s_.size : Int)) then (some (decide ((s_.size : Int) ≤ 10))) else some false) fun c14 =>
      some (bif decide (1 ≤ (s_.size : Int)) then c14 else false)
  | (.inr q17) =>
      some q17

theorem tl0_impl_IsWord (env : Nat → Contract) {B : Base} (he_impl_isLetter : env n_impl_isLetter = .pure (T1 isLow)) (s_ : ByteArray) (x1 : AV) (l5 : List UInt8)  {st : Int} {tm : TM} {h : Heap} (R : (fun (st : Int) tm h6 => match st with | w8 => tm = [sv s_, und, AV.top, und, AV.top, sv s_, x1, iv ((((some l5).getD []).length : Nat) : Int), iv w8, AV.top, AV.top, AV.top, AV.top, AV.top, AV.top, AV.top, und, und, und, und, und, und, und, und] ∧ Hold B h6 [(x1, obS ((some l5) : Sl UInt8))]) st tm h) : Sim (loopP hm0_impl_IsWord xm0_impl_IsWord (lb0_impl_IsWord env) tm h) (loopT (s0_impl_IsWord l5) st) (fun (q : Sum Unit Bool) (r : Res) => match q with | .inl _ => ∃ (z11 : AV) (z12 : AV) (h9 : Heap), r = (.exit 0, [sv s_, und, z11, und, z12, sv s_, x1, iv ((((some l5).getD []).length : Nat) : Int), AV.top, AV.top, AV.top, AV.top, AV.top, AV.top, AV.top, AV.top, und, und, und, und, und, und, und, und], h9) ∧ Hold B h9 [(x1, obS ((some l5) : Sl UInt8))] | .inr q17 => ∃ (q18 : UInt8) (h15 : Heap), r = (.ret, [sv s_, und, bv q17, und, bt q18, sv s_, x1, iv ((((some l5).getD []).length : Nat) : Int), AV.top, AV.top, AV.top, AV.top, AV.top, AV.top, AV.top, AV.top, und, und, und, und, und, und, und, und], h15) ∧ Hold B h15 [(x1, obS ((some l5) : Sl UInt8))]) := by
  refine loop_sim (Rel := fun (st : Int) tm h6 => match st with | w8 => tm = [sv s_, und, AV.top, und, AV.top, sv s_, x1, iv ((((some l5).getD []).length : Nat) : Int), iv w8, AV.top, AV.top, AV.top, AV.top, AV.top, AV.top, AV.top, und, und, und, und, und, und, und, und] ∧ Hold B h6 [(x1, obS ((some l5) : Sl UInt8))]) (fun w8 tm h6 R => ?_) R
  obtain ⟨rfl, O7⟩ := R
  rw [e_lb0_impl_IsWord]
  unfold s0_impl_IsWord
  dsimp only
  refine sim_let (v := bv (decide (w8 < ((((some l5).getD []).length : Nat) : Int)))) (aBin_lss _ _) ?_
  refine sim_cond (fun c19 => ?_) (fun c19 => ?_)
  · refine sim_get (O7.tab (A := UInt8) (s := (some l5)) 0 rfl) (fun m21 a20 hi22 hm23 => ?_)
    refine sim_let (v := bt a20) ((O7.tab (A := UInt8) (s := (some l5)) 0 rfl).ld hm23 false 1 0) ?_
    refine sim_callV1 (t := isLow) he_impl_isLetter (snapD_byte _ _) (fun c24 => ?_)
    refine sim_let (v := bv (!c24)) (aUn_not _) ?_
    refine sim_cond (fun c25 => ?_) (fun c25 => ?_)
    · exact sim_ret ⟨nofun, _, _, rfl, O7⟩
    · refine sim_let (v := iv (wr (w8 + 1))) (aBin_add _ _) ?_
      exact sim_ret ⟨rfl, rfl, O7⟩
  · exact sim_ret ⟨nofun, _, _, _, rfl, O7⟩
theorem ts_impl_IsWord (env : Nat → Contract) (he_impl_isLetter : env n_impl_isLetter = .pure (T1 isLow)) (s_ : ByteArray) : Sim (denFn Try.prog env n_impl_IsWord [sv s_] []) (t_impl_IsWord s_) fun c p => release p.2 depth p.1 = some ((fun c : Bool => enc c) c) := by
  have O := Hold.nil []
  generalize hB : (⟨[], []⟩ : Base) = B at O
  clear hB
  rw [e_impl_IsWord]
  unfold t_impl_IsWord
  refine sim_bytes O (fun l5 x1 h2 O3 => ?_)
  replace O3 : Hold B h2 [(x1, obS ((some l5) : Sl UInt8))] := O3
  refine sim_let (v := iv ((((some l5).getD []).length : Nat) : Int)) (O3.tab (A := UInt8) (s := (some l5)) 0 rfl).len ?_
  refine sim_bind ((tl0_impl_IsWord env he_impl_isLetter s_ x1 l5) ⟨rfl, O3⟩) (fun qq30 r hq => ?_)
  rcases qq30 with _ | q17
  · obtain ⟨z11, z12, h9, rfl, O10⟩ := hq
    rw [e_lk0x0_impl_IsWord]
    refine sim_let (v := iv (s_.size : Int)) rfl ?_
    refine sim_let (v := bv (decide (1 ≤ (s_.size : Int)))) (aBin_geq _ _) ?_
    refine sim_guardT (e := bv) (fun hb13 => ?_) (fun c14 => ?_)
    · refine sim_let (v := iv (s_.size : Int)) rfl ?_
      refine sim_let (v := bv (decide ((s_.size : Int) ≤ 10))) (aBin_leq _ _) ?_
      exact sim_ret rfl
    · refine sim_let (v := bv (bif decide (1 ≤ (s_.size : Int)) then c14 else false)) (pick_b _ _ _) ?_
      exact sim_ret (release_plain (by rfl) _)
  · obtain ⟨q18, h15, rfl, O16⟩ := hq
    rw [e_lk0r_impl_IsWord]
    exact sim_ret (release_plain (by rfl) _)
theorem tt_impl_IsWord : PureOK Try.prog n_impl_IsWord (C1 (fun c : Bool => enc c) t_impl_IsWord) := pureC1 (Econs ok_impl_isLetter E0) mixed hb_impl_IsWord fun s_ => ts_impl_IsWord _ (by simp [envL]) s_

def t_impl_validBigram (b_ : Bigram) : Option Bool :=
  obind (t_impl_IsWord b_.second) fun c5 =>
  obind (bif c5 then (some (decide (b_.first = (⟨#[]⟩ : ByteArray)))) else some false) fun c7 =>
  obind (bif (c5 && !c7) then (obind (t_impl_IsWord b_.first) fun c9 => some c9) else some false) fun c10 =>
  obind (bif c5 then (some (bif c7 then true else c10)) else some false) fun c12 =>
  obind (bif (bif c5 then c12 else false) then (obind (some ((fun y => within y 0 1000000) b_.cost)) fun c14 => some c14) else some false) fun c15 =>
  some (bif (bif c5 then c12 else false) then c15 else false)

theorem ts_impl_validBigram (env : Nat → Contract) (he_impl_IsWord : env n_impl_IsWord = .pure (C1 (fun c : Bool => enc c) t_impl_IsWord)) (he_impl_isCost : env n_impl_isCost = .pure (T1 (fun y => within y 0 1000000))) (b_ : Bigram) : Sim (denFn Try.prog env n_impl_validBigram [AV.agg [sv b_.first, sv b_.second, iv b_.cost]] []) (t_impl_validBigram b_) fun c p => release p.2 depth p.1 = some ((fun c : Bool => enc c) c) := by
  have O := Hold.nil []
  generalize hB : (⟨[], []⟩ : Base) = B at O
  clear hB
  rw [e_impl_validBigram]
  unfold t_impl_validBigram
  refine sim_box O (cs := [sv b_.first, sv b_.second, iv b_.cost]) (by first | rfl | simp) (fun o1 h2 O3 => ?_)
  replace O3 : Hold B h2 [(AV.ptr o1 1 0 0, .pt 3 [sv b_.first, sv b_.second, iv b_.cost])] := O3
  refine sim_let (v := AV.ptr o1 1 0 1) rfl ?_
  refine sim_let (v := sv b_.second) (O3.ld 0 rfl false 1 1) ?_
  refine sim_call1 he_impl_IsWord (snapD_str _ _) (fun c5 => ?_)
  refine sim_let2 (hand_plain (by rfl) _ _) ?_
  refine sim_guardT (e := bv) (fun hb6 => ?_) (fun c7 => ?_)
  · refine sim_let (v := AV.ptr o1 1 0 0) rfl ?_
    refine sim_let (v := sv b_.first) (O3.ld 0 rfl false 1 0) ?_
    refine sim_let (v := bv (decide (b_.first = (⟨#[]⟩ : ByteArray)))) (aCmp_eqS _ _) ?_
    exact sim_ret rfl
  · simp only [gv_TF]
    refine sim_guardT (e := bv) (fun hb8 => ?_) (fun c10 => ?_)
    · refine sim_let (v := AV.ptr o1 1 0 0) rfl ?_
      refine sim_let (v := sv b_.first) (O3.ld 0 rfl false 1 0) ?_
      refine sim_call1 he_impl_IsWord (snapD_str _ _) (fun c9 => ?_)
      refine sim_let2 (hand_plain (by rfl) _ _) ?_
      exact sim_ret rfl
    · refine sim_guardT (e := bv) (fun hb11 => ?_) (fun c12 => ?_)
      · simp only [hb11, cond_true, cond_false, Bool.not_true, Bool.not_false, Bool.true_and, Bool.and_true, Bool.false_and, Bool.not_not]
        refine sim_let (v := bv (bif c7 then true else c10)) (pick_nb _ _ _) ?_
        exact sim_ret rfl
      · refine sim_let (v := bv (bif c5 then c12 else false)) (pick_b _ _ _) ?_
        refine sim_guardT (e := bv) (fun hb13 => ?_) (fun c15 => ?_)
        · refine sim_let (v := AV.ptr o1 1 0 2) rfl ?_
          refine sim_let (v := iv b_.cost) (O3.ld 0 rfl false 1 2) ?_
          refine sim_callV1 (t := (fun y => within y 0 1000000)) he_impl_isCost (snapD_int _ _) (fun c14 => ?_)
          exact sim_ret rfl
        · refine sim_let (v := bv (bif (bif c5 then c12 else false) then c15 else false)) (pick_b _ _ _) ?_
          exact sim_ret (release_plain (by rfl) _)
theorem tt_impl_validBigram : PureOK Try.prog n_impl_validBigram (C1 (fun c : Bool => enc c) t_impl_validBigram) := pureC1 (Econs tt_impl_IsWord (Econs ok_impl_isCost E0)) mixed hb_impl_validBigram fun b_ => ts_impl_validBigram _ (by simp [envL]) (by simp [envL]) b_

def s0_impl_ValidModel (m_ : Model) : Int → Option (Sum Int (Sum Unit Bool)) := fun w7 =>
  bif decide (w7 < (((m_.bigrams.getD []).length : Nat) : Int)) then
    obind (getI (m_.bigrams.getD []) w7) fun a22 =>
    obind (t_impl_validBigram a22) fun c32 =>
    obind (bif !c32 then some false else (some (decide (0 < w7)))) fun c34 =>
    obind (bif (!(!c32) && c34) then (obind (getI (m_.bigrams.getD []) (wr (w7 - 1))) fun a38 => obind (some (cmpB a38 a22)) fun c42 => some (decide (0 ≤ c42))) else some false) fun c43 =>
    obind (bif !c32 then some false else (some (bif c34 then c43 else false))) fun c53 =>
    bif (bif !c32 then true else c53) then
      some (.inr (.inr false))
    else
      some (.inl (wr (w7 + 1)))
  else
    some (.inr (.inl ()))
def t_impl_ValidModel (m_ : Model) : Option Bool :=
  obind (loopT (s0_impl_ValidModel m_) 0) fun qq59 => match qq59 with
  | (.inl _) =>
      obind (some ((fun y => within y 0 1000000) m_.default)) fun c13 =>
      obind (bif c13 then (some (decide ((((m_.bigrams.getD []).length : Nat) : Int) ≤ 60))) else some false) fun c15 =>
      some (bif c13 then c15 else false)
  | (.inr q18) =>
      some q18

theorem tl0_impl_ValidModel (env : Nat → Contract) {B : Base} (he_impl_compareBigrams : env n_impl_compareBigrams = .pure (T2 cmpB)) (he_impl_isCost : env n_impl_isCost = .pure (T1 (fun y => within y 0 1000000))) (he_impl_validBigram : env n_impl_validBigram = .pure (C1 (fun c : Bool => enc c) t_impl_validBigram)) (m_ : Model) (o1 : Nat)  {st : Int} {tm : TM} {h : Heap} (R : (fun (st : Int) tm h5 => match st with | w7 => tm = [AV.agg [iv m_.default, Sl.enc m_.bigrams], AV.ptr o1 1 0 0, AV.top, AV.top, AV.top, AV.ptr o1 1 0 1, Sl.enc m_.bigrams, iv (((m_.bigrams.getD []).length : Nat) : Int), iv w7, AV.top, AV.top, AV.top, AV.top, AV.top, AV.top, AV.top, AV.top, AV.top, AV.top, AV.top, AV.top, AV.top, AV.top, AV.top, AV.top, AV.top, AV.top, AV.top, AV.top, AV.top, AV.top, AV.top, und, und, und, und, und, und, und, und, und] ∧ Hold B h5 [(AV.ptr o1 1 0 0, .pt 2 [iv m_.default, Sl.enc m_.bigrams])]) st tm h) : Sim (loopP hm0_impl_ValidModel xm0_impl_ValidModel (lb0_impl_ValidModel env) tm h) (loopT (s0_impl_ValidModel m_) st) (fun (q : Sum Unit Bool) (r : Res) => match q with | .inl _ => ∃ (z10 : AV) (z11 : AV) (z12 : AV) (h8 : Heap), r = (.exit 0, [AV.agg [iv m_.default, Sl.enc m_.bigrams], AV.ptr o1 1 0 0, z10, z11, z12, AV.ptr o1 1 0 1, Sl.enc m_.bigrams, iv (((m_.bigrams.getD []).length : Nat) : Int), AV.top, AV.top, AV.top, AV.top, AV.top, AV.top, AV.top, AV.top, AV.top, AV.top, AV.top, AV.top, AV.top, AV.top, AV.top, AV.top, AV.top, AV.top, AV.top, AV.top, AV.top, AV.top, AV.top, AV.top, und, und, und, und, und, und, und, und, und], h8) ∧ Hold B h8 [(AV.ptr o1 1 0 0, .pt 2 [iv m_.default, Sl.enc m_.bigrams])] | .inr q18 => ∃ (q19 : Int) (z20 : AV) (h16 : Heap), r = (.ret, [AV.agg [iv m_.default, Sl.enc m_.bigrams], AV.ptr o1 1 0 0, bv q18, iv q19, z20, AV.ptr o1 1 0 1, Sl.enc m_.bigrams, iv (((m_.bigrams.getD []).length : Nat) : Int), AV.top, AV.top, AV.top, AV.top, AV.top, AV.top, AV.top, AV.top, AV.top, AV.top, AV.top, AV.top, AV.top, AV.top, AV.top, AV.top, AV.top, AV.top, AV.top, AV.top, AV.top, AV.top, AV.top, AV.top, und, und, und, und, und, und, und, und, und], h16) ∧ Hold B h16 [(AV.ptr o1 1 0 0, .pt 2 [iv m_.default, Sl.enc m_.bigrams])]) := by
  refine loop_sim (Rel := fun (st : Int) tm h5 => match st with | w7 => tm = [AV.agg [iv m_.default, Sl.enc m_.bigrams], AV.ptr o1 1 0 0, AV.top, AV.top, AV.top, AV.ptr o1 1 0 1, Sl.enc m_.bigrams, iv (((m_.bigrams.getD []).length : Nat) : Int), iv w7, AV.top, AV.top, AV.top, AV.top, AV.top, AV.top, AV.top, AV.top, AV.top, AV.top, AV.top, AV.top, AV.top, AV.top, AV.top, AV.top, AV.top, AV.top, AV.top, AV.top, AV.top, AV.top, AV.top, und, und, und, und, und, und, und, und, und] ∧ Hold B h5 [(AV.ptr o1 1 0 0, .pt 2 [iv m_.default, Sl.enc m_.bigrams])]) (fun w7 tm h5 R => ?_) R
  obtain ⟨rfl, O6⟩ := R
  rw [e_lb0_impl_ValidModel]
  unfold s0_impl_ValidModel
  dsimp only
  refine sim_let (v := bv (decide (w7 < (((m_.bigrams.getD []).length : Nat) : Int)))) (aBin_lss _ _) ?_
  refine sim_cond (fun c21 => ?_) (fun c21 => ?_)
  · refine sim_get (Tab.enc h5 m_.bigrams) (fun m23 a22 hi24 hm25 => ?_)
    refine sim_let (v := AV.agg [sv a22.first, sv a22.second, iv a22.cost]) ((Tab.enc h5 m_.bigrams).ld hm25 true 3 0) ?_
    refine sim_box O6 (cs := [sv (⟨#[]⟩ : ByteArray), sv (⟨#[]⟩ : ByteArray), iv 0]) (by first | rfl | simp) (fun o26 h27 O28 => ?_)
    replace O28 : Hold B h27 [(AV.ptr o1 1 0 0, .pt 2 [iv m_.default, Sl.enc m_.bigrams]), (AV.ptr o26 1 0 0, .pt 3 [sv (⟨#[]⟩ : ByteArray), sv (⟨#[]⟩ : ByteArray), iv 0])] := O28
    refine sim_store O28 1 (cs' := [sv a22.first, sv a22.second, iv a22.cost]) rfl (by first | rfl | simp) (by simp) (by first | rfl | simp) (by first | rfl | simp [splice]) (fun h30 O31 => ?_)
    replace O31 : Hold B h30 [(AV.ptr o1 1 0 0, .pt 2 [iv m_.default, Sl.enc m_.bigrams]), (AV.ptr o26 1 0 0, .pt 3 [sv a22.first, sv a22.second, iv a22.cost])] := O31
    refine sim_let (v := AV.agg [sv a22.first, sv a22.second, iv a22.cost]) (O31.ld 1 rfl true 3 0) ?_
    refine sim_callQ1 he_impl_validBigram (snapD_nr _ a22 rfl) (fun c32 => ?_)
    refine sim_let2 (hand_plain (by rfl) _ _) ?_
    refine sim_let (v := bv (!c32)) (aUn_not _) ?_
    refine sim_g3F (e := bv) (fun hb33 => ?_) (fun y35 y36 c34 => ?_)
    · refine sim_o0 ?_
      refine sim_o1 ?_
      refine sim_let (v := bv (decide (0 < w7))) (aBin_gtr _ _) ?_
      refine sim_o0 ?_
      exact sim_ret rfl
    · simp only [gv_FT]
      refine sim_g9T (e := bv) (fun hb37 => ?_) (fun y44 y45 y46 y47 y48 y49 y50 y51 c43 => ?_)
      · refine sim_o1 ?_
        refine sim_let (v := AV.ptr o1 1 0 1) rfl ?_
        refine sim_o0 ?_
        refine sim_o1 ?_
        refine sim_let (v := Sl.enc m_.bigrams) (O31.ld 0 rfl false 1 1) ?_
        refine sim_o0 ?_
        refine sim_o0 ?_
        refine sim_o1 ?_
        refine sim_let (v := iv (wr (w7 - 1))) (aBin_sub _ _) ?_
        refine sim_o0 ?_
        refine sim_o1 ?_
        refine sim_get (Tab.enc h30 m_.bigrams) (fun m39 a38 hi40 hm41 => ?_)
        refine sim_o0 ?_
        refine sim_o1 ?_
        refine sim_let (v := AV.agg [sv a38.first, sv a38.second, iv a38.cost]) ((Tab.enc h30 m_.bigrams).ld hm41 true 3 0) ?_
        refine sim_o0 ?_
        refine sim_o1 ?_
        refine sim_let (v := AV.agg [sv a22.first, sv a22.second, iv a22.cost]) (O31.ld 1 rfl true 3 0) ?_
        refine sim_o0 ?_
        refine sim_o2 ?_
        refine sim_callVQ2 (t := cmpB) he_impl_compareBigrams (snapD_nr _ a38 rfl) (snapD_nr _ a22 rfl) (fun c42 => ?_)
        refine sim_o0 ?_
        refine sim_let (v := bv (decide (0 ≤ c42))) (aBin_geq _ _) ?_
        exact sim_ret rfl
      · refine sim_guardF (e := bv) (fun hb52 => ?_) (fun c53 => ?_)
        · simp only [hb52, cond_true, cond_false, Bool.not_true, Bool.not_false, Bool.true_and, Bool.and_true, Bool.false_and, Bool.not_not]
          refine sim_let (v := bv (bif c34 then c43 else false)) (pick_b _ _ _) ?_
          exact sim_ret rfl
        · refine sim_let (v := bv (bif !c32 then true else c53)) (pick_b' _ _ _) ?_
          refine sim_cond (fun c54 => ?_) (fun c54 => ?_)
          · have O55 : Hold B h30 [(AV.ptr o1 1 0 0, .pt 2 [iv m_.default, Sl.enc m_.bigrams])] := O31.sel [0] (by decide) rfl
            exact sim_ret ⟨nofun, _, _, _, rfl, O55⟩
          · refine sim_let (v := iv (wr (w7 + 1))) (aBin_add _ _) ?_
            have O56 : Hold B h30 [(AV.ptr o1 1 0 0, .pt 2 [iv m_.default, Sl.enc m_.bigrams])] := O31.sel [0] (by decide) rfl
            exact sim_ret ⟨rfl, rfl, O56⟩
  · exact sim_ret ⟨nofun, _, _, _, _, rfl, O6⟩
theorem ts_impl_ValidModel (env : Nat → Contract) (he_impl_compareBigrams : env n_impl_compareBigrams = .pure (T2 cmpB)) (he_impl_isCost : env n_impl_isCost = .pure (T1 (fun y => within y 0 1000000))) (he_impl_validBigram : env n_impl_validBigram = .pure (C1 (fun c : Bool => enc c) t_impl_validBigram)) (m_ : Model) : Sim (denFn Try.prog env n_impl_ValidModel [AV.agg [iv m_.default, Sl.enc m_.bigrams]] []) (t_impl_ValidModel m_) fun c p => release p.2 depth p.1 = some ((fun c : Bool => enc c) c) := by
  have O := Hold.nil []
  generalize hB : (⟨[], []⟩ : Base) = B at O
  clear hB
  rw [e_impl_ValidModel]
  unfold t_impl_ValidModel
  refine sim_box O (cs := [iv m_.default, Sl.enc m_.bigrams]) (by first | rfl | simp) (fun o1 h2 O3 => ?_)
  replace O3 : Hold B h2 [(AV.ptr o1 1 0 0, .pt 2 [iv m_.default, Sl.enc m_.bigrams])] := O3
  refine sim_let (v := AV.ptr o1 1 0 1) rfl ?_
  refine sim_let (v := Sl.enc m_.bigrams) (O3.ld 0 rfl false 1 1) ?_
  refine sim_let (v := iv (((m_.bigrams.getD []).length : Nat) : Int)) (Tab.enc h2 m_.bigrams).len ?_
  refine sim_bind ((tl0_impl_ValidModel env he_impl_compareBigrams he_impl_isCost he_impl_validBigram m_ o1) ⟨rfl, O3⟩) (fun qq59 r hq => ?_)
  rcases qq59 with _ | q18
  · obtain ⟨z10, z11, z12, h8, rfl, O9⟩ := hq
    rw [e_lk0x0_impl_ValidModel]
    refine sim_let (v := AV.ptr o1 1 0 0) rfl ?_
    refine sim_let (v := iv m_.default) (O9.ld 0 rfl false 1 0) ?_
    refine sim_callV1 (t := (fun y => within y 0 1000000)) he_impl_isCost (snapD_int _ _) (fun c13 => ?_)
    refine sim_guardT (e := bv) (fun hb14 => ?_) (fun c15 => ?_)
    · refine sim_let (v := AV.ptr o1 1 0 1) rfl ?_
      refine sim_let (v := Sl.enc m_.bigrams) (O9.ld 0 rfl false 1 1) ?_
      refine sim_let (v := iv (((m_.bigrams.getD []).length : Nat) : Int)) (Tab.enc h8 m_.bigrams).len ?_
      refine sim_let (v := bv (decide ((((m_.bigrams.getD []).length : Nat) : Int) ≤ 60))) (aBin_leq _ _) ?_
      exact sim_ret rfl
    · refine sim_let (v := bv (bif c13 then c15 else false)) (pick_b _ _ _) ?_
      exact sim_ret (release_plain (by rfl) _)
  · obtain ⟨q19, z20, h16, rfl, O17⟩ := hq
    rw [e_lk0r_impl_ValidModel]
    exact sim_ret (release_plain (by rfl) _)
theorem tt_impl_ValidModel : PureOK Try.prog n_impl_ValidModel (C1 (fun c : Bool => enc c) t_impl_ValidModel) := pureC1 (Econs ok_impl_compareBigrams (Econs ok_impl_isCost (Econs tt_impl_validBigram E0))) mixed hb_impl_ValidModel fun m_ => ts_impl_ValidModel _ (by simp [envL]) (by simp [envL]) (by simp [envL]) m_

def s0_slices_BinarySearchFunc_impl_Bigram_impl_Bigram_impl_Bigram (x_ : Sl Bigram) (target_ : Bigram) : (Int × Int) → Option (Sum (Int × Int) Int) := fun (w7, w8) =>
  bif decide (w7 < w8) then
    obind (getI (x_.getD []) (wr (Int.fdiv (IntKind.u64.wrap (wr (w7 + w8))) (2 ^ 1)))) fun a29 =>
    obind (some (cmpB a29 target_)) fun c33 =>
    bif decide (c33 < 0) then
      some (.inl (wr ((wr (Int.fdiv (IntKind.u64.wrap (wr (w7 + w8))) (2 ^ 1))) + 1), w8))
    else
      some (.inl (w7, wr (Int.fdiv (IntKind.u64.wrap (wr (w7 + w8))) (2 ^ 1))))
  else
    some (.inr w7)
def t_slices_BinarySearchFunc_impl_Bigram_impl_Bigram_impl_Bigram (x_ : Sl Bigram) (target_ : Bigram) (cmp_ : Clo0 n_impl_compareBigrams) : Option (Int × Bool) :=
  obind (loopT (s0_slices_BinarySearchFunc_impl_Bigram_impl_Bigram_impl_Bigram x_ target_) (0, (((x_.getD []).length : Nat) : Int))) fun q11 =>
  obind (bif decide (q11 < (((x_.getD []).length : Nat) : Int)) then (obind (getI (x_.getD []) q11) fun a15 => obind (some (cmpB a15 target_)) fun c19 => some (decide (c19 = 0))) else some false) fun c20 =>
  some (q11, (bif decide (q11 < (((x_.getD []).length : Nat) : Int)) then c20 else false))

theorem tl0_slices_BinarySearchFunc_impl_Bigram_impl_Bigram_impl_Bigram (env : Nat → Contract) {B : Base} (he_impl_compareBigrams : env n_impl_compareBigrams = .pure (T2 cmpB)) (x_ : Sl Bigram) (target_ : Bigram) (o1 : Nat)  {st : Int × Int} {tm : TM} {h : Heap} (R : (fun (st : Int × Int) tm h5 => match st with | (w7, w8) => tm = [Sl.enc x_, AV.agg [sv target_.first, sv target_.second, iv target_.cost], AV.fn n_impl_compareBigrams [], und, AV.ptr o1 1 0 0, und, iv 0, bv false, iv (((x_.getD []).length : Nat) : Int), iv w7, iv w8, AV.top, Sl.enc x_, iv (((x_.getD []).length : Nat) : Int), iv (((x_.getD []).length : Nat) : Int), AV.top, AV.top, AV.top, AV.top, AV.top, AV.top, AV.top, AV.top, AV.top, AV.top, AV.top, AV.top, AV.top, AV.top, AV.top, AV.top, AV.top, AV.top, AV.top, AV.top, und, und, und, und, und, und, und, und, und, und, und, und, und, und] ∧ Hold B h5 [(AV.ptr o1 1 0 0, .pt 3 [sv target_.first, sv target_.second, iv target_.cost])]) st tm h) : Sim (loopP hm0_slices_BinarySearchFunc_impl_Bigram_impl_Bigram_impl_Bigram xm0_slices_BinarySearchFunc_impl_Bigram_impl_Bigram_impl_Bigram (lb0_slices_BinarySearchFunc_impl_Bigram_impl_Bigram_impl_Bigram env) tm h) (loopT (s0_slices_BinarySearchFunc_impl_Bigram_impl_Bigram_impl_Bigram x_ target_) st) (fun (q : Int) (r : Res) => match q with | q11 => ∃ (q12 : Int) (z13 : AV) (h9 : Heap), r = (.exit 0, [Sl.enc x_, AV.agg [sv target_.first, sv target_.second, iv target_.cost], AV.fn n_impl_compareBigrams [], und, AV.ptr o1 1 0 0, und, iv 0, bv false, iv (((x_.getD []).length : Nat) : Int), iv q11, iv q12, z13, Sl.enc x_, iv (((x_.getD []).length : Nat) : Int), iv (((x_.getD []).length : Nat) : Int), AV.top, AV.top, AV.top, AV.top, AV.top, AV.top, AV.top, AV.top, AV.top, AV.top, AV.top, AV.top, AV.top, AV.top, AV.top, AV.top, AV.top, AV.top, AV.top, AV.top, und, und, und, und, und, und, und, und, und, und, und, und, und, und], h9) ∧ Hold B h9 [(AV.ptr o1 1 0 0, .pt 3 [sv target_.first, sv target_.second, iv target_.cost])]) := by
  refine loop_sim (Rel := fun (st : Int × Int) tm h5 => match st with | (w7, w8) => tm = [Sl.enc x_, AV.agg [sv target_.first, sv target_.second, iv target_.cost], AV.fn n_impl_compareBigrams [], und, AV.ptr o1 1 0 0, und, iv 0, bv false, iv (((x_.getD []).length : Nat) : Int), iv w7, iv w8, AV.top, Sl.enc x_, iv (((x_.getD []).length : Nat) : Int), iv (((x_.getD []).length : Nat) : Int), AV.top, AV.top, AV.top, AV.top, AV.top, AV.top, AV.top, AV.top, AV.top, AV.top, AV.top, AV.top, AV.top, AV.top, AV.top, AV.top, AV.top, AV.top, AV.top, AV.top, und, und, und, und, und, und, und, und, und, und, und, und, und, und] ∧ Hold B h5 [(AV.ptr o1 1 0 0, .pt 3 [sv target_.first, sv target_.second, iv target_.cost])]) (fun st tm h5 R => ?_) R
  obtain ⟨w7, w8⟩ := st
  obtain ⟨rfl, O6⟩ := R
  rw [e_lb0_slices_BinarySearchFunc_impl_Bigram_impl_Bigram_impl_Bigram]
  unfold s0_slices_BinarySearchFunc_impl_Bigram_impl_Bigram_impl_Bigram
  dsimp only
  refine sim_let (v := bv (decide (w7 < w8))) (aBin_lss _ _) ?_
  refine sim_cond (fun c28 => ?_) (fun c28 => ?_)
  · refine sim_let (v := iv (wr (w7 + w8))) (aBin_add _ _) ?_
    refine sim_let (v := AV.sc (.int .u64 (IntKind.u64.wrap (wr (w7 + w8))))) rfl ?_
    refine sim_let (v := AV.sc (.int .u64 (Int.fdiv (IntKind.u64.wrap (wr (w7 + w8))) (2 ^ 1)))) rfl ?_
    refine sim_let (v := iv (wr (Int.fdiv (IntKind.u64.wrap (wr (w7 + w8))) (2 ^ 1)))) rfl ?_
    refine sim_get (Tab.enc h5 x_) (fun m30 a29 hi31 hm32 => ?_)
    refine sim_let (v := AV.agg [sv a29.first, sv a29.second, iv a29.cost]) ((Tab.enc h5 x_).ld hm32 true 3 0) ?_
    refine sim_let (v := AV.agg [sv target_.first, sv target_.second, iv target_.cost]) (O6.ld 0 rfl true 3 0) ?_
    refine sim_callVQ2 (t := cmpB) he_impl_compareBigrams (snapD_nr _ a29 rfl) (snapD_nr _ target_ rfl) (fun c33 => ?_)
    refine sim_let (v := bv (decide (c33 < 0))) (aBin_lss _ _) ?_
    refine sim_cond (fun c34 => ?_) (fun c34 => ?_)
    · refine sim_let (v := iv (wr ((wr (Int.fdiv (IntKind.u64.wrap (wr (w7 + w8))) (2 ^ 1))) + 1))) (aBin_add _ _) ?_
      exact sim_ret ⟨rfl, rfl, O6⟩
    · exact sim_ret ⟨rfl, rfl, O6⟩
  · exact sim_ret ⟨nofun, _, _, _, rfl, O6⟩
theorem ts_slices_BinarySearchFunc_impl_Bigram_impl_Bigram_impl_Bigram (env : Nat → Contract) (he_impl_compareBigrams : env n_impl_compareBigrams = .pure (T2 cmpB)) (x_ : Sl Bigram) (target_ : Bigram) (cmp_ : Clo0 n_impl_compareBigrams) : Sim (denFn Try.prog env n_slices_BinarySearchFunc_impl_Bigram_impl_Bigram_impl_Bigram [Sl.enc x_, AV.agg [sv target_.first, sv target_.second, iv target_.cost], AV.fn n_impl_compareBigrams []] []) (t_slices_BinarySearchFunc_impl_Bigram_impl_Bigram_impl_Bigram x_ target_ cmp_) fun c p => release p.2 depth p.1 = some ((fun c : Int × Bool => AV.tup [enc c.1, enc c.2]) c) := by
  have O := Hold.nil []
  generalize hB : (⟨[], []⟩ : Base) = B at O
  clear hB
  rw [e_slices_BinarySearchFunc_impl_Bigram_impl_Bigram_impl_Bigram]
  unfold t_slices_BinarySearchFunc_impl_Bigram_impl_Bigram_impl_Bigram
  refine sim_box O (cs := [sv target_.first, sv target_.second, iv target_.cost]) (by first | rfl | simp) (fun o1 h2 O3 => ?_)
  replace O3 : Hold B h2 [(AV.ptr o1 1 0 0, .pt 3 [sv target_.first, sv target_.second, iv target_.cost])] := O3
  refine sim_let (v := iv (((x_.getD []).length : Nat) : Int)) (Tab.enc h2 x_).len ?_
  refine sim_bind ((tl0_slices_BinarySearchFunc_impl_Bigram_impl_Bigram_impl_Bigram env he_impl_compareBigrams x_ target_ o1) ⟨rfl, O3⟩) (fun qq39 r hq => ?_)
  revert hq
  revert qq39
  intro q11 hq
  obtain ⟨q12, z13, h9, rfl, O10⟩ := hq
  rw [e_lk0x0_slices_BinarySearchFunc_impl_Bigram_impl_Bigram_impl_Bigram]
  refine sim_let (v := bv (decide (q11 < (((x_.getD []).length : Nat) : Int)))) (aBin_lss _ _) ?_
  refine sim_g8T (e := bv) (fun hb14 => ?_) (fun y21 y22 y23 y24 y25 y26 y27 c20 => ?_)
  · refine sim_o0 ?_
    refine sim_o0 ?_
    refine sim_o0 ?_
    refine sim_o1 ?_
    refine sim_get (Tab.enc h9 x_) (fun m16 a15 hi17 hm18 => ?_)
    refine sim_o0 ?_
    refine sim_o1 ?_
    refine sim_let (v := AV.agg [sv a15.first, sv a15.second, iv a15.cost]) ((Tab.enc h9 x_).ld hm18 true 3 0) ?_
    refine sim_o0 ?_
    refine sim_o1 ?_
    refine sim_let (v := AV.agg [sv target_.first, sv target_.second, iv target_.cost]) (O10.ld 0 rfl true 3 0) ?_
    refine sim_o0 ?_
    refine sim_o2 ?_
    refine sim_callVQ2 (t := cmpB) he_impl_compareBigrams (snapD_nr _ a15 rfl) (snapD_nr _ target_ rfl) (fun c19 => ?_)
    refine sim_o0 ?_
    refine sim_let (v := bv (decide (c19 = 0))) (aCmp_eq _ _) ?_
    exact sim_ret rfl
  · refine sim_let (v := bv (bif decide (q11 < (((x_.getD []).length : Nat) : Int)) then c20 else false)) (pick_b _ _ _) ?_
    exact sim_ret (release_plain (by rfl) _)
theorem tt_slices_BinarySearchFunc_impl_Bigram_impl_Bigram_impl_Bigram : PureOK Try.prog n_slices_BinarySearchFunc_impl_Bigram_impl_Bigram_impl_Bigram (C3 (fun c : Int × Bool => AV.tup [enc c.1, enc c.2]) t_slices_BinarySearchFunc_impl_Bigram_impl_Bigram_impl_Bigram) := pureC3 (Econs ok_impl_compareBigrams E0) mixed hb_slices_BinarySearchFunc_impl_Bigram_impl_Bigram_impl_Bigram fun x_ target_ cmp_ => ts_slices_BinarySearchFunc_impl_Bigram_impl_Bigram_impl_Bigram _ (by simp [envL]) x_ target_ cmp_

def t_slices_Clone_impl_Bigram_impl_Bigram (s_ : Sl Bigram) : Option (Sl Bigram) :=
  bif s_.isNone then
    some (none : Sl Bigram)
  else
    obind (appO (some ([] : List Bigram)) (s_.getD [])) fun _ =>
    some (appS (some ([] : List Bigram)) (s_.getD []))

theorem ts_slices_Clone_impl_Bigram_impl_Bigram (env : Nat → Contract)  (s_ : Sl Bigram) : Sim (denFn Try.prog env n_slices_Clone_impl_Bigram_impl_Bigram [Sl.enc s_] []) (t_slices_Clone_impl_Bigram_impl_Bigram s_) fun c p => release p.2 depth p.1 = some ((fun c : (Sl Bigram) => rS c) c) := by
  have O := Hold.nil []
  generalize hB : (⟨[], []⟩ : Base) = B at O
  clear hB
  rw [e_slices_Clone_impl_Bigram_impl_Bigram]
  unfold t_slices_Clone_impl_Bigram_impl_Bigram
  refine sim_let (v := bv s_.isNone) (cmp_eqN _) ?_
  refine sim_cond (fun c1 => ?_) (fun c1 => ?_)
  · exact sim_ret (release_plain (by rfl) _)
  · refine sim_build (A := Bigram) O ([] : List Bigram) rfl (by first | rfl | simp [aFillRows, zrows]) rfl (fun x2 h3 O4 => ?_)
    replace O4 : Hold B h3 [(x2, obS ((some ([] : List Bigram)) : Sl Bigram))] := O4
    refine sim_append (A := Bigram) (s := (some ([] : List Bigram))) O4 0 (s_.getD []) rfl (src_enc _ _) (by decide) (fun x7 h8 O9 => ?_)
    replace O9 : Hold B h8 [(x7, obS ((appS (some ([] : List Bigram)) (s_.getD [])) : Sl Bigram))] := O9
    exact sim_ret (O9.rel (A := Bigram) (s := (appS (some ([] : List Bigram)) (s_.getD []))) 0 rfl)
theorem tt_slices_Clone_impl_Bigram_impl_Bigram : PureOK Try.prog n_slices_Clone_impl_Bigram_impl_Bigram (C1 (fun c : (Sl Bigram) => rS c) t_slices_Clone_impl_Bigram_impl_Bigram) := pureC1 E0 mixed hb_slices_Clone_impl_Bigram_impl_Bigram fun s_ => ts_slices_Clone_impl_Bigram_impl_Bigram _  s_

def t_impl_SetBigram (m_ : Model) (b_ : Bigram) : Option (Model × Int) :=
  obind (t_impl_ValidModel m_) fun c13 =>
  obind (bif !c13 then some false else (obind (t_impl_validBigram b_) fun c15 => some (!c15))) fun c16 =>
  bif (bif !c13 then true else c16) then
    some ((⟨0, (none : Sl Bigram)⟩ : Model), 1)
  else
    obind (t_slices_BinarySearchFunc_impl_Bigram_impl_Bigram_impl_Bigram m_.bigrams b_ (⟨⟩ : Clo0 n_impl_compareBigrams)) fun c20 =>
    obind (t_slices_Clone_impl_Bigram_impl_Bigram m_.bigrams) fun c21 =>
    bif c20.2 then
      obind (getI (c21.getD []) c20.1) fun a33 =>
      some ((⟨m_.default, (setS c21 c20.1 b_)⟩ : Model), 0)
    else
      bif decide (60 ≤ (((m_.bigrams.getD []).length : Nat) : Int)) then
        some ((⟨0, (none : Sl Bigram)⟩ : Model), 5)
      else
        obind (insO c21 c20.1 b_) fun w49 =>
        some ((⟨m_.default, w49⟩ : Model), 0)

theorem ts_impl_SetBigram (env : Nat → Contract) (he_impl_ValidModel : env n_impl_ValidModel = .pure (C1 (fun c : Bool => enc c) t_impl_ValidModel)) (he_impl_validBigram : env n_impl_validBigram = .pure (C1 (fun c : Bool => enc c) t_impl_validBigram)) (he_slices_BinarySearchFunc_impl_Bigram_impl_Bigram_impl_Bigram : env n_slices_BinarySearchFunc_impl_Bigram_impl_Bigram_impl_Bigram = .pure (C3 (fun c : Int × Bool => AV.tup [enc c.1, enc c.2]) t_slices_BinarySearchFunc_impl_Bigram_impl_Bigram_impl_Bigram)) (he_slices_Clone_impl_Bigram_impl_Bigram : env n_slices_Clone_impl_Bigram_impl_Bigram = .pure (C1 (fun c : (Sl Bigram) => rS c) t_slices_Clone_impl_Bigram_impl_Bigram)) (he_slices_Insert_impl_Bigram_impl_Bigram : env n_slices_Insert_impl_Bigram_impl_Bigram = .gen insF) (m_ : Model) (b_ : Bigram) : Sim (denFn Try.prog env n_impl_SetBigram [AV.agg [iv m_.default, Sl.enc m_.bigrams], AV.agg [sv b_.first, sv b_.second, iv b_.cost]] []) (t_impl_SetBigram m_ b_) fun c p => release p.2 depth p.1 = some ((fun c : Model × Int => AV.tup [AV.agg [iv c.1.default, rS c.1.bigrams], enc c.2]) c) := by
  have O := Hold.nil []
  generalize hB : (⟨[], []⟩ : Base) = B at O
  clear hB
  rw [e_impl_SetBigram]
  unfold t_impl_SetBigram
  refine sim_box O (cs := [iv m_.default, Sl.enc m_.bigrams]) (by first | rfl | simp) (fun o1 h2 O3 => ?_)
  replace O3 : Hold B h2 [(AV.ptr o1 1 0 0, .pt 2 [iv m_.default, Sl.enc m_.bigrams])] := O3
  refine sim_box O3 (cs := [sv b_.first, sv b_.second, iv b_.cost]) (by first | rfl | simp) (fun o5 h6 O7 => ?_)
  replace O7 : Hold B h6 [(AV.ptr o1 1 0 0, .pt 2 [iv m_.default, Sl.enc m_.bigrams]), (AV.ptr o5 1 0 0, .pt 3 [sv b_.first, sv b_.second, iv b_.cost])] := O7
  refine sim_box O7 (cs := [iv 0, nilS]) (by first | rfl | simp) (fun o9 h10 O11 => ?_)
  replace O11 : Hold B h10 [(AV.ptr o1 1 0 0, .pt 2 [iv m_.default, Sl.enc m_.bigrams]), (AV.ptr o5 1 0 0, .pt 3 [sv b_.first, sv b_.second, iv b_.cost]), (AV.ptr o9 1 0 0, .pt 2 [iv 0, nilS])] := O11
  refine sim_let (v := AV.agg [iv m_.default, Sl.enc m_.bigrams]) (O11.ld 0 rfl true 2 0) ?_
  refine sim_call1 he_impl_ValidModel (snapD_nr _ m_ rfl) (fun c13 => ?_)
  refine sim_let2 (hand_plain (by rfl) _ _) ?_
  refine sim_let (v := bv (!c13)) (aUn_not _) ?_
  refine sim_guardF (e := bv) (fun hb14 => ?_) (fun c16 => ?_)
  · refine sim_let (v := AV.agg [sv b_.first, sv b_.second, iv b_.cost]) (O11.ld 1 rfl true 3 0) ?_
    refine sim_call1 he_impl_validBigram (snapD_nr _ b_ rfl) (fun c15 => ?_)
    refine sim_let2 (hand_plain (by rfl) _ _) ?_
    refine sim_let (v := bv (!c15)) (aUn_not _) ?_
    exact sim_ret rfl
  · refine sim_let (v := bv (bif !c13 then true else c16)) (pick_b' _ _ _) ?_
    refine sim_cond (fun c17 => ?_) (fun c17 => ?_)
    · refine sim_let (v := AV.agg [iv 0, nilS]) (by first | rfl | simp [aBuild, aFill, splice]) ?_
      refine sim_store O11 2 (cs' := [iv 0, nilS]) rfl (by first | rfl | simp) (by simp) (by first | rfl | simp) (by first | rfl | simp [splice]) (fun h18 O19 => ?_)
      replace O19 : Hold B h18 [(AV.ptr o1 1 0 0, .pt 2 [iv m_.default, Sl.enc m_.bigrams]), (AV.ptr o5 1 0 0, .pt 3 [sv b_.first, sv b_.second, iv b_.cost]), (AV.ptr o9 1 0 0, .pt 2 [iv 0, nilS])] := O19
      refine sim_retL (resL_c (v := AV.agg [iv 0, nilS]) (O19.ld 2 rfl true 2 0) (resL_v (v := iv 1) (resL_nil _))) ?_
      dsimp only [pack]
      exact sim_ret (release_plain (by rfl) _)
    · refine sim_let (v := AV.ptr o1 1 0 1) rfl ?_
      refine sim_let (v := Sl.enc m_.bigrams) (O11.ld 0 rfl false 1 1) ?_
      refine sim_let (v := AV.agg [sv b_.first, sv b_.second, iv b_.cost]) (O11.ld 1 rfl true 3 0) ?_
      refine sim_call3 he_slices_BinarySearchFunc_impl_Bigram_impl_Bigram_impl_Bigram (snapD_enc _ _) (snapD_nr _ b_ rfl) (snapD_clo0 _ _) (fun c20 => ?_)
      refine sim_let2 (hand_plain (by rfl) _ _) ?_
      refine sim_let (v := iv c20.1) rfl ?_
      refine sim_let (v := bv c20.2) rfl ?_
      refine sim_let (v := AV.ptr o1 1 0 0) rfl ?_
      refine sim_let (v := iv m_.default) (O11.ld 0 rfl false 1 0) ?_
      refine sim_let (v := AV.ptr o1 1 0 1) rfl ?_
      refine sim_let (v := Sl.enc m_.bigrams) (O11.ld 0 rfl false 1 1) ?_
      refine sim_callQ1 he_slices_Clone_impl_Bigram_impl_Bigram (snapD_enc _ _) (fun c21 => ?_)
      refine sim_hand (A := Bigram) O11 (fun x23 h24 O25 => ?_)
      replace O25 : Hold B h24 [(AV.ptr o1 1 0 0, .pt 2 [iv m_.default, Sl.enc m_.bigrams]), (AV.ptr o5 1 0 0, .pt 3 [sv b_.first, sv b_.second, iv b_.cost]), (AV.ptr o9 1 0 0, .pt 2 [iv 0, nilS]), (x23, obS (c21 : Sl Bigram))] := O25
      refine sim_let (v := AV.agg [iv m_.default, x23]) (by first | rfl | simp [aBuild, aFill, splice, (O25.one (A := Bigram) (s := c21) 3 rfl).1, (O25.one (A := Bigram) (s := c21) 3 rfl).2]) ?_
      refine sim_box O25 (cs := [iv 0, nilS]) (by first | rfl | simp) (fun o26 h27 O28 => ?_)
      replace O28 : Hold B h27 [(AV.ptr o1 1 0 0, .pt 2 [iv m_.default, Sl.enc m_.bigrams]), (AV.ptr o5 1 0 0, .pt 3 [sv b_.first, sv b_.second, iv b_.cost]), (AV.ptr o9 1 0 0, .pt 2 [iv 0, nilS]), (x23, obS (c21 : Sl Bigram)), (AV.ptr o26 1 0 0, .pt 2 [iv 0, nilS])] := O28
      refine sim_store O28 4 (cs' := [iv m_.default, x23]) rfl (by first | rfl | simp [(O28.one (A := Bigram) (s := c21) 3 rfl).1, (O28.one (A := Bigram) (s := c21) 3 rfl).2]) (by simp) (by first | rfl | simp [(O28.one (A := Bigram) (s := c21) 3 rfl).1, (O28.one (A := Bigram) (s := c21) 3 rfl).2]) (by first | rfl | simp [splice, (O28.one (A := Bigram) (s := c21) 3 rfl).1, (O28.one (A := Bigram) (s := c21) 3 rfl).2]) (fun h30 O31 => ?_)
      replace O31 : Hold B h30 [(AV.ptr o1 1 0 0, .pt 2 [iv m_.default, Sl.enc m_.bigrams]), (AV.ptr o5 1 0 0, .pt 3 [sv b_.first, sv b_.second, iv b_.cost]), (AV.ptr o9 1 0 0, .pt 2 [iv 0, nilS]), (x23, obS (c21 : Sl Bigram)), (AV.ptr o26 1 0 0, .pt 2 [iv m_.default, x23])] := O31
      refine sim_cond (fun c32 => ?_) (fun c32 => ?_)
      · refine sim_let (v := AV.ptr o26 1 0 1) rfl ?_
        refine sim_let (v := x23) (O31.ld 4 rfl false 1 1) ?_
        refine sim_let (v := AV.agg [sv b_.first, sv b_.second, iv b_.cost]) (O31.ld 1 rfl true 3 0) ?_
        refine sim_get (O31.tab (A := Bigram) (s := c21) 3 rfl) (fun m34 a33 hi35 hm36 => ?_)
        refine sim_set (A := Bigram) O31 3 b_ rfl hi35 hm36 rfl (by simp) (by first | rfl | simp) (by first | rfl | simp [splice]) (fun h37 O38 => ?_)
        replace O38 : Hold B h37 [(AV.ptr o1 1 0 0, .pt 2 [iv m_.default, Sl.enc m_.bigrams]), (AV.ptr o5 1 0 0, .pt 3 [sv b_.first, sv b_.second, iv b_.cost]), (AV.ptr o9 1 0 0, .pt 2 [iv 0, nilS]), (x23, obS ((setS c21 c20.1 b_) : Sl Bigram)), (AV.ptr o26 1 0 0, .pt 2 [iv m_.default, x23])] := O38
        refine sim_let (v := AV.agg [iv m_.default, x23]) (O38.ld 4 rfl true 2 0) ?_
        refine sim_store O38 2 (cs' := [iv m_.default, x23]) rfl (by first | rfl | simp [(O38.one (A := Bigram) (s := (setS c21 c20.1 b_)) 3 rfl).1, (O38.one (A := Bigram) (s := (setS c21 c20.1 b_)) 3 rfl).2]) (by simp) (by first | rfl | simp [(O38.one (A := Bigram) (s := (setS c21 c20.1 b_)) 3 rfl).1, (O38.one (A := Bigram) (s := (setS c21 c20.1 b_)) 3 rfl).2]) (by first | rfl | simp [splice, (O38.one (A := Bigram) (s := (setS c21 c20.1 b_)) 3 rfl).1, (O38.one (A := Bigram) (s := (setS c21 c20.1 b_)) 3 rfl).2]) (fun h39 O40 => ?_)
        replace O40 : Hold B h39 [(AV.ptr o1 1 0 0, .pt 2 [iv m_.default, Sl.enc m_.bigrams]), (AV.ptr o5 1 0 0, .pt 3 [sv b_.first, sv b_.second, iv b_.cost]), (AV.ptr o9 1 0 0, .pt 2 [iv m_.default, x23]), (x23, obS ((setS c21 c20.1 b_) : Sl Bigram)), (AV.ptr o26 1 0 0, .pt 2 [iv m_.default, x23])] := O40
        refine sim_retL (resL_c (v := AV.agg [iv m_.default, x23]) (O40.ld 2 rfl true 2 0) (resL_v (v := iv 0) (resL_nil _))) ?_
        dsimp only [pack]
        have O41 : Hold B h39 [(x23, obS ((setS c21 c20.1 b_) : Sl Bigram))] := O40.sel [3] (by decide) rfl
        exact sim_ret (release_of (by simp only [ids_tup, ids_aggD, ids_agg, ids_iv, ids_bv, ids_sv, ids_bt, ids_nilS, ids_enc, O41.idsD (A := Bigram) (s := (setS c21 c20.1 b_)) 0 rfl, List.map_append, List.map_nil, List.flatMap_cons, List.flatMap_nil, List.append_nil, List.nil_append]; simpa only [List.flatMap_cons, List.flatMap_nil, List.append_nil, List.nil_append] using O41.nd2) (by simp only [rel_tup, rel_aggD, rel_agg, rel_iv, rel_bv, rel_sv, rel_bt, rel_nilS, rel_enc, O41.relD (A := Bigram) (s := (setS c21 c20.1 b_)) 0 rfl, omapc, omapn, obind_sm] <;> rfl))
      · refine sim_let (v := AV.ptr o1 1 0 1) rfl ?_
        refine sim_let (v := Sl.enc m_.bigrams) (O31.ld 0 rfl false 1 1) ?_
        refine sim_let (v := iv (((m_.bigrams.getD []).length : Nat) : Int)) (Tab.enc h30 m_.bigrams).len ?_
        refine sim_let (v := bv (decide (60 ≤ (((m_.bigrams.getD []).length : Nat) : Int)))) (aBin_geq _ _) ?_
        refine sim_cond (fun c42 => ?_) (fun c42 => ?_)
        · refine sim_let (v := AV.agg [iv 0, nilS]) (by first | rfl | simp [aBuild, aFill, splice]) ?_
          refine sim_store O31 2 (cs' := [iv 0, nilS]) rfl (by first | rfl | simp) (by simp) (by first | rfl | simp) (by first | rfl | simp [splice]) (fun h43 O44 => ?_)
          replace O44 : Hold B h43 [(AV.ptr o1 1 0 0, .pt 2 [iv m_.default, Sl.enc m_.bigrams]), (AV.ptr o5 1 0 0, .pt 3 [sv b_.first, sv b_.second, iv b_.cost]), (AV.ptr o9 1 0 0, .pt 2 [iv 0, nilS]), (x23, obS (c21 : Sl Bigram)), (AV.ptr o26 1 0 0, .pt 2 [iv m_.default, x23])] := O44
          refine sim_retL (resL_c (v := AV.agg [iv 0, nilS]) (O44.ld 2 rfl true 2 0) (resL_v (v := iv 5) (resL_nil _))) ?_
          dsimp only [pack]
          exact sim_ret (release_plain (by rfl) _)
        · refine sim_let (v := AV.ptr o26 1 0 1) rfl ?_
          refine sim_let (v := x23) (O31.ld 4 rfl false 1 1) ?_
          refine sim_let (v := AV.agg [sv b_.first, sv b_.second, iv b_.cost]) (O31.ld 1 rfl true 3 0) ?_
          refine sim_build (A := Bigram) O31 ([b_] : List Bigram) rfl (by first | rfl | simp [aFillRows, zrows]) rfl (fun x45 h46 O47 => ?_)
          replace O47 : Hold B h46 [(AV.ptr o1 1 0 0, .pt 2 [iv m_.default, Sl.enc m_.bigrams]), (AV.ptr o5 1 0 0, .pt 3 [sv b_.first, sv b_.second, iv b_.cost]), (AV.ptr o9 1 0 0, .pt 2 [iv 0, nilS]), (x23, obS (c21 : Sl Bigram)), (AV.ptr o26 1 0 0, .pt 2 [iv m_.default, x23]), (x45, obS ((some ([b_] : List Bigram)) : Sl Bigram))] := O47
          refine sim_ins O47 3 5 b_ (by decide) rfl rfl he_slices_Insert_impl_Bigram_impl_Bigram (fun w49 x50 h51 O52 => ?_)
          replace O52 : Hold B h51 [(AV.ptr o1 1 0 0, .pt 2 [iv m_.default, Sl.enc m_.bigrams]), (AV.ptr o5 1 0 0, .pt 3 [sv b_.first, sv b_.second, iv b_.cost]), (AV.ptr o9 1 0 0, .pt 2 [iv 0, nilS]), (x50, obS (w49 : Sl Bigram)), (AV.ptr o26 1 0 0, .pt 2 [iv m_.default, x23]), (x45, obS ((some ([b_] : List Bigram)) : Sl Bigram))] := O52
          have O54 : Hold B h51 [(AV.ptr o1 1 0 0, .pt 2 [iv m_.default, Sl.enc m_.bigrams]), (AV.ptr o5 1 0 0, .pt 3 [sv b_.first, sv b_.second, iv b_.cost]), (AV.ptr o9 1 0 0, .pt 2 [iv 0, nilS]), (x50, obS (w49 : Sl Bigram)), (AV.ptr o26 1 0 0, .pt 2 [iv m_.default, x23])] := O52.sel [0, 1, 2, 3, 4] (by decide) rfl
          refine sim_let (v := AV.ptr o26 1 0 1) rfl ?_
          refine sim_store O54 4 (cs' := [iv m_.default, x50]) rfl (by first | rfl | simp [(O54.one (A := Bigram) (s := w49) 3 rfl).1, (O54.one (A := Bigram) (s := w49) 3 rfl).2]) (by simp) (by first | rfl | simp [(O54.one (A := Bigram) (s := w49) 3 rfl).1, (O54.one (A := Bigram) (s := w49) 3 rfl).2]) (by first | rfl | simp [splice, (O54.one (A := Bigram) (s := w49) 3 rfl).1, (O54.one (A := Bigram) (s := w49) 3 rfl).2]) (fun h55 O56 => ?_)
          replace O56 : Hold B h55 [(AV.ptr o1 1 0 0, .pt 2 [iv m_.default, Sl.enc m_.bigrams]), (AV.ptr o5 1 0 0, .pt 3 [sv b_.first, sv b_.second, iv b_.cost]), (AV.ptr o9 1 0 0, .pt 2 [iv 0, nilS]), (x50, obS (w49 : Sl Bigram)), (AV.ptr o26 1 0 0, .pt 2 [iv m_.default, x50])] := O56
          refine sim_let (v := AV.agg [iv m_.default, x50]) (O56.ld 4 rfl true 2 0) ?_
          refine sim_store O56 2 (cs' := [iv m_.default, x50]) rfl (by first | rfl | simp [(O56.one (A := Bigram) (s := w49) 3 rfl).1, (O56.one (A := Bigram) (s := w49) 3 rfl).2]) (by simp) (by first | rfl | simp [(O56.one (A := Bigram) (s := w49) 3 rfl).1, (O56.one (A := Bigram) (s := w49) 3 rfl).2]) (by first | rfl | simp [splice, (O56.one (A := Bigram) (s := w49) 3 rfl).1, (O56.one (A := Bigram) (s := w49) 3 rfl).2]) (fun h57 O58 => ?_)
          replace O58 : Hold B h57 [(AV.ptr o1 1 0 0, .pt 2 [iv m_.default, Sl.enc m_.bigrams]), (AV.ptr o5 1 0 0, .pt 3 [sv b_.first, sv b_.second, iv b_.cost]), (AV.ptr o9 1 0 0, .pt 2 [iv m_.default, x50]), (x50, obS (w49 : Sl Bigram)), (AV.ptr o26 1 0 0, .pt 2 [iv m_.default, x50])] := O58
          refine sim_retL (resL_c (v := AV.agg [iv m_.default, x50]) (O58.ld 2 rfl true 2 0) (resL_v (v := iv 0) (resL_nil _))) ?_
          dsimp only [pack]
          have O59 : Hold B h57 [(x50, obS (w49 : Sl Bigram))] := O58.sel [3] (by decide) rfl
          exact sim_ret (release_of (by simp only [ids_tup, ids_aggD, ids_agg, ids_iv, ids_bv, ids_sv, ids_bt, ids_nilS, ids_enc, O59.idsD (A := Bigram) (s := w49) 0 rfl, List.map_append, List.map_nil, List.flatMap_cons, List.flatMap_nil, List.append_nil, List.nil_append]; simpa only [List.flatMap_cons, List.flatMap_nil, List.append_nil, List.nil_append] using O59.nd2) (by simp only [rel_tup, rel_aggD, rel_agg, rel_iv, rel_bv, rel_sv, rel_bt, rel_nilS, rel_enc, O59.relD (A := Bigram) (s := w49) 0 rfl, omapc, omapn, obind_sm] <;> rfl))
theorem tt_impl_SetBigram : PureOK Try.prog n_impl_SetBigram (C2 (fun c : Model × Int => AV.tup [AV.agg [iv c.1.default, rS c.1.bigrams], enc c.2]) t_impl_SetBigram) := pureC2 (Econs tt_impl_ValidModel (Econs tt_impl_validBigram (Econs tt_slices_BinarySearchFunc_impl_Bigram_impl_Bigram_impl_Bigram (Econs tt_slices_Clone_impl_Bigram_impl_Bigram (EconsG gen_slices_Insert_impl_Bigram_impl_Bigram E0))))) mixed hb_impl_SetBigram fun m_ b_ => ts_impl_SetBigram _ (by simp [envL]) (by simp [envL]) (by simp [envL]) (by simp [envL]) (by simp [envL]) m_ b_

def s0_laws_eqBigramS (a_ : Sl Bigram) (b_ : Sl Bigram) : Int → Option (Sum Int (Sum Unit Bool)) := fun w4 =>
  bif decide (w4 < (((a_.getD []).length : Nat) : Int)) then
    obind (getI (a_.getD []) w4) fun a14 =>
    obind (getI (b_.getD []) w4) fun a18 =>
    obind (some ((fun a b : Bigram => decide (a = b)) a14 a18)) fun c22 =>
    bif !c22 then
      some (.inr (.inr false))
    else
      some (.inl (wr (w4 + 1)))
  else
    some (.inr (.inl ()))
def t_laws_eqBigramS (a_ : Sl Bigram) (b_ : Sl Bigram) : Option Bool :=
  bif !decide ((((a_.getD []).length : Nat) : Int) = (((b_.getD []).length : Nat) : Int)) then
    some false
  else
    obind (loopT (s0_laws_eqBigramS a_ b_) 0) fun qq28 => match qq28 with
    | (.inl _) =>
        some true
    | (.inr q11) =>
        some q11

theorem tl0_laws_eqBigramS (env : Nat → Contract) {B : Base} (he_laws_eqBigram : env n_laws_eqBigram = .pure (T2 (fun a b : Bigram => decide (a = b)))) (a_ : Sl Bigram) (b_ : Sl Bigram)  {st : Int} {tm : TM} {h : Heap} (R : (fun (st : Int) tm h2 => match st with | w4 => tm = [Sl.enc a_, Sl.enc b_, und, und, AV.top, iv w4, Sl.enc a_, iv (((a_.getD []).length : Nat) : Int), Sl.enc b_, iv (((b_.getD []).length : Nat) : Int), bv (!decide ((((a_.getD []).length : Nat) : Int) = (((b_.getD []).length : Nat) : Int))), AV.top, AV.top, AV.top, AV.top, AV.top, AV.top, AV.top, AV.top, AV.top, AV.top, AV.top, AV.top, AV.top, AV.top, AV.top, AV.top] ∧ Hold B h2 []) st tm h) : Sim (loopP hm0_laws_eqBigramS xm0_laws_eqBigramS (lb0_laws_eqBigramS env) tm h) (loopT (s0_laws_eqBigramS a_ b_) st) (fun (q : Sum Unit Bool) (r : Res) => match q with | .inl _ => ∃ (q8 : Int) (z7 : AV) (h5 : Heap), r = (.exit 0, [Sl.enc a_, Sl.enc b_, und, und, z7, iv q8, Sl.enc a_, iv (((a_.getD []).length : Nat) : Int), Sl.enc b_, iv (((b_.getD []).length : Nat) : Int), bv (!decide ((((a_.getD []).length : Nat) : Int) = (((b_.getD []).length : Nat) : Int))), AV.top, AV.top, AV.top, AV.top, AV.top, AV.top, AV.top, AV.top, AV.top, AV.top, AV.top, AV.top, AV.top, AV.top, AV.top, AV.top], h5) ∧ Hold B h5 [] | .inr q11 => ∃ (q12 : Int) (h9 : Heap), r = (.ret, [Sl.enc a_, Sl.enc b_, und, und, bv q11, iv q12, Sl.enc a_, iv (((a_.getD []).length : Nat) : Int), Sl.enc b_, iv (((b_.getD []).length : Nat) : Int), bv (!decide ((((a_.getD []).length : Nat) : Int) = (((b_.getD []).length : Nat) : Int))), AV.top, AV.top, AV.top, AV.top, AV.top, AV.top, AV.top, AV.top, AV.top, AV.top, AV.top, AV.top, AV.top, AV.top, AV.top, AV.top], h9) ∧ Hold B h9 []) := by
  refine loop_sim (Rel := fun (st : Int) tm h2 => match st with | w4 => tm = [Sl.enc a_, Sl.enc b_, und, und, AV.top, iv w4, Sl.enc a_, iv (((a_.getD []).length : Nat) : Int), Sl.enc b_, iv (((b_.getD []).length : Nat) : Int), bv (!decide ((((a_.getD []).length : Nat) : Int) = (((b_.getD []).length : Nat) : Int))), AV.top, AV.top, AV.top, AV.top, AV.top, AV.top, AV.top, AV.top, AV.top, AV.top, AV.top, AV.top, AV.top, AV.top, AV.top, AV.top] ∧ Hold B h2 []) (fun w4 tm h2 R => ?_) R
  obtain ⟨rfl, O3⟩ := R
  rw [e_lb0_laws_eqBigramS]
  unfold s0_laws_eqBigramS
  dsimp only
  refine sim_let (v := iv (((a_.getD []).length : Nat) : Int)) (Tab.enc h2 a_).len ?_
  refine sim_let (v := bv (decide (w4 < (((a_.getD []).length : Nat) : Int)))) (aBin_lss _ _) ?_
  refine sim_cond (fun c13 => ?_) (fun c13 => ?_)
  · refine sim_get (Tab.enc h2 a_) (fun m15 a14 hi16 hm17 => ?_)
    refine sim_let (v := AV.agg [sv a14.first, sv a14.second, iv a14.cost]) ((Tab.enc h2 a_).ld hm17 true 3 0) ?_
    refine sim_get (Tab.enc h2 b_) (fun m19 a18 hi20 hm21 => ?_)
    refine sim_let (v := AV.agg [sv a18.first, sv a18.second, iv a18.cost]) ((Tab.enc h2 b_).ld hm21 true 3 0) ?_
    refine sim_callVQ2 (t := (fun a b : Bigram => decide (a = b))) he_laws_eqBigram (snapD_nr _ a14 rfl) (snapD_nr _ a18 rfl) (fun c22 => ?_)
    refine sim_let (v := bv (!c22)) (aUn_not _) ?_
    refine sim_cond (fun c23 => ?_) (fun c23 => ?_)
    · exact sim_ret ⟨nofun, _, _, rfl, O3⟩
    · refine sim_let (v := iv (wr (w4 + 1))) (aBin_add _ _) ?_
      exact sim_ret ⟨rfl, rfl, O3⟩
  · exact sim_ret ⟨nofun, _, _, _, rfl, O3⟩
theorem ts_laws_eqBigramS (env : Nat → Contract) (he_laws_eqBigram : env n_laws_eqBigram = .pure (T2 (fun a b : Bigram => decide (a = b)))) (a_ : Sl Bigram) (b_ : Sl Bigram) : Sim (denFn Try.prog env n_laws_eqBigramS [Sl.enc a_, Sl.enc b_] []) (t_laws_eqBigramS a_ b_) fun c p => release p.2 depth p.1 = some ((fun c : Bool => enc c) c) := by
  have O := Hold.nil []
  generalize hB : (⟨[], []⟩ : Base) = B at O
  clear hB
  rw [e_laws_eqBigramS]
  unfold t_laws_eqBigramS
  refine sim_let (v := iv (((a_.getD []).length : Nat) : Int)) (Tab.enc [] a_).len ?_
  refine sim_let (v := iv (((b_.getD []).length : Nat) : Int)) (Tab.enc [] b_).len ?_
  refine sim_let (v := bv (!decide ((((a_.getD []).length : Nat) : Int) = (((b_.getD []).length : Nat) : Int)))) (aCmp_ne _ _) ?_
  refine sim_cond (fun c1 => ?_) (fun c1 => ?_)
  · exact sim_ret (release_plain (by rfl) _)
  · refine sim_bind ((tl0_laws_eqBigramS env he_laws_eqBigram a_ b_) ⟨rfl, O⟩) (fun qq28 r hq => ?_)
    rcases qq28 with _ | q11
    · obtain ⟨q8, z7, h5, rfl, O6⟩ := hq
      rw [e_lk0x0_laws_eqBigramS]
      exact sim_ret (release_plain (by rfl) _)
    · obtain ⟨q12, h9, rfl, O10⟩ := hq
      rw [e_lk0r_laws_eqBigramS]
      exact sim_ret (release_plain (by rfl) _)
theorem tt_laws_eqBigramS : PureOK Try.prog n_laws_eqBigramS (C2 (fun c : Bool => enc c) t_laws_eqBigramS) := pureC2 (Econs ok_laws_eqBigram E0) mixed hb_laws_eqBigramS fun a_ b_ => ts_laws_eqBigramS _ (by simp [envL]) a_ b_

def t_laws_eqModel (a_ : Model) (b_ : Model) : Option Bool :=
  bif !decide (a_.default = b_.default) then
    some false
  else
    obind (t_laws_eqBigramS a_.bigrams b_.bigrams) fun c10 =>
    bif !c10 then
      some false
    else
      some true

theorem ts_laws_eqModel (env : Nat → Contract) (he_laws_eqBigramS : env n_laws_eqBigramS = .pure (C2 (fun c : Bool => enc c) t_laws_eqBigramS)) (a_ : Model) (b_ : Model) : Sim (denFn Try.prog env n_laws_eqModel [AV.agg [iv a_.default, Sl.enc a_.bigrams], AV.agg [iv b_.default, Sl.enc b_.bigrams]] []) (t_laws_eqModel a_ b_) fun c p => release p.2 depth p.1 = some ((fun c : Bool => enc c) c) := by
  have O := Hold.nil []
  generalize hB : (⟨[], []⟩ : Base) = B at O
  clear hB
  rw [e_laws_eqModel]
  unfold t_laws_eqModel
  refine sim_box O (cs := [iv a_.default, Sl.enc a_.bigrams]) (by first | rfl | simp) (fun o1 h2 O3 => ?_)
  replace O3 : Hold B h2 [(AV.ptr o1 1 0 0, .pt 2 [iv a_.default, Sl.enc a_.bigrams])] := O3
  refine sim_box O3 (cs := [iv b_.default, Sl.enc b_.bigrams]) (by first | rfl | simp) (fun o5 h6 O7 => ?_)
  replace O7 : Hold B h6 [(AV.ptr o1 1 0 0, .pt 2 [iv a_.default, Sl.enc a_.bigrams]), (AV.ptr o5 1 0 0, .pt 2 [iv b_.default, Sl.enc b_.bigrams])] := O7
  refine sim_let (v := AV.ptr o1 1 0 0) rfl ?_
  refine sim_let (v := iv a_.default) (O7.ld 0 rfl false 1 0) ?_
  refine sim_let (v := AV.ptr o5 1 0 0) rfl ?_
  refine sim_let (v := iv b_.default) (O7.ld 1 rfl false 1 0) ?_
  refine sim_let (v := bv (!decide (a_.default = b_.default))) (aCmp_ne _ _) ?_
  refine sim_cond (fun c9 => ?_) (fun c9 => ?_)
  · exact sim_ret (release_plain (by rfl) _)
  · refine sim_let (v := AV.ptr o1 1 0 1) rfl ?_
    refine sim_let (v := Sl.enc a_.bigrams) (O7.ld 0 rfl false 1 1) ?_
    refine sim_let (v := AV.ptr o5 1 0 1) rfl ?_
    refine sim_let (v := Sl.enc b_.bigrams) (O7.ld 1 rfl false 1 1) ?_
    refine sim_call2 he_laws_eqBigramS (snapD_enc _ _) (snapD_enc _ _) (fun c10 => ?_)
    refine sim_let2 (hand_plain (by rfl) _ _) ?_
    refine sim_let (v := bv (!c10)) (aUn_not _) ?_
    refine sim_cond (fun c11 => ?_) (fun c11 => ?_)
    · exact sim_ret (release_plain (by rfl) _)
    · exact sim_ret (release_plain (by rfl) _)
theorem tt_laws_eqModel : PureOK Try.prog n_laws_eqModel (C2 (fun c : Bool => enc c) t_laws_eqModel) := pureC2 (Econs tt_laws_eqBigramS E0) mixed hb_laws_eqModel fun a_ b_ => ts_laws_eqModel _ (by simp [envL]) a_ b_

def s0_laws_markText : (Int × ByteArray) → Option (Sum (Int × ByteArray) ByteArray) := fun (w4, w5) =>
  bif decide (0 < w4) then
    obind (catO (strL ((some ([byteI (wr (48 + (Int.tmod w4 10)))] : List UInt8)).getD [])) w5) fun s16 =>
    some (.inl (wr (Int.tdiv w4 10), s16))
  else
    some (.inr w5)
def t_laws_markText (k_ : Int) : Option ByteArray :=
  bif decide (k_ ≤ 0) then
    some (⟨#[109, 48]⟩ : ByteArray)
  else
    obind (loopT s0_laws_markText (k_, (⟨#[]⟩ : ByteArray))) fun q9 =>
    obind (catO (⟨#[109]⟩ : ByteArray) q9) fun s10 =>
    some s10

theorem tl0_laws_markText (env : Nat → Contract) {B : Base}  (k_ : Int)  {st : Int × ByteArray} {tm : TM} {h : Heap} (R : (fun (st : Int × ByteArray) tm h2 => match st with | (w4, w5) => tm = [iv w4, und, sv (⟨#[]⟩ : ByteArray), sv w5, iv k_, bv (decide (k_ ≤ 0)), AV.top, AV.top, AV.top, AV.top, AV.top, AV.top, AV.top, AV.top, AV.top, AV.top, AV.top, AV.top, und, und] ∧ Hold B h2 []) st tm h) : Sim (loopP hm0_laws_markText xm0_laws_markText (lb0_laws_markText env) tm h) (loopT s0_laws_markText st) (fun (q : ByteArray) (r : Res) => match q with | q9 => ∃ (q8 : Int) (h6 : Heap), r = (.exit 0, [iv q8, und, sv (⟨#[]⟩ : ByteArray), sv q9, iv k_, bv (decide (k_ ≤ 0)), AV.top, AV.top, AV.top, AV.top, AV.top, AV.top, AV.top, AV.top, AV.top, AV.top, AV.top, AV.top, und, und], h6) ∧ Hold B h6 []) := by
  refine loop_sim (Rel := fun (st : Int × ByteArray) tm h2 => match st with | (w4, w5) => tm = [iv w4, und, sv (⟨#[]⟩ : ByteArray), sv w5, iv k_, bv (decide (k_ ≤ 0)), AV.top, AV.top, AV.top, AV.top, AV.top, AV.top, AV.top, AV.top, AV.top, AV.top, AV.top, AV.top, und, und] ∧ Hold B h2 []) (fun st tm h2 R => ?_) R
  obtain ⟨w4, w5⟩ := st
  obtain ⟨rfl, O3⟩ := R
  rw [e_lb0_laws_markText]
  unfold s0_laws_markText
  dsimp only
  refine sim_let (v := bv (decide (0 < w4))) (aBin_gtr _ _) ?_
  refine sim_cond (fun c11 => ?_) (fun c11 => ?_)
  · refine sim_let (v := iv (Int.tmod w4 10)) (aBin_rem _ _ (by decide)) ?_
    refine sim_let (v := iv (wr (48 + (Int.tmod w4 10)))) (aBin_add _ _) ?_
    refine sim_let (v := bt (byteI (wr (48 + (Int.tmod w4 10))))) (conv_u8 _) ?_
    refine sim_build (A := UInt8) O3 ([byteI (wr (48 + (Int.tmod w4 10)))] : List UInt8) rfl (by first | rfl | simp [aFillRows, zrows]) rfl (fun x12 h13 O14 => ?_)
    replace O14 : Hold B h13 [(x12, obS ((some ([byteI (wr (48 + (Int.tmod w4 10)))] : List UInt8)) : Sl UInt8))] := O14
    refine sim_let (v := sv (strL ((some ([byteI (wr (48 + (Int.tmod w4 10)))] : List UInt8)).getD []))) (conv_str (s := (some ([byteI (wr (48 + (Int.tmod w4 10)))] : List UInt8))) (O14.src (A := UInt8) (s := (some ([byteI (wr (48 + (Int.tmod w4 10)))] : List UInt8))) 0 rfl)) ?_
    refine sim_cat (fun s16 => ?_)
    refine sim_let (v := iv (wr (Int.tdiv w4 10))) (aBin_quo _ _ (by decide)) ?_
    have O17 : Hold B h13 [] := O14.sel [] (by decide) rfl
    exact sim_ret ⟨rfl, rfl, O17⟩
  · exact sim_ret ⟨nofun, _, _, rfl, O3⟩
theorem ts_laws_markText (env : Nat → Contract)  (k_ : Int) : Sim (denFn Try.prog env n_laws_markText [iv k_] []) (t_laws_markText k_) fun c p => release p.2 depth p.1 = some ((fun c : ByteArray => enc c) c) := by
  have O := Hold.nil []
  generalize hB : (⟨[], []⟩ : Base) = B at O
  clear hB
  rw [e_laws_markText]
  unfold t_laws_markText
  refine sim_let (v := bv (decide (k_ ≤ 0))) (aBin_leq _ _) ?_
  refine sim_cond (fun c1 => ?_) (fun c1 => ?_)
  · exact sim_ret (release_plain (by rfl) _)
  · refine sim_bind ((tl0_laws_markText env k_) ⟨rfl, O⟩) (fun qq20 r hq => ?_)
    revert hq
    revert qq20
    intro q9 hq
    obtain ⟨q8, h6, rfl, O7⟩ := hq
    rw [e_lk0x0_laws_markText]
    refine sim_cat (fun s10 => ?_)
    exact sim_ret (release_plain (by rfl) _)
theorem tt_laws_markText : PureOK Try.prog n_laws_markText (C1 (fun c : ByteArray => enc c) t_laws_markText) := pureC1 E0 mixed hb_laws_markText fun k_ => ts_laws_markText _  k_

def s0_laws_heldBigramS (a_ : Sl Bigram) : (Int × Int) → Option (Sum (Int × Int) (Sum Int Int)) := fun (w3, w4) =>
  bif decide (w4 < (((a_.getD []).length : Nat) : Int)) then
    obind (getI (a_.getD []) w4) fun a16 =>
    obind (t_laws_markText w3) fun c20 =>
    bif !decide (a16.first = c20) then
      some (.inr (.inr (-1)))
    else
      obind (getI (a_.getD []) w4) fun a23 =>
      obind (t_laws_markText (wr (w3 + 1))) fun c27 =>
      bif !decide (a23.second = c27) then
        some (.inr (.inr (-1)))
      else
        obind (getI (a_.getD []) w4) fun a30 =>
        bif !decide (a30.cost = wr ((wr (w3 + 1)) + 1)) then
          some (.inr (.inr (-1)))
        else
          some (.inl (wr ((wr ((wr (w3 + 1)) + 1)) + 1), wr (w4 + 1)))
  else
    some (.inr (.inl w3))
def t_laws_heldBigramS (a_ : Sl Bigram) (k_ : Int) : Option Int :=
  obind (loopT (s0_laws_heldBigramS a_) (k_, 0)) fun qq39 => match qq39 with
  | (.inl q7) =>
      some q7
  | (.inr q13) =>
      some q13

theorem tl0_laws_heldBigramS (env : Nat → Contract) {B : Base} (he_laws_markText : env n_laws_markText = .pure (C1 (fun c : ByteArray => enc c) t_laws_markText)) (a_ : Sl Bigram)  {st : Int × Int} {tm : TM} {h : Heap} (R : (fun (st : Int × Int) tm h1 => match st with | (w3, w4) => tm = [Sl.enc a_, iv w3, und, und, AV.top, iv w4, AV.top, AV.top, AV.top, AV.top, AV.top, AV.top, AV.top, AV.top, AV.top, AV.top, AV.top, AV.top, AV.top, AV.top, AV.top, AV.top, AV.top, AV.top, AV.top, AV.top, AV.top, AV.top, AV.top, AV.top, AV.top, AV.top, AV.top, AV.top, AV.top, AV.top, AV.top, AV.top, AV.top, AV.top, AV.top, und] ∧ Hold B h1 []) st tm h) : Sim (loopP hm0_laws_heldBigramS xm0_laws_heldBigramS (lb0_laws_heldBigramS env) tm h) (loopT (s0_laws_heldBigramS a_) st) (fun (q : Sum Int Int) (r : Res) => match q with | .inl q7 => ∃ (q9 : Int) (z8 : AV) (h5 : Heap), r = (.exit 0, [Sl.enc a_, iv q7, und, und, z8, iv q9, AV.top, AV.top, AV.top, AV.top, AV.top, AV.top, AV.top, AV.top, AV.top, AV.top, AV.top, AV.top, AV.top, AV.top, AV.top, AV.top, AV.top, AV.top, AV.top, AV.top, AV.top, AV.top, AV.top, AV.top, AV.top, AV.top, AV.top, AV.top, AV.top, AV.top, AV.top, AV.top, AV.top, AV.top, AV.top, und], h5) ∧ Hold B h5 [] | .inr q13 => ∃ (q12 : Int) (q14 : Int) (h10 : Heap), r = (.ret, [Sl.enc a_, iv q12, und, und, iv q13, iv q14, AV.top, AV.top, AV.top, AV.top, AV.top, AV.top, AV.top, AV.top, AV.top, AV.top, AV.top, AV.top, AV.top, AV.top, AV.top, AV.top, AV.top, AV.top, AV.top, AV.top, AV.top, AV.top, AV.top, AV.top, AV.top, AV.top, AV.top, AV.top, AV.top, AV.top, AV.top, AV.top, AV.top, AV.top, AV.top, und], h10) ∧ Hold B h10 []) := by
  refine loop_sim (Rel := fun (st : Int × Int) tm h1 => match st with | (w3, w4) => tm = [Sl.enc a_, iv w3, und, und, AV.top, iv w4, AV.top, AV.top, AV.top, AV.top, AV.top, AV.top, AV.top, AV.top, AV.top, AV.top, AV.top, AV.top, AV.top, AV.top, AV.top, AV.top, AV.top, AV.top, AV.top, AV.top, AV.top, AV.top, AV.top, AV.top, AV.top, AV.top, AV.top, AV.top, AV.top, AV.top, AV.top, AV.top, AV.top, AV.top, AV.top, und] ∧ Hold B h1 []) (fun st tm h1 R => ?_) R
  obtain ⟨w3, w4⟩ := st
  obtain ⟨rfl, O2⟩ := R
  rw [e_lb0_laws_heldBigramS]
  unfold s0_laws_heldBigramS
  dsimp only
  refine sim_let (v := iv (((a_.getD []).length : Nat) : Int)) (Tab.enc h1 a_).len ?_
  refine sim_let (v := bv (decide (w4 < (((a_.getD []).length : Nat) : Int)))) (aBin_lss _ _) ?_
  refine sim_cond (fun c15 => ?_) (fun c15 => ?_)
  · refine sim_get (Tab.enc h1 a_) (fun m17 a16 hi18 hm19 => ?_)
    refine sim_let (v := elp (Sl.enc a_) m17 0) ((Tab.enc h1 a_).fld _ _ _) ?_
    refine sim_let (v := sv a16.first) ((Tab.enc h1 a_).ld hm19 false 1 0) ?_
    refine sim_callQ1 he_laws_markText (snapD_int _ _) (fun c20 => ?_)
    refine sim_let2 (hand_plain (by rfl) _ _) ?_
    refine sim_let (v := bv (!decide (a16.first = c20))) (aCmp_neS _ _) ?_
    refine sim_cond (fun c21 => ?_) (fun c21 => ?_)
    · exact sim_ret ⟨nofun, _, _, _, rfl, O2⟩
    · refine sim_let (v := iv (wr (w3 + 1))) (aBin_add _ _) ?_
      refine sim_get (Tab.enc h1 a_) (fun m24 a23 hi25 hm26 => ?_)
      refine sim_let (v := elp (Sl.enc a_) m24 1) ((Tab.enc h1 a_).fld _ _ _) ?_
      refine sim_let (v := sv a23.second) ((Tab.enc h1 a_).ld hm26 false 1 1) ?_
      refine sim_callQ1 he_laws_markText (snapD_int _ _) (fun c27 => ?_)
      refine sim_let2 (hand_plain (by rfl) _ _) ?_
      refine sim_let (v := bv (!decide (a23.second = c27))) (aCmp_neS _ _) ?_
      refine sim_cond (fun c28 => ?_) (fun c28 => ?_)
      · exact sim_ret ⟨nofun, _, _, _, rfl, O2⟩
      · refine sim_let (v := iv (wr ((wr (w3 + 1)) + 1))) (aBin_add _ _) ?_
        refine sim_get (Tab.enc h1 a_) (fun m31 a30 hi32 hm33 => ?_)
        refine sim_let (v := elp (Sl.enc a_) m31 2) ((Tab.enc h1 a_).fld _ _ _) ?_
        refine sim_let (v := iv a30.cost) ((Tab.enc h1 a_).ld hm33 false 1 2) ?_
        refine sim_let (v := bv (!decide (a30.cost = wr ((wr (w3 + 1)) + 1)))) (aCmp_ne _ _) ?_
        refine sim_cond (fun c34 => ?_) (fun c34 => ?_)
        · exact sim_ret ⟨nofun, _, _, _, rfl, O2⟩
        · refine sim_let (v := iv (wr ((wr ((wr (w3 + 1)) + 1)) + 1))) (aBin_add _ _) ?_
          refine sim_let (v := iv (wr (w4 + 1))) (aBin_add _ _) ?_
          exact sim_ret ⟨rfl, rfl, O2⟩
  · exact sim_ret ⟨nofun, _, _, _, rfl, O2⟩
theorem ts_laws_heldBigramS (env : Nat → Contract) (he_laws_markText : env n_laws_markText = .pure (C1 (fun c : ByteArray => enc c) t_laws_markText)) (a_ : Sl Bigram) (k_ : Int) : Sim (denFn Try.prog env n_laws_heldBigramS [Sl.enc a_, iv k_] []) (t_laws_heldBigramS a_ k_) fun c p => release p.2 depth p.1 = some ((fun c : Int => enc c) c) := by
  have O := Hold.nil []
  generalize hB : (⟨[], []⟩ : Base) = B at O
  clear hB
  rw [e_laws_heldBigramS]
  unfold t_laws_heldBigramS
  refine sim_bind ((tl0_laws_heldBigramS env he_laws_markText a_) ⟨rfl, O⟩) (fun qq39 r hq => ?_)
  rcases qq39 with q7 | q13
  · obtain ⟨q9, z8, h5, rfl, O6⟩ := hq
    rw [e_lk0x0_laws_heldBigramS]
    exact sim_ret (release_plain (by rfl) _)
  · obtain ⟨q12, q14, h10, rfl, O11⟩ := hq
    rw [e_lk0r_laws_heldBigramS]
    exact sim_ret (release_plain (by rfl) _)
theorem tt_laws_heldBigramS : PureOK Try.prog n_laws_heldBigramS (C2 (fun c : Int => enc c) t_laws_heldBigramS) := pureC2 (Econs tt_laws_markText E0) mixed hb_laws_heldBigramS fun a_ k_ => ts_laws_heldBigramS _ (by simp [envL]) a_ k_

def t_laws_heldModel (a_ : Model) (k_ : Int) : Option Int :=
  obind (t_laws_heldBigramS a_.bigrams k_) fun c5 =>
  bif decide (c5 < 0) then
    some (-1)
  else
    some c5

theorem ts_laws_heldModel (env : Nat → Contract) (he_laws_heldBigramS : env n_laws_heldBigramS = .pure (C2 (fun c : Int => enc c) t_laws_heldBigramS)) (a_ : Model) (k_ : Int) : Sim (denFn Try.prog env n_laws_heldModel [AV.agg [iv a_.default, Sl.enc a_.bigrams], iv k_] []) (t_laws_heldModel a_ k_) fun c p => release p.2 depth p.1 = some ((fun c : Int => enc c) c) := by
  have O := Hold.nil []
  generalize hB : (⟨[], []⟩ : Base) = B at O
  clear hB
  rw [e_laws_heldModel]
  unfold t_laws_heldModel
  refine sim_box O (cs := [iv a_.default, Sl.enc a_.bigrams]) (by first | rfl | simp) (fun o1 h2 O3 => ?_)
  replace O3 : Hold B h2 [(AV.ptr o1 1 0 0, .pt 2 [iv a_.default, Sl.enc a_.bigrams])] := O3
  refine sim_let (v := AV.ptr o1 1 0 1) rfl ?_
  refine sim_let (v := Sl.enc a_.bigrams) (O3.ld 0 rfl false 1 1) ?_
  refine sim_call2 he_laws_heldBigramS (snapD_enc _ _) (snapD_int _ _) (fun c5 => ?_)
  refine sim_let2 (hand_plain (by rfl) _ _) ?_
  refine sim_let (v := bv (decide (c5 < 0))) (aBin_lss _ _) ?_
  refine sim_cond (fun c6 => ?_) (fun c6 => ?_)
  · exact sim_ret (release_plain (by rfl) _)
  · exact sim_ret (release_plain (by rfl) _)
theorem tt_laws_heldModel : PureOK Try.prog n_laws_heldModel (C2 (fun c : Int => enc c) t_laws_heldModel) := pureC2 (Econs tt_laws_heldBigramS E0) mixed hb_laws_heldModel fun a_ k_ => ts_laws_heldModel _ (by simp [envL]) a_ k_

theorem lp_laws_markBigramS (env : Nat → Contract) (he : env n_laws_markText = .pure (G1 (fun k : Int => decide (0 ≤ k) && decide (k ≤ 100000000)) fun k => sv (markT k.toNat))) {y2 y3 y4 y35 : AV} (o n : Nat) : ∀ (S P : List (List AV)) (k i : Nat) (h : Heap), i = P.length → P.length + S.length = n → n ≤ 4294967296 → (∀ r ∈ S, r.length = 3) → k + 3 * S.length ≤ 100000000 → h[o]? = some ⟨3, P ++ S⟩ →
    (obind (loopP hm0_laws_markBigramS xm0_laws_markBigramS (lb0_laws_markBigramS env) [.sl o n 0 n, iv (k : Nat), y2, y3, y4, iv (i : Nat), .top, .top, .top, .top, .top, .top, .top, .top, .top, .top, .top, .top, .top, .top, .top, .top, .top, .top, .top, .top, .top, .top, .top, .top, .top, .top, .top, .top, .top, y35] h) fun r => lk0_laws_markBigramS env r.1 r.2.1 r.2.2) = some (iv ((k + 3 * S.length : Nat) : Int), h.set o ⟨3, P ++ mrows [true, true, false] k S.length⟩) := by
  intro S
  induction S with
  | nil =>
    intro P k i h hi hl hn hr hk ho
    have : ¬ i < n := by simp at hl; omega
    have hs := set_same ho
    simp at hs
    rw [loopP.eq_1]
    simp [e_lb0_laws_markBigramS, restr, e_lk0x0_laws_markBigramS, this, mrows, hs]
  | cons r S ih =>
    intro P k i h hi hl hn hr hk ho
    have hl' : P.length + (S.length + 1) = n := by simpa using hl
    simp only [List.length_cons] at hk
    have hlt : i < n := by omega
    have hrl := hr r (by simp)
    obtain ⟨c0, c1, c2, rfl⟩ : ∃ c0 c1 c2, r = [c0, c1, c2] := by
      match r, hrl with
      | [c0, c1, c2], _ => exact ⟨c0, c1, c2, rfl⟩
    have olt := (List.getElem?_eq_some_iff.1 ho).1
    have a0 := mark_addr (w := 3) (r := [c0, c1, c2]) ho hi hl'
    have s0 := mark_store (j := 0) (v := sv (markT k)) ho hi hl' rfl rfl (by simp)
    simp only [List.set_cons_zero, List.set_cons_succ, List.set_set] at s0
    have g0 : (h.set o ⟨3, P ++ [(sv (markT k)), c1, c2] :: S⟩)[o]? = some ⟨3, P ++ [(sv (markT k)), c1, c2] :: S⟩ := by simp [olt]
    have w0 : wr ((k : Int) + 1) = ((k + 1 : Nat) : Int) := by rw [wr_id (by omega) (by omega)]; omega
    have t0 : (0 ≤ (k : Int)) = True := eq_true (by omega)
    have u0 : ((k : Int) ≤ 100000000) = True := eq_true (by omega)
    have q0 : ∀ h, aCall (env n_laws_markText) [iv (k : Int)] h = some (sv (markT k), h) := fun h => by
      rw [he]
      simp [-Int.natCast_add, t0, u0]
    have a1 := mark_addr (w := 3) (r := [(sv (markT k)), c1, c2]) g0 hi hl'
    have s1 := mark_store (j := 1) (v := sv (markT (k + 1))) g0 hi hl' rfl rfl (by simp)
    simp only [List.set_cons_zero, List.set_cons_succ, List.set_set] at s1
    have g1 : (h.set o ⟨3, P ++ [(sv (markT k)), (sv (markT (k + 1))), c2] :: S⟩)[o]? = some ⟨3, P ++ [(sv (markT k)), (sv (markT (k + 1))), c2] :: S⟩ := by simp [olt]
    have w1 : wr (((k + 1 : Nat) : Int) + 1) = ((k + 2 : Nat) : Int) := by rw [wr_id (by omega) (by omega)]; omega
    have t1 : (0 ≤ ((k + 1 : Nat) : Int)) = True := eq_true (by omega)
    have u1 : (((k + 1 : Nat) : Int) ≤ 100000000) = True := eq_true (by omega)
    have q1 : ∀ h, aCall (env n_laws_markText) [iv ((k + 1 : Nat) : Int)] h = some (sv (markT (k + 1)), h) := fun h => by
      rw [he]
      simp [-Int.natCast_add, t1, u1]
    have a2 := mark_addr (w := 3) (r := [(sv (markT k)), (sv (markT (k + 1))), c2]) g1 hi hl'
    have s2 := mark_store (j := 2) (v := iv ((k + 2 : Nat) : Int)) g1 hi hl' rfl rfl (by simp)
    simp only [List.set_cons_zero, List.set_cons_succ, List.set_set] at s2
    have g2 : (h.set o ⟨3, P ++ [(sv (markT k)), (sv (markT (k + 1))), (iv ((k + 2 : Nat) : Int))] :: S⟩)[o]? = some ⟨3, P ++ [(sv (markT k)), (sv (markT (k + 1))), (iv ((k + 2 : Nat) : Int))] :: S⟩ := by simp [olt]
    have w2 : wr (((k + 2 : Nat) : Int) + 1) = ((k + 3 : Nat) : Int) := by rw [wr_id (by omega) (by omega)]; omega
    have wi : wr ((i : Int) + 1) = ((i + 1 : Nat) : Int) := by rw [wr_id (by omega) (by omega)]; omega
    have r := ih (P ++ [[(sv (markT k)), (sv (markT (k + 1))), (iv ((k + 2 : Nat) : Int))]]) (k + 3) (i + 1) (h.set o ⟨3, P ++ [(sv (markT k)), (sv (markT (k + 1))), (iv ((k + 2 : Nat) : Int))] :: S⟩) (by simp [hi]) (by simp; omega) hn (fun r hr' => hr r (by simp [hr'])) (by omega) (by simp [olt])
    have hlz : ((i : Int) < (n : Nat)) := by omega
    rw [loopP.eq_1]
    simp only [e_lb0_laws_markBigramS, aLenK_sl, obind_sm, aBin_lss, condB_bv, hlz, decide_true, cond_true, aFieldAddr_ptr, Nat.zero_add, a0, s0, w0, q0, obind2_sm, a1, s1, w1, q1, obind2_sm, a2, s2, w2, wi, aBin_add, restr, cond_false]
    rw [r]
    simp only [mrows, mrow, List.length_cons, List.set_set, List.append_assoc, List.singleton_append, cond_true, cond_false, Nat.add_assoc]
    congr 3
    · omega
theorem gen_laws_markBigramS (env : Nat → Contract) (he : env n_laws_markText = .pure (G1 (fun k : Int => decide (0 ≤ k) && decide (k ≤ 100000000)) fun k => sv (markT k.toNat))) (R : List (List AV)) (o n : Nat) (hn : R.length = n) (hl : n ≤ 4294967296) (hr : ∀ r ∈ R, r.length = 3) (k : Nat) (hk : k + 3 * n ≤ 100000000) (h : Heap) (ho : h[o]? = some ⟨3, R⟩) :
    denFn Try.prog env n_laws_markBigramS [.sl o n 0 n, iv (k : Nat)] h = some (iv ((k + 3 * n : Nat) : Int), h.set o ⟨3, mrows [true, true, false] k n⟩) := by
  have L := fun {y2 y3 y4 y35} => @lp_laws_markBigramS env he y2 y3 y4 y35 o n R [] k 0 h rfl (by simpa using hn) hl hr (by rw [hn]; exact hk) (by simpa using ho)
  rw [hn] at L
  simp [-Int.natCast_add] at L
  simp [-Int.natCast_add, e_laws_markBigramS, L]

/-! ### Marks in a struct with one slice -/
/-- What a function that fills the slice of a struct with marks does. -/
def MarkGOK {A : Type} [Row A] (w j : Nat) (f : List AV → Heap → Option (AV × Heap)) (mk : Sl A → Int → Option (Int × Sl A)) : Prop :=
  ∀ (B : Base) (h : Heap) (L : List Ent) (i : Nat) (x : AV) (s : Sl A) (k r : Int) (s' : Sl A) (cs : List AV), Hold B h L → L[i]? = some (x, obS s) → cs.all AV.flat = true → cs.length = w → cs[j]? = some x → mk s k = some (r, s') → ∃ h', f [AV.agg cs, iv k] h = some (iv r, h') ∧ Hold B h' (L.set i (x, obS s'))
theorem sim_markG {A : Type} [Row A] {B : Base} {h : Heap} {L : List Ent} {γ δ : Type} {env : Nat → Contract} {g w j : Nat} {f : List AV → Heap → Option (AV × Heap)} {mk : Sl A → Int → Option (Int × Sl A)} {cs : List AV} (O : Hold B h L) (i : Nat) {x : AV} {s : Sl A} (hi : L[i]? = some (x, obS s)) {k : Int} (he : env g = .gen f) (hf : MarkGOK w j f mk) (hc : cs.all AV.flat = true) (hw : cs.length = w) (hj : cs[j]? = some x)
    {F : AV → Heap → Option γ} {G : Int × Sl A → Option δ} {Q : δ → γ → Prop} (K : ∀ r s' h', Hold B h' (L.set i (x, obS s')) → Sim (F (iv r) h') (G (r, s')) Q) : Sim (obind2 (aCall (env g) [AV.agg cs, iv k] h) F) (obind (mk s k) G) Q := by
  rw [he]
  show Sim (obind2 (f [AV.agg cs, iv k] h) F) _ Q
  cases hm : mk s k with
  | none => exact sim_no
  | some p =>
    obtain ⟨r, s'⟩ := p
    obtain ⟨h', e1, e2⟩ := hf B h L i x s k r s' cs O hi hc hw hj hm
    rw [obind_sm, e1, obind2_sm]
    exact K r s' h' e2
theorem markG_of {A : Type} [Row A] {w j g1 : Nat} {env : Nat → Contract} {f : List AV → Heap → Option (AV × Heap)} {D : List AV → Heap → Option (AV × Heap)} {mk : Sl A → Int → Option (Int × Sl A)} (he : env g1 = .gen f) (hf : MarkOK f mk)
    (e : ∀ (cs : List AV) (x1 : AV) (h : Heap), D [AV.agg cs, x1] h = obind2 (aBox cs h) fun v1 h2 => obind (aFieldAddr j v1) fun v3 => obind (aLoad false 1 v3 h2) fun v4 => obind2 (aCall (env g1) [v4, x1] h2) fun v5 h6 => some (v5, h6)) : MarkGOK w j D mk := by
  intro B h L i x s k r s' cs O hi hc hw hj hm
  have hx : x.cells = [x] ∧ x.flat = true := O.one i hi
  have hlt := (List.getElem?_eq_some_iff.1 hi).1
  have O2 : Hold B (h ++ [⟨cs.length, [cs]⟩]) (L ++ [(.ptr h.length 1 0 0, .pt cs.length cs)]) := O.alloc (.pt cs.length cs) rfl
  have hi2 : (L ++ [(AV.ptr h.length 1 0 0, EV.pt cs.length cs)])[i]? = some (x, obS s) := by rw [List.getElem?_append_left hlt]; exact hi
  obtain ⟨h', f1, f2⟩ := O2.mark i hi2 hf hm
  rw [List.set_append_left _ _ hlt] at f2
  refine ⟨h', ?_, f2.left⟩
  have ld := O2.ld (o := h.length) (k := cs.length) (cs := cs) L.length (by simp) false 1 j
  have dr : cs.drop j = x :: cs.drop (j + 1) := by
    obtain ⟨hl, e⟩ := List.getElem?_eq_some_iff.1 hj
    rw [List.drop_eq_getElem_cons hl, e]
  rw [e]
  unfold aBox
  rw [if_pos hc, obind2_sm]
  have fa : aFieldAddr j (AV.ptr h.length 1 0 0) = some (AV.ptr h.length 1 0 j) := by simp [aFieldAddr]
  rw [fa, obind_sm, ld, dr]
  have ct : cut false 1 (x :: cs.drop (j + 1)) = some x := by simp [cut]
  rw [ct, obind_sm, he]
  show obind2 (f [x, iv k] _) _ = _
  rw [f1, obind2_sm]

/-- Marks in a list of texts. -/
def mkSt : Nat → Nat → List ByteArray
  | _, 0 => []
  | k, n + 1 => markT k :: mkSt (k + 1) n
theorem mkSt_len : ∀ (n k : Nat), (mkSt k n).length = n
  | 0, _ => rfl
  | n + 1, k => by simp [mkSt, mkSt_len n]
def t_laws_markStringS (s : Sl ByteArray) (k : Int) : Option (Int × Sl ByteArray) := bif decide (0 ≤ k) && decide (k + 1 * ((s.getD []).length : Nat) ≤ 100000000) then some (k + 1 * ((s.getD []).length : Nat), s.map fun l => mkSt k.toNat l.length) else none
/-- Marks in a list of pairs of words. -/
def mkBg : Nat → Nat → List Bigram
  | _, 0 => []
  | k, n + 1 => ⟨markT k, markT (k + 1), ((k + 2 : Nat) : Int)⟩ :: mkBg (k + 3) n
theorem mkBg_len : ∀ (n k : Nat), (mkBg k n).length = n
  | 0, _ => rfl
  | n + 1, k => by simp [mkBg, mkBg_len n]
def t_laws_markBigramS (s : Sl Bigram) (k : Int) : Option (Int × Sl Bigram) := bif decide (0 ≤ k) && decide (k + 3 * ((s.getD []).length : Nat) ≤ 100000000) then some (k + 3 * ((s.getD []).length : Nat), s.map fun l => mkBg k.toNat l.length) else none

noncomputable def ev_laws_markStringS : Nat → Contract := envL [(n_laws_markText, .pure (G1 (fun k : Int => decide (0 ≤ k) && decide (k ≤ 100000000)) fun k => sv (markT k.toNat)))]
theorem eo_laws_markStringS : EnvOK Try.prog ev_laws_markStringS := Econs okB_laws_markText E0
noncomputable def ev_laws_markBigramS : Nat → Contract := envL [(n_laws_markText, .pure (G1 (fun k : Int => decide (0 ≤ k) && decide (k ≤ 100000000)) fun k => sv (markT k.toNat)))]
theorem eo_laws_markBigramS : EnvOK Try.prog ev_laws_markBigramS := Econs okB_laws_markText E0

theorem mrows_Bg : ∀ (n k : Nat), mrows [true, true, false] k n = (mkBg k n).map Row.cells
  | 0, _ => rfl
  | n + 1, k => by
    have ih := mrows_Bg n (k + 3)
    show [sv (markT k), sv (markT (k + 1)), iv ((k + 1 + 1 : Nat) : Int)] :: mrows [true, true, false] (k + 3) n = [sv (markT k), sv (markT (k + 1)), iv ((k + 2 : Nat) : Int)] :: (mkBg (k + 3) n).map Row.cells
    rw [ih]
theorem mk_laws_markBigramS : MarkOK (denFn Try.prog ev_laws_markBigramS n_laws_markBigramS) t_laws_markBigramS := by
  have he : ev_laws_markBigramS n_laws_markText = .pure (G1 (fun k : Int => decide (0 ≤ k) && decide (k ≤ 100000000)) fun k => sv (markT k.toNat)) := by simp [ev_laws_markBigramS, envL]
  intro s k r s' h
  unfold t_laws_markBigramS at h
  cases c : decide (0 ≤ k) && decide (k + 3 * ((s.getD []).length : Nat) ≤ 100000000) with
  | false => rw [c] at h; cases h
  | true =>
    rw [c] at h
    simp only [cond_true, Option.some.injEq, Prod.mk.injEq] at h
    obtain ⟨rfl, rfl⟩ := h
    simp only [Bool.and_eq_true, decide_eq_true_eq] at c
    obtain ⟨m, rfl⟩ := Int.eq_ofNat_of_zero_le c.1
    cases s with
    | none =>
      refine .inl ⟨rfl, rfl, fun h => ?_⟩
      rw [e_laws_markBigramS, loopP.eq_1]
      simp [e_lb0_laws_markBigramS, e_lk0x0_laws_markBigramS, restr]
    | some l =>
      refine .inr ⟨l, mkBg m l.length, rfl, rfl, mkBg_len _ _, fun o h ho => ?_⟩
      have g := gen_laws_markBigramS ev_laws_markBigramS he (l.map Row.cells) o l.length (by simp) (by simp only [Option.getD_some] at c; omega) (fun r hr => by
        obtain ⟨a, _, rfl⟩ := List.mem_map.1 hr
        rfl) m (by simp only [Option.getD_some] at c; omega) h ho
      rw [mrows_Bg] at g
      rw [g]
      simp only [Option.getD_some]
      congr 3

noncomputable def ev_laws_markModel : Nat → Contract := envL [(n_laws_markBigramS, .gen (denFn Try.prog ev_laws_markBigramS n_laws_markBigramS))]
theorem eo_laws_markModel : EnvOK Try.prog ev_laws_markModel := EconsG (gen_of_den eo_laws_markBigramS mixed hb_laws_markBigramS) E0
theorem mk_laws_markModel : MarkGOK 2 1 (denFn Try.prog ev_laws_markModel n_laws_markModel) t_laws_markBigramS :=
  markG_of (g1 := n_laws_markBigramS) (env := ev_laws_markModel) (by simp [ev_laws_markModel, envL]) mk_laws_markBigramS fun cs x1 h => e_laws_markModel _ _ _ _

def t_laws_FnExactSetBigram (aM_ : Model) (aB_ : Bigram) : Option Bool :=
  obind (t_laws_szModel aM_ 1048576) fun c9 =>
  bif decide (c9 < 0) then
    some true
  else
    obind (t_laws_szBigram aB_ c9) fun c11 =>
    bif decide (c11 < 0) then
      some true
    else
      obind (t_laws_toModel aM_) fun c13 =>
      obind (some ((fun b : Bigram => b) aB_)) fun c18 =>
      obind (t_spec_SetBigram c13 c18) fun c19 =>
      obind (t_laws_toModel aM_) fun c30 =>
      obind (some ((fun b : Bigram => b) aB_)) fun c41 =>
      obind (t_impl_SetBigram c30 c41) fun c42 =>
      obind (t_laws_eqModel c42.1 c19.1) fun c53 =>
      obind (bif !c53 then some false else (some (!decide (c42.2 = c19.2)))) fun c55 =>
      bif (bif !c53 then true else c55) then
        some false
      else
        obind (t_laws_toModel aM_) fun c57 =>
        obind (t_laws_eqModel c30 c57) fun c62 =>
        bif !c62 then
          some false
        else
          obind (t_laws_markBigramS c30.bigrams 1) fun (r64, w65) =>
          obind (bif decide (r64 < 0) then some false else (obind (t_laws_eqModel c42.1 c19.1) fun c69 => some (!c69))) fun c70 =>
          obind (bif (bif decide (r64 < 0) then true else c70) then some false else (some (!decide (c42.2 = c19.2)))) fun c72 =>
          bif (bif (bif decide (r64 < 0) then true else c70) then true else c72) then
            some false
          else
            obind (t_laws_markBigramS c42.1.bigrams 1) fun (r74, w75) =>
            obind (t_laws_heldModel (⟨c42.1.default, w75⟩ : Model) 1) fun c78 =>
            bif decide (c78 < 0) then
              some false
            else
              bif !decide (c78 = r74) then
                some false
              else
                obind (t_laws_toModel aM_) fun c81 =>
                obind (some ((fun b : Bigram => b) aB_)) fun c86 =>
                obind (t_impl_SetBigram c81 c86) fun c87 =>
                obind (t_laws_eqModel c87.1 c19.1) fun c98 =>
                obind (bif !c98 then some false else (some (!decide (c87.2 = c19.2)))) fun c100 =>
                bif (bif !c98 then true else c100) then
                  some false
                else
                  obind (t_laws_heldModel (⟨c42.1.default, w75⟩ : Model) 1) fun c102 =>
                  bif decide (c102 < 0) then
                    some false
                  else
                    bif !decide (c102 = r74) then
                      some false
                    else
                      some true

theorem ts_laws_FnExactSetBigram (env : Nat → Contract) (he_impl_SetBigram : env n_impl_SetBigram = .pure (C2 (fun c : Model × Int => AV.tup [AV.agg [iv c.1.default, rS c.1.bigrams], enc c.2]) t_impl_SetBigram)) (he_laws_eqModel : env n_laws_eqModel = .pure (C2 (fun c : Bool => enc c) t_laws_eqModel)) (he_laws_heldModel : env n_laws_heldModel = .pure (C2 (fun c : Int => enc c) t_laws_heldModel)) (he_laws_markModel : env n_laws_markModel = .gen (denFn Try.prog ev_laws_markModel n_laws_markModel)) (he_laws_szBigram : env n_laws_szBigram = .pure (C2 (fun c : Int => enc c) t_laws_szBigram)) (he_laws_szModel : env n_laws_szModel = .pure (C2 (fun c : Int => enc c) t_laws_szModel)) (he_laws_toBigram : env n_laws_toBigram = .pure (T1 (fun b : Bigram => b))) (he_laws_toModel : env n_laws_toModel = .pure (C1 (fun c : Model => AV.agg [iv c.default, rS c.bigrams]) t_laws_toModel)) (he_spec_SetBigram : env n_spec_SetBigram = .pure (C2 (fun c : Model × Int => AV.tup [AV.agg [iv c.1.default, rS c.1.bigrams], enc c.2]) t_spec_SetBigram)) (aM_ : Model) (aB_ : Bigram) : Sim (denFn Try.prog env n_laws_FnExactSetBigram [AV.agg [iv aM_.default, Sl.enc aM_.bigrams], AV.agg [sv aB_.first, sv aB_.second, iv aB_.cost]] []) (t_laws_FnExactSetBigram aM_ aB_) fun c p => release p.2 depth p.1 = some ((fun c : Bool => enc c) c) := by
  have O := Hold.nil []
  generalize hB : (⟨[], []⟩ : Base) = B at O
  clear hB
  rw [e_laws_FnExactSetBigram]
  unfold t_laws_FnExactSetBigram
  refine sim_box O (cs := [iv aM_.default, Sl.enc aM_.bigrams]) (by first | rfl | simp) (fun o1 h2 O3 => ?_)
  replace O3 : Hold B h2 [(AV.ptr o1 1 0 0, .pt 2 [iv aM_.default, Sl.enc aM_.bigrams])] := O3
  refine sim_box O3 (cs := [sv aB_.first, sv aB_.second, iv aB_.cost]) (by first | rfl | simp) (fun o5 h6 O7 => ?_)
  replace O7 : Hold B h6 [(AV.ptr o1 1 0 0, .pt 2 [iv aM_.default, Sl.enc aM_.bigrams]), (AV.ptr o5 1 0 0, .pt 3 [sv aB_.first, sv aB_.second, iv aB_.cost])] := O7
  refine sim_let (v := AV.agg [iv aM_.default, Sl.enc aM_.bigrams]) (O7.ld 0 rfl true 2 0) ?_
  refine sim_call2 he_laws_szModel (snapD_nr _ aM_ rfl) (snapD_int _ _) (fun c9 => ?_)
  refine sim_let2 (hand_plain (by rfl) _ _) ?_
  refine sim_let (v := bv (decide (c9 < 0))) (aBin_lss _ _) ?_
  refine sim_cond (fun c10 => ?_) (fun c10 => ?_)
  · exact sim_ret (release_plain (by rfl) _)
  · refine sim_let (v := AV.agg [sv aB_.first, sv aB_.second, iv aB_.cost]) (O7.ld 1 rfl true 3 0) ?_
    refine sim_call2 he_laws_szBigram (snapD_nr _ aB_ rfl) (snapD_int _ _) (fun c11 => ?_)
    refine sim_let2 (hand_plain (by rfl) _ _) ?_
    refine sim_let (v := bv (decide (c11 < 0))) (aBin_lss _ _) ?_
    refine sim_cond (fun c12 => ?_) (fun c12 => ?_)
    · exact sim_ret (release_plain (by rfl) _)
    · refine sim_let (v := AV.agg [iv aM_.default, Sl.enc aM_.bigrams]) (O7.ld 0 rfl true 2 0) ?_
      refine sim_callQ1 he_laws_toModel (snapD_nr _ aM_ rfl) (fun c13 => ?_)
      refine sim_hand1 O7 (c13.bigrams : Sl Bigram) (fun z1 => AV.agg [iv c13.default, z1]) (by intro b; simp only [mat_tup, mat_aggD, mat_agg, matLc, matLn, mat_iv, mat_bv, mat_sv, mat_bt, mat_nilS, mat_rS, List.append_nil, List.nil_append, List.length_nil, Nat.add_zero]) (by simp only [noF_tup, noF_aggD, noF_agg, noF_iv, noF_bv, noF_sv, noF_bt, noF_nilS, noF_rS, List.all_cons, List.all_nil, Bool.and_self]) (fun x15 h16 O17 => ?_)
      replace O17 : Hold B h16 [(AV.ptr o1 1 0 0, .pt 2 [iv aM_.default, Sl.enc aM_.bigrams]), (AV.ptr o5 1 0 0, .pt 3 [sv aB_.first, sv aB_.second, iv aB_.cost]), (x15, obS (c13.bigrams : Sl Bigram))] := O17
      refine sim_let (v := AV.agg [sv aB_.first, sv aB_.second, iv aB_.cost]) (O17.ld 1 rfl true 3 0) ?_
      refine sim_callVQ1 (t := (fun b : Bigram => b)) he_laws_toBigram (snapD_nr _ aB_ rfl) (fun c18 => ?_)
      refine sim_callQ2 he_spec_SetBigram (snapD_own h16 c13 rfl (by simp [omap, O17.snap7 (A := Bigram) (s := c13.bigrams) 2 rfl])) (snapD_nr _ c18 rfl) (fun c19 => ?_)
      refine sim_hand1 O17 (c19.1.bigrams : Sl Bigram) (fun z1 => AV.tup [AV.agg [iv c19.1.default, z1], iv c19.2]) (by intro b; simp only [mat_tup, mat_aggD, mat_agg, matLc, matLn, mat_iv, mat_bv, mat_sv, mat_bt, mat_nilS, mat_rS, List.append_nil, List.nil_append, List.length_nil, Nat.add_zero]) (by simp only [noF_tup, noF_aggD, noF_agg, noF_iv, noF_bv, noF_sv, noF_bt, noF_nilS, noF_rS, List.all_cons, List.all_nil, Bool.and_self]) (fun x21 h22 O23 => ?_)
      replace O23 : Hold B h22 [(AV.ptr o1 1 0 0, .pt 2 [iv aM_.default, Sl.enc aM_.bigrams]), (AV.ptr o5 1 0 0, .pt 3 [sv aB_.first, sv aB_.second, iv aB_.cost]), (x15, obS (c13.bigrams : Sl Bigram)), (x21, obS (c19.1.bigrams : Sl Bigram))] := O23
      refine sim_let (v := AV.agg [iv c19.1.default, x21]) rfl ?_
      refine sim_let (v := iv c19.2) rfl ?_
      refine sim_box O23 (cs := [iv 0, nilS]) (by first | rfl | simp) (fun o24 h25 O26 => ?_)
      replace O26 : Hold B h25 [(AV.ptr o1 1 0 0, .pt 2 [iv aM_.default, Sl.enc aM_.bigrams]), (AV.ptr o5 1 0 0, .pt 3 [sv aB_.first, sv aB_.second, iv aB_.cost]), (x15, obS (c13.bigrams : Sl Bigram)), (x21, obS (c19.1.bigrams : Sl Bigram)), (AV.ptr o24 1 0 0, .pt 2 [iv 0, nilS])] := O26
      refine sim_store O26 4 (cs' := [iv c19.1.default, x21]) rfl (by first | rfl | simp [(O26.one (A := Bigram) (s := c19.1.bigrams) 3 rfl).1, (O26.one (A := Bigram) (s := c19.1.bigrams) 3 rfl).2]) (by simp) (by first | rfl | simp [(O26.one (A := Bigram) (s := c19.1.bigrams) 3 rfl).1, (O26.one (A := Bigram) (s := c19.1.bigrams) 3 rfl).2]) (by first | rfl | simp [splice, (O26.one (A := Bigram) (s := c19.1.bigrams) 3 rfl).1, (O26.one (A := Bigram) (s := c19.1.bigrams) 3 rfl).2]) (fun h28 O29 => ?_)
      replace O29 : Hold B h28 [(AV.ptr o1 1 0 0, .pt 2 [iv aM_.default, Sl.enc aM_.bigrams]), (AV.ptr o5 1 0 0, .pt 3 [sv aB_.first, sv aB_.second, iv aB_.cost]), (x15, obS (c13.bigrams : Sl Bigram)), (x21, obS (c19.1.bigrams : Sl Bigram)), (AV.ptr o24 1 0 0, .pt 2 [iv c19.1.default, x21])] := O29
      refine sim_let (v := AV.agg [iv aM_.default, Sl.enc aM_.bigrams]) (O29.ld 0 rfl true 2 0) ?_
      refine sim_call1 he_laws_toModel (snapD_nr _ aM_ rfl) (fun c30 => ?_)
      refine sim_hand1 O29 (c30.bigrams : Sl Bigram) (fun z1 => AV.agg [iv c30.default, z1]) (by intro b; simp only [mat_tup, mat_aggD, mat_agg, matLc, matLn, mat_iv, mat_bv, mat_sv, mat_bt, mat_nilS, mat_rS, List.append_nil, List.nil_append, List.length_nil, Nat.add_zero]) (by simp only [noF_tup, noF_aggD, noF_agg, noF_iv, noF_bv, noF_sv, noF_bt, noF_nilS, noF_rS, List.all_cons, List.all_nil, Bool.and_self]) (fun x32 h33 O34 => ?_)
      replace O34 : Hold B h33 [(AV.ptr o1 1 0 0, .pt 2 [iv aM_.default, Sl.enc aM_.bigrams]), (AV.ptr o5 1 0 0, .pt 3 [sv aB_.first, sv aB_.second, iv aB_.cost]), (x15, obS (c13.bigrams : Sl Bigram)), (x21, obS (c19.1.bigrams : Sl Bigram)), (AV.ptr o24 1 0 0, .pt 2 [iv c19.1.default, x21]), (x32, obS (c30.bigrams : Sl Bigram))] := O34
      refine sim_box O34 (cs := [iv 0, nilS]) (by first | rfl | simp) (fun o35 h36 O37 => ?_)
      replace O37 : Hold B h36 [(AV.ptr o1 1 0 0, .pt 2 [iv aM_.default, Sl.enc aM_.bigrams]), (AV.ptr o5 1 0 0, .pt 3 [sv aB_.first, sv aB_.second, iv aB_.cost]), (x15, obS (c13.bigrams : Sl Bigram)), (x21, obS (c19.1.bigrams : Sl Bigram)), (AV.ptr o24 1 0 0, .pt 2 [iv c19.1.default, x21]), (x32, obS (c30.bigrams : Sl Bigram)), (AV.ptr o35 1 0 0, .pt 2 [iv 0, nilS])] := O37
      refine sim_store O37 6 (cs' := [iv c30.default, x32]) rfl (by first | rfl | simp [(O37.one (A := Bigram) (s := c30.bigrams) 5 rfl).1, (O37.one (A := Bigram) (s := c30.bigrams) 5 rfl).2]) (by simp) (by first | rfl | simp [(O37.one (A := Bigram) (s := c30.bigrams) 5 rfl).1, (O37.one (A := Bigram) (s := c30.bigrams) 5 rfl).2]) (by first | rfl | simp [splice, (O37.one (A := Bigram) (s := c30.bigrams) 5 rfl).1, (O37.one (A := Bigram) (s := c30.bigrams) 5 rfl).2]) (fun h39 O40 => ?_)
      replace O40 : Hold B h39 [(AV.ptr o1 1 0 0, .pt 2 [iv aM_.default, Sl.enc aM_.bigrams]), (AV.ptr o5 1 0 0, .pt 3 [sv aB_.first, sv aB_.second, iv aB_.cost]), (x15, obS (c13.bigrams : Sl Bigram)), (x21, obS (c19.1.bigrams : Sl Bigram)), (AV.ptr o24 1 0 0, .pt 2 [iv c19.1.default, x21]), (x32, obS (c30.bigrams : Sl Bigram)), (AV.ptr o35 1 0 0, .pt 2 [iv c30.default, x32])] := O40
      refine sim_let (v := AV.agg [iv c30.default, x32]) (O40.ld 6 rfl true 2 0) ?_
      refine sim_let (v := AV.agg [sv aB_.first, sv aB_.second, iv aB_.cost]) (O40.ld 1 rfl true 3 0) ?_
      refine sim_callVQ1 (t := (fun b : Bigram => b)) he_laws_toBigram (snapD_nr _ aB_ rfl) (fun c41 => ?_)
      refine sim_callQ2 he_impl_SetBigram (snapD_own h39 c30 rfl (by simp [omap, O40.snap7 (A := Bigram) (s := c30.bigrams) 5 rfl])) (snapD_nr _ c41 rfl) (fun c42 => ?_)
      refine sim_hand1 O40 (c42.1.bigrams : Sl Bigram) (fun z1 => AV.tup [AV.agg [iv c42.1.default, z1], iv c42.2]) (by intro b; simp only [mat_tup, mat_aggD, mat_agg, matLc, matLn, mat_iv, mat_bv, mat_sv, mat_bt, mat_nilS, mat_rS, List.append_nil, List.nil_append, List.length_nil, Nat.add_zero]) (by simp only [noF_tup, noF_aggD, noF_agg, noF_iv, noF_bv, noF_sv, noF_bt, noF_nilS, noF_rS, List.all_cons, List.all_nil, Bool.and_self]) (fun x44 h45 O46 => ?_)
      replace O46 : Hold B h45 [(AV.ptr o1 1 0 0, .pt 2 [iv aM_.default, Sl.enc aM_.bigrams]), (AV.ptr o5 1 0 0, .pt 3 [sv aB_.first, sv aB_.second, iv aB_.cost]), (x15, obS (c13.bigrams : Sl Bigram)), (x21, obS (c19.1.bigrams : Sl Bigram)), (AV.ptr o24 1 0 0, .pt 2 [iv c19.1.default, x21]), (x32, obS (c30.bigrams : Sl Bigram)), (AV.ptr o35 1 0 0, .pt 2 [iv c30.default, x32]), (x44, obS (c42.1.bigrams : Sl Bigram))] := O46
      refine sim_let (v := AV.agg [iv c42.1.default, x44]) rfl ?_
      refine sim_let (v := iv c42.2) rfl ?_
      refine sim_box O46 (cs := [iv 0, nilS]) (by first | rfl | simp) (fun o47 h48 O49 => ?_)
      replace O49 : Hold B h48 [(AV.ptr o1 1 0 0, .pt 2 [iv aM_.default, Sl.enc aM_.bigrams]), (AV.ptr o5 1 0 0, .pt 3 [sv aB_.first, sv aB_.second, iv aB_.cost]), (x15, obS (c13.bigrams : Sl Bigram)), (x21, obS (c19.1.bigrams : Sl Bigram)), (AV.ptr o24 1 0 0, .pt 2 [iv c19.1.default, x21]), (x32, obS (c30.bigrams : Sl Bigram)), (AV.ptr o35 1 0 0, .pt 2 [iv c30.default, x32]), (x44, obS (c42.1.bigrams : Sl Bigram)), (AV.ptr o47 1 0 0, .pt 2 [iv 0, nilS])] := O49
      refine sim_store O49 8 (cs' := [iv c42.1.default, x44]) rfl (by first | rfl | simp [(O49.one (A := Bigram) (s := c42.1.bigrams) 7 rfl).1, (O49.one (A := Bigram) (s := c42.1.bigrams) 7 rfl).2]) (by simp) (by first | rfl | simp [(O49.one (A := Bigram) (s := c42.1.bigrams) 7 rfl).1, (O49.one (A := Bigram) (s := c42.1.bigrams) 7 rfl).2]) (by first | rfl | simp [splice, (O49.one (A := Bigram) (s := c42.1.bigrams) 7 rfl).1, (O49.one (A := Bigram) (s := c42.1.bigrams) 7 rfl).2]) (fun h51 O52 => ?_)
      replace O52 : Hold B h51 [(AV.ptr o1 1 0 0, .pt 2 [iv aM_.default, Sl.enc aM_.bigrams]), (AV.ptr o5 1 0 0, .pt 3 [sv aB_.first, sv aB_.second, iv aB_.cost]), (x15, obS (c13.bigrams : Sl Bigram)), (x21, obS (c19.1.bigrams : Sl Bigram)), (AV.ptr o24 1 0 0, .pt 2 [iv c19.1.default, x21]), (x32, obS (c30.bigrams : Sl Bigram)), (AV.ptr o35 1 0 0, .pt 2 [iv c30.default, x32]), (x44, obS (c42.1.bigrams : Sl Bigram)), (AV.ptr o47 1 0 0, .pt 2 [iv c42.1.default, x44])] := O52
      refine sim_let (v := AV.agg [iv c42.1.default, x44]) (O52.ld 8 rfl true 2 0) ?_
      refine sim_let (v := AV.agg [iv c19.1.default, x21]) (O52.ld 4 rfl true 2 0) ?_
      refine sim_call2 he_laws_eqModel (snapD_own h51 c42.1 rfl (by simp [omap, O52.snap7 (A := Bigram) (s := c42.1.bigrams) 7 rfl])) (snapD_own h51 c19.1 rfl (by simp [omap, O52.snap7 (A := Bigram) (s := c19.1.bigrams) 3 rfl])) (fun c53 => ?_)
      refine sim_let2 (hand_plain (by rfl) _ _) ?_
      refine sim_let (v := bv (!c53)) (aUn_not _) ?_
      refine sim_guardF (e := bv) (fun hb54 => ?_) (fun c55 => ?_)
      · refine sim_let (v := bv (!decide (c42.2 = c19.2))) (aCmp_ne _ _) ?_
        exact sim_ret rfl
      · refine sim_let (v := bv (bif !c53 then true else c55)) (pick_b' _ _ _) ?_
        refine sim_cond (fun c56 => ?_) (fun c56 => ?_)
        · exact sim_ret (release_plain (by rfl) _)
        · refine sim_let (v := AV.agg [iv c30.default, x32]) (O52.ld 6 rfl true 2 0) ?_
          refine sim_let (v := AV.agg [iv aM_.default, Sl.enc aM_.bigrams]) (O52.ld 0 rfl true 2 0) ?_
          refine sim_callQ1 he_laws_toModel (snapD_nr _ aM_ rfl) (fun c57 => ?_)
          refine sim_hand1 O52 (c57.bigrams : Sl Bigram) (fun z1 => AV.agg [iv c57.default, z1]) (by intro b; simp only [mat_tup, mat_aggD, mat_agg, matLc, matLn, mat_iv, mat_bv, mat_sv, mat_bt, mat_nilS, mat_rS, List.append_nil, List.nil_append, List.length_nil, Nat.add_zero]) (by simp only [noF_tup, noF_aggD, noF_agg, noF_iv, noF_bv, noF_sv, noF_bt, noF_nilS, noF_rS, List.all_cons, List.all_nil, Bool.and_self]) (fun x59 h60 O61 => ?_)
          replace O61 : Hold B h60 [(AV.ptr o1 1 0 0, .pt 2 [iv aM_.default, Sl.enc aM_.bigrams]), (AV.ptr o5 1 0 0, .pt 3 [sv aB_.first, sv aB_.second, iv aB_.cost]), (x15, obS (c13.bigrams : Sl Bigram)), (x21, obS (c19.1.bigrams : Sl Bigram)), (AV.ptr o24 1 0 0, .pt 2 [iv c19.1.default, x21]), (x32, obS (c30.bigrams : Sl Bigram)), (AV.ptr o35 1 0 0, .pt 2 [iv c30.default, x32]), (x44, obS (c42.1.bigrams : Sl Bigram)), (AV.ptr o47 1 0 0, .pt 2 [iv c42.1.default, x44]), (x59, obS (c57.bigrams : Sl Bigram))] := O61
          refine sim_callQ2 he_laws_eqModel (snapD_own h60 c30 rfl (by simp [omap, O61.snap7 (A := Bigram) (s := c30.bigrams) 5 rfl])) (snapD_own h60 c57 rfl (by simp [omap, O61.snap7 (A := Bigram) (s := c57.bigrams) 9 rfl])) (fun c62 => ?_)
          refine sim_let2 (hand_plain (by rfl) _ _) ?_
          refine sim_let (v := bv (!c62)) (aUn_not _) ?_
          refine sim_cond (fun c63 => ?_) (fun c63 => ?_)
          · exact sim_ret (release_plain (by rfl) _)
          · refine sim_let (v := AV.agg [iv c30.default, x32]) (O61.ld 6 rfl true 2 0) ?_
            refine sim_markG (A := Bigram) (w := 2) (j := 1) O61 5 rfl he_laws_markModel mk_laws_markModel (by simp [(O61.one (A := Bigram) (s := c30.bigrams) 5 rfl).2]) rfl rfl (fun r64 w65 h66 O67 => ?_)
            replace O67 : Hold B h66 [(AV.ptr o1 1 0 0, .pt 2 [iv aM_.default, Sl.enc aM_.bigrams]), (AV.ptr o5 1 0 0, .pt 3 [sv aB_.first, sv aB_.second, iv aB_.cost]), (x15, obS (c13.bigrams : Sl Bigram)), (x21, obS (c19.1.bigrams : Sl Bigram)), (AV.ptr o24 1 0 0, .pt 2 [iv c19.1.default, x21]), (x32, obS (w65 : Sl Bigram)), (AV.ptr o35 1 0 0, .pt 2 [iv c30.default, x32]), (x44, obS (c42.1.bigrams : Sl Bigram)), (AV.ptr o47 1 0 0, .pt 2 [iv c42.1.default, x44]), (x59, obS (c57.bigrams : Sl Bigram))] := O67
            refine sim_let (v := bv (decide (r64 < 0))) (aBin_lss _ _) ?_
            refine sim_guardF (e := bv) (fun hb68 => ?_) (fun c70 => ?_)
            · refine sim_let (v := AV.agg [iv c42.1.default, x44]) (O67.ld 8 rfl true 2 0) ?_
              refine sim_let (v := AV.agg [iv c19.1.default, x21]) (O67.ld 4 rfl true 2 0) ?_
              refine sim_call2 he_laws_eqModel (snapD_own h66 c42.1 rfl (by simp [omap, O67.snap7 (A := Bigram) (s := c42.1.bigrams) 7 rfl])) (snapD_own h66 c19.1 rfl (by simp [omap, O67.snap7 (A := Bigram) (s := c19.1.bigrams) 3 rfl])) (fun c69 => ?_)
              refine sim_let2 (hand_plain (by rfl) _ _) ?_
              refine sim_let (v := bv (!c69)) (aUn_not _) ?_
              exact sim_ret rfl
            · refine sim_let (v := bv (bif decide (r64 < 0) then true else c70)) (pick_b' _ _ _) ?_
              refine sim_guardF (e := bv) (fun hb71 => ?_) (fun c72 => ?_)
              · refine sim_let (v := bv (!decide (c42.2 = c19.2))) (aCmp_ne _ _) ?_
                exact sim_ret rfl
              · refine sim_let (v := bv (bif (bif decide (r64 < 0) then true else c70) then true else c72)) (pick_b' _ _ _) ?_
                refine sim_cond (fun c73 => ?_) (fun c73 => ?_)
                · exact sim_ret (release_plain (by rfl) _)
                · refine sim_let (v := AV.agg [iv c42.1.default, x44]) (O67.ld 8 rfl true 2 0) ?_
                  refine sim_markG (A := Bigram) (w := 2) (j := 1) O67 7 rfl he_laws_markModel mk_laws_markModel (by simp [(O67.one (A := Bigram) (s := c42.1.bigrams) 7 rfl).2]) rfl rfl (fun r74 w75 h76 O77 => ?_)
                  replace O77 : Hold B h76 [(AV.ptr o1 1 0 0, .pt 2 [iv aM_.default, Sl.enc aM_.bigrams]), (AV.ptr o5 1 0 0, .pt 3 [sv aB_.first, sv aB_.second, iv aB_.cost]), (x15, obS (c13.bigrams : Sl Bigram)), (x21, obS (c19.1.bigrams : Sl Bigram)), (AV.ptr o24 1 0 0, .pt 2 [iv c19.1.default, x21]), (x32, obS (w65 : Sl Bigram)), (AV.ptr o35 1 0 0, .pt 2 [iv c30.default, x32]), (x44, obS (w75 : Sl Bigram)), (AV.ptr o47 1 0 0, .pt 2 [iv c42.1.default, x44]), (x59, obS (c57.bigrams : Sl Bigram))] := O77
                  refine sim_let (v := AV.agg [iv c42.1.default, x44]) (O77.ld 8 rfl true 2 0) ?_
                  refine sim_call2 he_laws_heldModel (snapD_own h76 (⟨c42.1.default, w75⟩ : Model) rfl (by simp [omap, O77.snap7 (A := Bigram) (s := w75) 7 rfl])) (snapD_int _ _) (fun c78 => ?_)
                  refine sim_let2 (hand_plain (by rfl) _ _) ?_
                  refine sim_let (v := bv (decide (c78 < 0))) (aBin_lss _ _) ?_
                  refine sim_cond (fun c79 => ?_) (fun c79 => ?_)
                  · exact sim_ret (release_plain (by rfl) _)
                  · refine sim_let (v := bv (!decide (c78 = r74))) (aCmp_ne _ _) ?_
                    refine sim_cond (fun c80 => ?_) (fun c80 => ?_)
                    · exact sim_ret (release_plain (by rfl) _)
                    · refine sim_let (v := AV.agg [iv aM_.default, Sl.enc aM_.bigrams]) (O77.ld 0 rfl true 2 0) ?_
                      refine sim_callQ1 he_laws_toModel (snapD_nr _ aM_ rfl) (fun c81 => ?_)
                      refine sim_hand1 O77 (c81.bigrams : Sl Bigram) (fun z1 => AV.agg [iv c81.default, z1]) (by intro b; simp only [mat_tup, mat_aggD, mat_agg, matLc, matLn, mat_iv, mat_bv, mat_sv, mat_bt, mat_nilS, mat_rS, List.append_nil, List.nil_append, List.length_nil, Nat.add_zero]) (by simp only [noF_tup, noF_aggD, noF_agg, noF_iv, noF_bv, noF_sv, noF_bt, noF_nilS, noF_rS, List.all_cons, List.all_nil, Bool.and_self]) (fun x83 h84 O85 => ?_)
                      replace O85 : Hold B h84 [(AV.ptr o1 1 0 0, .pt 2 [iv aM_.default, Sl.enc aM_.bigrams]), (AV.ptr o5 1 0 0, .pt 3 [sv aB_.first, sv aB_.second, iv aB_.cost]), (x15, obS (c13.bigrams : Sl Bigram)), (x21, obS (c19.1.bigrams : Sl Bigram)), (AV.ptr o24 1 0 0, .pt 2 [iv c19.1.default, x21]), (x32, obS (w65 : Sl Bigram)), (AV.ptr o35 1 0 0, .pt 2 [iv c30.default, x32]), (x44, obS (w75 : Sl Bigram)), (AV.ptr o47 1 0 0, .pt 2 [iv c42.1.default, x44]), (x59, obS (c57.bigrams : Sl Bigram)), (x83, obS (c81.bigrams : Sl Bigram))] := O85
                      refine sim_let (v := AV.agg [sv aB_.first, sv aB_.second, iv aB_.cost]) (O85.ld 1 rfl true 3 0) ?_
                      refine sim_callVQ1 (t := (fun b : Bigram => b)) he_laws_toBigram (snapD_nr _ aB_ rfl) (fun c86 => ?_)
                      refine sim_callQ2 he_impl_SetBigram (snapD_own h84 c81 rfl (by simp [omap, O85.snap7 (A := Bigram) (s := c81.bigrams) 10 rfl])) (snapD_nr _ c86 rfl) (fun c87 => ?_)
                      refine sim_hand1 O85 (c87.1.bigrams : Sl Bigram) (fun z1 => AV.tup [AV.agg [iv c87.1.default, z1], iv c87.2]) (by intro b; simp only [mat_tup, mat_aggD, mat_agg, matLc, matLn, mat_iv, mat_bv, mat_sv, mat_bt, mat_nilS, mat_rS, List.append_nil, List.nil_append, List.length_nil, Nat.add_zero]) (by simp only [noF_tup, noF_aggD, noF_agg, noF_iv, noF_bv, noF_sv, noF_bt, noF_nilS, noF_rS, List.all_cons, List.all_nil, Bool.and_self]) (fun x89 h90 O91 => ?_)
                      replace O91 : Hold B h90 [(AV.ptr o1 1 0 0, .pt 2 [iv aM_.default, Sl.enc aM_.bigrams]), (AV.ptr o5 1 0 0, .pt 3 [sv aB_.first, sv aB_.second, iv aB_.cost]), (x15, obS (c13.bigrams : Sl Bigram)), (x21, obS (c19.1.bigrams : Sl Bigram)), (AV.ptr o24 1 0 0, .pt 2 [iv c19.1.default, x21]), (x32, obS (w65 : Sl Bigram)), (AV.ptr o35 1 0 0, .pt 2 [iv c30.default, x32]), (x44, obS (w75 : Sl Bigram)), (AV.ptr o47 1 0 0, .pt 2 [iv c42.1.default, x44]), (x59, obS (c57.bigrams : Sl Bigram)), (x83, obS (c81.bigrams : Sl Bigram)), (x89, obS (c87.1.bigrams : Sl Bigram))] := O91
                      refine sim_let (v := AV.agg [iv c87.1.default, x89]) rfl ?_
                      refine sim_let (v := iv c87.2) rfl ?_
                      refine sim_box O91 (cs := [iv 0, nilS]) (by first | rfl | simp) (fun o92 h93 O94 => ?_)
                      replace O94 : Hold B h93 [(AV.ptr o1 1 0 0, .pt 2 [iv aM_.default, Sl.enc aM_.bigrams]), (AV.ptr o5 1 0 0, .pt 3 [sv aB_.first, sv aB_.second, iv aB_.cost]), (x15, obS (c13.bigrams : Sl Bigram)), (x21, obS (c19.1.bigrams : Sl Bigram)), (AV.ptr o24 1 0 0, .pt 2 [iv c19.1.default, x21]), (x32, obS (w65 : Sl Bigram)), (AV.ptr o35 1 0 0, .pt 2 [iv c30.default, x32]), (x44, obS (w75 : Sl Bigram)), (AV.ptr o47 1 0 0, .pt 2 [iv c42.1.default, x44]), (x59, obS (c57.bigrams : Sl Bigram)), (x83, obS (c81.bigrams : Sl Bigram)), (x89, obS (c87.1.bigrams : Sl Bigram)), (AV.ptr o92 1 0 0, .pt 2 [iv 0, nilS])] := O94
                      refine sim_store O94 12 (cs' := [iv c87.1.default, x89]) rfl (by first | rfl | simp [(O94.one (A := Bigram) (s := c87.1.bigrams) 11 rfl).1, (O94.one (A := Bigram) (s := c87.1.bigrams) 11 rfl).2]) (by simp) (by first | rfl | simp [(O94.one (A := Bigram) (s := c87.1.bigrams) 11 rfl).1, (O94.one (A := Bigram) (s := c87.1.bigrams) 11 rfl).2]) (by first | rfl | simp [splice, (O94.one (A := Bigram) (s := c87.1.bigrams) 11 rfl).1, (O94.one (A := Bigram) (s := c87.1.bigrams) 11 rfl).2]) (fun h96 O97 => ?_)
                      replace O97 : Hold B h96 [(AV.ptr o1 1 0 0, .pt 2 [iv aM_.default, Sl.enc aM_.bigrams]), (AV.ptr o5 1 0 0, .pt 3 [sv aB_.first, sv aB_.second, iv aB_.cost]), (x15, obS (c13.bigrams : Sl Bigram)), (x21, obS (c19.1.bigrams : Sl Bigram)), (AV.ptr o24 1 0 0, .pt 2 [iv c19.1.default, x21]), (x32, obS (w65 : Sl Bigram)), (AV.ptr o35 1 0 0, .pt 2 [iv c30.default, x32]), (x44, obS (w75 : Sl Bigram)), (AV.ptr o47 1 0 0, .pt 2 [iv c42.1.default, x44]), (x59, obS (c57.bigrams : Sl Bigram)), (x83, obS (c81.bigrams : Sl Bigram)), (x89, obS (c87.1.bigrams : Sl Bigram)), (AV.ptr o92 1 0 0, .pt 2 [iv c87.1.default, x89])] := O97
                      refine sim_let (v := AV.agg [iv c87.1.default, x89]) (O97.ld 12 rfl true 2 0) ?_
                      refine sim_let (v := AV.agg [iv c19.1.default, x21]) (O97.ld 4 rfl true 2 0) ?_
                      refine sim_call2 he_laws_eqModel (snapD_own h96 c87.1 rfl (by simp [omap, O97.snap7 (A := Bigram) (s := c87.1.bigrams) 11 rfl])) (snapD_own h96 c19.1 rfl (by simp [omap, O97.snap7 (A := Bigram) (s := c19.1.bigrams) 3 rfl])) (fun c98 => ?_)
                      refine sim_let2 (hand_plain (by rfl) _ _) ?_
                      refine sim_let (v := bv (!c98)) (aUn_not _) ?_
                      refine sim_guardF (e := bv) (fun hb99 => ?_) (fun c100 => ?_)
                      · refine sim_let (v := bv (!decide (c87.2 = c19.2))) (aCmp_ne _ _) ?_
                        exact sim_ret rfl
                      · refine sim_let (v := bv (bif !c98 then true else c100)) (pick_b' _ _ _) ?_
                        refine sim_cond (fun c101 => ?_) (fun c101 => ?_)
                        · exact sim_ret (release_plain (by rfl) _)
                        · refine sim_let (v := AV.agg [iv c42.1.default, x44]) (O97.ld 8 rfl true 2 0) ?_
                          refine sim_call2 he_laws_heldModel (snapD_own h96 (⟨c42.1.default, w75⟩ : Model) rfl (by simp [omap, O97.snap7 (A := Bigram) (s := w75) 7 rfl])) (snapD_int _ _) (fun c102 => ?_)
                          refine sim_let2 (hand_plain (by rfl) _ _) ?_
                          refine sim_let (v := bv (decide (c102 < 0))) (aBin_lss _ _) ?_
                          refine sim_cond (fun c103 => ?_) (fun c103 => ?_)
                          · exact sim_ret (release_plain (by rfl) _)
                          · refine sim_let (v := bv (!decide (c102 = r74))) (aCmp_ne _ _) ?_
                            refine sim_cond (fun c104 => ?_) (fun c104 => ?_)
                            · exact sim_ret (release_plain (by rfl) _)
                            · exact sim_ret (release_plain (by rfl) _)
theorem tt_laws_FnExactSetBigram : PureOK Try.prog n_laws_FnExactSetBigram (C2 (fun c : Bool => enc c) t_laws_FnExactSetBigram) := pureC2 (Econs tt_impl_SetBigram (Econs tt_laws_eqModel (Econs tt_laws_heldModel (EconsG (gen_of_den eo_laws_markModel mixed hb_laws_markModel) (Econs tt_laws_szBigram (Econs tt_laws_szModel (Econs ok_laws_toBigram (Econs tt_laws_toModel (Econs tt_spec_SetBigram E0))))))))) mixed hb_laws_FnExactSetBigram fun aM_ aB_ => ts_laws_FnExactSetBigram _ (by simp [envL]) (by simp [envL]) (by simp [envL]) (by simp [envL]) (by simp [envL]) (by simp [envL]) (by simp [envL]) (by simp [envL]) (by simp [envL]) aM_ aB_

/-- The source has been read up to `k` at most. -/
structure SK (s : l00Src) (k : Int) : Prop where
  lo : 0 ≤ s.pos
  hi : s.pos ≤ k

theorem SK.mono {s : l00Src} {k k' : Int} (h : SK s k) (hk : k ≤ k') : SK s k' := ⟨h.lo, by have := h.hi; omega⟩

theorem wr_succ {k n : Nat} (h : k < n) (hn : n ≤ 4294967296) : wr ((k : Int) + 1) = ((k + 1 : Nat) : Int) := by
  rw [wr_id (by omega) (by omega)]
  omega

theorem get_lt {A : Type} {l : List A} {k : Nat} {a : A} (h : l[k]? = some a) : k < l.length := (List.getElem?_eq_some_iff.1 h).1

/-- A point that is one; the points of a stroke that is one. -/
structure PtV (p : Point) : Prop where
  x0 : 0 ≤ p.x
  x1 : p.x ≤ 4095
  y0 : 0 ≤ p.y
  y1 : p.y ≤ 4095
  t0 : 0 ≤ p.t
  t1 : p.t ≤ 3600000

structure StV (l : List Point) : Prop where
  pts : ∀ p ∈ l, PtV p
  inc : ∀ (k : Nat) p q, l[k]? = some p → l[k + 1]? = some q → p.t < q.t
  n1 : 1 ≤ l.length
  n2 : l.length ≤ 60

/-- Points of a bounded size. -/
structure PtB (p : Point) : Prop where
  x0 : -10000000 ≤ p.x
  x1 : p.x ≤ 10000000
  y0 : -10000000 ≤ p.y
  y1 : p.y ≤ 10000000
  t0 : -10000000 ≤ p.t
  t1 : p.t ≤ 10000000

structure StB (s : Stroke) : Prop where
  n : (s.points.getD []).length ≤ 100
  pts : ∀ p ∈ s.points.getD [], PtB p

theorem PtV.b {p : Point} (h : PtV p) : PtB p := by
  obtain ⟨h1, h2, h3, h4, h5, h6⟩ := h
  exact ⟨by omega, by omega, by omega, by omega, by omega, by omega⟩

theorem StV.b {l : List Point} (h : StV l) : StB ⟨some l⟩ := ⟨Nat.le_trans h.n2 (by omega), fun p hp => (h.pts p hp).b⟩

/-- Ink that is one. -/
structure InkV (L : List Stroke) : Prop where
  st : ∀ s ∈ L, ∃ l, s = ⟨some l⟩ ∧ StV l
  inc : ∀ (k : Nat) l l', L[k]? = some ⟨some l⟩ → L[k + 1]? = some ⟨some l'⟩ → ∀ p ∈ l, ∀ q ∈ l', p.t < q.t
  n : L.length ≤ 16

theorem InkV.b {L : List Stroke} (h : InkV L) : ∀ x ∈ L, StB x := fun x hx => by
  obtain ⟨l, rfl, hl⟩ := h.st x hx
  exact hl.b

theorem firstL_no {A R : Type} {f : Nat → A → Option R} : ∀ {l : List A} {k : Nat}, firstL f l k = none → ∀ i a, l[i]? = some a → f (k + i) a = none
  | [], _, _, i, a, ha => by simp at ha
  | b :: l, k, h, i, a, ha => by
    unfold firstL at h
    cases e : f k b with
    | some r => rw [e] at h; cases h
    | none =>
      rw [e] at h
      cases i with
      | zero =>
        simp only [List.getElem?_cons_zero, Option.some.injEq] at ha
        subst ha
        exact e
      | succ i =>
        have := firstL_no h i a (by simpa using ha)
        rw [← this]
        congr 1
        omega

theorem firstL_so {A R : Type} {f : Nat → A → Option R} : ∀ {l : List A} {k : Nat} {r : R}, firstL f l k = some r → ∃ i a, f i a = some r
  | [], _, _, h => by cases h
  | b :: l, k, r, h => by
    unfold firstL at h
    cases e : f k b with
    | some r' => rw [e] at h; cases h; exact ⟨k, b, e⟩
    | none => rw [e] at h; exact firstL_so h

theorem StB.le {s : Stroke} (h : StB s) : (s.points.getD []).length ≤ 4294967296 := Nat.le_trans h.n (by omega)

def pt (l : List Point) (i : Nat) : Point := l.getD i ⟨0, 0, 0⟩

/-- One pair lies ahead of another. -/
def Pre (p q i j : Nat) : Prop := (i = p + 1 ∧ j = q + 1) ∨ (i = p + 1 ∧ j = q) ∨ (i = p ∧ j = q + 1)

/-- A path's cost, from the first pair on. -/
inductive Pth (C : Nat → Nat → Int) (R : Nat → Nat → Prop) : Nat → Nat → Int → Prop
  | start : R 0 0 → Pth C R 0 0 (C 0 0)
  | step {p q i j : Nat} {c : Int} : Pth C R p q c → Pre p q i j → R i j → Pth C R i j (c + C i j)

/-- The least cost of the paths to a pair, `B` where there is none. -/
def Opt (B : Int) (C : Nat → Nat → Int) (R : Nat → Nat → Prop) (i j : Nat) (v : Int) : Prop :=
  (v = B ∧ ∀ c, ¬ Pth C R i j c) ∨ (v < B ∧ Pth C R i j v ∧ ∀ c, Pth C R i j c → v ≤ c)

theorem Opt.le {B : Int} {C : Nat → Nat → Int} {R : Nat → Nat → Prop} {i j : Nat} {v : Int} (h : Opt B C R i j v) : v ≤ B := by
  rcases h with ⟨h, _⟩ | ⟨h, _⟩ <;> omega

theorem Pth.mono {C D : Nat → Nat → Int} {R S : Nat → Nat → Prop} {i j : Nat} {c : Int} (h : Pth C R i j c) (hR : ∀ p q, p ≤ i → q ≤ j → R p q → S p q) (hC : ∀ p q, p ≤ i → q ≤ j → C p q = D p q) : Pth D S i j c := by
  induction h with
  | start h =>
    rw [hC 0 0 (Nat.le_refl _) (Nat.le_refl _)]
    exact .start (hR 0 0 (Nat.le_refl _) (Nat.le_refl _) h)
  | @step p q i j c h1 h2 h3 ih =>
    have hle : p ≤ i ∧ q ≤ j := by rcases h2 with h | h | h <;> omega
    rw [hC i j (Nat.le_refl _) (Nat.le_refl _)]
    exact .step (ih (fun a b h4 h5 => hR a b (by omega) (by omega)) (fun a b h4 h5 => hC a b (by omega) (by omega))) h2 (hR i j (Nat.le_refl _) (Nat.le_refl _) h3)

/-- A table's entry. -/
def Val (T : List (Sl Int)) (p q : Nat) (v : Int) : Prop := ∃ row, T[p]? = some (some row) ∧ row[q]? = some v

theorem Val.set {T : List (Sl Int)} {i j p q : Nat} {row : List Int} {v w : Int} (hr : T[i]? = some (some row)) (hj : j < row.length) :
    Val (T.set i (some (row.set j w))) p q v ↔ (p = i ∧ q = j ∧ v = w) ∨ (¬ (p = i ∧ q = j) ∧ Val T p q v) := by
  have hi := get_lt hr
  unfold Val
  constructor
  · rintro ⟨r, h1, h2⟩
    by_cases c : i = p
    · subst c
      rw [List.getElem?_set_self hi] at h1
      cases h1
      by_cases d : j = q
      · subst d
        rw [List.getElem?_set_self hj] at h2
        cases h2
        exact .inl ⟨rfl, rfl, rfl⟩
      · rw [List.getElem?_set_ne d] at h2
        exact .inr ⟨fun h => d h.2.symm, row, hr, h2⟩
    · rw [List.getElem?_set_ne c] at h1
      exact .inr ⟨fun h => c h.1.symm, r, h1, h2⟩
  · rintro (⟨rfl, rfl, rfl⟩ | ⟨hne, r, h1, h2⟩)
    · exact ⟨_, List.getElem?_set_self hi, List.getElem?_set_self hj⟩
    · by_cases c : i = p
      · subst c
        rw [hr] at h1
        cases h1
        have d : j ≠ q := fun h => hne ⟨rfl, h.symm⟩
        exact ⟨_, List.getElem?_set_self hi, by rw [List.getElem?_set_ne d]; exact h2⟩
      · exact ⟨r, by rw [List.getElem?_set_ne c]; exact h1, h2⟩

def PVal (T : List (Sl Part)) (p q : Nat) (v : Part) : Prop := ∃ row, T[p]? = some (some row) ∧ row[q]? = some v

theorem PVal.set {T : List (Sl Part)} {i j p q : Nat} {row : List Part} {v w : Part} (hr : T[i]? = some (some row)) (hj : j < row.length) :
    PVal (T.set i (some (row.set j w))) p q v ↔ (p = i ∧ q = j ∧ v = w) ∨ (¬ (p = i ∧ q = j) ∧ PVal T p q v) := by
  have hi := get_lt hr
  unfold PVal
  constructor
  · rintro ⟨r, h1, h2⟩
    by_cases c : i = p
    · subst c
      rw [List.getElem?_set_self hi] at h1
      cases h1
      by_cases d : j = q
      · subst d
        rw [List.getElem?_set_self hj] at h2
        cases h2
        exact .inl ⟨rfl, rfl, rfl⟩
      · rw [List.getElem?_set_ne d] at h2
        exact .inr ⟨fun h => d h.2.symm, row, hr, h2⟩
    · rw [List.getElem?_set_ne c] at h1
      exact .inr ⟨fun h => c h.1.symm, r, h1, h2⟩
  · rintro (⟨rfl, rfl, rfl⟩ | ⟨hne, r, h1, h2⟩)
    · exact ⟨_, List.getElem?_set_self hi, List.getElem?_set_self hj⟩
    · by_cases c : i = p
      · subst c
        rw [hr] at h1
        cases h1
        have d : j ≠ q := fun h => hne ⟨rfl, h.symm⟩
        exact ⟨_, List.getElem?_set_self hi, by rw [List.getElem?_set_ne d]; exact h2⟩
      · exact ⟨r, by rw [List.getElem?_set_ne c]; exact h1, h2⟩

def d2 (a b : Point) : Int := (a.x - b.x) * (a.x - b.x) + (a.y - b.y) * (a.y - b.y)

def pbox (p : Point) : Box := ⟨p.x, p.y, p.x, p.y⟩

/-- One box is in another one. -/
structure InB (a b : Box) : Prop where
  x1 : b.x1 ≤ a.x1
  y1 : b.y1 ≤ a.y1
  x2 : a.x2 ≤ b.x2
  y2 : a.y2 ≤ b.y2

theorem InB.trans {a b c : Box} (h : InB a b) (g : InB b c) : InB a c := ⟨Int.le_trans g.x1 h.x1, Int.le_trans g.y1 h.y1, Int.le_trans h.x2 g.x2, Int.le_trans h.y2 g.y2⟩

end Go.Proofs.Ytkamngokmkncjaa
