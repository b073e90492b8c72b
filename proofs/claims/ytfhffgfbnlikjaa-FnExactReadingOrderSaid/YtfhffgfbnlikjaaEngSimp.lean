import Derived.Test.YtfhffgfbnlikjaaEngGen
namespace Go.Eng
set_option linter.unusedVariables false
set_option linter.unusedSimpArgs false
abbrev wr (n : Int) : Int := IntKind.i64.wrap n
section
variable {α β γ R : Type}
@[simp] theorem kA2 (a : α) (f : α → Option β) : kA0 (some a) f = f a := (rfl)
@[simp] theorem kBs (a : α) (c : γ) (f : α → γ → Option β) : kA3 (some (a, c)) f = f a c := (rfl)
@[simp] theorem kAn (f : α → Option β) : kA0 none f = none := (rfl)
@[simp] theorem obind2_none (f : α → γ → Option β) : kA3 none f = none := (rfl)
@[simp] theorem condB_bv (b : Bool) (t e : Option R) : kAt (bv b) t e = cond b t e := (rfl)
@[simp] theorem guardB_true (b : Bool) (t e : Option α) : kAd (bv b) true t e = cond b t e := by cases b <;> rfl
@[simp] theorem guardB_false (b : Bool) (t e : Option α) : kAd (bv b) false t e = cond b e t := by cases b <;> rfl
@[simp] theorem guardB_und (b : Bool) (t e : Option α) : kAd und b t e = e := (rfl)
@[simp] theorem cond_some (b : Bool) (x y : α) : cond b (some x) (some y) = some (cond b x y) := by cases b <;> rfl
@[simp] theorem map_cond (f : α → β) (b : Bool) (x y : Option α) : Option.map f (cond b x y) = cond b (x.map f) (y.map f) := by cases b <;> rfl
@[simp] theorem cond_pair (b : Bool) (x y : α) (h : γ) : cond b (x, h) (y, h) = (cond b x y, h) := by cases b <;> rfl
@[simp] theorem aPick_bv (b : Bool) (x y : AV) : kCd (bv b) x y = some (cond b x y) := by cases b <;> rfl
@[simp] theorem cond_cond_l (b : Bool) (x y z : α) : cond b (cond b x y) z = cond b x z := by cases b <;> rfl
@[simp] theorem cond_cond_r (b : Bool) (x y z : α) : cond b x (cond b y z) = cond b x z := by cases b <;> rfl
@[simp] theorem cond_and (b c : Bool) : cond b (bv c) (bv false) = bv (b && c) := by cases b <;> rfl
@[simp] theorem cond_or (b c : Bool) : cond b (bv true) (bv c) = bv (b || c) := by cases b <;> rfl
@[simp] theorem cond_bv (b c d : Bool) : cond b (bv c) (bv d) = bv (cond b c d) := by cases b <;> rfl
@[simp] theorem cond_iv (b : Bool) (c d : Int) : cond b (iv c) (iv d) = iv (cond b c d) := by cases b <;> rfl
@[simp] theorem cond_sv (b : Bool) (c d : ByteArray) : cond b (sv c) (sv d) = sv (cond b c d) := by cases b <;> rfl
end
section
variable (a b c : Int) (x y : Bool) (s t : ByteArray)
@[simp] theorem kAi : kAq .add (iv a) (iv b) = some (iv (wr (a + b))) := (rfl)
@[simp] theorem kAp : kAq .sub (iv a) (iv b) = some (iv (wr (a - b))) := (rfl)
@[simp] theorem aBin_mul : kAq .mul (iv a) (iv b) = some (iv (wr (a * b))) := (rfl)
@[simp] theorem kAa : kAq .lss (iv a) (iv b) = some (bv (decide (a < b))) := (rfl)
@[simp] theorem aBin_leq : kAq .leq (iv a) (iv b) = some (bv (decide (a ≤ b))) := (rfl)
@[simp] theorem kE4 : kAq .gtr (iv a) (iv b) = some (bv (decide (b < a))) := (rfl)
@[simp] theorem aBin_geq : kAq .geq (iv a) (iv b) = some (bv (decide (b ≤ a))) := (rfl)
@[simp] theorem aUn_neg : aUn .neg (iv a) = some (iv (wr (0 - a))) := (rfl)
@[simp] theorem kCg : aUn .not (bv x) = some (bv !x) := (rfl)
@[simp] theorem aCmp_eq : kFo .eql .plain (iv a) (iv b) = some (bv (decide (a = b))) := (rfl)
@[simp] theorem kDe : kFo .neq .plain (iv a) (iv b) = some (bv !decide (a = b)) := (rfl)
theorem toList_inj {s t : ByteArray} : s.toList = t.toList ↔ s = t := by
  constructor
  · intro h
    rw [ByteArray.toList_eq, ByteArray.toList_eq] at h
    cases s; cases t
    simp at h
    simp [h]
  · intro h; rw [h]
@[simp] theorem aCmp_eqS : kFo .eql .plain (sv s) (sv t) = some (bv (decide (s = t))) := by
  have : kFo .eql .plain (sv s) (sv t) = some (bv (s.toList == t.toList)) := rfl
  rw [this]; congr 2; by_cases h : s = t
  · simp [h]
  · have h2 : ¬ s.toList = t.toList := fun e => h (toList_inj.1 e)
    simp [h, h2]
@[simp] theorem aCmp_neS : kFo .neq .plain (sv s) (sv t) = some (bv !decide (s = t)) := by
  have : kFo .neq .plain (sv s) (sv t) = some (bv !(s.toList == t.toList)) := rfl
  rw [this]; congr 2; by_cases h : s = t
  · simp [h]
  · have h2 : ¬ s.toList = t.toList := fun e => h (toList_inj.1 e)
    simp [h, h2]
@[simp] theorem aCmp_eqB : kFo .eql .bool (bv x) (bv y) = some (bv (x == y)) := (rfl)
@[simp] theorem aCmp_neB : kFo .neq .bool (bv x) (bv y) = some (bv !(x == y)) := (rfl)
@[simp] theorem kGa : kHu aMax2 (iv a) [iv b] = some (iv (max a b)) := by
  have h : kHu aMax2 (iv a) [iv b] = some (iv (if b > a then b else a)) := rfl
  rw [h]
  congr 2
  split <;> omega
@[simp] theorem aFold_min : kHu aMin2 (iv a) [iv b] = some (iv (min a b)) := by
  have h : kHu aMin2 (iv a) [iv b] = some (iv (if b < a then b else a)) := rfl
  rw [h]
  congr 2
  split <;> omega
theorem maxI : cond (decide (b < a)) a b = max a b := by
  rw [Bool.cond_decide]
  split <;> omega
@[simp] theorem aLenK_str : kBf .str (sv s) = some (iv s.size) := rfl
@[simp] theorem aLenK_nil : kBf .slice kBd = some (iv 0) := rfl
@[simp] theorem aLenK_sl (o ep i n : Nat) : kBf .slice (.sl o ep i n) = some (iv n) := rfl
@[simp] theorem aLenK_fs (k : Nat) (rows : List (List AV)) : kBf .slice (.fs k rows) = some (iv rows.length) := rfl
@[simp] theorem aExtract_tup (l : List AV) (i : Nat) : kDr (.tup l) i = l[i]? := (rfl)
@[simp] theorem kHc (off o ep i j : Nat) : kA7 off (.ptr o ep i j) = some (.ptr o ep i (j + off)) := rfl
@[simp] theorem aFieldAddr_fptr (off k i j : Nat) (rows : List (List AV)) : kA7 off (.fptr k rows i j) = some (.fptr k rows i (j + off)) := rfl
@[simp] theorem cells_agg (cs : List AV) : AV.cells (.agg cs) = cs := rfl
@[simp] theorem cells_iv : AV.cells (iv a) = [iv a] := rfl
@[simp] theorem cells_bv : AV.cells (bv x) = [bv x] := rfl
@[simp] theorem cells_sv : AV.cells (sv s) = [sv s] := rfl
@[simp] theorem cells_nil : AV.cells kBd = [kBd] := rfl
@[simp] theorem cells_sl (o ep i n : Nat) : AV.cells (.sl o ep i n) = [.sl o ep i n] := rfl
@[simp] theorem cells_fs (k : Nat) (rows : List (List AV)) : AV.cells (.fs k rows) = [.fs k rows] := rfl
@[simp] theorem flat_iv : AV.flat (iv a) = true := rfl
@[simp] theorem flat_bv : AV.flat (bv x) = true := rfl
@[simp] theorem flat_sv : AV.flat (sv s) = true := rfl
@[simp] theorem flat_nil : AV.flat kBd = true := rfl
@[simp] theorem flat_sl (o ep i n : Nat) : AV.flat (.sl o ep i n) = true := rfl
@[simp] theorem flat_fs (k : Nat) (rows : List (List AV)) : AV.flat (.fs k rows) = true := rfl
end
@[simp] theorem kDh (f : List AV → Option AV) (args : List AV) (h : kA4) : kAx (.pure f) args h = kAb f args h := (rfl)
@[simp] theorem kEx (f : List AV → Option AV) (args : List AV) (h : kA4) : kCq (.pure f) args h = kAb f args h := (rfl)
@[simp] theorem aCall_gen (F : List AV → kA4 → Option (AV × kA4)) (args : List AV) (h : kA4) : kAx (.gen F) args h = F args h := rfl
def kIc : AV → Bool
  | .sc _ => true
  | .agg cs => cs.all fun | .sc _ => true | _ => false
  | .tup cs => cs.all fun
    | .sc _ => true
    | .agg cs => cs.all fun | .sc _ => true | _ => false
    | _ => false
  | _ => false
theorem kE0 {α : Type} {f : α → Option α} : ∀ {l : List α}, (∀ a ∈ l, f a = some a) → kBb f l = some l
  | [], _ => rfl
  | a :: l, h => by
    have h2 : kBb f l = some l := kE0 fun b hb => h b (by simp [hb])
    simp [kBb, h a (by simp), h2]
theorem matL_id {m : AV → Nat → AV × kA4} : ∀ {l : List AV} {b : Nat}, (∀ a ∈ l, ∀ b, m a b = (a, [])) → kC0 m l b = (l, [])
  | [], _, _ => rfl
  | a :: l, b, h => by
    have h2 : ∀ b, kC0 m l b = (l, []) := fun b => matL_id fun c hc => h c (by simp [hc])
    simp [kC0, h a (by simp), h2]
theorem mat_plain {a : AV} (ha : kIc a = true) (b : Nat) : mat depth a b = (a, []) ∧ noF depth a = true := by
  cases a <;> simp [kIc] at ha
  case agg cs =>
    have h1 : kC0 (mat 7) cs b = (cs, []) := matL_id fun c hc b => by
      have := ha c hc
      cases c <;> first | rfl | simp at this
    have h2 : cs.all (noF 7) = true := List.all_eq_true.2 fun c hc => by
      have := ha c hc
      cases c <;> first | rfl | simp at this
    exact ⟨by show (AV.agg (kC0 (mat 7) cs b).1, (kC0 (mat 7) cs b).2) = _; rw [h1], h2⟩
  case tup cs =>
    have key : ∀ c ∈ cs, (∀ b, mat 7 c b = (c, [])) ∧ noF 7 c = true := fun c hc => by
      have := ha c hc
      cases c <;> simp at this
      case agg ds =>
        have h1 : ∀ b, kC0 (mat 6) ds b = (ds, []) := fun b => matL_id fun d hd b => by
          have := this d hd
          cases d <;> first | rfl | simp at this
        have h2 : ds.all (noF 6) = true := List.all_eq_true.2 fun d hd => by
          have := this d hd
          cases d <;> first | rfl | simp at this
        exact ⟨fun b => by show (AV.agg (kC0 (mat 6) ds b).1, (kC0 (mat 6) ds b).2) = _; rw [h1], h2⟩
      all_goals exact ⟨fun _ => rfl, rfl⟩
    have h1 : kC0 (mat 7) cs b = (cs, []) := matL_id fun c hc b => (key c hc).1 b
    have h2 : cs.all (noF 7) = true := List.all_eq_true.2 fun c hc => (key c hc).2
    exact ⟨by show (AV.tup (kC0 (mat 7) cs b).1, (kC0 (mat 7) cs b).2) = _; rw [h1], h2⟩
  all_goals exact ⟨rfl, rfl⟩
theorem kA8 {a : AV} (ha : kIc a = true) (h : kA4) : release h depth a = some a := by
  have key : ids h depth a = [] ∧ rel h depth a = some a := by
    cases a <;> simp [kIc] at ha
    case agg cs =>
      have h1 : cs.flatMap (ids h 7) = [] := by
        simp only [List.flatMap_eq_nil_iff]
        intro c hc
        have := ha c hc
        cases c <;> first | rfl | simp at this
      have h2 : kBb (rel h 7) cs = some cs := kE0 fun c hc => by
        have := ha c hc
        cases c <;> first | rfl | simp at this
      exact ⟨h1, by show (match kBb (rel h 7) cs with | some cs => some (AV.agg cs) | none => none) = _; rw [h2]⟩
    case tup cs =>
      have kk : ∀ c ∈ cs, ids h 7 c = [] ∧ rel h 7 c = some c := fun c hc => by
        have := ha c hc
        cases c <;> simp at this
        case agg ds =>
          have h1 : ds.flatMap (ids h 6) = [] := by
            simp only [List.flatMap_eq_nil_iff]
            intro d hd
            have := this d hd
            cases d <;> first | rfl | simp at this
          have h2 : kBb (rel h 6) ds = some ds := kE0 fun d hd => by
            have := this d hd
            cases d <;> first | rfl | simp at this
          exact ⟨h1, by show (match kBb (rel h 6) ds with | some cs => some (AV.agg cs) | none => none) = _; rw [h2]⟩
        all_goals exact ⟨rfl, rfl⟩
      have h1 : cs.flatMap (ids h 7) = [] := by
        simp only [List.flatMap_eq_nil_iff]
        exact fun c hc => (kk c hc).1
      have h2 : kBb (rel h 7) cs = some cs := kE0 fun c hc => (kk c hc).2
      exact ⟨h1, by show (match kBb (rel h 7) cs with | some cs => some (AV.tup cs) | none => none) = _; rw [h2]⟩
    all_goals exact ⟨rfl, rfl⟩
  unfold release
  rw [key.1]
  exact key.2
@[simp] theorem guardP_true {α : Type} (x : Option α) : kEr True x = x := by unfold kEr; rw [if_pos trivial]
theorem guardP_pos {α : Type} {p : Prop} (h : p) (x : Option α) : kEr p x = x := by unfold kEr; rw [if_pos h]
end Go.Eng
