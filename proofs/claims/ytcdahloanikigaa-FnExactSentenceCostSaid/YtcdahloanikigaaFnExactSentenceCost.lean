import Derived.Test.YtcdahloanikigaaFnExactSentenceCostPartB
import Derived.Test.YtcdahloanikigaaRows
namespace Go.Proofs.Ytcdahloanikigaa
open Go Go.Eng Go.Eng.Cod
set_option maxRecDepth 100000
set_option linter.unusedVariables false
set_option linter.unusedSimpArgs false
theorem sz_str {n : Nat} {k : Int} (hn : n ≤ maxLen) (h1 : k ≤ 1048576) (h0 : 0 ≤ k) : wr (k - (n : Int)) = k - (n : Int) := by
  rw [kHu] at hn
  exact kDt (by omega) (by omega)
theorem toStringS_ok (a : Sl ByteArray) (hl : (a.getD []).length ≤ 4294967296) : t_q60 a = some (some ((a.getD []).map (fun x : ByteArray => x))) := by
  have lp := mapLoop (⟨#[]⟩ : ByteArray) (fun x : ByteArray => x) (a.getD []) hl (s0_q60 a) (fun M k x hM hx => by
    have hk := kCj hx
    have c : (k : Int) < (((a.getD []).length : Nat) : Int) := by omega
    obtain ⟨y, hy⟩ : ∃ y, M[k]? = some y := ⟨M[k]'(by omega), List.getElem?_eq_getElem _⟩
    unfold s0_q60
    simp only [c, decide_true, cond_true, kAj hx, kA6, Option.getD_some, kAj hy, kGk, Option.map_some, Int.toNat_natCast]) (fun w => by
    unfold s0_q60
    simp only [Int.lt_irrefl, decide_false, cond_false])
  unfold t_q60
  rw [kFg _ hl, kA6, lp, kA6]
theorem toEntryS_ok (a : Sl Entry) (hl : (a.getD []).length ≤ 4294967296) : t_q55 a = some (some ((a.getD []).map (fun x : Entry => x))) := by
  have lp := mapLoop (⟨⟨#[]⟩, 0⟩ : Entry) (fun x : Entry => x) (a.getD []) hl (s0_q55 a) (fun M k x hM hx => by
    have hk := kCj hx
    have c : (k : Int) < (((a.getD []).length : Nat) : Int) := by omega
    obtain ⟨y, hy⟩ : ∃ y, M[k]? = some y := ⟨M[k]'(by omega), List.getElem?_eq_getElem _⟩
    unfold s0_q55
    simp only [c, decide_true, cond_true, kAj hx, kA6, Option.getD_some, kAj hy, kGk, Option.map_some, Int.toNat_natCast, t_q54]) (fun w => by
    unfold s0_q55
    simp only [Int.lt_irrefl, decide_false, cond_false])
  unfold t_q55
  rw [kFg _ hl, kA6, lp, kA6]
theorem toBigramS_ok (a : Sl Bigram) (hl : (a.getD []).length ≤ 4294967296) : t_q51 a = some (some ((a.getD []).map (fun x : Bigram => x))) := by
  have lp := mapLoop (⟨⟨#[]⟩, ⟨#[]⟩, 0⟩ : Bigram) (fun x : Bigram => x) (a.getD []) hl (s0_q51 a) (fun M k x hM hx => by
    have hk := kCj hx
    have c : (k : Int) < (((a.getD []).length : Nat) : Int) := by omega
    obtain ⟨y, hy⟩ : ∃ y, M[k]? = some y := ⟨M[k]'(by omega), List.getElem?_eq_getElem _⟩
    unfold s0_q51
    simp only [c, decide_true, cond_true, kAj hx, kA6, Option.getD_some, kAj hy, kGk, Option.map_some, Int.toNat_natCast]) (fun w => by
    unfold s0_q51
    simp only [Int.lt_irrefl, decide_false, cond_false])
  unfold t_q51
  rw [kFg _ hl, kA6, lp, kA6]
theorem toEdgeS_ok (a : Sl Edg) (hl : (a.getD []).length ≤ 4294967296) : t_q53 a = some (some ((a.getD []).map (fun x : Edg => x))) := by
  have lp := mapLoop (⟨0, 0, ⟨#[]⟩, 0⟩ : Edg) (fun x : Edg => x) (a.getD []) hl (s0_q53 a) (fun M k x hM hx => by
    have hk := kCj hx
    have c : (k : Int) < (((a.getD []).length : Nat) : Int) := by omega
    obtain ⟨y, hy⟩ : ∃ y, M[k]? = some y := ⟨M[k]'(by omega), List.getElem?_eq_getElem _⟩
    unfold s0_q53
    simp only [c, decide_true, cond_true, kAj hx, kA6, Option.getD_some, kAj hy, kGk, Option.map_some, Int.toNat_natCast, t_q52]) (fun w => by
    unfold s0_q53
    simp only [Int.lt_irrefl, decide_false, cond_false])
  unfold t_q53
  rw [kFg _ hl, kA6, lp, kA6]
theorem eqStringS_ok {a b : Sl ByteArray} (h : a.getD [] = b.getD []) (hl : (a.getD []).length ≤ 4294967296) : t_q38 a b = some true := by
  have lp := eqLoop (step := s0_q38 a b) (a.getD []).length hl (fun k hk => by
      have c : (k : Int) < ((a.getD []).length : Nat) := by omega
      obtain ⟨x, hx⟩ : ∃ x, (a.getD [])[k]? = some x := ⟨_, List.getElem?_eq_getElem hk⟩
      unfold s0_q38
      simp only [c, decide_true, cond_true, kAj hx, ← h, kA6, Bool.not_true, cond_false])
    (by
      unfold s0_q38
      simp only [Int.lt_irrefl, decide_false, cond_false])
  unfold t_q38
  rw [lp, ← h]
  simp
theorem eqEntryS_ok {a b : Sl Entry} (h : a.getD [] = b.getD []) (hl : (a.getD []).length ≤ 4294967296) : t_q33 a b = some true := by
  have lp := eqLoop (step := s0_q33 a b) (a.getD []).length hl (fun k hk => by
      have c : (k : Int) < ((a.getD []).length : Nat) := by omega
      obtain ⟨x, hx⟩ : ∃ x, (a.getD [])[k]? = some x := ⟨_, List.getElem?_eq_getElem hk⟩
      unfold s0_q33
      simp only [c, decide_true, cond_true, kAj hx, ← h, kA6, Bool.not_true, cond_false, t_q32])
    (by
      unfold s0_q33
      simp only [Int.lt_irrefl, decide_false, cond_false])
  unfold t_q33
  rw [lp, ← h]
  simp
theorem eqBigramS_ok {a b : Sl Bigram} (h : a.getD [] = b.getD []) (hl : (a.getD []).length ≤ 4294967296) : t_q29 a b = some true := by
  have lp := eqLoop (step := s0_q29 a b) (a.getD []).length hl (fun k hk => by
      have c : (k : Int) < ((a.getD []).length : Nat) := by omega
      obtain ⟨x, hx⟩ : ∃ x, (a.getD [])[k]? = some x := ⟨_, List.getElem?_eq_getElem hk⟩
      unfold s0_q29
      simp only [c, decide_true, cond_true, kAj hx, ← h, kA6, Bool.not_true, cond_false])
    (by
      unfold s0_q29
      simp only [Int.lt_irrefl, decide_false, cond_false])
  unfold t_q29
  rw [lp, ← h]
  simp
theorem eqEdgeS_ok {a b : Sl Edg} (h : a.getD [] = b.getD []) (hl : (a.getD []).length ≤ 4294967296) : t_q31 a b = some true := by
  have lp := eqLoop (step := s0_q31 a b) (a.getD []).length hl (fun k hk => by
      have c : (k : Int) < ((a.getD []).length : Nat) := by omega
      obtain ⟨x, hx⟩ : ∃ x, (a.getD [])[k]? = some x := ⟨_, List.getElem?_eq_getElem hk⟩
      unfold s0_q31
      simp only [c, decide_true, cond_true, kAj hx, ← h, kA6, Bool.not_true, cond_false, t_q30])
    (by
      unfold s0_q31
      simp only [Int.lt_irrefl, decide_false, cond_false])
  unfold t_q31
  rw [lp, ← h]
  simp
def szStr (s : ByteArray) (k : Int) : Option Int := bif decide (wr (k - (s.size : Int)) < 0) then some (-1) else some (wr (k - (s.size : Int)))
theorem szStr_ok {s : ByteArray} (h : s.size ≤ maxLen) : SzOK szStr (fun s => s.size) s := fun k h0 h1 => by
  unfold szStr
  rw [sz_str h h1 h0]
  by_cases c : k - (s.size : Int) < 0
  · left
    rw [decide_eq_true c, cond_true]
  · right
    rw [decide_eq_false c, cond_false]
    exact ⟨by show (s.size : Int) ≤ k; omega, rfl⟩
theorem szEntry_ok {e : Entry} (h : e.word.size ≤ maxLen) : SzOK t_q43 (fun e => e.word.size) e := fun k h0 h1 => szStr_ok h k h0 h1
theorem szEdge_ok {e : Edg} (h : e.label.size ≤ maxLen) : SzOK t_q41 (fun e => e.label.size) e := fun k h0 h1 => szStr_ok h k h0 h1
theorem szBigram_ok {e : Bigram} (h : e.first.size ≤ maxLen) (h2 : e.second.size ≤ maxLen) : SzOK t_q39 (fun e => e.first.size + e.second.size) e := fun k h0 h1 => by
  unfold t_q39
  rw [sz_str h h1 h0]
  by_cases c : k - (e.first.size : Int) < 0
  · left
    rw [decide_eq_true c, cond_true]
  · rw [decide_eq_false c, cond_false, sz_str h2 (by omega) (by omega)]
    by_cases c2 : k - (e.first.size : Int) - (e.second.size : Int) < 0
    · left
      rw [decide_eq_true c2, cond_true]
    · right
      rw [decide_eq_false c2, cond_false]
      exact ⟨by show ((e.first.size + e.second.size : Nat) : Int) ≤ k; omega, congrArg some (by show k - (e.first.size : Int) - (e.second.size : Int) = k - ((e.first.size + e.second.size : Nat) : Int); omega)⟩
theorem szStringS_ok {s : Sl ByteArray} (hb : (s.getD []).length ≤ maxLen) (he : ∀ a ∈ s.getD [], a.size ≤ maxLen) : SzOK t_q49 (wtS fun s => s.size) s :=
  szS_ok (te := szStr) hb (fun a ha => szStr_ok (he a ha)) (step := s0_q49 s) (fun k => rfl) (fun w i a ha => by
    have hk := kCj ha
    have c : (i : Int) < (((s.getD []).length : Nat) : Int) := by omega
    unfold s0_q49 szStr
    simp only [c, decide_true, cond_true, kAj ha, kA6]
    cases e : decide (wr (w - (a.size : Int)) < 0) with
    | true => rfl
    | false => simp only [cond_false, kA6, e]) (fun w => by
    unfold s0_q49
    simp only [Int.lt_irrefl, decide_false, cond_false])
theorem szEntryS_ok {s : Sl Entry} (hb : (s.getD []).length ≤ maxLen) (he : ∀ a ∈ s.getD [], a.word.size ≤ maxLen) : SzOK t_q44 (wtS (fun e => e.word.size)) s :=
  szS_ok (te := t_q43) hb (fun a ha => szEntry_ok (he a ha)) (step := s0_q44 s) (fun k => rfl) (fun w i a ha => by
    have hk := kCj ha
    have c : (i : Int) < (((s.getD []).length : Nat) : Int) := by omega
    unfold s0_q44
    simp only [c, decide_true, cond_true, kAj ha, kA6]) (fun w => by
    unfold s0_q44
    simp only [Int.lt_irrefl, decide_false, cond_false])
theorem szEdgeS_ok {s : Sl Edg} (hb : (s.getD []).length ≤ maxLen) (he : ∀ a ∈ s.getD [], a.label.size ≤ maxLen) : SzOK t_q42 (wtS (fun e => e.label.size)) s :=
  szS_ok (te := t_q41) hb (fun a ha => szEdge_ok (he a ha)) (step := s0_q42 s) (fun k => rfl) (fun w i a ha => by
    have hk := kCj ha
    have c : (i : Int) < (((s.getD []).length : Nat) : Int) := by omega
    unfold s0_q42
    simp only [c, decide_true, cond_true, kAj ha, kA6]) (fun w => by
    unfold s0_q42
    simp only [Int.lt_irrefl, decide_false, cond_false])
theorem szBigramS_ok {s : Sl Bigram} (hb : (s.getD []).length ≤ maxLen) (he : ∀ a ∈ s.getD [], a.first.size ≤ maxLen ∧ a.second.size ≤ maxLen) : SzOK t_q40 (wtS (fun e => e.first.size + e.second.size)) s :=
  szS_ok (te := t_q39) hb (fun a ha => szBigram_ok (he a ha).1 (he a ha).2) (step := s0_q40 s) (fun k => rfl) (fun w i a ha => by
    have hk := kCj ha
    have c : (i : Int) < (((s.getD []).length : Nat) : Int) := by omega
    unfold s0_q40
    simp only [c, decide_true, cond_true, kAj ha, kA6]) (fun w => by
    unfold s0_q40
    simp only [Int.lt_irrefl, decide_false, cond_false])
theorem sz_wrap {A B : Type} {t : B → Int → Option Int} {wt : B → Nat} {f : A → B} {a : A} (h : SzOK t wt (f a)) {t' : A → Int → Option Int} (ht : ∀ k, t' a k = kA0 (t (f a) k) fun c => bif decide (c < 0) then some (-1) else some c) : SzOK t' (fun a => wt (f a)) a := fun k h0 h1 => by
  rw [ht]
  rcases h k h0 h1 with e | ⟨h2, e⟩
  · left
    rw [e]
    rfl
  · right
    rw [e, kA6, decide_eq_false (show ¬ k - ((wt (f a) : Nat) : Int) < 0 by omega)]
    exact ⟨h2, rfl⟩
def wtLat (l : Lattice) : Nat := wtS (fun e : Edg => e.label.size) l.edges
theorem szLattice_ok {l : Lattice} (hb : (l.edges.getD []).length ≤ maxLen) (he : ∀ a ∈ l.edges.getD [], a.label.size ≤ maxLen) : SzOK t_q45 wtLat l := sz_wrap (f := Lattice.edges) (szEdgeS_ok hb he) fun k => rfl
def wtLex (l : Lexicon) : Nat := wtS (fun e : Entry => e.word.size) l.entries
theorem szLexicon_ok {l : Lexicon} (hb : (l.entries.getD []).length ≤ maxLen) (he : ∀ a ∈ l.entries.getD [], a.word.size ≤ maxLen) : SzOK t_q47 wtLex l := sz_wrap (f := Lexicon.entries) (szEntryS_ok hb he) fun k => rfl
def wtMod (l : Model) : Nat := wtS (fun e : Bigram => e.first.size + e.second.size) l.bigrams
theorem szModel_ok {l : Model} (hb : (l.bigrams.getD []).length ≤ maxLen) (he : ∀ a ∈ l.bigrams.getD [], a.first.size ≤ maxLen ∧ a.second.size ≤ maxLen) : SzOK t_q48 wtMod l := sz_wrap (f := Model.bigrams) (szBigramS_ok hb he) fun k => rfl
theorem szLatticeS_ok {s : Sl Lattice} (hb : (s.getD []).length ≤ maxLen) (he : ∀ l ∈ s.getD [], (l.edges.getD []).length ≤ maxLen ∧ ∀ a ∈ l.edges.getD [], a.label.size ≤ maxLen) : SzOK t_q46 (wtS wtLat) s :=
  szS_ok (te := t_q45) hb (fun a ha => szLattice_ok (he a ha).1 (he a ha).2) (step := s0_q46 s) (fun k => rfl) (fun w i a ha => by
    have hk := kCj ha
    have c : (i : Int) < (((s.getD []).length : Nat) : Int) := by omega
    unfold s0_q46
    simp only [c, decide_true, cond_true, kAj ha, kA6]) (fun w => by
    unfold s0_q46
    simp only [Int.lt_irrefl, decide_false, cond_false])
def kHt (l : Lattice) : Lattice := ⟨l.nodes, some (l.edges.getD [])⟩
theorem toLattice_ok (l : Lattice) (h : (l.edges.getD []).length ≤ 4294967296) : t_q56 l = some (kHt l) := by
  unfold t_q56
  rw [toEdgeS_ok _ h, kA6, List.map_id']
  rfl
theorem toLatticeS_ok (a : Sl Lattice) (hl : (a.getD []).length ≤ 4294967296) (he : ∀ l ∈ a.getD [], (l.edges.getD []).length ≤ 4294967296) : t_q57 a = some (some ((a.getD []).map kHt)) := by
  have lp := mapLoop (⟨0, none⟩ : Lattice) kHt (a.getD []) hl (s0_q57 a) (fun M k x hM hx => by
    have hk := kCj hx
    have c : (k : Int) < (((a.getD []).length : Nat) : Int) := by omega
    obtain ⟨y, hy⟩ : ∃ y, M[k]? = some y := ⟨M[k]'(by omega), List.getElem?_eq_getElem _⟩
    unfold s0_q57
    simp only [c, decide_true, cond_true, kAj hx, kA6, Option.getD_some, kAj hy, kGk, Option.map_some, Int.toNat_natCast, toLattice_ok x (he x (List.mem_of_getElem? hx))]) (fun w => by
    unfold s0_q57
    simp only [Int.lt_irrefl, decide_false, cond_false])
  unfold t_q57
  rw [kFg _ hl, kA6, lp, kA6]
theorem eqLattice_ok (l : Lattice) (h : (l.edges.getD []).length ≤ 4294967296) : t_q34 l l = some true := by
  unfold t_q34
  rw [eqEdgeS_ok rfl h]
  simp
theorem eqLatticeS_ok {a b : Sl Lattice} (h : a.getD [] = b.getD []) (hl : (a.getD []).length ≤ 4294967296) (he : ∀ l ∈ a.getD [], (l.edges.getD []).length ≤ 4294967296) : t_q35 a b = some true := by
  have lp := eqLoop (step := s0_q35 a b) (a.getD []).length hl (fun k hk => by
      have c : (k : Int) < ((a.getD []).length : Nat) := by omega
      obtain ⟨x, hx⟩ : ∃ x, (a.getD [])[k]? = some x := ⟨_, List.getElem?_eq_getElem hk⟩
      unfold s0_q35
      simp only [c, decide_true, cond_true, kAj hx, ← h, kA6, Bool.not_true, cond_false, eqLattice_ok x (he x (List.mem_of_getElem? hx))])
    (by
      unfold s0_q35
      simp only [Int.lt_irrefl, decide_false, cond_false])
  unfold t_q35
  rw [lp, ← h]
  simp
theorem toModel_ok (m : Model) (h : (m.bigrams.getD []).length ≤ 4294967296) : t_q59 m = some ⟨m.default, some (m.bigrams.getD [])⟩ := by
  unfold t_q59
  rw [toBigramS_ok _ h, kA6, List.map_id']
theorem toLexicon_ok (m : Lexicon) (h : (m.entries.getD []).length ≤ 4294967296) : t_q58 m = some ⟨some (m.entries.getD [])⟩ := by
  unfold t_q58
  rw [toEntryS_ok _ h, kA6, List.map_id']
theorem eqModel_ok (m : Model) (h : (m.bigrams.getD []).length ≤ 4294967296) : t_q37 m m = some true := by
  unfold t_q37
  rw [eqBigramS_ok rfl h]
  simp
theorem eqLexicon_ok (m : Lexicon) (h : (m.entries.getD []).length ≤ 4294967296) : t_q36 m m = some true := by
  unfold t_q36
  rw [eqEntryS_ok rfl h]
  simp
theorem bytesO_some {s : ByteArray} (h : s.size ≤ 4294967296) : bytesO s = some (bl s) := by
  unfold bytesO
  rw [if_pos h]
theorem getB_bl {s : ByteArray} {k : Nat} {b : UInt8} (h : (bl s)[k]? = some b) : getB s (k : Int) = some b := kAj h
def fLow (_ : Nat) (b : UInt8) : Option Bool := bif !kEb b then some false else none
theorem fLow_all : ∀ (l : List UInt8) (k : Nat), kCw fLow l k = bif l.all kEb then none else some false
  | [], _ => rfl
  | b :: l, k => by
    unfold kCw fLow
    rw [List.all_cons]
    cases e : kEb b with
    | false => rfl
    | true =>
      have := fLow_all l (k + 1)
      unfold fLow at this
      simpa using this
theorem kHb {s : ByteArray} (h : s.size ≤ 4294967296) : t_q6 s = some (kEp s) := by
  have hl : (bl s).length ≤ 4294967296 := by rw [bl_len]; exact h
  have lp := kDy (step := s0_q6 (bl s)) (bl s) fLow (.inl ()) .inr
    (fun k a ha => by
      have hk := kCj ha
      have c : (k : Int) < (((bl s).length : Nat) : Int) := by omega
      unfold s0_q6 fLow
      simp only [Option.getD_some, c, decide_true, cond_true, kAj ha, kA6, kCf hk hl]
      cases kEb a <;> rfl)
    (by
      unfold s0_q6
      simp only [Option.getD_some, Int.lt_irrefl, decide_false, cond_false])
  rw [fLow_all] at lp
  unfold t_q6 kEp
  rw [bytesO_some h, kA6, lp]
  have d1 : decide (1 ≤ (s.size : Int)) = decide (1 ≤ s.size) := decide_eq_decide.2 (by omega)
  have d2 : decide ((s.size : Int) ≤ 10) = decide (s.size ≤ 10) := decide_eq_decide.2 (by omega)
  rw [d1, d2]
  cases (bl s).all kEb with
  | false => rfl
  | true => cases decide (1 ≤ s.size) <;> rfl
theorem kH4 {s : ByteArray} (h : s.size ≤ 4294967296) : t_q66 s = some (kEp s) := by
  have hl : (bl s).length ≤ 4294967296 := by rw [bl_len]; exact h
  have lp := kDy (step := s0_q66 s) (bl s) fLow (.inl ()) .inr
    (fun k a ha => by
      have hk := kCj ha
      have c : (k : Int) < (s.size : Int) := by rw [bl_len] at hk; omega
      unfold s0_q66 fLow
      simp only [c, decide_true, cond_true, getB_bl ha, kA6, kCf hk hl]
      cases kEb a <;> rfl)
    (by
      unfold s0_q66
      rw [bl_len]
      simp only [Int.lt_irrefl, decide_false, cond_false])
  rw [fLow_all] at lp
  unfold t_q66 kEp
  rw [lp]
  have d1 : kB5 (s.size : Int) 1 10 = (decide (1 ≤ s.size) && decide (s.size ≤ 10)) := by
    unfold kB5
    congr 1 <;> exact decide_eq_decide.2 (by omega)
  rw [d1]
  cases (bl s).all kEb with
  | false => rfl
  | true => rfl
def fAdj {A : Type} (ok : A → Bool) (lt : A → A → Bool) (l : List A) (k : Nat) (a : A) : Option Bool :=
  bif ok a && (decide (k = 0) || (match l[k - 1]? with | some b => lt b a | none => true)) then none else some false
def adj {A : Type} (ok : A → Bool) (lt : A → A → Bool) (l : List A) : Bool := match kCw (fAdj ok lt l) l 0 with
  | none => true
  | some r => r
theorem firstL_false {A : Type} {f : Nat → A → Option Bool} (hf : ∀ k a r, f k a = some r → r = false) {l : List A} {k : Nat} {r : Bool} (h : kCw f l k = some r) : r = false := by
  obtain ⟨i, a, e⟩ := firstL_so h
  exact hf _ _ _ e
theorem fAdj_false {A : Type} {ok : A → Bool} {lt : A → A → Bool} {l : List A} {k : Nat} {a : A} {r : Bool} (h : fAdj ok lt l k a = some r) : r = false := by
  unfold fAdj at h
  split at h <;> (cases h' : (ok a && _) <;> rw [h'] at h <;> cases h; rfl)
theorem adjLoop {A : Type} (ok : A → Bool) (lt : A → A → Bool) (l : List A) (hl : l.length ≤ 4294967296) {step : Int → Option (Sum Int (Sum Unit Bool))}
    (next : ∀ (k : Nat) a, l[k]? = some a → (∀ b, 0 < k → l[k - 1]? = some b → True) → step (k : Int) = some (bif ok a && (decide (k = 0) || (match l[k - 1]? with | some b => lt b a | none => true)) then .inl (wr ((k : Int) + 1)) else .inr (.inr false)))
    (fin : step ((l.length : Nat) : Int) = some (.inr (.inl ()))) : kAw step 0 = some (bif adj ok lt l then .inl () else .inr false) := by
  have lp := kDy (step := step) l (fAdj ok lt l) (.inl ()) .inr
    (fun k a ha => by
      have hk := kCj ha
      have e := next k a ha fun _ _ _ => trivial
      rw [kCf hk hl] at e
      rw [e]
      unfold fAdj
      cases (ok a && (decide (k = 0) || (match l[k - 1]? with | some b => lt b a | none => true))) <;> rfl) fin
  rw [lp]
  unfold adj
  cases e : kCw (fAdj ok lt l) l 0 with
  | none => rfl
  | some r =>
    have := firstL_false (fun k a r => fAdj_false) e
    subst this
    rfl
theorem adj_all {A : Type} {ok : A → Bool} {lt : A → A → Bool} {l : List A} (h : adj ok lt l = true) : (∀ a ∈ l, ok a = true) ∧ ∀ (k : Nat) a b, l[k]? = some a → l[k + 1]? = some b → lt a b = true := by
  have hn : kCw (fAdj ok lt l) l 0 = none := by
    unfold adj at h
    cases e : kCw (fAdj ok lt l) l 0 with
    | none => rfl
    | some r =>
      rw [e] at h
      have := firstL_false (fun k a r => fAdj_false) e
      subst this
      cases h
  have key := firstL_no hn
  have k2 : ∀ (i : Nat) a, l[i]? = some a → (ok a && (decide (i = 0) || (match l[i - 1]? with | some b => lt b a | none => true))) = true := fun i a ha => by
    have := key i a ha
    rw [Nat.zero_add] at this
    unfold fAdj at this
    cases e : (ok a && (decide (i = 0) || (match l[i - 1]? with | some b => lt b a | none => true))) with
    | true => rfl
    | false => rw [e] at this; cases this
  refine ⟨fun a ha => ?_, fun k a b ha hb => ?_⟩
  · obtain ⟨i, hi⟩ := List.mem_iff_getElem?.1 ha
    have := k2 i a hi
    rw [Bool.and_eq_true] at this
    exact this.1
  · have := k2 (k + 1) b hb
    rw [Nat.add_sub_cancel, ha] at this
    simp at this
    exact this.2
theorem adj_lt {A : Type} {ok : A → Bool} {lt : A → A → Bool} (ht : ∀ a b c, lt a b = true → lt b c = true → lt a c = true) {l : List A} (h : adj ok lt l = true) : ∀ (d i : Nat) a b, l[i]? = some a → l[i + d + 1]? = some b → lt a b = true
  | 0, i, a, b, ha, hb => (adj_all h).2 i a b ha hb
  | d + 1, i, a, b, ha, hb => by
    have hlt := (List.getElem?_eq_some_iff.1 hb).1
    obtain ⟨c, hc⟩ : ∃ c, l[i + d + 1]? = some c := ⟨_, List.getElem?_eq_getElem (by omega)⟩
    exact ht a c b (adj_lt ht h d i a c ha hc) ((adj_all h).2 (i + d + 1) c b hc hb)
def okEnt (e : Entry) : Bool := kEp e.word && kB5 e.cost 0 1000000
def ltEnt (a b : Entry) : Bool := !(ltS b.word a.word || decide (b.word = a.word))
def lexB (x : Lexicon) : Bool := adj okEnt ltEnt (x.entries.getD []) && decide ((x.entries.getD []).length ≤ 60)
def kG5 (x : Lexicon) : Prop := (x.entries.getD []).length ≤ 4294967296 ∧ ∀ e ∈ x.entries.getD [], e.word.size ≤ 4294967296
theorem pred_get {l : List Entry} {k : Nat} (h0 : k ≠ 0) (hk : k < l.length) (hl : l.length ≤ 4294967296) : ∃ b, l[k - 1]? = some b ∧ kC1 l (wr ((k : Int) - 1)) = some b := by
  obtain ⟨b, hb⟩ : ∃ b, l[k - 1]? = some b := ⟨_, List.getElem?_eq_getElem (by omega)⟩
  refine ⟨b, hb, ?_⟩
  have : wr ((k : Int) - 1) = ((k - 1 : Nat) : Int) := by rw [kDt (by omega) (by omega)]; omega
  rw [this]
  exact kAj hb
theorem implLex_ok {x : Lexicon} (hs : kG5 x) : t_q9 x = some (lexB x) := by
  obtain ⟨hl, hw⟩ := hs
  have lp := adjLoop okEnt ltEnt (x.entries.getD []) hl (step := s0_q9 x) (fun k a ha _ => by
      have hk := kCj ha
      have c : (k : Int) < (((x.entries.getD []).length : Nat) : Int) := by omega
      have w := kHb (hw a (List.mem_of_getElem? ha))
      unfold s0_q9 okEnt
      simp only [c, decide_true, cond_true, kAj ha, kA6, w]
      cases kEp a.word with
      | false => rfl
      | true =>
        cases kB5 a.cost 0 1000000 with
        | false => rfl
        | true =>
          by_cases k0 : k = 0
          · subst k0
            rfl
          · obtain ⟨b, hb, gb⟩ := pred_get k0 hk hl
            have d : decide ((0 : Int) < (k : Int)) = true := decide_eq_true (by omega)
            have d2 : decide (k = 0) = false := decide_eq_false k0
            simp only [Bool.not_true, cond_false, kA6, d, d2, Bool.and_self, Bool.not_false, cond_true, gb, hb, Bool.true_and, Bool.false_or, ltEnt]
            cases ltS a.word b.word || decide (a.word = b.word) <;> rfl)
    (by
      unfold s0_q9
      simp only [Int.lt_irrefl, decide_false, cond_false])
  unfold t_q9 lexB
  rw [lp]
  have d : decide ((((x.entries.getD []).length : Nat) : Int) ≤ 60) = decide ((x.entries.getD []).length ≤ 60) := decide_eq_decide.2 (by omega)
  rw [d]
  cases adj okEnt ltEnt (x.entries.getD []) with
  | false => rfl
  | true => rfl
theorem specLex_ok {x : Lexicon} (hs : kG5 x) : t_q77 x = some (lexB x) := by
  obtain ⟨hl, hw⟩ := hs
  have lp := adjLoop okEnt ltEnt (x.entries.getD []) hl (step := s0_q77 x) (fun k a ha _ => by
      have hk := kCj ha
      have c : (k : Int) < (((x.entries.getD []).length : Nat) : Int) := by omega
      have w := kH4 (hw a (List.mem_of_getElem? ha))
      unfold s0_q77 okEnt
      simp only [c, decide_true, cond_true, kAj ha, kA6, w]
      cases kEp a.word with
      | false => rfl
      | true =>
        cases kB5 a.cost 0 1000000 with
        | false => rfl
        | true =>
          by_cases k0 : k = 0
          · subst k0
            rfl
          · obtain ⟨b, hb, gb⟩ := pred_get k0 hk hl
            have d : decide ((0 : Int) < (k : Int)) = true := decide_eq_true (by omega)
            have d2 : decide (k = 0) = false := decide_eq_false k0
            simp only [Bool.not_true, cond_false, kA6, d, d2, Bool.and_self, Bool.not_false, cond_true, gb, hb, Bool.true_and, Bool.false_or, ltEnt]
            cases ltS a.word b.word || decide (a.word = b.word) <;> rfl)
    (by
      unfold s0_q77
      simp only [Int.lt_irrefl, decide_false, cond_false])
  unfold t_q77 lexB
  rw [lp]
  have d : decide ((((x.entries.getD []).length : Nat) : Int) ≤ 60) = decide ((x.entries.getD []).length ≤ 60) := decide_eq_decide.2 (by omega)
  rw [d]
  cases adj okEnt ltEnt (x.entries.getD []) with
  | false => rfl
  | true => rfl
theorem kHs {A : Type} {l : List A} {k : Nat} (h0 : k ≠ 0) (hk : k < l.length) (hl : l.length ≤ 4294967296) : ∃ b, l[k - 1]? = some b ∧ kC1 l (wr ((k : Int) - 1)) = some b := by
  obtain ⟨b, hb⟩ : ∃ b, l[k - 1]? = some b := ⟨_, List.getElem?_eq_getElem (by omega)⟩
  refine ⟨b, hb, ?_⟩
  have : wr ((k : Int) - 1) = ((k - 1 : Nat) : Int) := by rw [kDt (by omega) (by omega)]; omega
  rw [this]
  exact kAj hb
theorem implBig_ok {b : Bigram} (h1 : b.first.size ≤ 4294967296) (h2 : b.second.size ≤ 4294967296) : t_q22 b = some (kC6 b) := by
  unfold t_q22 kC6 isFirst
  rw [kHb h1, kHb h2]
  cases kEp b.second <;> cases decide (b.first = (⟨#[]⟩ : ByteArray)) <;> cases kEp b.first <;> rfl
theorem specFirst_ok {s : ByteArray} (h1 : s.size ≤ 4294967296) : t_q81 s = some (isFirst s) := by
  unfold t_q81 isFirst
  rw [kH4 h1]
  cases decide (s = (⟨#[]⟩ : ByteArray)) <;> rfl
theorem specBig_ok {b : Bigram} (h1 : b.first.size ≤ 4294967296) (h2 : b.second.size ≤ 4294967296) : t_q79 b = some (kC6 b) := by
  unfold t_q79 kC6
  rw [specFirst_ok h1, kH4 h2]
  cases kEp b.second <;> cases isFirst b.first <;> rfl
theorem specBefore_ok (a b : Bigram) : t_q78 a b = some (kBu a b) := by
  unfold t_q78 kBu
  cases ltS a.first b.first <;> cases decide (a.first = b.first) <;> rfl
def modB (m : Model) : Bool := adj kC6 kBu (m.bigrams.getD []) && (kB5 m.default 0 1000000 && decide ((m.bigrams.getD []).length ≤ 60))
def kG4 (m : Model) : Prop := (m.bigrams.getD []).length ≤ 4294967296 ∧ ∀ b ∈ m.bigrams.getD [], b.first.size ≤ 4294967296 ∧ b.second.size ≤ 4294967296
theorem implMod_ok {m : Model} (hs : kG4 m) : t_q10 m = some (modB m) := by
  obtain ⟨hl, hw⟩ := hs
  have lp := adjLoop kC6 kBu (m.bigrams.getD []) hl (step := s0_q10 m) (fun k a ha _ => by
      have hk := kCj ha
      have c : (k : Int) < (((m.bigrams.getD []).length : Nat) : Int) := by omega
      have w := implBig_ok (hw a (List.mem_of_getElem? ha)).1 (hw a (List.mem_of_getElem? ha)).2
      unfold s0_q10
      simp only [c, decide_true, cond_true, kAj ha, kA6, w]
      cases kC6 a with
      | false => rfl
      | true =>
        by_cases k0 : k = 0
        · subst k0
          rfl
        · obtain ⟨b, hb, gb⟩ := kHs k0 hk hl
          have d : decide ((0 : Int) < (k : Int)) = true := decide_eq_true (by omega)
          have d2 : decide (k = 0) = false := decide_eq_false k0
          simp only [Bool.not_true, cond_false, kA6, d, d2, Bool.not_false, Bool.and_self, cond_true, gb, hb, Bool.true_and, Bool.false_or, cmpB_before]
          cases kBu b a <;> rfl)
    (by
      unfold s0_q10
      simp only [Int.lt_irrefl, decide_false, cond_false])
  unfold t_q10 modB
  rw [lp]
  have d : decide ((((m.bigrams.getD []).length : Nat) : Int) ≤ 60) = decide ((m.bigrams.getD []).length ≤ 60) := decide_eq_decide.2 (by omega)
  rw [d]
  cases adj kC6 kBu (m.bigrams.getD []) with
  | false => rfl
  | true =>
    simp only [cond_true, kA6, Bool.true_and]
    cases kB5 m.default 0 1000000 <;> rfl
theorem specMod_ok {m : Model} (hs : kG4 m) : t_q82 m = some (modB m) := by
  obtain ⟨hl, hw⟩ := hs
  have lp := adjLoop kC6 kBu (m.bigrams.getD []) hl (step := s0_q82 m) (fun k a ha _ => by
      have hk := kCj ha
      have c : (k : Int) < (((m.bigrams.getD []).length : Nat) : Int) := by omega
      have w := specBig_ok (hw a (List.mem_of_getElem? ha)).1 (hw a (List.mem_of_getElem? ha)).2
      unfold s0_q82
      simp only [c, decide_true, cond_true, kAj ha, kA6, w]
      cases kC6 a with
      | false => rfl
      | true =>
        by_cases k0 : k = 0
        · subst k0
          rfl
        · obtain ⟨b, hb, gb⟩ := kHs k0 hk hl
          have d : decide ((0 : Int) < (k : Int)) = true := decide_eq_true (by omega)
          have d2 : decide (k = 0) = false := decide_eq_false k0
          simp only [Bool.not_true, cond_false, kA6, d, d2, Bool.not_false, Bool.and_self, cond_true, gb, hb, Bool.true_and, Bool.false_or, specBefore_ok]
          cases kBu b a <;> rfl)
    (by
      unfold s0_q82
      simp only [Int.lt_irrefl, decide_false, cond_false])
  unfold t_q82 modB
  rw [lp]
  have d : decide ((((m.bigrams.getD []).length : Nat) : Int) ≤ 60) = decide ((m.bigrams.getD []).length ≤ 60) := decide_eq_decide.2 (by omega)
  rw [d]
  cases adj kC6 kBu (m.bigrams.getD []) with
  | false => rfl
  | true =>
    simp only [cond_true, kA6, Bool.true_and]
    cases kB5 m.default 0 1000000 <;> rfl
theorem mod_srt {m : Model} (h : modB m = true) : srtB (m.bigrams.getD []) = true := by
  unfold modB at h
  rw [Bool.and_eq_true] at h
  have k := (adj_all h.1).2
  unfold srtB
  rw [List.all_eq_true]
  intro i hi
  rw [List.mem_range] at hi
  by_cases h0 : i = 0
  · rw [decide_eq_true h0]
    rfl
  · obtain ⟨a, ha⟩ : ∃ a, (m.bigrams.getD [])[i - 1]? = some a := ⟨_, List.getElem?_eq_getElem (by omega)⟩
    obtain ⟨b, hb⟩ : ∃ b, (m.bigrams.getD [])[i]? = some b := ⟨_, List.getElem?_eq_getElem hi⟩
    have e : i - 1 + 1 = i := by omega
    have := k (i - 1) a b ha (by rw [e]; exact hb)
    unfold beforeAt
    rw [ha, hb]
    show (decide (i = 0) || kBu a b) = true
    rw [this, Bool.or_true]
def fitE (N : Int) (e : Edg) : Bool := decide (0 ≤ e.frm) && (decide (e.frm < e.upto) && (decide (e.upto < N) && kB5 e.cost 0 1000000))
def ordE (a b : Edg) : Int := bif !decide (cmpI a.frm b.frm = 0) then cmpI a.frm b.frm else bif !decide (cmpI a.upto b.upto = 0) then cmpI a.upto b.upto else cmpS a.label b.label
def okE (N : Int) (e : Edg) : Bool := fitE N e && kCu e.label
def ltE (a b : Edg) : Bool := !decide (0 ≤ ordE a b)
def latB (l : Lattice) : Bool := adj (okE l.nodes) ltE (l.edges.getD []) && (kB5 l.nodes 1 20 && decide ((l.edges.getD []).length ≤ 200))
theorem implFit_ok (l : Lattice) (e : Edg) : t_q13 l e = some (fitE l.nodes e) := by
  unfold t_q13 fitE
  cases decide (0 ≤ e.frm) <;> cases decide (e.frm < e.upto) <;> cases decide (e.upto < l.nodes) <;> rfl
theorem specFit_ok (l : Lattice) (e : Edg) (h : kB5 l.nodes 1 20 = true) : t_q71 l e = some (fitE l.nodes e) := by
  have hn : 1 ≤ l.nodes ∧ l.nodes ≤ 20 := by
    unfold kB5 at h
    rw [Bool.and_eq_true] at h
    exact ⟨of_decide_eq_true h.1, of_decide_eq_true h.2⟩
  have d : decide (e.upto ≤ wr (l.nodes - 1)) = decide (e.upto < l.nodes) := by
    rw [kDt (by omega) (by omega)]
    exact decide_eq_decide.2 (by omega)
  unfold t_q71 fitE
  rw [d]
  cases decide (0 ≤ e.frm) <;> cases decide (e.frm < e.upto) <;> cases decide (e.upto < l.nodes) <;> rfl
theorem or3 (a b c : Int) : t_q2 (some [a, b, c]) = some (bif !decide (a = 0) then a else bif !decide (b = 0) then b else c) := by
  have w1 : wr ((0 : Int) + 1) = 1 := kDt (by omega) (by omega)
  have w2 : wr ((1 : Int) + 1) = 2 := kDt (by omega) (by omega)
  have w3 : wr ((2 : Int) + 1) = 3 := kDt (by omega) (by omega)
  have g0 : kC1 [a, b, c] 0 = some a := kAj (m := 0) rfl
  have g1 : kC1 [a, b, c] 1 = some b := kAj (m := 1) rfl
  have g2 : kC1 [a, b, c] 2 = some c := kAj (m := 2) rfl
  have e0 : s0_q2 (some [a, b, c]) 0 = bif !decide (a = 0) then some (.inr (.inr a)) else some (.inl 1) := by
    have h : (0 : Int) < ((([a, b, c] : List Int).length : Nat) : Int) := by simp
    unfold s0_q2
    simp only [Option.getD_some, h, decide_true, cond_true, g0, kA6, w1]
  have e1 : s0_q2 (some [a, b, c]) 1 = bif !decide (b = 0) then some (.inr (.inr b)) else some (.inl 2) := by
    have h : (1 : Int) < ((([a, b, c] : List Int).length : Nat) : Int) := by simp
    unfold s0_q2
    simp only [Option.getD_some, h, decide_true, cond_true, g1, kA6, w2]
  have e2 : s0_q2 (some [a, b, c]) 2 = bif !decide (c = 0) then some (.inr (.inr c)) else some (.inl 3) := by
    have h : (2 : Int) < ((([a, b, c] : List Int).length : Nat) : Int) := by simp
    unfold s0_q2
    simp only [Option.getD_some, h, decide_true, cond_true, g2, kA6, w3]
  have e3 : s0_q2 (some [a, b, c]) 3 = some (.inr (.inl ())) := rfl
  unfold t_q2
  cases ha : !decide (a = 0) with
  | true =>
    rw [ha] at e0
    rw [kC0 e0]
    rfl
  | false =>
    rw [ha] at e0
    rw [kD9 e0]
    cases hb : !decide (b = 0) with
    | true =>
      rw [hb] at e1
      rw [kC0 e1]
      rfl
    | false =>
      rw [hb] at e1
      rw [kD9 e1]
      cases hc : !decide (c = 0) with
      | true =>
        rw [hc] at e2
        rw [kC0 e2]
        rfl
      | false =>
        rw [hc] at e2
        rw [kD9 e2, kC0 e3]
        have : c = 0 := by
          rw [Bool.not_eq_false'] at hc
          exact of_decide_eq_true hc
        rw [this]
        rfl
theorem implOrd_ok (a b : Edg) : t_q12 a b = some (ordE a b) := by
  unfold t_q12 ordE
  simp only [kA6, or3]
theorem specSign_ok (a b : Int) : t_q74 a b = some (cmpI a b) := by
  unfold t_q74 cmpI
  cases decide (a < b) <;> cases decide (b < a) <;> rfl
theorem cmpI_zero (a b : Int) : decide (cmpI a b = 0) = decide (a = b) := by
  unfold cmpI
  by_cases h1 : a < b
  · rw [decide_eq_true h1, cond_true, decide_eq_false (by omega : ¬ a = b)]
    rfl
  · rw [decide_eq_false h1, cond_false]
    by_cases h2 : b < a
    · rw [decide_eq_true h2, cond_true, decide_eq_false (by omega : ¬ a = b)]
      rfl
    · rw [decide_eq_false h2, cond_false, decide_eq_true (by omega : a = b)]
      rfl
theorem specOrd_ok (a b : Edg) : t_q73 a b = some (ordE a b) := by
  unfold t_q73 ordE cmpS
  rw [specSign_ok, specSign_ok, cmpI_zero, cmpI_zero]
  cases decide (a.frm = b.frm) <;> cases decide (a.upto = b.upto) <;> cases ltS a.label b.label <;> cases decide (a.label = b.label) <;> rfl
theorem implLat_ok {l : Lattice} (hl : (l.edges.getD []).length ≤ 4294967296) : t_q8 l = some (latB l) := by
  have lp := adjLoop (okE l.nodes) ltE (l.edges.getD []) hl (step := s0_q8 l) (fun k a ha _ => by
      have hk := kCj ha
      have c : (k : Int) < (((l.edges.getD []).length : Nat) : Int) := by omega
      unfold s0_q8 okE
      simp only [c, decide_true, cond_true, kAj ha, kA6, implFit_ok]
      cases fitE l.nodes a with
      | false => rfl
      | true =>
        cases kCu a.label with
        | false => rfl
        | true =>
          by_cases k0 : k = 0
          · subst k0
            rfl
          · obtain ⟨b, hb, gb⟩ := kHs k0 hk hl
            have d : decide ((0 : Int) < (k : Int)) = true := decide_eq_true (by omega)
            have d2 : decide (k = 0) = false := decide_eq_false k0
            simp only [Bool.not_true, cond_false, kA6, d, d2, Bool.not_false, Bool.and_self, cond_true, gb, hb, Bool.true_and, Bool.false_or, implOrd_ok, ltE]
            cases decide (0 ≤ ordE b a) <;> rfl)
    (by
      unfold s0_q8
      simp only [Int.lt_irrefl, decide_false, cond_false])
  unfold t_q8 latB
  rw [lp]
  have d : decide ((((l.edges.getD []).length : Nat) : Int) ≤ 200) = decide ((l.edges.getD []).length ≤ 200) := decide_eq_decide.2 (by omega)
  rw [d]
  cases adj (okE l.nodes) ltE (l.edges.getD []) with
  | false => rfl
  | true =>
    simp only [cond_true, kA6, Bool.true_and]
    cases kB5 l.nodes 1 20 <;> rfl
theorem specLat_ok {l : Lattice} (hl : (l.edges.getD []).length ≤ 4294967296) : t_q72 l = some (latB l) := by
  unfold t_q72 latB
  rw [kA6]
  have d : decide (200 < (((l.edges.getD []).length : Nat) : Int)) = !decide ((l.edges.getD []).length ≤ 200) := by
    rw [← decide_not]
    exact decide_eq_decide.2 (by omega)
  rw [d]
  cases hw : kB5 l.nodes 1 20 with
  | false => rw [Bool.false_and, Bool.and_false]; rfl
  | true =>
    cases decide ((l.edges.getD []).length ≤ 200) with
    | false => rw [Bool.and_false, Bool.and_false]; rfl
    | true =>
      have lp := adjLoop (okE l.nodes) ltE (l.edges.getD []) hl (step := s0_q72 l) (fun k a ha _ => by
          have hk := kCj ha
          have c : (k : Int) < (((l.edges.getD []).length : Nat) : Int) := by omega
          unfold s0_q72 okE
          simp only [c, decide_true, cond_true, kAj ha, kA6, specFit_ok l a hw]
          cases fitE l.nodes a with
          | false => rfl
          | true =>
            cases kCu a.label with
            | false => rfl
            | true =>
              by_cases k0 : k = 0
              · subst k0
                rfl
              · obtain ⟨b, hb, gb⟩ := kHs k0 hk hl
                have d : decide ((0 : Int) < (k : Int)) = true := decide_eq_true (by omega)
                have d2 : decide (k = 0) = false := decide_eq_false k0
                simp only [Bool.not_true, cond_false, kA6, d, d2, Bool.not_false, Bool.and_self, cond_true, gb, hb, Bool.true_and, Bool.false_or, specOrd_ok, ltE]
                cases decide (0 ≤ ordE b a) <;> rfl)
        (by
          unfold s0_q72
          simp only [Int.lt_irrefl, decide_false, cond_false])
      show kA0 (kAw (s0_q72 l) 0) _ = _
      rw [lp]
      cases adj (okE l.nodes) ltE (l.edges.getD []) <;> rfl
def kBa (q : Sl Lattice) (x : Lexicon) (m : Model) : Int := bif !(lexB x && (modB m && (q.getD []).all latB)) then 1 else bif decide (8 < (((q.getD []).length : Nat) : Int)) then 2 else 0
def smallLats (q : Sl Lattice) : Prop := (q.getD []).length ≤ 4294967296 ∧ ∀ l ∈ q.getD [], (l.edges.getD []).length ≤ 4294967296
theorem cf_Lat {p : Lattice → Option Bool} {f : Lattice → Bool} (s : Sl Lattice) (hl : (s.getD []).length ≤ 4294967296) (hp : ∀ a ∈ s.getD [], p a = some (f a)) : t_q63 p s = some ((s.getD []).any f) := by
  unfold t_q63 t_q64
  have h := kDy (step := s0_q64 p s) (s.getD []) (fun k a => bif f a then some (k : Int) else none) (.inl ()) .inr
    (fun k a ha => by
      have hk := kCj ha
      have c : (k : Int) < ((s.getD []).length : Nat) := by omega
      have w := kCf hk hl
      unfold s0_q64
      simp only [c, decide_true, cond_true, kAj ha, kA6, hp a (List.mem_of_getElem? ha), w]
      cases f a <;> rfl)
    (by
      unfold s0_q64
      simp only [Int.lt_irrefl, decide_false, cond_false])
  have key : ∀ (l : List Lattice) (k : Nat) (x : Option Int), kCw (fun (k : Nat) a => bif f a then some (k : Int) else none) l k = x → (x = none ∧ l.any f = false) ∨ ∃ r, x = some r ∧ 0 ≤ r ∧ l.any f = true := by
    intro l
    induction l with
    | nil => intro k x hx; exact .inl ⟨hx.symm, rfl⟩
    | cons a l ih =>
      intro k x hx
      unfold kCw at hx
      cases e : f a with
      | true =>
        rw [e] at hx
        exact .inr ⟨(k : Int), hx.symm, by omega, by simp [e]⟩
      | false =>
        rw [e] at hx
        rcases ih (k + 1) x hx with h | ⟨r, h1, h2, h3⟩
        · exact .inl ⟨h.1, by simp [e, h.2]⟩
        · exact .inr ⟨r, h1, h2, by simp [e, h3]⟩
  rcases key (s.getD []) 0 _ rfl with ⟨h1, h2⟩ | ⟨r, h1, h2, h3⟩
  · rw [h1] at h
    rw [h, h2]
    rfl
  · rw [h1] at h
    rw [h, h3]
    show some (decide (0 ≤ r)) = _
    rw [decide_eq_true h2]
theorem any_not {A : Type} (f : A → Bool) : ∀ l : List A, l.any (fun a => !f a) = !l.all f
  | [] => rfl
  | a :: l => by
    rw [List.any_cons, List.all_cons, any_not f l]
    cases f a <;> rfl
theorem sentenced_ok {q : Sl Lattice} {x : Lexicon} {m : Model} (hq : smallLats q) (hx : kG5 x) (hm : kG4 m) : t_q19 q x m = some (kBa q x m) := by
  have h3 := cf_Lat (p := t_q20) (f := fun l => !latB l) q hq.1 fun l hl => by
    unfold t_q20
    rw [implLat_ok (hq.2 l hl)]
    rfl
  unfold t_q19 kBa
  rw [implLex_ok hx, implMod_ok hm, h3, any_not]
  cases lexB x with
  | false => rfl
  | true =>
    cases modB m with
    | false => rfl
    | true => cases (q.getD []).all latB <;> cases decide (8 < (((q.getD []).length : Nat) : Int)) <;> rfl
theorem specCode_ok {q : Sl Lattice} {x : Lexicon} {m : Model} (hq : smallLats q) (hx : kG5 x) (hm : kG4 m) : t_q80 q x m = some (kBa q x m) := by
  have lp : ∀ b : Bool, kAw (kGs q) (b, 0) = some (b || !(q.getD []).all latB) := by
    intro b
    obtain ⟨r, h1, h2⟩ := kDo (step := kGs q) (s := (b, 0)) (fun k s => s = (b || !((q.getD []).take k).all latB, (k : Int))) (q.getD []).length (fun r => r = (b || !(q.getD []).all latB))
      (fun k s hk hs => by
        subst hs
        left
        obtain ⟨a, ha⟩ : ∃ a, (q.getD [])[k]? = some a := ⟨_, List.getElem?_eq_getElem hk⟩
        have c : (k : Int) < (((q.getD []).length : Nat) : Int) := by omega
        have ht : (q.getD []).take (k + 1) = (q.getD []).take k ++ [a] := by rw [List.take_add_one, ha]; rfl
        refine ⟨_, ?_, rfl⟩
        unfold kGs
        simp only [c, decide_true, cond_true, kAj ha, kA6, specLat_ok (hq.2 a (List.mem_of_getElem? ha)), kCf hk hq.1, ht, List.all_append, List.all_cons, List.all_nil, Bool.and_true]
        cases b <;> cases ((q.getD []).take k).all latB <;> cases latB a <;> rfl)
      (fun s hs => by
        subst hs
        refine ⟨_, ?_, rfl⟩
        unfold kGs
        simp only [Int.lt_irrefl, decide_false, cond_false, List.take_length])
      (by cases b <;> rfl)
    rw [h1, h2]
  unfold t_q80 kBa
  rw [specLex_ok hx, specMod_ok hm]
  cases lexB x with
  | false =>
    show kA0 (kAw (kGs q) (true, 0)) _ = _
    rw [lp]
    rfl
  | true =>
    cases modB m with
    | false =>
      show kA0 (kAw (kGs q) (true, 0)) _ = _
      rw [lp]
      rfl
    | true =>
      show kA0 (kAw (kGs q) (false, 0)) _ = _
      rw [lp]
      cases (q.getD []).all latB <;> cases decide (8 < (((q.getD []).length : Nat) : Int)) <;> rfl
theorem mid_ok {i j : Nat} (h : i + j ≤ 9000000000000000000) : wr (Int.fdiv (IntKind.u64.wrap (wr ((i : Int) + (j : Int)))) (2 ^ 1)) = (((i + j) / 2 : Nat) : Int) := by
  have e1 : wr ((i : Int) + (j : Int)) = ((i + j : Nat) : Int) := by
    rw [kDt (by omega) (by omega)]
    omega
  have e2 : IntKind.u64.wrap ((i + j : Nat) : Int) = ((i + j : Nat) : Int) := by
    simp only [IntKind.wrap, IntKind.bits, IntKind.signed]
    first | omega | (simp; omega)
  have e3 : Int.fdiv ((i + j : Nat) : Int) (2 ^ 1) = (((i + j) / 2 : Nat) : Int) := by
    rw [Int.fdiv_eq_ediv_of_nonneg _ (by decide)]
    omega
  rw [e1, e2, e3, kDt (by omega) (by omega)]
theorem bsLoop {step : (Int × Int) → Option (Sum (Int × Int) Int)} {n p : Nat} (hn : n ≤ 4294967296)
    (next : ∀ i j : Nat, i < j → j ≤ n → step ((i : Int), (j : Int)) = some (bif decide ((i + j) / 2 < p) then .inl (wr ((((i + j) / 2 : Nat) : Int) + 1), (j : Int)) else .inl ((i : Int), (((i + j) / 2 : Nat) : Int))))
    (fin : ∀ i : Nat, step ((i : Int), (i : Int)) = some (.inr (i : Int))) : ∀ d i j : Nat, j - i ≤ d → i ≤ p → p ≤ j → j ≤ n → kAw step ((i : Int), (j : Int)) = some (p : Int)
  | 0, i, j, hd, hi, hj, _ => by
    have e1 : j = p := by omega
    have e2 : i = p := by omega
    subst e1
    subst e2
    exact kC0 (fin _)
  | d + 1, i, j, hd, hi, hj, hJ => by
    by_cases hlt : i < j
    · have e := next i j hlt hJ
      by_cases hm : (i + j) / 2 < p
      · rw [decide_eq_true hm, cond_true, kCf (n := n) (by omega) hn] at e
        rw [kD9 e]
        exact bsLoop hn next fin d _ _ (by omega) (by omega) hj hJ
      · rw [decide_eq_false hm, cond_false] at e
        rw [kD9 e]
        exact bsLoop hn next fin d _ _ (by omega) hi (by omega) (by omega)
    · have e1 : j = p := by omega
      have e2 : i = p := by omega
      subst e1
      subst e2
      exact kC0 (fin _)
def posT {A : Type} (g : A → Bool) (l : List A) : Nat := (l.takeWhile g).length
theorem posT_le {A : Type} (g : A → Bool) (l : List A) : posT g l ≤ l.length := (List.takeWhile_prefix _).length_le
theorem posT_ok {A : Type} {g : A → Bool} : ∀ {l : List A}, (∀ (i j : Nat) a b, i < j → l[i]? = some a → l[j]? = some b → g b = true → g a = true) → ∀ (m : Nat) a, l[m]? = some a → g a = decide (m < posT g l)
  | [], _, m, a, h => by simp at h
  | b :: l, mono, m, a, h => by
    unfold posT
    cases e : g b with
    | true =>
      rw [List.takeWhile_cons, e]
      cases m with
      | zero =>
        rw [List.getElem?_cons_zero] at h
        cases h
        rw [e]
        exact (decide_eq_true (by simp)).symm
      | succ m =>
        rw [List.getElem?_cons_succ] at h
        have := posT_ok (l := l) (fun i j a b hij ha hb => mono (i + 1) (j + 1) a b (by omega) (by simpa using ha) (by simpa using hb)) m a h
        rw [this]
        unfold posT
        exact decide_eq_decide.2 (by simp)
    | false =>
      rw [List.takeWhile_cons, e]
      have hg : g a = false := by
        cases m with
        | zero =>
          rw [List.getElem?_cons_zero] at h
          cases h
          exact e
        | succ m =>
          cases ha : g a with
          | false => rfl
          | true =>
            have := mono 0 (m + 1) b a (by omega) rfl h ha
            rw [e] at this
            cases this
      rw [hg]
      exact (decide_eq_false (by simp)).symm
theorem less_tot : ∀ x y : List UInt8, Op.bytesLess x y = true ∨ x = y ∨ Op.bytesLess y x = true
  | [], [] => .inr (.inl rfl)
  | [], _ :: _ => .inl rfl
  | _ :: _, [] => .inr (.inr rfl)
  | a :: x, b :: y => by
    unfold Op.bytesLess
    have h3 : a < b ∨ a = b ∨ b < a := by
      rcases Nat.lt_trichotomy a.toNat b.toNat with h | h | h
      · exact .inl h
      · exact .inr (.inl (UInt8.toNat_inj.1 h))
      · exact .inr (.inr h)
    rcases h3 with h | h | h
    · exact .inl (by simp [h])
    · subst h
      rcases less_tot x y with k | k | k
      · exact .inl (by simp [k])
      · exact .inr (.inl (by rw [k]))
      · exact .inr (.inr (by simp [k]))
    · exact .inr (.inr (by simp [h]))
theorem ltS_tot (a b : ByteArray) : ltS a b = true ∨ a = b ∨ ltS b a = true := by
  rcases less_tot a.toList b.toList with h | h | h
  · exact .inl h
  · have := beq_toList a b
    rw [h, beq_self_eq_true] at this
    exact .inr (.inl (of_decide_eq_true this.symm))
  · exact .inr (.inr h)
theorem kEo {a b : Entry} : ltEnt a b = true ↔ ltS a.word b.word = true := by
  unfold ltEnt
  constructor
  · intro h
    rw [Bool.not_eq_true', Bool.or_eq_false_iff] at h
    rcases ltS_tot a.word b.word with k | k | k
    · exact k
    · exact absurd k.symm (of_decide_eq_false h.2)
    · rw [h.1] at k
      cases k
  · intro h
    rw [Bool.not_eq_true', Bool.or_eq_false_iff]
    constructor
    · cases k : ltS b.word a.word with
      | false => rfl
      | true =>
        have := kF3 h k
        rw [kHc] at this
        cases this
    · refine decide_eq_false fun k => ?_
      rw [k, kHc] at h
      cases h
def kCy (x : Lexicon) (w : ByteArray) : Nat := posT (fun e : Entry => ltS e.word w) (x.entries.getD [])
def lexHit (x : Lexicon) (w : ByteArray) : Bool := match (x.entries.getD [])[kCy x w]? with
  | some e => decide (e.word = w)
  | none => false
theorem cmpS_zero (a b : ByteArray) : decide (cmpS a b = 0) = decide (a = b) := by
  unfold cmpS
  by_cases h : a = b
  · subst h
    rw [kHc]
    simp
  · rw [decide_eq_false h]
    cases ltS a b <;> rfl
theorem cmpS_neg (a b : ByteArray) : decide (cmpS a b < 0) = ltS a b := by
  unfold cmpS
  cases ltS a b with
  | true => rfl
  | false => cases decide (a = b) <;> rfl
theorem lex_mono {x : Lexicon} (h : lexB x = true) (w : ByteArray) : ∀ (i j : Nat) a b, i < j → (x.entries.getD [])[i]? = some a → (x.entries.getD [])[j]? = some b → ltS b.word w = true → ltS a.word w = true := by
  intro i j a b hij ha hb hw
  unfold lexB at h
  rw [Bool.and_eq_true] at h
  have := adj_lt (lt := ltEnt) (fun a b c h1 h2 => kEo.2 (kF3 (kEo.1 h1) (kEo.1 h2))) h.1 (j - i - 1) i a b ha (by rw [show i + (j - i - 1) + 1 = j by omega]; exact hb)
  exact kF3 (kEo.1 this) hw
theorem lex_at {x : Lexicon} (h : lexB x = true) (w : ByteArray) {m : Nat} {a : Entry} (ha : (x.entries.getD [])[m]? = some a) : ltS a.word w = decide (m < kCy x w) := posT_ok (g := fun e : Entry => ltS e.word w) (lex_mono h w) m a ha
theorem place_ok {x : Lexicon} (h : lexB x = true) (hl : (x.entries.getD []).length ≤ 4294967296) (w : ByteArray) : t_q17 x w = some ((kCy x w : Int), lexHit x w) := by
  have lp := bsLoop (step := s0_q62 x.entries w) (n := (x.entries.getD []).length) (p := kCy x w) hl
    (fun i j hij hj => by
      have c : (i : Int) < (j : Int) := by omega
      obtain ⟨a, ha⟩ : ∃ a, (x.entries.getD [])[(i + j) / 2]? = some a := ⟨_, List.getElem?_eq_getElem (by omega)⟩
      unfold s0_q62 t_q18
      simp only [c, decide_true, cond_true, mid_ok (show i + j ≤ 9000000000000000000 by omega), kAj ha, kA6, cmpS_neg, lex_at h w ha]
      cases decide ((i + j) / 2 < kCy x w) <;> rfl)
    (fun i => by
      unfold s0_q62
      simp only [Int.lt_irrefl, decide_false, cond_false])
    (x.entries.getD []).length 0 (x.entries.getD []).length (by omega) (by omega) (posT_le _ _) (by omega)
  have z : ((0 : Nat) : Int) = 0 := rfl
  rw [z] at lp
  unfold t_q17 t_q62 t_q18
  rw [lp]
  simp only [kA6]
  unfold lexHit
  by_cases hp : kCy x w < (x.entries.getD []).length
  · obtain ⟨a, ha⟩ : ∃ a, (x.entries.getD [])[kCy x w]? = some a := ⟨_, List.getElem?_eq_getElem hp⟩
    have c : (kCy x w : Int) < (((x.entries.getD []).length : Nat) : Int) := by omega
    simp only [c, decide_true, cond_true, kAj ha, kA6, cmpS_zero, ha]
  · have c : ¬ (kCy x w : Int) < (((x.entries.getD []).length : Nat) : Int) := by omega
    simp only [c, decide_false, cond_false, kA6, List.getElem?_eq_none (Nat.not_lt.1 hp)]
theorem firstL_at {A R : Type} {f : Nat → A → Option R} : ∀ {l : List A} {k p : Nat} {a : A} {r : R}, (∀ i b, i < p → l[i]? = some b → f (k + i) b = none) → l[p]? = some a → f (k + p) a = some r → kCw f l k = some r
  | [], _, p, _, _, _, h, _ => by simp at h
  | b :: l, k, 0, a, r, _, h, e => by
    rw [List.getElem?_cons_zero] at h
    cases h
    unfold kCw
    rw [Nat.add_zero] at e
    rw [e]
  | b :: l, k, p + 1, a, r, hn, h, e => by
    rw [List.getElem?_cons_succ] at h
    unfold kCw
    have := hn 0 b (by omega) rfl
    rw [Nat.add_zero] at this
    rw [this]
    exact firstL_at (l := l) (k := k + 1) (p := p) (fun i b hi hb => by
      rw [show k + 1 + i = k + (i + 1) by omega]
      exact hn (i + 1) b (by omega) (by simpa using hb)) h (by rw [show k + 1 + p = k + (p + 1) by omega]; exact e)
theorem lex_only {x : Lexicon} (h : lexB x = true) {w : ByteArray} {i : Nat} {a : Entry} (ha : (x.entries.getD [])[i]? = some a) (hw : a.word = w) : i = kCy x w := by
  have h1 := lex_at h w ha
  rw [hw, kHc] at h1
  have h2 := of_decide_eq_false h1.symm
  by_cases h3 : kCy x w < i
  · obtain ⟨b, hb⟩ : ∃ b, (x.entries.getD [])[kCy x w]? = some b := ⟨_, List.getElem?_eq_getElem (by have := kCj ha; omega)⟩
    have h4 := lex_at h w hb
    rw [decide_eq_false (Nat.lt_irrefl _)] at h4
    have h5 := h
    unfold lexB at h5
    rw [Bool.and_eq_true] at h5
    have := adj_lt (lt := ltEnt) (fun a b c h1 h2 => kEo.2 (kF3 (kEo.1 h1) (kEo.1 h2))) h5.1 (i - kCy x w - 1) (kCy x w) b a hb (by rw [show kCy x w + (i - kCy x w - 1) + 1 = i by omega]; exact ha)
    rw [kEo, hw, h4] at this
    cases this
  · omega
theorem sfind_ok {x : Lexicon} (h : lexB x = true) (hl : (x.entries.getD []).length ≤ 4294967296) (w : ByteArray) : t_q76 x w = some (bif lexHit x w then (kCy x w : Int) else -1) := by
  have lp := kDy (step := s0_q76 x w) (x.entries.getD []) (fun k (a : Entry) => bif decide (a.word = w) then some (k : Int) else none) (.inl ()) .inr
    (fun k a ha => by
      have hk := kCj ha
      have c : (k : Int) < (((x.entries.getD []).length : Nat) : Int) := by omega
      unfold s0_q76
      simp only [c, decide_true, cond_true, kAj ha, kA6, kCf hk hl]
      cases decide (a.word = w) <;> rfl)
    (by
      unfold s0_q76
      simp only [Int.lt_irrefl, decide_false, cond_false])
  unfold t_q76
  rw [lp]
  cases hh : lexHit x w with
  | true =>
    unfold lexHit at hh
    cases e : (x.entries.getD [])[kCy x w]? with
    | none => rw [e] at hh; cases hh
    | some a =>
      rw [e] at hh
      have hw : decide (a.word = w) = true := hh
      rw [firstL_at (p := kCy x w) (a := a) (r := (kCy x w : Int)) (fun i b hi hb => by
        rw [decide_eq_false (fun k => by have := lex_only h hb k; omega)]
        rfl) e (by rw [hw, Nat.zero_add]; rfl)]
      rfl
  | false =>
    rw [firstL_none (fun i a ha => by
      rw [decide_eq_false (fun k => by
        have e := lex_only h ha k
        unfold lexHit at hh
        rw [← e, ha] at hh
        exact of_decide_eq_false hh k)]
      rfl)]
    rfl
theorem ipair_ok {m : Model} (h : srtB (m.bigrams.getD []) = true) (hl : (m.bigrams.getD []).length ≤ 4294967296) (f s : ByteArray) : t_q16 m f s = some (kI5 m f s) := by
  have neg : ∀ a : Bigram, decide (cmpB a ⟨f, s, 0⟩ < 0) = kBu a ⟨f, s, 0⟩ := fun a => by
    have := cmpB_before a ⟨f, s, 0⟩
    rw [← Bool.not_not (kBu a _), ← this, ← decide_not]
    exact decide_eq_decide.2 (by omega)
  have lp := bsLoop (step := s0_q61 m.bigrams ⟨f, s, 0⟩) (n := (m.bigrams.getD []).length) (p := posB (m.bigrams.getD []) ⟨f, s, 0⟩) hl
    (fun i j hij hj => by
      have c : (i : Int) < (j : Int) := by omega
      have hm : (i + j) / 2 < (m.bigrams.getD []).length := by omega
      have ha : (m.bigrams.getD [])[(i + j) / 2]? = some ((m.bigrams.getD [])[(i + j) / 2]) := List.getElem?_eq_getElem hm
      unfold s0_q61
      simp only [c, decide_true, cond_true, mid_ok (show i + j ≤ 9000000000000000000 by omega), kAj ha, kA6, neg, pos_ok h ⟨f, s, 0⟩ hm]
      cases decide ((i + j) / 2 < posB (m.bigrams.getD []) ⟨f, s, 0⟩) <;> rfl)
    (fun i => by
      unfold s0_q61
      simp only [Int.lt_irrefl, decide_false, cond_false])
    (m.bigrams.getD []).length 0 (m.bigrams.getD []).length (by omega) (by omega) (pos_le _ _) (by omega)
  have z : ((0 : Nat) : Int) = 0 := rfl
  rw [z] at lp
  unfold t_q16 t_q61 kI5
  rw [lp, hit_find h]
  simp only [kA6]
  unfold hitB
  by_cases hp : posB (m.bigrams.getD []) ⟨f, s, 0⟩ < (m.bigrams.getD []).length
  · obtain ⟨a, ha⟩ : ∃ a, (m.bigrams.getD [])[posB (m.bigrams.getD []) ⟨f, s, 0⟩]? = some a := ⟨_, List.getElem?_eq_getElem hp⟩
    have c : (posB (m.bigrams.getD []) ⟨f, s, 0⟩ : Int) < (((m.bigrams.getD []).length : Nat) : Int) := by omega
    simp only [c, decide_true, cond_true, kAj ha, kA6, cmpB_zero, ha]
    cases kFy a ⟨f, s, 0⟩ <;> rfl
  · have c : ¬ (posB (m.bigrams.getD []) ⟨f, s, 0⟩ : Int) < (((m.bigrams.getD []).length : Nat) : Int) := by omega
    simp only [c, decide_false, cond_false, kA6, List.getElem?_eq_none (Nat.not_lt.1 hp)]
    rfl
theorem spair_ok {m : Model} (hl : (m.bigrams.getD []).length ≤ 4294967296) (f s : ByteArray) : t_q83 m f s = some (kI5 m f s) := by
  have lp := kDy (step := s0_q83 m f s) (m.bigrams.getD []) (fun _ (a : Bigram) => bif kFy a ⟨f, s, 0⟩ then some a.cost else none) (.inl ()) .inr
    (fun k a ha => by
      have hk := kCj ha
      have c : (k : Int) < (((m.bigrams.getD []).length : Nat) : Int) := by omega
      unfold s0_q83 kFy
      simp only [c, decide_true, cond_true, kAj ha, kA6, kCf hk hl]
      cases decide (a.first = f) <;> cases decide (a.second = s) <;> rfl)
    (by
      unfold s0_q83
      simp only [Int.lt_irrefl, decide_false, cond_false])
  have key : ∀ (l : List Bigram) (k : Nat), kCw (fun _ (a : Bigram) => bif kFy a ⟨f, s, 0⟩ then some a.cost else none) l k = (l.find? fun b => kFy b ⟨f, s, 0⟩).map Bigram.cost := by
    intro l
    induction l with
    | nil => intro k; rfl
    | cons a l ih =>
      intro k
      unfold kCw
      rw [List.find?_cons]
      cases kFy a ⟨f, s, 0⟩ with
      | true => rfl
      | false => exact ih (k + 1)
  unfold t_q83 kI5
  rw [lp, key]
  cases (m.bigrams.getD []).find? fun b => kFy b ⟨f, s, 0⟩ <;> rfl
theorem words_eq {m : Model} (h : srtB (m.bigrams.getD []) = true) (hl : (m.bigrams.getD []).length ≤ 4294967296) (q : Sl ByteArray) (hq : (q.getD []).length ≤ 4294967296) : ∃ r, t_q24 m q = some r ∧ t_q84 m q = some r := by
  have hs : s0_q24 m q = s0_q84 m q := by
    funext ⟨a, b, c⟩
    unfold s0_q24 s0_q84
    simp only
    cases decide (c < (((q.getD []).length : Nat) : Int)) with
    | false => rfl
    | true =>
      rw [cond_true, cond_true]
      cases kC1 (q.getD []) c with
      | none => rfl
      | some w =>
        rw [kA6, kA6, ipair_ok h hl, spair_ok hl]
        rfl
  obtain ⟨r, h1, _⟩ := kDo (step := s0_q84 m q) (s := (0, (⟨#[]⟩ : ByteArray), 0)) (fun k s => s.2.2 = (k : Int)) (q.getD []).length (fun _ => True)
    (fun k s hk e => by
      obtain ⟨a, b, c⟩ := s
      simp only at e
      subst e
      left
      obtain ⟨w, ha⟩ : ∃ a, (q.getD [])[k]? = some a := ⟨_, List.getElem?_eq_getElem hk⟩
      have c : (k : Int) < (((q.getD []).length : Nat) : Int) := by omega
      refine ⟨(wr (a + kI5 m b w), w, ((k + 1 : Nat) : Int)), ?_, rfl⟩
      unfold s0_q84
      simp only [c, decide_true, cond_true, kAj ha, kA6, spair_ok hl, kCf hk hq])
    (fun s e => by
      obtain ⟨a, b, c⟩ := s
      simp only at e
      subst e
      refine ⟨a, ?_, trivial⟩
      unfold s0_q84
      simp only [Int.lt_irrefl, decide_false, cond_false])
    rfl
  refine ⟨r, ?_, ?_⟩
  · unfold t_q24
    rw [hs, h1]
    rfl
  · unfold t_q84
    rw [h1]
    rfl
inductive Wy (E : List Edg) (lab : Nat → ByteArray) : Nat → Nat → Int → Prop
  | start : Wy E lab 0 0 0
  | step {k u v : Nat} {c : Int} {i : Nat} {e : Edg} : Wy E lab k u c → E[i]? = some e → e.frm = (u : Int) → e.upto = (v : Int) → e.label = lab k → Wy E lab (k + 1) v (c + e.cost)
def VE (E : List Edg) (N : Nat) : Prop := ∀ (i : Nat) e, E[i]? = some e → ∃ u v : Nat, e.frm = (u : Int) ∧ e.upto = (v : Int) ∧ u < v ∧ v < N ∧ 0 ≤ e.cost ∧ e.cost ≤ 1000000
theorem Wy.bound {E : List Edg} {lab : Nat → ByteArray} {N : Nat} (hE : VE E N) (h0 : 0 < N) {k v : Nat} {c : Int} (h : Wy E lab k v c) : v < N ∧ 0 ≤ c ∧ c ≤ (k : Int) * 1000000 := by
  induction h with
  | start => exact ⟨h0, by omega, by omega⟩
  | step hw he hf hu hl ih =>
    obtain ⟨u', v', e1, e2, e3, e4, e5, e6⟩ := hE _ _ he
    refine ⟨by omega, by omega, ?_⟩
    have := ih.2.2
    rw [Int.natCast_add, Int.add_mul]
    omega
def LeW (W : Int) (S : Int → Prop) (x : Int) : Prop := (x = W ∧ ∀ c, ¬ S c) ∨ (S x ∧ ∀ c, S c → x ≤ c)
theorem LeW.same {W : Int} {S T : Int → Prop} {x : Int} (h : LeW W S x) (hs : ∀ c, S c ↔ T c) : LeW W T x := by
  rcases h with ⟨h1, h2⟩ | ⟨h1, h2⟩
  · exact .inl ⟨h1, fun c hc => h2 c ((hs c).2 hc)⟩
  · exact .inr ⟨(hs x).1 h1, fun c hc => h2 c ((hs c).2 hc)⟩
theorem LeW.join {W : Int} {S T : Int → Prop} {x y : Int} (h : LeW W S x) (hy : T y) (hm : ∀ c, T c → y ≤ c) (hW : y < W) (hS : ∀ c, S c → c < W) : LeW W (fun c => S c ∨ T c) (min x y) := by
  rcases h with ⟨h1, h2⟩ | ⟨h1, h2⟩
  · right
    rw [Int.min_eq_right (by omega)]
    exact ⟨.inr hy, fun c hc => hc.elim (fun k => absurd k (h2 c)) (hm c)⟩
  · right
    have := hS x h1
    rcases Int.le_total x y with k | k
    · rw [Int.min_eq_left k]
      exact ⟨.inl h1, fun c hc => hc.elim (h2 c) fun t => Int.le_trans k (hm c t)⟩
    · rw [Int.min_eq_right k]
      exact ⟨.inr hy, fun c hc => hc.elim (fun t => Int.le_trans k (h2 c t)) (hm c)⟩
theorem fillLoop (W : Int) (n : Nat) (hn : n ≤ 4294967296) {l : List Int} (hl : l.length = n) {step : (Sl Int × Int) → Option (Sum (Sl Int × Int) (Sl Int))}
    (hs : ∀ w i, step (w, i) = bif decide (i < ((n : Nat) : Int)) then kA0 (kC1 (w.getD []) i) fun _ => some (.inl (kGk w i W, wr (i + 1))) else some (.inr w)) : kAw step (some l, 0) = some (some (List.replicate n W)) := by
  obtain ⟨r, h1, h2⟩ := kDo (step := step) (s := (some l, 0)) (fun k s => ∃ L : List Int, s = (some L, (k : Int)) ∧ L.length = n ∧ ∀ i, i < k → L[i]? = some W) n (fun r => r = some (List.replicate n W))
    (fun k s hk hi => by
      obtain ⟨L, rfl, h3, h4⟩ := hi
      left
      obtain ⟨a, ha⟩ : ∃ a, L[k]? = some a := ⟨_, List.getElem?_eq_getElem (by omega)⟩
      have c : (k : Int) < ((n : Nat) : Int) := by omega
      refine ⟨(some (L.set k W), ((k + 1 : Nat) : Int)), ?_, _, rfl, by rw [List.length_set]; exact h3, fun i hi => ?_⟩
      · rw [hs, decide_eq_true c, cond_true]
        show kA0 (kC1 L (k : Int)) _ = _
        rw [kAj ha, kA6, kCf hk hn]
        rfl
      · by_cases e : i = k
        · subst e
          rw [List.getElem?_set_self (by omega)]
        · rw [List.getElem?_set_ne (by omega)]
          exact h4 i (by omega))
    (fun s hi => by
      obtain ⟨L, rfl, h3, h4⟩ := hi
      refine ⟨_, by rw [hs, decide_eq_false (Int.lt_irrefl _), cond_false], ?_⟩
      congr 1
      refine List.ext_getElem? fun i => ?_
      by_cases hi : i < n
      · rw [h4 i hi, List.getElem?_replicate, if_pos hi]
      · rw [List.getElem?_eq_none (by omega), List.getElem?_eq_none (by rw [List.length_replicate]; omega)])
    ⟨l, rfl, hl, fun i hi => by omega⟩
  rw [h1, h2]
theorem subB_one {t : ByteArray} {k : Nat} (hk : k < t.size) (ht : t.size ≤ 4294967296) : subB t (some (k : Int)) (some (wr ((k : Int) + 1))) = some (t.extract k (k + 1)) := by
  rw [kCf hk ht]
  unfold subB
  have e1 : bndI (some ((k + 1 : Nat) : Int)) t.size t.size = some (k + 1) := idx_lt (show k + 1 < t.size + 1 by omega)
  have e2 : bndI (some (k : Int)) 0 (k + 1) = some k := idx_lt (show k < k + 1 + 1 by omega)
  rw [e1, kA6, e2, kA6]
def kEc (t : ByteArray) (k : Nat) : ByteArray := t.extract k (k + 1)
abbrev noWay : Int := 1099511627776
theorem kGc {L : List Int} {v : Nat} {x y : Int} (h : L[v]? = some x) (i : Nat) : (L.set v y)[i]? = if i = v then some y else L[i]? := by
  by_cases e : i = v
  · subst e
    rw [if_pos rfl, List.getElem?_set_self (kCj h)]
  · rw [if_neg e, List.getElem?_set_ne (fun k => e k.symm)]
def RowW (N : Nat) (S : Nat → Int → Prop) (L : List Int) : Prop := ∀ v, v < N → ∃ x, L[v]? = some x ∧ LeW noWay (S v) x
def Nxt (E : List Edg) (lab : Nat → ByteArray) (k j : Nat) (v : Nat) (c : Int) : Prop := ∃ i e u c', i < j ∧ E[i]? = some e ∧ e.frm = ((u : Nat) : Int) ∧ e.upto = (v : Int) ∧ e.label = lab k ∧ Wy E lab k u c' ∧ c = c' + e.cost
theorem Nxt.all {E : List Edg} {lab : Nat → ByteArray} {k v : Nat} {c : Int} : Nxt E lab k E.length v c ↔ Wy E lab (k + 1) v c := by
  constructor
  · rintro ⟨i, e, u, c', _, he, hf, hu, hl, hw, rfl⟩
    exact .step hw he hf hu hl
  · intro h
    cases h with
    | step hw he hf hu hl => exact ⟨_, _, _, _, kCj he, he, hf, hu, hl, hw, rfl⟩
theorem rowStep {E : List Edg} {t : ByteArray} {N k : Nat} (hE : VE E N) (hN : N ≤ 20) (hl : E.length ≤ 4294967296) (ht : t.size ≤ 4294967296) (hk : k < t.size) {l : Lattice} (el : l.edges.getD [] = E) {L : List Int} (hL : L.length = N) (hw : t.size ≤ 10 → RowW N (Wy E (kEc t) k) L) :
    ∃ L' al, kAw (s3_q21 l t (some L) (k : Int)) (some (List.replicate N noWay), false, 0) = some (some L', al) ∧ L'.length = N ∧ (t.size ≤ 10 → RowW N (Wy E (kEc t) (k + 1)) L' ∧ (al = false → ∀ v c, ¬ Wy E (kEc t) (k + 1) v c)) := by
  obtain ⟨r, h1, L', al, rfl, h2, h3⟩ := kDo (step := s3_q21 l t (some L) (k : Int)) (s := (some (List.replicate N noWay), false, 0))
    (fun j s => ∃ L' al, s = (some L', al, (j : Int)) ∧ L'.length = N ∧ (t.size ≤ 10 → RowW N (Nxt E (kEc t) k j) L' ∧ (al = false → ∀ v c, ¬ Nxt E (kEc t) k j v c))) E.length
    (fun r => ∃ L' al, r = (some L', al) ∧ L'.length = N ∧ (t.size ≤ 10 → RowW N (Nxt E (kEc t) k E.length) L' ∧ (al = false → ∀ v c, ¬ Nxt E (kEc t) k E.length v c)))
    (fun j s hj hi => by
      obtain ⟨L', al, rfl, h2, h3⟩ := hi
      left
      obtain ⟨e, he⟩ : ∃ a, E[j]? = some a := ⟨_, List.getElem?_eq_getElem hj⟩
      obtain ⟨u, v, f1, f2, f3, f4, f5, f6⟩ := hE j e he
      obtain ⟨a, ha⟩ : ∃ a, L[u]? = some a := ⟨_, List.getElem?_eq_getElem (by omega)⟩
      obtain ⟨b, hb⟩ : ∃ a, L'[v]? = some a := ⟨_, List.getElem?_eq_getElem (by omega)⟩
      have c : (j : Int) < ((E.length : Nat) : Int) := by omega
      have split : ∀ v' c, Nxt E (kEc t) k (j + 1) v' c ↔ (Nxt E (kEc t) k j v' c ∨ (v' = v ∧ e.label = kEc t k ∧ ∃ c', Wy E (kEc t) k u c' ∧ c = c' + e.cost)) := by
        intro v' c
        constructor
        · rintro ⟨i, e', u', c', hi, he', hf, hu, hlb, hwy, rfl⟩
          by_cases hij : i = j
          · subst hij
            rw [he] at he'
            cases he'
            have : u' = u := by omega
            subst this
            exact .inr ⟨by omega, hlb, c', hwy, rfl⟩
          · exact .inl ⟨i, e', u', c', by omega, he', hf, hu, hlb, hwy, rfl⟩
        · rintro (⟨i, e', u', c', hi, he', hf, hu, hlb, hwy, rfl⟩ | ⟨rfl, hlb, c', hwy, rfl⟩)
          · exact ⟨i, e', u', c', by omega, he', hf, hu, hlb, hwy, rfl⟩
          · exact ⟨j, e, u, c', by omega, he, f1, f2, hlb, hwy, rfl⟩
      have sub := subB_one hk ht
      have bnd : t.size ≤ 10 → ∀ c', Wy E (kEc t) k u c' → 0 ≤ c' ∧ c' ≤ 10000000 := fun hs c' hc => by
        have := hc.bound hE (by omega)
        omega
      by_cases hc : e.label = kEc t k ∧ a < noWay
      · refine ⟨(some (L'.set v (min b (wr (a + e.cost)))), true, ((j + 1 : Nat) : Int)), ?_, _, _, rfl, by rw [List.length_set]; exact h2, fun hs => ⟨fun v' hv' => ?_, fun k => by cases k⟩⟩
        · unfold s3_q21
          have d1 : decide (e.label = t.extract k (k + 1)) = true := decide_eq_true hc.1
          have d2 : decide (a < 1099511627776) = true := decide_eq_true hc.2
          simp only [c, decide_true, cond_true, el, kAj he, kA6, sub, d1, f1, f2, Option.getD_some, kAj ha, kAj hb, d2, kCf hj hl]
          rfl
        · obtain ⟨x, hx, hx2⟩ := (h3 hs).1 v' hv'
          obtain ⟨a2, ha2, ha3⟩ := hw hs u (by omega)
          rw [ha] at ha2
          cases ha2
          have way : Wy E (kEc t) k u a ∧ ∀ c, Wy E (kEc t) k u c → a ≤ c := by
            rcases ha3 with ⟨h, _⟩ | h
            · exact absurd hc.2 (by omega)
            · exact h
          have ba := bnd hs a way.1
          rw [kGc hb]
          by_cases e1 : v' = v
          · subst e1
            rw [if_pos rfl]
            rw [hb] at hx
            cases hx
            rw [kDt (by omega) (by omega)]
            refine ⟨_, rfl, LeW.same (LeW.join (T := fun c => e.label = kEc t k ∧ ∃ c', Wy E (kEc t) k u c' ∧ c = c' + e.cost) hx2 ⟨hc.1, a, way.1, rfl⟩ ?_ ?_ ?_) fun c => ?_⟩
            · rintro c ⟨_, c', hc', rfl⟩
              have := way.2 c' hc'
              omega
            · show _ < (1099511627776 : Int)
              omega
            · rintro c ⟨i, e', u', c', hi, he', hf, hu, hlb, hwy, rfl⟩
              obtain ⟨_, _, _, _, _, _, _, g6⟩ := hE i e' he'
              have := hwy.bound hE (by omega)
              show _ < (1099511627776 : Int)
              omega
            · rw [split]
              exact ⟨fun h => h.elim .inl fun h => .inr ⟨rfl, h⟩, fun h => h.elim .inl fun h => .inr h.2⟩
          · rw [if_neg e1]
            exact ⟨x, hx, hx2.same fun c => by
              rw [split]
              exact ⟨.inl, fun h => h.elim id fun h => absurd h.1 e1⟩⟩
      · refine ⟨(some L', al, ((j + 1 : Nat) : Int)), ?_, _, _, rfl, h2, fun hs => ?_⟩
        · unfold s3_q21
          simp only [c, decide_true, cond_true, el, kAj he, kA6, sub, f1, Option.getD_some, kAj ha, kCf hj hl]
          by_cases d1 : e.label = t.extract k (k + 1)
          · have d2 : ¬ a < 1099511627776 := fun h => hc ⟨d1, h⟩
            rw [decide_eq_true d1, decide_eq_false d2]
            rfl
          · rw [decide_eq_false d1]
            rfl
        · have none : ∀ v' c, ¬ (v' = v ∧ e.label = kEc t k ∧ ∃ c', Wy E (kEc t) k u c' ∧ c = c' + e.cost) := by
            rintro v' c ⟨_, hlb, c', hwy, _⟩
            obtain ⟨a2, ha2, ha3⟩ := hw hs u (by omega)
            rw [ha] at ha2
            cases ha2
            have : ¬ a < noWay := fun h => hc ⟨hlb, h⟩
            rcases ha3 with ⟨_, h⟩ | ⟨h, _⟩
            · exact h c' hwy
            · have ba := bnd hs a h
              apply this
              show _ < (1099511627776 : Int)
              omega
          have same : ∀ v' c, Nxt E (kEc t) k (j + 1) v' c ↔ Nxt E (kEc t) k j v' c := fun v' c => by
            rw [split]
            exact ⟨fun h => h.elim id fun h => absurd h (none v' c), .inl⟩
          refine ⟨fun v' hv' => ?_, fun hal v' c hn => (h3 hs).2 hal v' c ((same v' c).1 hn)⟩
          obtain ⟨x, hx, hx2⟩ := (h3 hs).1 v' hv'
          exact ⟨x, hx, hx2.same fun c => (same v' c).symm⟩)
    (fun s hi => by
      obtain ⟨L', al, rfl, h2, h3⟩ := hi
      refine ⟨_, ?_, L', al, rfl, h2, h3⟩
      unfold s3_q21
      simp only [el, Int.lt_irrefl, decide_false, cond_false])
    ⟨_, _, rfl, List.length_replicate, fun _ => ⟨fun v hv => ⟨noWay, by rw [List.getElem?_replicate, if_pos hv], .inl ⟨rfl, fun c h => by
      obtain ⟨i, _, _, _, hi, _⟩ := h
      omega⟩⟩, fun _ v c h => by
      obtain ⟨i, _, _, _, hi, _⟩ := h
      omega⟩⟩
  refine ⟨L', al, h1, h2, fun hs => ⟨fun v hv => ?_, fun hal v c hn => (h3 hs).2 hal v c (Nxt.all.2 hn)⟩⟩
  obtain ⟨x, hx, hx2⟩ := (h3 hs).1 v hv
  exact ⟨x, hx, hx2.same fun c => Nxt.all⟩
theorem Wy.none_up {E : List Edg} {lab : Nat → ByteArray} {k : Nat} (h : ∀ v c, ¬ Wy E lab k v c) : ∀ d v c, ¬ Wy E lab (k + d) v c
  | 0, v, c => h v c
  | d + 1, v, c => fun hw => by
    cases hw with
    | step hw he hf hu hl => exact Wy.none_up h d _ _ hw
theorem implText_ok {l : Lattice} {t : ByteArray} {N : Nat} (eN : l.nodes = (N : Int)) (h0 : 0 < N) (hN : N ≤ 20) (hE : VE (l.edges.getD []) N) (hl : (l.edges.getD []).length ≤ 4294967296) (ht : t.size ≤ 4294967296) :
    ∃ x, t_q21 l t = some x ∧ (t.size ≤ 10 → LeW noWay (Wy (l.edges.getD []) (kEc t) t.size (N - 1)) x) := by
  have mk : kH8 (0 : Int) l.nodes = some (List.replicate N 0) := by
    rw [eN]
    exact kFg 0 (by omega)
  have fill := fillLoop 1099511627776 N (by omega) (l := List.replicate N 0) List.length_replicate (step := s0_q21 (List.replicate N 0)) fun w i => by
    unfold s0_q21
    simp only [Option.getD_some, List.length_replicate]
  have fill2 := fillLoop 1099511627776 N (by omega) (l := List.replicate N 0) List.length_replicate (step := s2_q21 (List.replicate N 0)) fun w i => by
    unfold s2_q21
    simp only [Option.getD_some, List.length_replicate]
  have g0 : (List.replicate N (1099511627776 : Int))[0]? = some 1099511627776 := by rw [List.getElem?_replicate, if_pos h0]
  obtain ⟨r, h1, h2⟩ := kDo (step := s1_q21 l t) (s := (some ((List.replicate N (1099511627776 : Int)).set 0 0), 0, 0))
    (fun k s => ∃ L w, s = (some L, w, (k : Int)) ∧ L.length = N ∧ (t.size ≤ 10 → RowW N (Wy (l.edges.getD []) (kEc t) k) L)) t.size
    (fun r => match r with
      | .inl q => ∃ L, q = some L ∧ L.length = N ∧ (t.size ≤ 10 → RowW N (Wy (l.edges.getD []) (kEc t) t.size) L)
      | .inr x => x = noWay ∧ (t.size ≤ 10 → ∀ v c, ¬ Wy (l.edges.getD []) (kEc t) t.size v c))
    (fun k s hk hi => by
      obtain ⟨L, w, rfl, h2, h3⟩ := hi
      obtain ⟨L', al, h4, h5, h6⟩ := rowStep hE hN hl ht hk rfl h2 h3
      have c : (k : Int) < (t.size : Int) := by omega
      cases al with
      | true =>
        left
        refine ⟨(some L', w, ((k + 1 : Nat) : Int)), ?_, L', w, rfl, h5, fun hs => (h6 hs).1⟩
        unfold s1_q21
        simp only [c, decide_true, cond_true, mk, kA6, fill2, h4, Bool.not_true, cond_false, kCf hk ht]
      | false =>
        right
        refine ⟨.inr 1099511627776, ?_, rfl, fun hs v c => ?_⟩
        · unfold s1_q21
          simp only [c, decide_true, cond_true, mk, kA6, fill2, h4, Bool.not_false]
        · have := Wy.none_up ((h6 hs).2 rfl) (t.size - (k + 1)) v c
          rw [show k + 1 + (t.size - (k + 1)) = t.size by omega] at this
          exact this)
    (fun s hi => by
      obtain ⟨L, w, rfl, h2, h3⟩ := hi
      refine ⟨.inl (some L), ?_, L, rfl, h2, h3⟩
      unfold s1_q21
      simp only [Int.lt_irrefl, decide_false, cond_false])
    ⟨_, _, rfl, by rw [List.length_set, List.length_replicate], fun _ v hv => by
      rw [kGc g0]
      by_cases e : v = 0
      · subst e
        rw [if_pos rfl]
        refine ⟨0, rfl, .inr ⟨.start, fun c hc => ?_⟩⟩
        have := hc.bound hE h0
        omega
      · rw [if_neg e, List.getElem?_replicate, if_pos hv]
        refine ⟨_, rfl, .inl ⟨rfl, fun c hc => ?_⟩⟩
        cases hc
        exact e rfl⟩
  have run : t_q21 l t = kA0 (kAw (s1_q21 l t) (some ((List.replicate N (1099511627776 : Int)).set 0 0), 0, 0)) fun qq139 => match qq139 with
    | (.inl q35) =>
        kA0 (kC1 (q35.getD []) (wr (l.nodes - 1))) fun a42 =>
        some a42
    | (.inr q50) =>
        some q50 := by
    unfold t_q21
    rw [mk, kA6, fill, kA6]
    show kA0 (kC1 (List.replicate N (1099511627776 : Int)) ((0 : Nat) : Int)) _ = _
    rw [kAj g0, kA6]
    rfl
  rw [run, h1]
  cases r with
  | inl q =>
    obtain ⟨L, rfl, h3, h4⟩ := h2
    obtain ⟨x, hx⟩ : ∃ a, L[N - 1]? = some a := ⟨_, List.getElem?_eq_getElem (by omega)⟩
    have e : wr (l.nodes - 1) = ((N - 1 : Nat) : Int) := by
      rw [eN, kDt (by omega) (by omega)]
      omega
    refine ⟨x, ?_, fun hs => ?_⟩
    · show kA0 (kC1 L (wr (l.nodes - 1))) _ = _
      rw [e, kAj hx, kA6]
    · obtain ⟨y, hy, hy2⟩ := h4 hs (N - 1) (by omega)
      rw [hx] at hy
      cases hy
      exact hy2
  | inr x =>
    obtain ⟨rfl, h3⟩ := h2
    exact ⟨_, rfl, fun hs => .inl ⟨rfl, h3 hs _⟩⟩
theorem cell_inj {n v v' k k' : Nat} (hk : k ≤ n) (hk' : k' ≤ n) (h : v * (n + 1) + k = v' * (n + 1) + k') : v = v' ∧ k = k' := by
  have e : ∀ a b : Nat, b ≤ n → (a * (n + 1) + b) / (n + 1) = a := fun a b hb => by
    rw [Nat.mul_comm, Nat.mul_add_div (by omega), Nat.div_eq_of_lt (by omega), Nat.add_zero]
  have h1 := e v k hk
  rw [h, e v' k' hk'] at h1
  subst h1
  exact ⟨rfl, by omega⟩
theorem cell_lt {n v k N : Nat} (hv : v < N) (hk : k ≤ n) : v * (n + 1) + k < N * (n + 1) := by
  have : (v + 1) * (n + 1) ≤ N * (n + 1) := Nat.mul_le_mul_right _ hv
  rw [Nat.add_mul] at this
  omega
structure TbS (E : List Edg) (lab : Nat → ByteArray) (N n : Nat) (L : List Int) : Prop where
  len : L.length = N * (n + 1)
  sound : ∀ v k, v < N → k ≤ n → ∃ x, L[v * (n + 1) + k]? = some x ∧ (x = -1 ∨ (0 ≤ x ∧ Wy E lab k v x))
  start : L[0]? = some 0
def Cap (n : Nat) (L : List Int) (v k : Nat) (c : Int) : Prop := ∃ x, L[v * (n + 1) + k]? = some x ∧ 0 ≤ x ∧ x ≤ c
def Dn (E : List Edg) (lab : Nat → ByteArray) (n : Nat) (L : List Int) (D : Edg → Nat → Nat → Prop) : Prop := ∀ i e k (u v : Nat) c, E[i]? = some e → k < n → D e i k → e.frm = (u : Int) → e.upto = (v : Int) → e.label = lab k → Wy E lab k u c → Cap n L v (k + 1) (c + e.cost)
theorem Cap.mono {n : Nat} {L : List Int} {v k m : Nat} {c x y : Int} (h : Cap n L v k c) (hx : L[m]? = some x) (hy : x < 0 ∨ y < x) (h0 : 0 ≤ y) : Cap n (L.set m y) v k c := by
  obtain ⟨z, h1, h2, h3⟩ := h
  unfold Cap
  rw [kGc hx]
  by_cases e : v * (n + 1) + k = m
  · rw [if_pos e]
    rw [e, hx] at h1
    cases h1
    exact ⟨y, rfl, h0, by omega⟩
  · rw [if_neg e]
    exact ⟨z, h1, h2, h3⟩
theorem full {E : List Edg} {lab : Nat → ByteArray} {N n : Nat} {L : List Int} {D : Edg → Nat → Nat → Prop} (hT : TbS E lab N n L) (hD : Dn E lab n L D) {v : Nat} (hv : ∀ i e k, E[i]? = some e → e.upto = (v : Int) → D e i k) {k : Nat} {c : Int} (hk : k ≤ n) (h : Wy E lab k v c) : Cap n L v k c := by
  cases h with
  | start => exact ⟨0, by rw [Nat.zero_mul]; exact hT.start, by omega, by omega⟩
  | step hw he hf hu hl => exact hD _ _ _ _ _ _ he (by omega) (hv _ _ _ he hu) hf hu hl hw
theorem kLoop {E : List Edg} {t : ByteArray} {N u i : Nat} {e : Edg} (hE : VE E N) (hN : N ≤ 20) (hn : t.size ≤ 10) (hu : u < N) (he : E[i]? = some e) {L : List Int} {D : Edg → Nat → Nat → Prop} (hT : TbS E (kEc t) N t.size L) (hD : Dn E (kEc t) t.size L D)
    (hv : ∀ i e k, E[i]? = some e → e.upto = (u : Int) → D e i k) : ∃ L', kAw (kGt t (u : Int) e) (some L, 0) = some (some L') ∧ TbS E (kEc t) N t.size L' ∧ Dn E (kEc t) t.size L' (fun e' i' k' => D e' i' k' ∨ (i' = i ∧ e'.frm = (u : Int))) := by
  obtain ⟨u', v, f1, f2, f3, f4, f5, f6⟩ := hE i e he
  by_cases hf : e.frm = (u : Int)
  · have : u' = u := by omega
    subst this
    obtain ⟨r, h1, L', rfl, h2, h3⟩ := kDo (step := kGt t (u' : Int) e) (s := (some L, 0))
      (fun q s => ∃ L', s = (some L', (q : Int)) ∧ TbS E (kEc t) N t.size L' ∧ Dn E (kEc t) t.size L' (fun e' i' k' => D e' i' k' ∨ (i' = i ∧ k' < q))) t.size
      (fun r => ∃ L', r = some L' ∧ TbS E (kEc t) N t.size L' ∧ Dn E (kEc t) t.size L' (fun e' i' k' => D e' i' k' ∨ (i' = i ∧ k' < t.size)))
      (fun q s hq hi => by
        obtain ⟨L', rfl, hT, hD⟩ := hi
        left
        have w1 : wr ((t.size : Int) + 1) = ((t.size + 1 : Nat) : Int) := by rw [kDt (by omega) (by omega)]; omega
        have w2 : wr ((q : Int) + 1) = ((q + 1 : Nat) : Int) := by rw [kDt (by omega) (by omega)]; omega
        have c : ((q + 1 : Nat) : Int) < ((t.size + 1 : Nat) : Int) := by omega
        have b1 := cell_lt (n := t.size) (k := q) hu (by omega)
        have b2 := cell_lt (n := t.size) (k := q + 1) f4 (by omega)
        have b3 : N * (t.size + 1) ≤ 20 * 11 := Nat.mul_le_mul hN (by omega)
        have m1 : (u' : Int) * ((t.size + 1 : Nat) : Int) = ((u' * (t.size + 1) : Nat) : Int) := (Int.natCast_mul _ _).symm
        have m2 : (v : Int) * ((t.size + 1 : Nat) : Int) = ((v * (t.size + 1) : Nat) : Int) := (Int.natCast_mul _ _).symm
        have i1 : wr (wr ((u' : Int) * ((t.size + 1 : Nat) : Int)) + (q : Int)) = ((u' * (t.size + 1) + q : Nat) : Int) := by
          rw [m1, kDt (n := ((u' * (t.size + 1) : Nat) : Int)) (by omega) (by omega), kDt (by omega) (by omega)]
          omega
        have i2 : wr (wr (wr ((v : Int) * ((t.size + 1 : Nat) : Int)) + (q : Int)) + 1) = ((v * (t.size + 1) + (q + 1) : Nat) : Int) := by
          rw [m2, kDt (n := ((v * (t.size + 1) : Nat) : Int)) (by omega) (by omega), kDt (n := ((v * (t.size + 1) : Nat) : Int) + (q : Int)) (by omega) (by omega), kDt (by omega) (by omega)]
          omega
        obtain ⟨a, ha, ha2⟩ := hT.sound u' q hu (by omega)
        obtain ⟨b, hb, hb2⟩ := hT.sound v (q + 1) f4 (by omega)
        have sub := subB_one hq (show t.size ≤ 4294967296 by omega)
        have fl : ∀ c, Wy E (kEc t) q u' c → 0 ≤ a ∧ a ≤ c := fun c hc => by
          obtain ⟨x, g1, g2, g3⟩ := full hT hD (v := u') (fun i' e' k' he' hu' => .inl (hv i' e' k' he' hu')) (by omega) hc
          rw [ha] at g1
          cases g1
          exact ⟨g2, g3⟩
        rw [w2] at sub
        by_cases hskip : a < 0 ∨ ¬ kEc t q = e.label
        · refine ⟨(some L', ((q + 1 : Nat) : Int)), ?_, L', rfl, hT, fun i' e' k' u2 v2 c2 he' hk' hD' hf' hu' hl' hw' => ?_⟩
          · unfold kGt
            simp only [w1, w2, c, decide_true, cond_true, kA6, hf, i1, Option.getD_some, kAj ha, sub]
            rcases hskip with h | h
            · rw [decide_eq_true h]
              rfl
            · rw [decide_eq_false (show ¬ t.extract q (q + 1) = e.label from h)]
              cases decide (a < 0) <;> rfl
          · rcases hD' with h | ⟨rfl, h⟩
            · exact hD _ _ _ _ _ _ he' hk' (.inl h) hf' hu' hl' hw'
            · by_cases hkq : k' = q
              · subst hkq
                rw [he] at he'
                cases he'
                have : u2 = u' := by omega
                subst this
                have := fl c2 hw'
                rcases hskip with h | h
                · omega
                · exact absurd hl'.symm h
              · exact hD _ _ _ _ _ _ he' hk' (.inr ⟨rfl, by omega⟩) hf' hu' hl' hw'
        · have hs0 : ¬ a < 0 := fun h => hskip (.inl h)
          have hs1 : kEc t q = e.label := Classical.byContradiction fun h => hskip (.inr h)
          have wa : Wy E (kEc t) q u' a := by
            rcases ha2 with h | h
            · omega
            · exact h.2
          have ba := wa.bound hE (by omega)
          have w3 : wr (a + e.cost) = a + e.cost := kDt (by omega) (by omega)
          by_cases hup : b < 0 ∨ a + e.cost < b
          · refine ⟨(some (L'.set (v * (t.size + 1) + (q + 1)) (a + e.cost)), ((q + 1 : Nat) : Int)), ?_, _, rfl, ⟨by rw [List.length_set]; exact hT.len, fun v2 k2 hv2 hk2 => ?_, ?_⟩, fun i' e' k' u2 v2 c2 he' hk' hD' hf' hu' hl' hw' => ?_⟩
            · unfold kGt
              simp only [w1, w2, c, decide_true, cond_true, kA6, hf, f2, i1, i2, Option.getD_some, kAj ha, kAj hb, sub, w3]
              rw [decide_eq_false hs0, decide_eq_true (show t.extract q (q + 1) = e.label from hs1)]
              have : (bif (bif decide (b < 0) then true else decide (a + e.cost < b)) then true else false) = true := by
                rcases hup with h | h
                · rw [decide_eq_true h]; rfl
                · rw [decide_eq_true h]; cases decide (b < 0) <;> rfl
              cases d1 : decide (b < 0) with
              | true => rfl
              | false =>
                rw [d1] at this
                cases d2 : decide (a + e.cost < b) with
                | true => rfl
                | false => rw [d2] at this; cases this
            · rw [kGc hb]
              by_cases ec : v2 * (t.size + 1) + k2 = v * (t.size + 1) + (q + 1)
              · rw [if_pos ec]
                obtain ⟨rfl, rfl⟩ := cell_inj hk2 (by omega) ec
                exact ⟨_, rfl, .inr ⟨by omega, .step wa he hf f2 hs1.symm⟩⟩
              · rw [if_neg ec]
                exact hT.sound v2 k2 hv2 hk2
            · rw [kGc hb, if_neg (by omega)]
              exact hT.start
            · have old : ∀ v2 k2 c, Cap t.size L' v2 k2 c → Cap t.size (L'.set (v * (t.size + 1) + (q + 1)) (a + e.cost)) v2 k2 c := fun v2 k2 c h => h.mono hb hup (by omega)
              rcases hD' with h | ⟨rfl, h⟩
              · exact old _ _ _ (hD _ _ _ _ _ _ he' hk' (.inl h) hf' hu' hl' hw')
              · by_cases hkq : k' = q
                · subst hkq
                  rw [he] at he'
                  cases he'
                  have : u2 = u' := by omega
                  subst this
                  have : v2 = v := by omega
                  subst this
                  have := fl c2 hw'
                  refine ⟨a + e.cost, ?_, by omega, by omega⟩
                  rw [kGc hb, if_pos rfl]
                · exact old _ _ _ (hD _ _ _ _ _ _ he' hk' (.inr ⟨rfl, by omega⟩) hf' hu' hl' hw')
          · refine ⟨(some L', ((q + 1 : Nat) : Int)), ?_, L', rfl, hT, fun i' e' k' u2 v2 c2 he' hk' hD' hf' hu' hl' hw' => ?_⟩
            · unfold kGt
              simp only [w1, w2, c, decide_true, cond_true, kA6, hf, f2, i1, i2, Option.getD_some, kAj ha, kAj hb, sub, w3]
              rw [decide_eq_false hs0, decide_eq_true (show t.extract q (q + 1) = e.label from hs1), decide_eq_false (fun h => hup (.inl h) : ¬ b < 0), decide_eq_false (fun h => hup (.inr h) : ¬ a + e.cost < b)]
              rfl
            · rcases hD' with h | ⟨rfl, h⟩
              · exact hD _ _ _ _ _ _ he' hk' (.inl h) hf' hu' hl' hw'
              · by_cases hkq : k' = q
                · subst hkq
                  rw [he] at he'
                  cases he'
                  have : u2 = u' := by omega
                  subst this
                  have : v2 = v := by omega
                  subst this
                  have := fl c2 hw'
                  have h1 : ¬ b < 0 := fun h => hup (.inl h)
                  have h2 : ¬ a + e.cost < b := fun h => hup (.inr h)
                  exact ⟨b, hb, by omega, by omega⟩
                · exact hD _ _ _ _ _ _ he' hk' (.inr ⟨rfl, by omega⟩) hf' hu' hl' hw')
      (fun s hi => by
        obtain ⟨L', rfl, hT, hD⟩ := hi
        refine ⟨some L', ?_, L', rfl, hT, hD⟩
        have w1 : wr ((t.size : Int) + 1) = ((t.size + 1 : Nat) : Int) := by rw [kDt (by omega) (by omega)]; omega
        unfold kGt
        simp only [w1, Int.lt_irrefl, decide_false, cond_false, kA6])
      ⟨L, rfl, hT, fun i' e' k' u2 v2 c he' hk' hD' => by
        rcases hD' with h | h
        · exact hD _ _ _ _ _ _ he' hk' h
        · omega⟩
    refine ⟨L', h1, h2, fun i' e' k' u2 v2 c he' hk' hD' => ?_⟩
    rcases hD' with h | h
    · exact h3 _ _ _ _ _ _ he' hk' (.inl h)
    · exact h3 _ _ _ _ _ _ he' hk' (.inr ⟨h.1, hk'⟩)
  · refine ⟨L, kC0 ?_, hT, fun i' e' k' u2 v2 c he' hk' hD' => ?_⟩
    · unfold kGt
      simp only
      rw [decide_eq_false hf]
      cases decide (wr ((0 : Int) + 1) < wr ((t.size : Int) + 1)) <;> rfl
    · rcases hD' with h | ⟨rfl, h⟩
      · exact hD _ _ _ _ _ _ he' hk' h
      · rw [he] at he'
        cases he'
        exact absurd h hf
theorem eLoop {E : List Edg} {t : ByteArray} {N u : Nat} (hE : VE E N) (hN : N ≤ 20) (hn : t.size ≤ 10) (hu : u < N) (hl : E.length ≤ 4294967296) {l : Lattice} (el : l.edges.getD [] = E) {L : List Int} (hT : TbS E (kEc t) N t.size L) (hD : Dn E (kEc t) t.size L (fun e _ _ => e.frm < (u : Int))) :
    ∃ L', kAw (s2_q75 l t (u : Int)) (some L, 0) = some (some L') ∧ TbS E (kEc t) N t.size L' ∧ Dn E (kEc t) t.size L' (fun e _ _ => e.frm < ((u + 1 : Nat) : Int)) := by
  obtain ⟨r, h1, L', rfl, h2, h3⟩ := kDo (step := s2_q75 l t (u : Int)) (s := (some L, 0))
    (fun j s => ∃ L', s = (some L', (j : Int)) ∧ TbS E (kEc t) N t.size L' ∧ Dn E (kEc t) t.size L' (fun e i _ => e.frm < (u : Int) ∨ (i < j ∧ e.frm = (u : Int)))) E.length
    (fun r => ∃ L', r = some L' ∧ TbS E (kEc t) N t.size L' ∧ Dn E (kEc t) t.size L' (fun e i _ => e.frm < (u : Int) ∨ (i < E.length ∧ e.frm = (u : Int))))
    (fun j s hj hi => by
      obtain ⟨L', rfl, hT, hD⟩ := hi
      left
      obtain ⟨e, he⟩ : ∃ a, E[j]? = some a := ⟨_, List.getElem?_eq_getElem hj⟩
      obtain ⟨L2, h1, h2, h3⟩ := kLoop hE hN hn hu he hT hD (fun i' e' k' he' hu' => by
        obtain ⟨_, _, g1, g2, g3, _⟩ := hE i' e' he'
        left
        omega)
      have c : (j : Int) < ((E.length : Nat) : Int) := by omega
      refine ⟨(some L2, ((j + 1 : Nat) : Int)), ?_, L2, rfl, h2, fun i' e' k' u2 v2 c he' hk' hD' => ?_⟩
      · unfold s2_q75
        simp only [el, c, decide_true, cond_true, kAj he, kA6, h1, kCf hj hl]
      · refine h3 _ _ _ _ _ _ he' hk' ?_
        rcases hD' with h | ⟨h, h'⟩
        · exact .inl (.inl h)
        · by_cases e1 : i' = j
          · exact .inr ⟨e1, h'⟩
          · exact .inl (.inr ⟨by omega, h'⟩))
    (fun s hi => by
      obtain ⟨L', rfl, hT, hD⟩ := hi
      refine ⟨some L', ?_, L', rfl, hT, hD⟩
      unfold s2_q75
      simp only [el, Int.lt_irrefl, decide_false, cond_false])
    ⟨L, rfl, hT, fun i' e' k' u2 v2 c he' hk' hD' => by
      rcases hD' with h | h
      · exact hD _ _ _ _ _ _ he' hk' h
      · omega⟩
  refine ⟨L', h1, h2, fun i' e' k' u2 v2 c he' hk' hD' => h3 _ _ _ _ _ _ he' hk' ?_⟩
  by_cases e1 : e'.frm < (u : Int)
  · exact .inl e1
  · exact .inr ⟨kCj he', by omega⟩
theorem text_both {l : Lattice} {t : ByteArray} {N : Nat} (eN : l.nodes = (N : Int)) (h0 : 0 < N) (hN : N ≤ 20) (hE : VE (l.edges.getD []) N) (hl : (l.edges.getD []).length ≤ 4294967296) (hn : t.size ≤ 10) :
    ∃ x y, t_q21 l t = some x ∧ t_q75 l t = some y ∧ ((x = noWay ∧ y < 0) ∨ (x = y ∧ x ≠ noWay ∧ 0 ≤ y)) := by
  obtain ⟨x, hx, hx2⟩ := implText_ok eN h0 hN hE hl (show t.size ≤ 4294967296 by omega)
  have hx3 := hx2 hn
  have w1 : wr ((t.size : Int) + 1) = ((t.size + 1 : Nat) : Int) := by rw [kDt (by omega) (by omega)]; omega
  have b3 : N * (t.size + 1) ≤ 20 * 11 := Nat.mul_le_mul hN (by omega)
  have b4 : 1 * 1 ≤ N * (t.size + 1) := Nat.mul_le_mul h0 (by omega)
  have m1 : (N : Int) * ((t.size + 1 : Nat) : Int) = ((N * (t.size + 1) : Nat) : Int) := (Int.natCast_mul _ _).symm
  have w2 : wr (l.nodes * wr ((t.size : Int) + 1)) = ((N * (t.size + 1) : Nat) : Int) := by
    rw [w1, eN, m1, kDt (by omega) (by omega)]
  have w3 : wr (((N * (t.size + 1) : Nat) : Int) - 1) = (((N - 1) * (t.size + 1) + t.size : Nat) : Int) := by
    rw [kDt (by omega) (by omega)]
    obtain ⟨M, rfl⟩ : ∃ M, N = M + 1 := ⟨N - 1, by omega⟩
    rw [Nat.add_sub_cancel, Nat.add_mul]
    omega
  have fill := fillLoop (-1) (N * (t.size + 1)) (by omega) (l := List.replicate (N * (t.size + 1)) 0) List.length_replicate (step := s0_q75 (List.replicate (N * (t.size + 1)) 0)) fun w i => by
    unfold s0_q75
    simp only [Option.getD_some, List.length_replicate]
  have g0 : (List.replicate (N * (t.size + 1)) (-1 : Int))[0]? = some (-1) := by rw [List.getElem?_replicate, if_pos (by omega)]
  obtain ⟨r, h1, L, rfl, h2, h3⟩ := kDo (step := s1_q75 l t) (s := (some ((List.replicate (N * (t.size + 1)) (-1 : Int)).set 0 0), 0))
    (fun u s => ∃ L, s = (some L, (u : Int)) ∧ TbS (l.edges.getD []) (kEc t) N t.size L ∧ Dn (l.edges.getD []) (kEc t) t.size L (fun e _ _ => e.frm < (u : Int))) N
    (fun r => ∃ L, r = some L ∧ TbS (l.edges.getD []) (kEc t) N t.size L ∧ Dn (l.edges.getD []) (kEc t) t.size L (fun e _ _ => e.frm < (N : Int)))
    (fun u s hu hi => by
      obtain ⟨L, rfl, hT, hD⟩ := hi
      left
      obtain ⟨L', h1, h2, h3⟩ := eLoop hE hN hn hu hl rfl hT hD
      have c : (u : Int) < (N : Int) := by omega
      refine ⟨(some L', ((u + 1 : Nat) : Int)), ?_, L', rfl, h2, h3⟩
      unfold s1_q75
      simp only [eN, c, decide_true, cond_true, h1, kA6, kCf hu (show N ≤ 4294967296 by omega)])
    (fun s hi => by
      obtain ⟨L, rfl, hT, hD⟩ := hi
      refine ⟨some L, ?_, L, rfl, hT, hD⟩
      unfold s1_q75
      simp only [eN, Int.lt_irrefl, decide_false, cond_false])
    ⟨_, rfl, ⟨by rw [List.length_set, List.length_replicate], fun v k hv hk => by
      rw [kGc g0]
      by_cases e : v * (t.size + 1) + k = 0
      · rw [if_pos e]
        have e2 : v * (t.size + 1) + k = 0 * (t.size + 1) + 0 := by omega
        obtain ⟨rfl, rfl⟩ := cell_inj hk (by omega) e2
        exact ⟨0, rfl, .inr ⟨by omega, .start⟩⟩
      · rw [if_neg e, List.getElem?_replicate, if_pos (cell_lt hv hk)]
        exact ⟨-1, rfl, .inl rfl⟩, by rw [kGc g0, if_pos rfl]⟩, fun i e k u v c he _ hD => by
      obtain ⟨_, _, g1, _⟩ := hE i e he
      omega⟩
  obtain ⟨y, hy, hy2⟩ := h2.sound (N - 1) t.size (by omega) (Nat.le_refl _)
  have run : t_q75 l t = some y := by
    unfold t_q75
    rw [w2, kFg 0 (by omega), kA6, fill, kA6]
    show kA0 (kC1 (List.replicate (N * (t.size + 1)) (-1 : Int)) ((0 : Nat) : Int)) _ = _
    rw [kAj g0, kA6]
    show kA0 (kAw (s1_q75 l t) (some ((List.replicate (N * (t.size + 1)) (-1 : Int)).set 0 0), 0)) _ = _
    rw [h1, kA6, w3]
    show kA0 (kC1 L _) _ = _
    rw [kAj hy, kA6]
  have fl : ∀ c, Wy (l.edges.getD []) (kEc t) t.size (N - 1) c → 0 ≤ y ∧ y ≤ c := fun c hc => by
    obtain ⟨z, g1, g2, g3⟩ := full h2 h3 (v := N - 1) (fun i e k he hu => by
      obtain ⟨_, _, g1, g2, g3, g4, _⟩ := hE i e he
      omega) (Nat.le_refl _) hc
    rw [hy] at g1
    cases g1
    exact ⟨g2, g3⟩
  refine ⟨x, y, hx, run, ?_⟩
  rcases hx3 with ⟨k1, k2⟩ | ⟨k1, k2⟩
  · left
    rcases hy2 with h | h
    · exact ⟨k1, by omega⟩
    · exact absurd h.2 (k2 y)
  · right
    have f1 := fl x k1
    have b := k1.bound hE h0
    rcases hy2 with h | h
    · omega
    · have := k2 y h.2
      refine ⟨by omega, ?_, h.1⟩
      show ¬ x = (1099511627776 : Int)
      omega
theorem lat_VE {l : Lattice} (h : latB l = true) : ∃ N : Nat, l.nodes = (N : Int) ∧ 0 < N ∧ N ≤ 20 ∧ VE (l.edges.getD []) N := by
  unfold latB at h
  rw [Bool.and_eq_true, Bool.and_eq_true] at h
  obtain ⟨h1, h2, _⟩ := h
  unfold kB5 at h2
  rw [Bool.and_eq_true] at h2
  have a1 := of_decide_eq_true h2.1
  have a2 := of_decide_eq_true h2.2
  refine ⟨l.nodes.toNat, by omega, by omega, by omega, fun i e he => ?_⟩
  have := (adj_all h1).1 e (List.mem_of_getElem? he)
  unfold okE fitE kB5 at this
  simp only [Bool.and_eq_true, decide_eq_true_eq] at this
  obtain ⟨⟨b1, b2, b3, b4, b5⟩, _⟩ := this
  exact ⟨e.frm.toNat, e.upto.toNat, by omega, by omega, by omega, by omega, b4, b5⟩
theorem word_short {s : ByteArray} (h : kEp s = true) : s.size ≤ 10 := by
  unfold kEp at h
  simp only [Bool.and_eq_true, decide_eq_true_eq] at h
  exact h.2.2
theorem ent_short {x : Lexicon} (h : lexB x = true) {e : Entry} (he : e ∈ x.entries.getD []) : e.word.size ≤ 10 := by
  unfold lexB at h
  rw [Bool.and_eq_true] at h
  have := (adj_all h.1).1 e he
  unfold okEnt at this
  rw [Bool.and_eq_true] at this
  exact word_short this.1
theorem code_zero {q : Sl Lattice} {x : Lexicon} {m : Model} (h : kBa q x m = 0) : lexB x = true ∧ modB m = true ∧ (∀ l ∈ q.getD [], latB l = true) ∧ (q.getD []).length ≤ 8 := by
  unfold kBa at h
  cases h1 : lexB x with
  | false => rw [h1] at h; cases h
  | true =>
    cases h2 : modB m with
    | false => rw [h1, h2] at h; cases h
    | true =>
      cases h3 : (q.getD []).all latB with
      | false => rw [h1, h2, h3] at h; cases h
      | true =>
        rw [h1, h2, h3] at h
        refine ⟨rfl, rfl, fun l hl => List.all_eq_true.1 h3 l hl, ?_⟩
        by_cases h4 : 8 < (((q.getD []).length : Nat) : Int)
        · rw [decide_eq_true h4] at h
          cases h
        · omega
theorem sentLoop {q : Sl Lattice} {x : Lexicon} {w : Sl ByteArray} (hx : lexB x = true) (hxl : (x.entries.getD []).length ≤ 4294967296) (hq : ∀ l ∈ q.getD [], latB l = true ∧ (l.edges.getD []).length ≤ 4294967296) (hw : ∀ a ∈ w.getD [], a.size ≤ 4294967296) (hl : (w.getD []).length = (q.getD []).length) (hn : (w.getD []).length ≤ 4294967296) :
    ∀ d i (c : Int), i + d = (w.getD []).length → ∃ r, kAw (s0_q7 q x w) (c, (i : Int)) = some r ∧ kAw (s1_q67 q x w) (c, (i : Int)) = some r
  | 0, i, c, hi => by
    have : i = (w.getD []).length := by omega
    subst this
    refine ⟨.inl c, kC0 ?_, kC0 ?_⟩
    · unfold s0_q7
      simp only [Int.lt_irrefl, decide_false, cond_false]
    · unfold s1_q67
      simp only [Int.lt_irrefl, decide_false, cond_false]
  | d + 1, i, c, hi => by
    have hlt : i < (w.getD []).length := by omega
    have cc : (i : Int) < (((w.getD []).length : Nat) : Int) := by omega
    obtain ⟨a, ha⟩ : ∃ a, (w.getD [])[i]? = some a := ⟨_, List.getElem?_eq_getElem hlt⟩
    obtain ⟨b, hb⟩ : ∃ a, (q.getD [])[i]? = some a := ⟨_, List.getElem?_eq_getElem (by omega)⟩
    obtain ⟨vb, lb⟩ := hq b (List.mem_of_getElem? hb)
    obtain ⟨N, eN, n0, n20, hE⟩ := lat_VE vb
    have sa := hw a (List.mem_of_getElem? ha)
    have P := place_ok hx hxl a
    have F := sfind_ok hx hxl a
    cases hh : lexHit x a with
    | false =>
      rw [hh] at P F
      obtain ⟨y, hy, _⟩ := implText_ok eN n0 n20 hE lb sa
      refine ⟨.inr (0, 3), kC0 ?_, kC0 ?_⟩
      · unfold s0_q7
        simp only [cc, decide_true, cond_true, kAj ha, kAj hb, kA6, P, hy, Bool.not_false]
      · unfold s1_q67
        simp only [cc, decide_true, cond_true, kAj ha, kA6, F, cond_false]
        rfl
    | true =>
      rw [hh] at P F
      obtain ⟨e, he, hew⟩ : ∃ e, (x.entries.getD [])[kCy x a]? = some e ∧ e.word = a := by
        unfold lexHit at hh
        cases k : (x.entries.getD [])[kCy x a]? with
        | none => rw [k] at hh; cases hh
        | some e =>
          rw [k] at hh
          exact ⟨e, rfl, of_decide_eq_true hh⟩
      have short : a.size ≤ 10 := by
        rw [← hew]
        exact ent_short hx (List.mem_of_getElem? he)
      have np : ¬ (kCy x a : Int) < 0 := by omega
      obtain ⟨u, v, hu, hv, h⟩ := text_both eN n0 n20 hE lb short
      rcases h with ⟨h1, h2⟩ | ⟨h1, h2, h3⟩
      · have d1 : decide (u = 1099511627776) = true := decide_eq_true h1
        refine ⟨.inr (0, 3), kC0 ?_, kC0 ?_⟩
        · unfold s0_q7
          simp only [cc, decide_true, cond_true, kAj ha, kAj hb, kA6, P, hu, Bool.not_true, cond_false, d1]
        · unfold s1_q67
          simp only [cc, decide_true, cond_true, kAj ha, kAj hb, kA6, F, hv, np, decide_false, cond_false, h2]
      · subst h1
        have d1 : decide (u = 1099511627776) = false := decide_eq_false h2
        have d2 : ¬ u < 0 := by omega
        obtain ⟨r, r1, r2⟩ := sentLoop hx hxl hq hw hl hn d (i + 1) (wr (c + wr (u + e.cost))) (by omega)
        refine ⟨r, ?_, ?_⟩
        · rw [kD9 (s' := (wr (c + wr (u + e.cost)), ((i + 1 : Nat) : Int)))]
          · exact r1
          · unfold s0_q7
            simp only [cc, decide_true, cond_true, kAj ha, kAj hb, kA6, P, hu, Bool.not_true, cond_false, d1, kAj he, kCf hlt hn]
        · rw [kD9 (s' := (wr (c + wr (u + e.cost)), ((i + 1 : Nat) : Int)))]
          · exact r2
          · unfold s1_q67
            simp only [cc, decide_true, cond_true, kAj ha, kAj hb, kA6, F, hv, np, decide_false, cond_false, d2, kAj he, kCf hlt hn]
theorem sent_both {q : Sl Lattice} {x : Lexicon} {m : Model} {w : Sl ByteArray} (hq : smallLats q) (hx : kG5 x) (hm : kG4 m) (hwl : (w.getD []).length ≤ 4294967296) (hw : ∀ a ∈ w.getD [], a.size ≤ 4294967296) :
    ∃ r, t_q7 q x m w = some r ∧ t_q67 q x m w = some r := by
  have c1 := sentenced_ok hq hx hm
  have c2 := specCode_ok hq hx hm
  by_cases h0 : kBa q x m = 0
  · obtain ⟨b1, b2, b3, b4⟩ := code_zero h0
    rw [h0] at c1 c2
    by_cases hl : (w.getD []).length = (q.getD []).length
    · obtain ⟨s, s1, s2⟩ := words_eq (mod_srt b2) hm.1 w hwl
      obtain ⟨r, r1, r2⟩ := sentLoop b1 hx.1 (fun l hl => ⟨b3 l hl, hq.2 l hl⟩) hw hl hwl (w.getD []).length 0 s (by omega)
      have z : ((0 : Nat) : Int) = 0 := rfl
      rw [z] at r1 r2
      have e : decide ((((w.getD []).length : Nat) : Int) = (((q.getD []).length : Nat) : Int)) = true := decide_eq_true (by rw [hl])
      refine ⟨match r with | .inl a => (a, 0) | .inr a => a, ?_, ?_⟩
      · unfold t_q7
        simp only [c1, kA6, decide_true, Bool.not_true, cond_false, e, s1, r1]
        cases r <;> rfl
      · unfold t_q67
        simp only [c2, kA6, decide_true, Bool.not_true, cond_false, cond_true, e, s2, r2]
        cases r <;> rfl
    · have e : decide ((((w.getD []).length : Nat) : Int) = (((q.getD []).length : Nat) : Int)) = false := decide_eq_false (by omega)
      refine ⟨(0, 2), ?_, ?_⟩
      · unfold t_q7
        simp only [c1, kA6, decide_true, Bool.not_true, cond_false, e, Bool.not_false, cond_true]
      · unfold t_q67
        simp only [c2, kA6, decide_true, cond_true, e, Bool.not_false]
        rfl
  · have e : decide (kBa q x m = 0) = false := decide_eq_false h0
    refine ⟨(0, kBa q x m), ?_, ?_⟩
    · unfold t_q7
      simp only [c1, kA6, e, Bool.not_false, cond_true]
    · unfold t_q67
      simp only [c2, kA6, e, Bool.not_false, cond_true, cond_false]
theorem mem_len {A : Type} {wt : A → Nat} (s : Sl A) : (s.getD []).length ≤ wtS wt s := by
  unfold wtS
  omega
theorem kF8 (a : Sl Lattice) (x : Lexicon) (m : Model) (w : Sl ByteArray) (ha : Wt.big a = true) (hx : Wt.big x = true) (hm : Wt.big m = true) (hw : Wt.big w = true) : t_q27 a x m w = some true := by
  have bx : Wt.big x.entries = true := hx
  have bm : Wt.big m.bigrams = true := hm
  have Z1 := szLatticeS_ok (s := a) (big_len ha) (fun l hl => by
    have b : Wt.big l.edges = true := big_mem ha hl
    exact ⟨big_len b, fun e he => of_decide_eq_true (p := e.label.size ≤ maxLen) (big_mem b he)⟩) 1048576 (by omega) (by omega)
  have Z2 := szLexicon_ok (l := x) (big_len bx) (fun e he => of_decide_eq_true (p := e.word.size ≤ maxLen) (big_mem bx he))
  have Z3 := szModel_ok (l := m) (big_len bm) (fun e he => by
    have h : (decide (e.first.size ≤ maxLen) && decide (e.second.size ≤ maxLen)) = true := big_mem bm he
    rw [Bool.and_eq_true] at h
    exact ⟨of_decide_eq_true h.1, of_decide_eq_true h.2⟩)
  have Z4 := szStringS_ok (s := w) (big_len hw) (fun e he => of_decide_eq_true (p := e.size ≤ maxLen) (big_mem hw he))
  have neg : decide ((-1 : Int) < 0) = true := rfl
  unfold t_q27
  rcases Z1 with z1 | ⟨k1, z1⟩
  · rw [z1, kA6, neg, cond_true]
  rw [z1, kA6, decide_eq_false (by omega), cond_false]
  rcases Z2 (1048576 - ((wtS wtLat a : Nat) : Int)) (by omega) (by omega) with z2 | ⟨k2, z2⟩
  · rw [z2, kA6, neg, cond_true]
  rw [z2, kA6, decide_eq_false (by omega), cond_false]
  rcases Z3 (1048576 - ((wtS wtLat a : Nat) : Int) - ((wtLex x : Nat) : Int)) (by omega) (by omega) with z3 | ⟨k3, z3⟩
  · rw [z3, kA6, neg, cond_true]
  rw [z3, kA6, decide_eq_false (by omega), cond_false]
  rcases Z4 (1048576 - ((wtS wtLat a : Nat) : Int) - ((wtLex x : Nat) : Int) - ((wtMod m : Nat) : Int)) (by omega) (by omega) with z4 | ⟨k4, z4⟩
  · rw [z4, kA6, neg, cond_true]
  rw [z4, kA6, decide_eq_false (by omega), cond_false]
  have la : (a.getD []).length ≤ 1048576 := by
    have := mem_len (wt := wtLat) a
    omega
  have ea : ∀ l ∈ a.getD [], (l.edges.getD []).length ≤ 1048576 := fun l hl => by
    have h1 : wtLat l ≤ wtS wtLat a := wt_mem hl
    have h2 := mem_len (wt := fun e : Edg => e.label.size) l.edges
    have h3 : wtLat l = wtS (fun e : Edg => e.label.size) l.edges := rfl
    omega
  have lx : (x.entries.getD []).length ≤ 1048576 := by
    have := mem_len (wt := fun e : Entry => e.word.size) x.entries
    unfold wtLex at k2
    omega
  have ex : ∀ e ∈ x.entries.getD [], e.word.size ≤ 1048576 := fun e he => by
    have : e.word.size ≤ wtS (fun e : Entry => e.word.size) x.entries := wt_mem (wt := fun e : Entry => e.word.size) he
    unfold wtLex at k2
    omega
  have lm : (m.bigrams.getD []).length ≤ 1048576 := by
    have := mem_len (wt := fun e : Bigram => e.first.size + e.second.size) m.bigrams
    unfold wtMod at k3
    omega
  have em : ∀ e ∈ m.bigrams.getD [], e.first.size ≤ 1048576 ∧ e.second.size ≤ 1048576 := fun e he => by
    have : e.first.size + e.second.size ≤ wtS (fun e : Bigram => e.first.size + e.second.size) m.bigrams := wt_mem (wt := fun e : Bigram => e.first.size + e.second.size) he
    unfold wtMod at k3
    omega
  have lw : (w.getD []).length ≤ 1048576 := by
    have := mem_len (wt := fun e : ByteArray => e.size) w
    omega
  have ew : ∀ e ∈ w.getD [], e.size ≤ 1048576 := fun e he => by
    have : e.size ≤ wtS (fun e : ByteArray => e.size) w := wt_mem (wt := fun e : ByteArray => e.size) he
    omega
  have T1 := toLatticeS_ok a (by omega) (fun l hl => by have := ea l hl; omega)
  have T2 := toLexicon_ok x (by omega)
  have T3 := toModel_ok m (by omega)
  have T4 := toStringS_ok w (by omega)
  have own : ∀ l ∈ (a.getD []).map kHt, (l.edges.getD []).length ≤ 4294967296 := fun l hl => by
    obtain ⟨l', h1, rfl⟩ := List.mem_map.1 hl
    have := ea l' h1
    show (l'.edges.getD []).length ≤ _
    omega
  have Q1 := eqLatticeS_ok (a := some ((a.getD []).map kHt)) (b := some ((a.getD []).map kHt)) rfl (by show ((a.getD []).map kHt).length ≤ _; rw [List.length_map]; omega) own
  have Q2 := eqLexicon_ok ⟨some (x.entries.getD [])⟩ (by show (x.entries.getD []).length ≤ _; omega)
  have Q3 := eqModel_ok ⟨m.default, some (m.bigrams.getD [])⟩ (by show (m.bigrams.getD []).length ≤ _; omega)
  rw [List.map_id'] at T4
  have Q4 := eqStringS_ok (a := some (w.getD [])) (b := some (w.getD [])) rfl (by show (w.getD []).length ≤ _; omega)
  obtain ⟨r, r1, r2⟩ := sent_both (q := some ((a.getD []).map kHt)) (x := ⟨some (x.entries.getD [])⟩) (m := ⟨m.default, some (m.bigrams.getD [])⟩) (w := some (w.getD [])) ⟨by show ((a.getD []).map kHt).length ≤ _; rw [List.length_map]; omega, own⟩ ⟨by show (x.entries.getD []).length ≤ _; omega, fun e he => by have := ex e he; omega⟩ ⟨by show (m.bigrams.getD []).length ≤ _; omega, fun e he => by have := em e he; omega⟩ (by show (w.getD []).length ≤ _; omega) (fun e he => by have := ew e he; omega)
  simp only [T1, T2, T3, T4, kA6, r1, r2, decide_true, Bool.not_true, cond_false, Q1, Q2, Q3, Q4]
theorem lawC4 {P : Program} {g : Nat} {A B C D : Type} [Cod A] [Cod B] [Cod C] [Cod D] {t : A → B → C → D → Option Bool} (h : kAi P g (C4 (fun c : Bool => enc c) t)) {ok : A → B → C → D → Bool} (ht : ∀ a b c d, ok a b c d = true → t a b c d = some true) : kAi P g (G4 ok fun _ _ _ _ => bv true) :=
  h.mono' fun ds r hr => by
    unfold G4 at hr
    unfold C4 R4
    match ds with
    | [] => cases hr
    | [_] => cases hr
    | [_, _] => cases hr
    | [_, _, _] => cases hr
    | [x, y, z, w] =>
      obtain ⟨a, h1, h2⟩ := kBn hr
      obtain ⟨b, h3, h4⟩ := kBn h2
      obtain ⟨c, h5, h6⟩ := kBn h4
      obtain ⟨d, h7, h8⟩ := kBn h6
      simp only at h8
      cases e : ok a b c d with
      | false => rw [e] at h8; cases h8
      | true =>
        rw [e] at h8
        cases h8
        show (kA0 (dec x) fun a0 => kA0 (dec y) fun a1 => kA0 (dec z) fun a2 => kA0 (dec w) fun a3 => _) = _
        rw [h1, kA6, h3, kA6, h5, kA6, h7, kA6]
        show (kA0 (t a b c d) fun c => _) = _
        rw [ht a b c d e]
        rfl
    | _ :: _ :: _ :: _ :: _ :: _ => cases hr
theorem ok_q27 : kAi Try.prog n_q27 (G4 (fun (a : Sl Lattice) (x : Lexicon) (m : Model) (w : Sl ByteArray) => Wt.big a && (Wt.big x && (Wt.big m && Wt.big w))) fun _ _ _ _ => bv true) := lawC4 tt_q27 fun a x m w h => by
  rw [Bool.and_eq_true, Bool.and_eq_true, Bool.and_eq_true] at h
  exact kF8 a x m w h.1 h.2.1 h.2.2.1 h.2.2.2
theorem kFc (a : Sl Lattice) (x : Lexicon) (m : Model) (w : Sl ByteArray) (ha : Row.fine a) (hx : Row.fine x) (hm : Row.fine m) (hw : Row.fine w) : G4 (fun (a : Sl Lattice) (x : Lexicon) (m : Model) (w : Sl ByteArray) => Wt.big a && (Wt.big x && (Wt.big m && Wt.big w))) (fun _ _ _ _ => bv true) [enc a, enc x, enc m, enc w] = some (bv true) := G4_enc _ _ a x m w (by rw [Wt.fb a ha, Wt.fb x hx, Wt.fb m hm, Wt.fb w hw]; rfl)
theorem isC_2 {cs : List AV} (h : IsC Try.prog 2 cs) : ∃ x : Int, cs = Row.cells x ∧ Row.fine x := by
  obtain ⟨n, rfl, hn⟩ := IsC.intE Try.underlying2 h
  exact ⟨n, rfl, fine_int hn⟩
theorem isC_9 {cs : List AV} (h : IsC Try.prog 9 cs) : ∃ x : ByteArray, cs = Row.cells x ∧ Row.fine x := by
  obtain ⟨n, rfl, hn⟩ := IsC.strE Try.underlying9 h
  exact ⟨n, rfl, hn⟩
theorem isC_231 {cs : List AV} (h : IsC Try.prog 231 cs) : ∃ x : Edg, cs = Row.cells x ∧ Row.fine x := by
  replace h := IsC.structE Try.underlying231 h
  obtain ⟨c0, r0, rfl, q0, k0⟩ := IsFs.consE h
  obtain ⟨c1, r1, rfl, q1, k1⟩ := IsFs.consE k0
  obtain ⟨c2, r2, rfl, q2, k2⟩ := IsFs.consE k1
  obtain ⟨c3, r3, rfl, q3, k3⟩ := IsFs.consE k2
  cases IsFs.nilE k3
  obtain ⟨v0, rfl, w0⟩ := isC_2 q0
  obtain ⟨v1, rfl, w1⟩ := isC_2 q1
  obtain ⟨v2, rfl, w2⟩ := isC_9 q2
  obtain ⟨v3, rfl, w3⟩ := isC_2 q3
  exact ⟨⟨v0, v1, v2, v3⟩, rfl, w0, w1, w2, w3⟩
theorem isC_122 {cs : List AV} (h : IsC Try.prog 122 cs) : ∃ x : (Sl Edg), cs = Row.cells x ∧ Row.fine x := by
  rcases IsC.sliceE Try.underlying122 h with rfl | ⟨rows, rfl, h1, h2⟩
  · exact ⟨none, rfl, Sl.fineNil⟩
  · exact Sl.isC (by kernel_rfl) h1 fun row hr => isC_231 (h2 row hr)
theorem isC_124 {cs : List AV} (h : IsC Try.prog 124 cs) : ∃ x : Lattice, cs = Row.cells x ∧ Row.fine x := by
  replace h := IsC.structE Try.underlying124 h
  obtain ⟨c0, r0, rfl, q0, k0⟩ := IsFs.consE h
  obtain ⟨c1, r1, rfl, q1, k1⟩ := IsFs.consE k0
  cases IsFs.nilE k1
  obtain ⟨v0, rfl, w0⟩ := isC_2 q0
  obtain ⟨v1, rfl, w1⟩ := isC_122 q1
  exact ⟨⟨v0, v1⟩, rfl, w0, w1⟩
theorem isC_56 {cs : List AV} (h : IsC Try.prog 56 cs) : ∃ x : (Sl Lattice), cs = Row.cells x ∧ Row.fine x := by
  rcases IsC.sliceE Try.underlying56 h with rfl | ⟨rows, rfl, h1, h2⟩
  · exact ⟨none, rfl, Sl.fineNil⟩
  · exact Sl.isC (by kernel_rfl) h1 fun row hr => isC_124 (h2 row hr)
theorem isC_190 {cs : List AV} (h : IsC Try.prog 190 cs) : ∃ x : Entry, cs = Row.cells x ∧ Row.fine x := by
  replace h := IsC.structE Try.underlying190 h
  obtain ⟨c0, r0, rfl, q0, k0⟩ := IsFs.consE h
  obtain ⟨c1, r1, rfl, q1, k1⟩ := IsFs.consE k0
  cases IsFs.nilE k1
  obtain ⟨v0, rfl, w0⟩ := isC_9 q0
  obtain ⟨v1, rfl, w1⟩ := isC_2 q1
  exact ⟨⟨v0, v1⟩, rfl, w0, w1⟩
theorem isC_57 {cs : List AV} (h : IsC Try.prog 57 cs) : ∃ x : (Sl Entry), cs = Row.cells x ∧ Row.fine x := by
  rcases IsC.sliceE Try.underlying57 h with rfl | ⟨rows, rfl, h1, h2⟩
  · exact ⟨none, rfl, Sl.fineNil⟩
  · exact Sl.isC (by kernel_rfl) h1 fun row hr => isC_190 (h2 row hr)
theorem isC_59 {cs : List AV} (h : IsC Try.prog 59 cs) : ∃ x : Lexicon, cs = Row.cells x ∧ Row.fine x := by
  replace h := IsC.structE Try.underlying59 h
  obtain ⟨c0, r0, rfl, q0, k0⟩ := IsFs.consE h
  cases IsFs.nilE k0
  obtain ⟨v0, rfl, w0⟩ := isC_57 q0
  exact ⟨⟨v0⟩, rfl, w0⟩
theorem isC_193 {cs : List AV} (h : IsC Try.prog 193 cs) : ∃ x : Bigram, cs = Row.cells x ∧ Row.fine x := by
  replace h := IsC.structE Try.underlying193 h
  obtain ⟨c0, r0, rfl, q0, k0⟩ := IsFs.consE h
  obtain ⟨c1, r1, rfl, q1, k1⟩ := IsFs.consE k0
  obtain ⟨c2, r2, rfl, q2, k2⟩ := IsFs.consE k1
  cases IsFs.nilE k2
  obtain ⟨v0, rfl, w0⟩ := isC_9 q0
  obtain ⟨v1, rfl, w1⟩ := isC_9 q1
  obtain ⟨v2, rfl, w2⟩ := isC_2 q2
  exact ⟨⟨v0, v1, v2⟩, rfl, w0, w1, w2⟩
theorem isC_60 {cs : List AV} (h : IsC Try.prog 60 cs) : ∃ x : (Sl Bigram), cs = Row.cells x ∧ Row.fine x := by
  rcases IsC.sliceE Try.underlying60 h with rfl | ⟨rows, rfl, h1, h2⟩
  · exact ⟨none, rfl, Sl.fineNil⟩
  · exact Sl.isC (by kernel_rfl) h1 fun row hr => isC_193 (h2 row hr)
theorem isC_62 {cs : List AV} (h : IsC Try.prog 62 cs) : ∃ x : Model, cs = Row.cells x ∧ Row.fine x := by
  replace h := IsC.structE Try.underlying62 h
  obtain ⟨c0, r0, rfl, q0, k0⟩ := IsFs.consE h
  obtain ⟨c1, r1, rfl, q1, k1⟩ := IsFs.consE k0
  cases IsFs.nilE k1
  obtain ⟨v0, rfl, w0⟩ := isC_2 q0
  obtain ⟨v1, rfl, w1⟩ := isC_60 q1
  exact ⟨⟨v0, v1⟩, rfl, w0, w1⟩
theorem isC_63 {cs : List AV} (h : IsC Try.prog 63 cs) : ∃ x : (Sl ByteArray), cs = Row.cells x ∧ Row.fine x := by
  rcases IsC.sliceE Try.underlying63 h with rfl | ⟨rows, rfl, h1, h2⟩
  · exact ⟨none, rfl, Sl.fineNil⟩
  · exact Sl.isC (by kernel_rfl) h1 fun row hr => isC_9 (h2 row hr)
theorem own : ownKnob Try.prog.godebug = none := by kernel_rfl
theorem laidOut : laidOutB Try.prog = true := by kernel_rfl
set_option maxRecDepth 100000 in
theorem holds : Rows.FnExactSentenceCostSaid :=
  OpenClaim.holds_of_wide 6 Try.f6 rfl rfl rfl rfl rfl rfl rfl ⟨rfl, rfl, rfl, rfl, rfl⟩ rfl rfl rfl rfl rfl (by kernel_rfl) Try.func6 (by kernel_rfl)
    (of_decide_eq_true (by kernel_rfl)) (by unfold Func.isWrapper; rw [if_neg (by decide +kernel)]; exact ⟨rfl, rfl⟩)
    (fun os started H enc _ => law_lifted (C := Try.checked) (s := Rows.fnExactSentenceCostSpec) own started (by kernel_rfl) Try.func6
      (ChangeSpec.witness6 (enc := enc) (C := Try.checked) false ⟨#[], #[.slice none 0 0, .agg #[.slice none 0 0], .agg #[.int .i64 0, .slice none 0 0], .slice none 0 0], []⟩ 8 (by kernel_rfl) (by kernel_rfl) (by kernel_rfl) (by kernel_rfl))
      laidOut rfl (tb := 4) rfl Try.underlying4 (ts := [56, 124, 2, 122, 231, 9, 59, 57, 190, 62, 60, 193, 63]) (by kernel_rfl)
      (fun ds h => by match ds, h with | [d0, d1, d2, d3], _ => rfl)
      hb_q27 ok_q27 (by
    intro l h
    obtain ⟨a0, l0, rfl, g0, k0⟩ := h
    obtain ⟨a1, l1, rfl, g1, k1⟩ := k0
    obtain ⟨a2, l2, rfl, g2, k2⟩ := k1
    obtain ⟨a3, l3, rfl, g3, k3⟩ := k2
    cases k3
    obtain ⟨b0, e0, w0⟩ := isC_56 (isV_one (by kernel_rfl) g0)
    obtain rfl := one_enc e0
    obtain ⟨c1, rfl, m1⟩ := IsV.structE Try.underlying59 g1
    obtain ⟨b1, rfl, w1⟩ := isC_59 m1
    obtain ⟨c2, rfl, m2⟩ := IsV.structE Try.underlying62 g2
    obtain ⟨b2, rfl, w2⟩ := isC_62 m2
    obtain ⟨b3, e3, w3⟩ := isC_63 (isV_one (by kernel_rfl) g3)
    obtain rfl := one_enc e3
    exact kFc b0 b1 b2 b3 w0 w1 w2 w3) (by kernel_rfl))
#print axioms holds
end Go.Proofs.Ytcdahloanikigaa
