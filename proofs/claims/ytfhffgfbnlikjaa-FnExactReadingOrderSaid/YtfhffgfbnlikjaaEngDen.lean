import Derived.Test.YtfhffgfbnlikjaaEngCore
namespace Go.Eng
set_option linter.unusedVariables false
set_option linter.unusedSimpArgs false
inductive AX where
  | normal
  | exit (id : Nat)
  | ret
inductive Contract where
  | none
  | pure (f : List AV → Option AV)
  | gen (F : List AV → kA4 → Option (AV × kA4))
def depth : Nat := 8
def kD0 : Nat → AV → Bool
  | _, .sc _ | _, .fptr .. | _, .fs .. => true
  | d + 1, .agg cs => cs.all (kD0 d)
  | d + 1, .fn _ cs => cs.all (kD0 d)
  | _, _ => false
def noF : Nat → AV → Bool
  | _, .sc _ => true
  | d + 1, .agg cs => cs.all (noF d)
  | d + 1, .tup cs => cs.all (noF d)
  | d + 1, .fn _ cs => cs.all (noF d)
  | d + 1, .nw _ rows => rows.all fun r => r.all (noF d)
  | d + 1, .np _ rows _ _ => rows.all fun r => r.all (noF d)
  | _, _ => false
def kAb (f : List AV → Option AV) (args : List AV) (h : kA4) : Option (AV × kA4) :=
  match kBb (snap h depth) args with
  | some ds => match f ds with
    | some r => if (noF depth r || args.all (kD0 depth)) = true then some ((mat depth r h.length).1, h ++ (mat depth r h.length).2) else none
    | none => none
  | none => none
def kAx (c : Contract) (args : List AV) (h : kA4) : Option (AV × kA4) :=
  match c with
  | .pure f => kAb f args h
  | .gen F => F args h
  | .none => none
def kCq (c : Contract) (args : List AV) (h : kA4) : Option (AV × kA4) :=
  match c with
  | .pure f => kAb f args h
  | _ => none
def placeOf (P : Program) (t : TypeId) : Option (Nat → Option (Nat × Nat)) :=
  match P.underlying t with
  | some (.struct fs) => match fs.toList.mapM (fun f => (P.info? f.type).map fun i => (f.offset, i.size)) with
    | some l => some (l.toArray[·]?)
    | none => none
  | some (.array _ e) => match P.info? e with
    | some i => some fun j => some (j * i.size, i.size)
    | none => none
  | _ => none
def partsOf (pl : Nat → Option (Nat × Nat)) (tm : TM) : List (Nat × Operand) → Option (List (Nat × Nat × AV))
  | [] => some []
  | (i, x) :: r => match pl i with
    | some (off, s) => match partsOf pl tm r with
      | some l => some ((off, s, ev tm x) :: l)
      | none => none
    | none => none
def kE9 (rec : TypeId → Option (List CK)) : List Field → List CK → Option (List CK)
  | [], acc => some acc
  | f :: fs, acc => if f.name ≠ "_" ∧ f.offset = acc.length then match rec f.type with
    | some ks => kE9 rec fs (acc ++ ks)
    | none => none else none
def eqCells (P : Program) : Nat → TypeId → Option (List CK)
  | 0, _ => none
  | d + 1, t =>
    match P.underlying t with
    | some .bool => if tsize P t = some 1 then some [.bool] else none
    | some (.int _) => if tsize P t = some 1 then some [.int] else none
    | some .string => if tsize P t = some 1 then some [.str] else none
    | some (.struct fs) =>
      if P.stoodInHeld t = true then none else
      match kE9 (eqCells P d) fs.toList [] with
      | some ks => if tsize P t = some ks.length then some ks else none
      | none => none
    | _ => none
inductive EqK where
  | plain | bool | agg (ks : List CK) | ptr | slice
def eqK (P : Program) (t : TypeId) : Option EqK :=
  match P.underlying t with
  | some (.int _) | some .string => some .plain
  | some .bool => some .bool
  | some (.pointer _) => some .ptr
  | some (.slice _) => some .slice
  | some (.struct _) => if P.eqGuardType P.depth t = false then match eqCells P 8 t with
    | some ks => some (.agg ks)
    | none => none else none
  | _ => none
def aEq (k : EqK) (x y : AV) : Option Bool :=
  match k, x, y with
  | .plain, .sc (.int k a), .sc (.int k' b) => if k = k' then some (a == b) else none
  | .plain, .sc (.string a), .sc (.string b) => some (a.toList == b.toList)
  | .bool, .sc (.bool a), .sc (.bool b) => some (a == b)
  | .agg ks, .agg as, .agg bs => if as.length = ks.length ∧ bs.length = ks.length then kCp ks as bs else none
  | .ptr, x, .sc (.pointer none) => isNilP x
  | .slice, x, .sc (.slice none 0 0) => isNilS x
  | _, _, _ => none
def kFo (op : BinOp) (k : EqK) (x y : AV) : Option AV :=
  match aEq k x y with
  | some e => match op with
    | .eql => some (bv e)
    | .neq => some (bv !e)
    | _ => none
  | none => none
def isCmp : BinOp → Bool
  | .eql | .neq => true
  | _ => false
inductive LenK where
  | str | slice | arr (n : Nat)
def lenK (P : Program) (t : TypeId) : Option LenK :=
  match P.underlying t with
  | some .string => some .str
  | some (.slice _) => some .slice
  | some (.array n _) => some (.arr n)
  | _ => none
def kBf (k : LenK) (x : AV) : Option AV :=
  match k, x with
  | .str, .sc (.string s) => some (iv s.size)
  | .slice, .sc (.slice none 0 0) => some (iv 0)
  | .slice, .sl _ _ _ n => some (iv n)
  | .slice, .fs _ rows => some (iv rows.length)
  | .arr n, _ => some (iv n)
  | _, _ => none
inductive ConvK where
  | int (k : IntKind) | str | bytes | ofBytes
def convK (P : Program) (src dst : TypeId) : Option ConvK :=
  match P.underlying src, P.underlying dst with
  | some (.int _), some (.int k) => some (.int k)
  | some .string, some .string => some .str
  | some .string, some (.slice e) => match P.underlying e with | some (.int .u8) => if tsize P e == some 1 then some .bytes else none | _ => none
  | some (.slice e), some .string => match P.underlying e with | some (.int .u8) => if tsize P e == some 1 then some .ofBytes else none | _ => none
  | _, _ => none
section
variable {R : Type}
def kCu (P : Program) (tm : TM) (h : kA4) (b : Builtin) (ts : List TypeId) (xs : List Operand) (K : AV → kA4 → Option R) : Option R :=
  match b, ts, xs with
  | .len, t :: _, x :: _ => match lenK P t with
    | some k => kA0 (kBf k (ev tm x)) fun v => K v h
    | none => none
  | .append, [t, u], [s, x] => match tslice P t with
    | some e => match tsize P e, tbytes P e, tzero P e with
      | some (k + 1), some b, some z => if z.length = k + 1 then match lenK P u with
        | some .str => kA3 (kB1 true (k + 1) b (ev tm s) (ev tm x) h) K
        | some .slice => kA3 (kB1 false (k + 1) b (ev tm s) (ev tm x) h) K
        | _ => none else none
      | _, _, _ => none
    | none => none
  | .max, _, x :: r => kA0 (kHu aMax2 (ev tm x) (r.map (ev tm))) fun v => K v h
  | .min, _, x :: r => kA0 (kHu aMin2 (ev tm x) (r.map (ev tm))) fun v => K v h
  | _, _, _ => none
def kDo (P : Program) (env : Nat → Contract) (quiet : Bool) (tm : TM) (h : kA4) (c : Call) (K : AV → kA4 → Option R) : Option R :=
  match c.callee with
  | .builtin b => kCu P tm h b c.argTypes.toList c.args.toList K
  | .value f => match ev tm f with
    | .fn g caps => match quiet with
      | true => kA3 (kCq (env g) (c.args.toList.map (ev tm) ++ caps) h) K
      | false => kA3 (kAx (env g) (c.args.toList.map (ev tm) ++ caps) h) K
    | _ => none
  | .invoke .. => none
def kBq (P : Program) (env : Nat → Contract) (quiet : Bool) (tm : TM) (h : kA4) (op : Op) (K : AV → kA4 → Option R) : Option R :=
  match op with
  | .move x | .assign x => K (ev tm x) h
  | .pick c a b => kA0 (kCd (ev tm c) (ev tm a) (ev tm b)) fun v => K v h
  | .alloc e => match tzero P e with
    | some z => kA3 (kG1 (z.map .sc) h) K
    | none => none
  | .box _ x => kA3 (kG1 (ev tm x).cells h) K
  | .build t parts => match tzero P t, placeOf P t with
    | some z, some pl => match partsOf pl tm parts.toList with
      | some ps => kA0 (kIf (z.map .sc) ps) fun v => K v h
      | none => none
    | _, _ => none
  | .buildSlice t n parts => match tslice P t with
    | some e => match tzero P e, tsize P e with
      | some z, some (s + 1) => if z.length = s + 1 ∧ n * (s + 1) ≤ 16777216 then kA3 (kAf (z.map .sc) n (parts.toList.map fun p => (p.1, ev tm p.2)) h) K else none
      | _, _ => none
    | none => none
  | .load t a => match tsize P t, tagg P t with
    | some s, some g => kA0 (kAc g s (ev tm a) h) fun v => K v h
    | _, _ => none
  | .store t a x => match tsize P t with
    | some s => kA0 (kAw s (ev tm a) (ev tm x) h) fun h' => K und h'
    | none => none
  | .nilCheck x => kA0 (kBy (ev tm x)) fun v => K v h
  | .binOp op t x y _ => match isCmp op with
    | true => match eqK P t with
      | some k => kA0 (kFo op k (ev tm x) (ev tm y)) fun v => K v h
      | none => none
    | false => kA0 (kAq op (ev tm x) (ev tm y)) fun v => K v h
  | .unOp op _ x => kA0 (aUn op (ev tm x)) fun v => K v h
  | .convert src dst x => match convK P src dst with
    | some (.int k) => kA0 (kCw k (ev tm x)) fun v => K v h
    | some .str => match ev tm x with
      | .sc (.string s) => K (.sc (.string s)) h
      | _ => none
    | some .bytes => kA3 (kGw (ev tm x) h) K
    | some .ofBytes => kA0 (kI7 (ev tm x) h) fun v => K v h
    | none => none
  | .makeFunc (.func f) first captured => if first.size = 0 then K (.fn f (captured.toList.map (ev tm))) h else none
  | .makeSlice t l c => match tslice P t with
    | some e => match tzero P e, tsize P e, tbytes P e with
      | some z, some (s + 1), some b => if z.length = s + 1 then kA3 (kDz (z.map .sc) b (ev tm l) (ev tm c) h) K else none
      | _, _, _ => none
    | none => none
  | .slice t x lo hi none => match P.underlying t with
    | some .string => kA0 (aSliceStr (ev tm x) (lo.map (ev tm)) (hi.map (ev tm))) fun v => K v h
    | some (.slice e) => match tsize P e with
      | some s => kA0 (kG2 s (ev tm x) (lo.map (ev tm)) (hi.map (ev tm)) h) fun v => K v h
      | none => none
    | _ => none
  | .fieldAddr s x f => match tfield P s f with
    | some fd => match tsize P fd.type with
      | some (_ + 1) => kA0 (kA7 fd.offset (ev tm x)) fun v => K v h
      | _ => none
    | none => none
  | .field t x f => match tfield P t f with
    | some fd => match tsize P fd.type, tagg P fd.type with
      | some s, some g => kA0 (aField g s fd.offset (ev tm x)) fun v => K v h
      | _, _ => none
    | none => none
  | .indexAddr t x ix => match P.underlying t with
    | some (.slice e) => match tsize P e with
      | some s => kA0 (kA5 s (ev tm x) (ev tm ix) h) fun v => K v h
      | none => none
    | some (.array n e) => match tsize P e with
      | some s => kA0 (aIndexArr n s (ev tm x) (ev tm ix)) fun v => K v h
      | none => none
    | _ => none
  | .index t x ix => match P.underlying t with
    | some .string => kA0 (aIndexStr (ev tm x) (ev tm ix)) fun v => K v h
    | some (.array n e) => match tsize P e, tagg P e with
      | some s, some g => kA0 (aIndexAgg g n s (ev tm x) (ev tm ix)) fun v => K v h
      | _, _ => none
    | _ => none
  | .extract x i => kA0 (kDr (ev tm x) i) fun v => K v h
  | .call c => kDo P env quiet tm h c K
  | _ => none
def kAd {α : Type} (x : AV) (want : Bool) (t e : Option α) : Option α :=
  match x with
  | .sc (.bool b) => cond (b == want) t e
  | .tup [] => e
  | _ => none
def yv (ops : List Oper) (tm : TM) (j : Nat) : AV :=
  match ops[j]? with
  | some o => match o.dst with
    | some d => tm.getD d .top
    | none => .top
  | none => .top
def kIg (P : Program) (env : Nat → Contract) (quiet : Bool) : List Oper → TM → kA4 → (TM → kA4 → Option R) → Option R
  | [], tm, h, K => K tm h
  | o :: os, tm, h, K => kBq P env quiet tm h o.op fun v h' => kIg P env quiet os (kFg tm o.dst v) h' K
def setRun (tm : TM) : List Oper → AV → TM
  | [], _ => tm
  | [o], v => kFg tm o.dst v
  | o :: os, v => setRun (kFg tm o.dst .top) os v
def kFu (tm : TM) : List Oper → AV
  | [] => und
  | [o] => match o.dst with
    | some d => tm.getD d und
    | none => und
  | _ :: os => kFu tm os
abbrev Run := Option (Nat × Bool) × List Oper
def kCf (P : Program) (env : Nat → Contract) (quiet : Bool) (all : List Oper) : List Run → TM → kA4 → (TM → kA4 → Option R) → Option R
  | [], tm, h, K => K tm h
  | (none, os) :: rest, tm, h, K => kIg P env quiet os tm h fun tm' h' => kCf P env quiet all rest tm' h' K
  | (some (j, want), os) :: rest, tm, h, K =>
    kA3 (kAd (yv all tm j) want (kIg P env quiet os tm h fun tm' h' => some (kFu tm' os, h')) (some (und, h)))
      fun v h' => kCf P env quiet all rest (setRun tm os v) h' K
def runOk (all : List Oper) (j : Nat) (os : List Oper) : Bool :=
  match all[j]? with
  | some o => match o.dst with
    | some d => os.all fun x => x.dst != some d
    | none => false
  | none => false
def group (all : List Oper) : List Oper → List Run
  | [] => []
  | o :: os => match o.guard, group all os with
    | none, rest => (none, [o]) :: rest
    | some g, (some g', os') :: rest => if g = g' ∧ runOk all g.1 (o :: os') = true then (some g, o :: os') :: rest else (some g, [o]) :: (some g', os') :: rest
    | some g, rest => (some g, [o]) :: rest
def kGf : List Oper → List Run
  | [] => []
  | o :: os => (o.guard, [o]) :: kGf os
inductive HK where
  | free | read | write
  deriving DecidableEq
def hk : Op → HK
  | .move _ | .assign _ | .pick .. | .build .. | .nilCheck _ | .binOp .. | .unOp .. | .makeFunc .. | .fieldAddr .. | .field .. | .extract .. | .index .. => .free
  | .store .. | .call { callee := .builtin .append, .. } => .write
  | .call { callee := .builtin _, .. } => .free
  | _ => .read
def kF3 (ops : Array Oper) (x y : Oper) : Bool :=
  x.apart ops y && (match hk x.op, hk y.op with
    | .free, _ | _, .free | .read, .read => true
    | _, _ => false)
def kCi (o : Oper) : List Nat := o.after.toList.filterMap fun e => if Region.binds .any e then some e.on else none
def maskOf (acc : List Nat) (o : Oper) : Nat := (kCi o).foldl (fun s e => s ||| 2 ^ e ||| acc.getD e 0) 0
def masks : List Oper → List Nat → List Nat
  | [], acc => acc
  | o :: os, acc => masks os (acc ++ [maskOf acc o])
def kDk (l : List Oper) : Bool :=
  (List.range l.length).all fun j => match l[j]? with
    | some oj => (kCi oj).all (fun e => decide (e < j)) && (List.range j).all fun i => ((masks l []).getD j 0).testBit i || (match l[i]? with
      | some oi => kF3 l.toArray oi oj
      | none => false)
    | none => false
def denRegion (P : Program) (env : Nat → Contract) (l : List Oper) (draw : Bool) (tm : TM) (h : kA4) (K : TM → kA4 → Option R) : Option R :=
  match draw with
  | false => kCf P env false l (group l l) tm h K
  | true => match kDk l with
    | true => kCf P env true l (kGf l) tm h K
    | false => none
def kF8 : Op → Bool
  | .call { callee := .value _, .. } => true
  | _ => false
def hkW : Op → HK
  | .call { callee := .value _, .. } => .write
  | op => hk op
def stab : Op → Bool
  | .load .. | .indexAddr .. => true
  | _ => false
def isAlloc : Op → Bool
  | .alloc .. | .box .. | .buildSlice .. => true
  | _ => false
def apartW (A : Bool) (ops : Array Oper) (x y : Oper) : Bool :=
  x.apart ops y && (match hkW x.op, hkW y.op with
    | .free, _ | _, .free | .read, .read => true
    | .read, .write => (stab x.op && x.guard.isNone) || (A && isAlloc x.op && !kF8 y.op)
    | .write, .read => (stab y.op && y.guard.isNone) || (A && isAlloc y.op)
    | _, _ => false)
def drawOkW (A : Bool) (l : List Oper) : Bool :=
  (List.range l.length).all fun j => match l[j]? with
    | some oj => (kCi oj).all (fun e => decide (e < j)) && (List.range j).all fun i => ((masks l []).getD j 0).testBit i || (match l[i]? with
      | some oi => apartW A l.toArray oi oj
      | none => false)
    | none => false
open Classical in
noncomputable def kEr {α : Type} (p : Prop) (x : Option α) : Option α := if p then x else none
def allP {α : Type} (p : α → Prop) : List α → Prop
  | [] => True
  | a :: l => p a ∧ allP p l
def callOk (A : Bool) (P : Program) (env : Nat → Contract) (tm : TM) (h : kA4) (op : Op) (v : AV) (h' : kA4) : Prop :=
  match A with
  | false => h.length ≤ h'.length
  | true => h'.length = h.length ∧ ∀ t, kBq P env false tm (h ++ t) op (fun v h => some (v, h)) = some (v, h' ++ t)
noncomputable def denOpL (A : Bool) (P : Program) (env : Nat → Contract) (tm : TM) (h : kA4) (op : Op) (K : AV → kA4 → Option R) : Option R :=
  match kF8 op with
  | true => kBq P env false tm h op fun v h' => kEr (callOk A P env tm h op v h') (K v h')
  | false => kBq P env false tm h op K
abbrev Seen := Nat × TM × Op × AV
def seenOk (P : Program) (env : Nat → Contract) (acc : List Seen) (hs : List kA4) : Prop :=
  allP (fun x : Seen => allP (fun h' => kBq P env false x.2.1 h' x.2.2.1 (fun v h => some (v, h)) = some (x.2.2.2, h')) hs) acc
def kDu (all : List Oper) (k : Nat) (o : Oper) (i : Nat) : Bool := (match hkW o.op with | .write => true | _ => false) && ((masks all []).getD k 0).testBit i
noncomputable def guardL {α : Type} (cl : List Seen) (p : Prop) (x : Option α) : Option α :=
  match cl with
  | [] => x
  | _ :: _ => kEr p x
def heapsW (o : Oper) (hs : List kA4) (h' : kA4) : List kA4 :=
  match hkW o.op with
  | .free => hs
  | _ => match stab o.op with
    | true => hs
    | false => hs ++ [h']
noncomputable def denW (A : Bool) (P : Program) (env : Nat → Contract) (all : List Oper) : List Oper → List Seen → List kA4 → TM → kA4 → (TM → kA4 → Option R) → Option R
  | [], acc, hs, tm, h, K => kEr (seenOk P env acc hs) (K tm h)
  | o :: os, acc, hs, tm, h, K =>
    guardL (acc.filter fun x => kDu all (all.length - (os.length + 1)) o x.1) (seenOk P env (acc.filter fun x => kDu all (all.length - (os.length + 1)) o x.1) hs)
      (match o.guard with
      | none => denOpL A P env tm h o.op fun v h' => denW A P env all os (match stab o.op with | true => (acc.filter fun x => !kDu all (all.length - (os.length + 1)) o x.1) ++ [(all.length - (os.length + 1), tm, o.op, v)] | false => acc.filter fun x => !kDu all (all.length - (os.length + 1)) o x.1) (heapsW o hs h') (kFg tm o.dst v) h' K
      | some (j, want) => kA3 (kAd (yv all tm j) want (denOpL A P env tm h o.op fun v h' => some (v, h')) (some (und, h)))
          fun v h' => denW A P env all os (acc.filter fun x => !kDu all (all.length - (os.length + 1)) o x.1) (heapsW o hs h') (kFg tm o.dst v) h' K)
noncomputable def kFb (W : Bool) (P : Program) (env : Nat → Contract) (l : List Oper) (draw : Bool) (tm : TM) (h : kA4) (K : TM → kA4 → Option R) : Option R :=
  match W with
  | false => denRegion P env l draw tm h K
  | true => match draw with
    | false => kCf P env false l (group l l) tm h K
    | true => match kDk l && !(l.any fun o => kF8 o.op) with
      | true => kCf P env true l (kGf l) tm h K
      | false => match drawOkW false l with
        | true => denW false P env l l [] [h] tm h K
        | false => match drawOkW true l with
          | true => denW true P env l l [] [h] tm h K
          | false => match kDk l with
            | true => kCf P env true l (kGf l) tm h K
            | false => none
end
def opReads (all : List Oper) (o : Oper) : List Nat :=
  (o.op.operands.toList.filterMap fun | .tmp t => some t | _ => none) ++
    (match o.guard with | some (j, _) => ((all[j]?).bind (·.dst)).toList | none => [])
def rbwOps (all : List Oper) : List Oper → List Nat → List Nat × List Nat
  | [], W => ([], W)
  | o :: os, W => ((opReads all o).filter (fun t => !W.contains t) ++ (rbwOps all os (o.dst.toList ++ W)).1, (rbwOps all os (o.dst.toList ++ W)).2)
def hasExit (id : Nat) : Code → Bool
  | .seq a b | .cond _ a b => hasExit id a || hasExit id b
  | .block _ c | .loop c | .scope c => hasExit id c
  | .exit i => i == id
  | _ => false
def rbw : Code → List Nat → List Nat × Option (List Nat)
  | .region _ ops _, W => ((rbwOps ops.toList ops.toList W).1, some (rbwOps ops.toList ops.toList W).2)
  | .seq a b, W => match rbw a W with
    | (r, some W') => (r ++ (rbw b W').1, (rbw b W').2)
    | (r, none) => (r, none)
  | .cond c a b, W =>
    ((match c with | .tmp t => if W.contains t then [] else [t] | _ => []) ++ (rbw a W).1 ++ (rbw b W).1,
      match (rbw a W).2, (rbw b W).2 with
      | some x, some y => some (x.filter y.contains)
      | some x, none => some x
      | none, y => y)
  | .block id c, W => ((rbw c W).1, if hasExit id c then some W else (rbw c W).2)
  | .loop c, W => ((rbw c W).1, some W)
  | .scope c, W => rbw c W
  | .ret, _ | .exit _, _ | .goto _, _ => ([], none)
  | _, W => ([], some W)
def writes : Code → List Nat
  | .region _ ops _ => ops.toList.filterMap (·.dst)
  | .seq a b | .cond _ a b => writes a ++ writes b
  | .block _ c | .loop c | .scope c => writes c
  | _ => []
def headMask (n : Nat) (c : Code) : List Bool :=
  (List.range n).map fun t => !(writes c).contains t || (rbw c []).1.contains t
def kIm (W : Bool) (named : List Bool) (c : Code) : List Bool :=
  match W with
  | false => headMask named.length c
  | true => named.zipIdx.map fun (b, t) => !(writes c).contains t || (rbw c []).1.contains t || (b && !((rbw c []).2.getD []).contains t)
def exitMask (named : List Bool) (c : Code) : List Bool :=
  named.zipIdx.map fun (b, t) => b || !(writes c).contains t
def restr : List Bool → TM → TM
  | b :: bs, v :: tm => cond b v .top :: restr bs tm
  | _, _ => []
abbrev Res := AX × TM × kA4
def kBm (hm xm : List Bool) (body : TM → kA4 → Option Res) (tm : TM) (h : kA4) : Option Res :=
  match body tm h with
  | none => none
  | some r => match r.1 with
    | .normal => kBm hm xm body (restr hm r.2.1) r.2.2
    | .exit i => some (.exit i, restr xm r.2.1, r.2.2)
    | .ret => some (.ret, restr xm r.2.1, r.2.2)
partial_fixpoint
def kAt {R : Type} (x : AV) (t e : Option R) : Option R :=
  match x with
  | .sc (.bool b) => cond b t e
  | _ => none
noncomputable def kD1 (W : Bool) (P : Program) (env : Nat → Contract) (named : List Bool) : Code → (R : Type) → TM → kA4 → (AX → TM → kA4 → Option R) → Option R
  | .skip, _, tm, h, K => K .normal tm h
  | .region _ ops draw, _, tm, h, K => kFb W P env ops.toList draw tm h fun tm h => K .normal tm h
  | .seq a b, R, tm, h, K => kD1 W P env named a R tm h fun e tm h => match e with
    | .normal => kD1 W P env named b R tm h K
    | .exit i => K (.exit i) tm h
    | .ret => K .ret tm h
  | .cond c a b, R, tm, h, K => kAt (ev tm c) (kD1 W P env named a R tm h K) (kD1 W P env named b R tm h K)
  | .block id c, R, tm, h, K => kD1 W P env named c R tm h fun e tm h => match e with
    | .normal => K .normal tm h
    | .exit i => cond (Nat.beq i id) (K .normal tm h) (K (.exit i) tm h)
    | .ret => K .ret tm h
  | .loop c, _, tm, h, K =>
    kA0 (kBm (kIm W named c) (exitMask named c) (fun tm h => kD1 W P env named c Res tm h fun e tm h => some (e, tm, h)) (restr (kIm W named c) tm) h)
      fun r => K r.1 r.2.1 r.2.2
  | .exit i, _, tm, h, K => K (.exit i) tm h
  | .ret, _, tm, h, K => K .ret tm h
  | _, _, _, _, _ => none
noncomputable def kGj (P : Program) (env : Nat → Contract) (named : List Bool) : Code → (R : Type) → TM → kA4 → (AX → TM → kA4 → Option R) → Option R := kD1 false P env named
def kI8 (P : Program) (tm : TM) (h : kA4) : List ResultVar → Option (List AV)
  | [] => some []
  | .tmp t :: r => match kI8 P tm h r with
    | some l => some (tm.getD t und :: l)
    | none => none
  | .cell a t :: r => match tsize P t, tagg P t with
    | some s, some g => match kAc g s (tm.getD a und) h with
      | some v => match kI8 P tm h r with
        | some l => some (v :: l)
        | none => none
      | none => none
    | _, _ => none
def pack : List AV → AV
  | [v] => v
  | l => .tup l
def kFq (P : Program) (rs : List ResultVar) (e : AX) (tm : TM) (h : kA4) : Option (AV × kA4) :=
  match e with
  | .exit _ => none
  | _ => match kI8 P tm h rs with
    | some l => some (pack l, h)
    | none => none
def isRes (t : Nat) : ResultVar → Bool
  | .tmp u | .cell u _ => u == t
def kBk (fn : Func) : List Bool :=
  (List.range fn.ntmps).map fun t => (fn.tmpNames.getD t "") != "" || fn.results.toList.any (isRes t) || decide (t < fn.params.size + fn.nfree)
def frame (n : Nat) (args : List AV) : TM := args ++ List.replicate (n - args.length) und
noncomputable def denFnM (W : Bool) (P : Program) (env : Nat → Contract) (f : Nat) (args : List AV) (h : kA4) : Option (AV × kA4) :=
  match P.funcs[f]? with
  | some fn => match fn.body with
    | some c => if args.length ≤ fn.ntmps then kD1 W P env (kBk fn) c _ (frame fn.ntmps args) h (kFq P fn.results.toList) else none
    | none => none
  | none => none
noncomputable def kAo (P : Program) (env : Nat → Contract) (f : Nat) (args : List AV) (h : kA4) : Option (AV × kA4) := denFnM false P env f args h
end Go.Eng
