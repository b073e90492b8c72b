import Derived.WalkKit
import Derived.WalkSpells
import Derived.WalkLawsBesides
import Derived.Deep.AppendSrc
import Derived.Deep.MidRow
namespace Go.Eng
set_option linter.unusedVariables false
set_option linter.unusedSimpArgs false
inductive AV where
  | sc (v : Value)
  | agg (cs : List AV)
  | tup (vs : List AV)
  | ptr (o ep i j : Nat)
  | fptr (k : Nat) (rows : List (List AV)) (i j : Nat)
  | sl (o ep i n : Nat)
  | fs (k : Nat) (rows : List (List AV))
  | fn (f : Nat) (cap : List AV)
  | nw (k : Nat) (rows : List (List AV))
  | np (k : Nat) (rows : List (List AV)) (i j : Nat)
  | top
  deriving Inhabited
structure AObj where
  k : Nat
  rows : List (List AV)
  deriving Inhabited
abbrev kA4 := List AObj
abbrev TM := List AV
def und : AV := .tup []
def iv (n : Int) : AV := .sc (.int .i64 n)
def bv (b : Bool) : AV := .sc (.bool b)
def sv (s : ByteArray) : AV := .sc (.string s)
def kBd : AV := .sc (.slice none 0 0)
def AV.flat : AV → Bool
  | .sc _ | .ptr .. | .fptr .. | .sl .. | .fs .. | .fn .. => true
  | .agg _ | .tup _ | .nw .. | .np .. | .top => false
def AV.cells : AV → List AV
  | .agg cs => cs
  | a => [a]
def ofVal : Value → AV
  | .agg cs => if cs.all Value.oneCell' = true then .agg (cs.toList.map .sc) else .top
  | .tuple cs => if cs.size = 0 then und else .top
  | .func (.func f) first cap => if first.size = 0 ∧ cap.size = 0 then .fn f [] else .sc (.func (.func f) first cap)
  | v => .sc v
def ev (tm : TM) : Operand → AV
  | .tmp t => tm.getD t und
  | .const v => ofVal v
  | .global _ => .top
  | .func f => .fn f []
def kFg (tm : TM) (d : Option Tmp) (v : AV) : TM :=
  match d with
  | some d => tm.set d v
  | none => tm
def tsize (P : Program) (t : TypeId) : Option Nat := (P.info? t).map (·.size)
def tbytes (P : Program) (t : TypeId) : Option Nat := (P.info? t).map (·.bytes)
def tzero (P : Program) (t : TypeId) : Option (List Value) :=
  match (P.info? t).bind (·.zero) with
  | some v => if v.cells.all Value.oneCell' = true then some v.cells.toList else none
  | none => none
def tagg (P : Program) (t : TypeId) : Option Bool :=
  match P.underlying t with
  | some (.struct _) | some (.array ..) => some true
  | some _ => some false
  | none => none
def tslice (P : Program) (t : TypeId) : Option TypeId := match P.underlying t with | some (.slice e) => some e | _ => none
def tfield (P : Program) (t : TypeId) (i : Nat) : Option Field := match P.underlying t with | some (.struct fs) => fs[i]? | _ => none
def kA0 {α β : Type} (x : Option α) (f : α → Option β) : Option β :=
  match x with
  | some a => f a
  | none => none
def kA3 {α γ β : Type} (x : Option (α × γ)) (f : α → γ → Option β) : Option β :=
  match x with
  | some (a, c) => f a c
  | none => none
def cut (g : Bool) (s : Nat) (cells : List AV) : Option AV :=
  match g with
  | true => if s ≤ cells.length then some (.agg (cells.take s)) else none
  | false => match cells with
    | c :: _ => some c
    | [] => none
def kAc (g : Bool) (s : Nat) (a : AV) (h : kA4) : Option AV :=
  match a with
  | .ptr o ep i j => match h[o]? with
    | some ob => if ob.rows.length = ep then match ob.rows[i]? with
      | some row => cut g s (row.drop j)
      | none => none else none
    | none => none
  | .fptr _ rows i j => match rows[i]? with
    | some row => cut g s (row.drop j)
    | none => none
  | _ => none
def kBe (row : List AV) (j : Nat) (cs : List AV) : List AV := row.take j ++ cs ++ row.drop (j + cs.length)
def kAw (s : Nat) (a v : AV) (h : kA4) : Option kA4 :=
  match a with
  | .ptr o ep i j => match h[o]? with
    | some ob => if ob.rows.length = ep then match ob.rows[i]? with
      | some row => if v.cells.length = s ∧ j + s ≤ row.length ∧ v.cells.all AV.flat = true then some (h.set o ⟨ob.k, ob.rows.set i (kBe row j v.cells)⟩) else none
      | none => none else none
    | none => none
  | _ => none
def kG1 (cs : List AV) (h : kA4) : Option (AV × kA4) :=
  if cs.all AV.flat = true then some (.ptr h.length 1 0 0, h ++ [⟨cs.length, [cs]⟩]) else none
def kA7 (off : Nat) (a : AV) : Option AV :=
  match a with
  | .ptr o ep i j => some (.ptr o ep i (j + off))
  | .fptr k rows i j => some (.fptr k rows i (j + off))
  | _ => none
def aField (g : Bool) (s off : Nat) (a : AV) : Option AV :=
  match a with
  | .agg cs => cut g s (cs.drop off)
  | _ => none
def aFill (cells : List AV) : List (Nat × Nat × AV) → Option (List AV)
  | [] => some cells
  | (off, s, v) :: rest => if v.cells.length = s ∧ off + s ≤ cells.length ∧ v.cells.all AV.flat = true then aFill (kBe cells off v.cells) rest else none
def kIf (zero : List AV) (parts : List (Nat × Nat × AV)) : Option AV :=
  match aFill zero parts with
  | some cs => some (.agg cs)
  | none => none
def kCy (zero : List AV) (n : Nat) : List (List AV) := List.replicate n zero
def kB9 (rows : List (List AV)) : List (Nat × AV) → Option (List (List AV))
  | [] => some rows
  | (i, v) :: rest => if i < rows.length ∧ v.cells.length = (rows.getD i []).length ∧ v.cells.all AV.flat = true then kB9 (rows.set i v.cells) rest else none
def kAf (zero : List AV) (n : Nat) (parts : List (Nat × AV)) (h : kA4) : Option (AV × kA4) :=
  match kB9 (kCy zero n) parts with
  | some rows => some (.sl h.length n 0 n, h ++ [⟨zero.length, rows⟩])
  | none => none
def idx (x : AV) (n : Nat) : Option Nat :=
  match x with
  | .sc (.int _ m) => if 0 ≤ m ∧ m < (n : Int) then some m.toNat else none
  | _ => none
def kA5 (es : Nat) (x ix : AV) (h : kA4) : Option AV :=
  match x with
  | .sl o ep i n => match h[o]? with
    | some ob => if ob.rows.length = ep ∧ ob.k = es then match idx ix n with
      | some m => some (.ptr o ep (i + m) 0)
      | none => none else none
    | none => none
  | .fs k rows => if k = es then match idx ix rows.length with
    | some m => some (.fptr k rows m 0)
    | none => none else none
  | _ => none
def aIndexArr (len es : Nat) (x ix : AV) : Option AV :=
  match idx ix len with
  | some m => kA7 (m * es) x
  | none => none
def aIndexStr (x ix : AV) : Option AV :=
  match x with
  | .sc (.string s) => match idx ix s.size with
    | some m => match s[m]? with
      | some b => some (.sc (.int .u8 b.toNat))
      | none => none
    | none => none
  | _ => none
def aIndexAgg (g : Bool) (len es : Nat) (x ix : AV) : Option AV :=
  match x with
  | .agg cs => match idx ix len with
    | some m => cut g es (cs.drop (m * es))
    | none => none
  | _ => none
def kF9 (x : Option AV) (d n : Nat) : Option Nat :=
  match x with
  | none => some d
  | some x => idx x (n + 1)
def aSliceStr (x : AV) (lo hi : Option AV) : Option AV :=
  match x with
  | .sc (.string s) => match kF9 hi s.size s.size with
    | some h => match kF9 lo 0 h with
      | some l => some (.sc (.string (s.extract l h)))
      | none => none
    | none => none
  | _ => none
def kG2 (es : Nat) (x : AV) (lo hi : Option AV) (h : kA4) : Option AV :=
  match x with
  | .sc (.slice none 0 0) => match kF9 hi 0 0 with
    | some h => match kF9 lo 0 h with
      | some _ => some kBd
      | none => none
    | none => none
  | .sl o ep i n => match h[o]? with
    | some ob => if ob.rows.length = ep ∧ ob.k = es then match kF9 hi n n with
      | some hh => match kF9 lo 0 hh with
        | some l => some (.sl o ep (i + l) (hh - l))
        | none => none
      | none => none else none
    | none => none
  | .fs k rows => if k = es then match kF9 hi rows.length rows.length with
    | some hh => match kF9 lo 0 hh with
      | some l => some (.fs k ((rows.take hh).drop l))
      | none => none
    | none => none else none
  | _ => none
def kBh : Nat := 140737488355328
def kDz (zero : List AV) (bytes : Nat) (len cap : AV) (h : kA4) : Option (AV × kA4) :=
  match len, cap with
  | .sc (.int _ n), .sc (.int _ c) =>
    if 0 ≤ n ∧ n ≤ c ∧ c ≤ (kBh : Int) ∧ c.toNat * bytes ≤ kBh then some (.sl h.length n.toNat 0 n.toNat, h ++ [⟨zero.length, kCy zero n.toNat⟩]) else none
  | _, _ => none
def aSrc (st : Bool) (k : Nat) (x : AV) (h : kA4) : Option (List (List AV)) :=
  match st, x with
  | false, .sc (.slice none 0 0) => some []
  | false, .sl o ep i n => match h[o]? with
    | some ob => if ob.rows.length = ep ∧ ob.k = k ∧ i + n ≤ ep then some ((ob.rows.drop i).take n) else none
    | none => none
  | false, .fs k' rows => if k' = k then some rows else none
  | true, .sc (.string s) => if k = 1 then some (s.data.toList.map fun b => [.sc (.int .u8 b.toNat)]) else none
  | _, _ => none
def kB1 (st : Bool) (k bytes : Nat) (s x : AV) (h : kA4) : Option (AV × kA4) :=
  match aSrc st k x h with
  | some new => match s with
    | .sc (.slice none 0 0) =>
      if new.length = 0 then some (kBd, h)
      else if new.length * bytes ≤ kBh ∧ new.length ≤ kBh then some (.sl h.length new.length 0 new.length, h ++ [⟨k, new⟩]) else none
    | .sl o ep i n => match h[o]? with
      | some ob => if ob.rows.length = ep ∧ ob.k = k ∧ i = 0 ∧ (n + new.length) * bytes ≤ kBh ∧ n + new.length ≤ kBh ∧ n ≤ ep then
          some (.sl o (max ep (n + new.length)) 0 (n + new.length), h.set o ⟨ob.k, ob.rows.take n ++ new ++ ob.rows.drop (n + new.length)⟩) else none
      | none => none
    | _ => none
  | none => none
def aMax2 (x y : AV) : Option AV :=
  match x, y with
  | .sc (.int k a), .sc (.int _ b) => some (.sc (.int k (if b > a then b else a)))
  | _, _ => none
def aMin2 (x y : AV) : Option AV :=
  match x, y with
  | .sc (.int k a), .sc (.int _ b) => some (.sc (.int k (if b < a then b else a)))
  | _, _ => none
def kHu (f : AV → AV → Option AV) : AV → List AV → Option AV
  | x, [] => some x
  | x, y :: r => kA0 (f x y) fun z => kHu f z r
def arith (op : BinOp) (k : IntKind) (a b : Int) : Option Value :=
  match op with
  | .add => some (.int k (k.wrap (a + b)))
  | .sub => some (.int k (k.wrap (a - b)))
  | .mul => some (.int k (k.wrap (a * b)))
  | .quo => if b = 0 then none else some (.int k (k.wrap (a.tdiv b)))
  | .rem => if b = 0 then none else some (.int k (a.tmod b))
  | .and => some (.int k (k.wrap (BitVec.ofInt k.bits a &&& BitVec.ofInt k.bits b).toNat))
  | .or => some (.int k (k.wrap (BitVec.ofInt k.bits a ||| BitVec.ofInt k.bits b).toNat))
  | .xor => some (.int k (k.wrap (BitVec.ofInt k.bits a ^^^ BitVec.ofInt k.bits b).toNat))
  | .andNot => some (.int k (k.wrap (BitVec.ofInt k.bits a &&& ~~~ BitVec.ofInt k.bits b).toNat))
  | .eql => some (.bool (a == b))
  | .neq => some (.bool (a != b))
  | .lss => some (.bool (decide (a < b)))
  | .leq => some (.bool (decide (a ≤ b)))
  | .gtr => some (.bool (decide (b < a)))
  | .geq => some (.bool (decide (b ≤ a)))
  | _ => none
def strop (op : BinOp) (a b : ByteArray) : Option Value :=
  match op with
  | .add => if ((a.size + b.size : Nat) : Int) ≤ 9223372036854775807 then some (.string (a ++ b)) else none
  | .eql => some (.bool (a.toList == b.toList))
  | .neq => some (.bool !(a.toList == b.toList))
  | .lss => some (.bool (Op.bytesLess a.toList b.toList))
  | .leq => some (.bool (Op.bytesLess a.toList b.toList || a.toList == b.toList))
  | .gtr => some (.bool !(Op.bytesLess a.toList b.toList || a.toList == b.toList))
  | .geq => some (.bool !(Op.bytesLess a.toList b.toList))
  | _ => none
inductive CK where
  | int | bool | str
  deriving DecidableEq
def cellEq : CK → AV → AV → Option Bool
  | .int, .sc (.int k a), .sc (.int k' b) => if k = k' then some (a == b) else none
  | .bool, .sc (.bool a), .sc (.bool b) => some (a == b)
  | .str, .sc (.string a), .sc (.string b) => some (a.toList == b.toList)
  | _, _, _ => none
def kCp : List CK → List AV → List AV → Option Bool
  | [], _, _ => some true
  | k :: ks, a :: as, b :: bs => match cellEq k a b with
    | some true => kCp ks as bs
    | some false => some false
    | none => none
  | _ :: _, _, _ => none
def isNilP : AV → Option Bool
  | .sc (.pointer none) => some true
  | .ptr .. | .fptr .. => some false
  | _ => none
def isNilS : AV → Option Bool
  | .sc (.slice none 0 0) => some true
  | .sl .. | .fs .. => some false
  | _ => none
def kAq (op : BinOp) (x y : AV) : Option AV :=
  match x, y with
  | .sc (.int k a), .sc (.int k' b) =>
    match op with
    | .shl => if 0 ≤ b then some (.sc (.int k (k.wrap (a * 2 ^ (min b.toNat k.bits))))) else none
    | .shr => if 0 ≤ b then some (.sc (.int k (a.fdiv (2 ^ (min b.toNat k.bits))))) else none
    | _ => if k = k' then match arith op k a b with | some v => some (.sc v) | none => none else none
  | .sc (.string a), .sc (.string b) => match strop op a b with | some v => some (.sc v) | none => none
  | _, _ => none
def aUn (op : UnOp) (x : AV) : Option AV :=
  match op, x with
  | .neg, .sc (.int k n) => some (.sc (.int k (k.wrap (0 - n))))
  | .not, .sc (.bool b) => some (bv !b)
  | _, _ => none
def kCd (c a b : AV) : Option AV :=
  match c with
  | .sc (.bool true) => some a
  | .sc (.bool false) => some b
  | _ => none
def kBy (x : AV) : Option AV :=
  match x with
  | .ptr .. | .fptr .. | .fn .. => some x
  | _ => none
def kDr (x : AV) (i : Nat) : Option AV :=
  match x with
  | .tup vs => vs[i]?
  | _ => none
def kCw (k : IntKind) (x : AV) : Option AV :=
  match x with
  | .sc (.int _ n) => some (.sc (.int k (k.wrap n)))
  | _ => none
def kGw (x : AV) (h : kA4) : Option (AV × kA4) :=
  match x with
  | .sc (.string s) => if s.size ≤ kBh then some (.sl h.length s.size 0 s.size, h ++ [⟨1, s.data.toList.map fun b => [.sc (.int .u8 b.toNat)]⟩]) else none
  | _ => none
def bytesOf : List (List AV) → Option (List UInt8)
  | [] => some []
  | [.sc (.int .u8 n)] :: r => match bytesOf r with
    | some l => some (n.toNat.toUInt8 :: l)
    | none => none
  | _ => none
def kI7 (x : AV) (h : kA4) : Option AV :=
  match aSrc false 1 x h with
  | some rows => match bytesOf rows with
    | some l => some (.sc (.string ⟨l.toArray⟩))
    | none => none
  | none => none
def kBb {α β : Type} (f : α → Option β) : List α → Option (List β)
  | [] => some []
  | a :: r => match f a with
    | some b => match kBb f r with
      | some l => some (b :: l)
      | none => none
    | none => none
def snap (h : kA4) : Nat → AV → Option AV
  | _, .sc v => some (.sc v)
  | _, .fptr k rows i j => some (.fptr k rows i j)
  | _, .fs k rows => some (.fs k rows)
  | d + 1, .agg cs => match kBb (snap h d) cs with | some cs => some (.agg cs) | none => none
  | d + 1, .fn f cs => match kBb (snap h d) cs with | some cs => some (.fn f cs) | none => none
  | d + 1, .ptr o ep i j => match h[o]? with
    | some ob => if ob.rows.length = ep then match kBb (kBb (snap h d)) ob.rows with
      | some rows => some (.fptr ob.k rows i j)
      | none => none else none
    | none => none
  | d + 1, .sl o ep i n => match h[o]? with
    | some ob => if ob.rows.length = ep ∧ i + n ≤ ep then match kBb (kBb (snap h d)) ((ob.rows.drop i).take n) with
      | some rows => some (.fs ob.k rows)
      | none => none else none
    | none => none
  | _, _ => none
def kC0 (m : AV → Nat → AV × kA4) : List AV → Nat → List AV × kA4
  | [], _ => ([], [])
  | a :: as, b => ((m a b).1 :: (kC0 m as (b + (m a b).2.length)).1, (m a b).2 ++ (kC0 m as (b + (m a b).2.length)).2)
def kCt (m : AV → Nat → AV × kA4) : List (List AV) → Nat → List (List AV) × kA4
  | [], _ => ([], [])
  | r :: rs, b => ((kC0 m r b).1 :: (kCt m rs (b + (kC0 m r b).2.length)).1, (kC0 m r b).2 ++ (kCt m rs (b + (kC0 m r b).2.length)).2)
def mat : Nat → AV → Nat → AV × kA4
  | d + 1, .agg cs, b => (.agg (kC0 (mat d) cs b).1, (kC0 (mat d) cs b).2)
  | d + 1, .tup cs, b => (.tup (kC0 (mat d) cs b).1, (kC0 (mat d) cs b).2)
  | d + 1, .fn f cs, b => (.fn f (kC0 (mat d) cs b).1, (kC0 (mat d) cs b).2)
  | d + 1, .nw k rows, b => (.sl b rows.length 0 rows.length, ⟨k, (kCt (mat d) rows (b + 1)).1⟩ :: (kCt (mat d) rows (b + 1)).2)
  | d + 1, .np k rows i j, b => (.ptr b rows.length i j, ⟨k, (kCt (mat d) rows (b + 1)).1⟩ :: (kCt (mat d) rows (b + 1)).2)
  | _, a, _ => (a, [])
def rel (h : kA4) : Nat → AV → Option AV
  | _, .sc v => some (.sc v)
  | _, .fptr k rows i j => some (.fptr k rows i j)
  | _, .fs k rows => some (.fs k rows)
  | d + 1, .agg cs => match kBb (rel h d) cs with | some cs => some (.agg cs) | none => none
  | d + 1, .tup cs => match kBb (rel h d) cs with | some cs => some (.tup cs) | none => none
  | d + 1, .fn f cs => match kBb (rel h d) cs with | some cs => some (.fn f cs) | none => none
  | d + 1, .ptr o ep i j => match h[o]? with
    | some ob => if ob.rows.length = ep then match kBb (kBb (rel h d)) ob.rows with
      | some rows => some (.np ob.k rows i j)
      | none => none else none
    | none => none
  | d + 1, .sl o ep i n => match h[o]? with
    | some ob => if ob.rows.length = ep ∧ i = 0 ∧ n ≤ ep then match kBb (kBb (rel h d)) (ob.rows.take n) with
      | some rows => some (.nw ob.k rows)
      | none => none else none
    | none => none
  | _, _ => none
def ids (h : kA4) : Nat → AV → List (Nat × Nat)
  | d + 1, .agg cs => cs.flatMap (ids h d)
  | d + 1, .tup cs => cs.flatMap (ids h d)
  | d + 1, .fn _ cs => cs.flatMap (ids h d)
  | d + 1, .ptr o _ _ _ => match h[o]? with
    | some ob => (o, ob.rows.length) :: ob.rows.flatMap fun r => r.flatMap (ids h d)
    | none => []
  | d + 1, .sl o _ _ n => match h[o]? with
    | some ob => (o, n) :: (ob.rows.take n).flatMap fun r => r.flatMap (ids h d)
    | none => []
  | _, _ => []
def nodupB : List Nat → Bool
  | [] => true
  | a :: l => !l.contains a && nodupB l
def release (h : kA4) (d : Nat) (a : AV) : Option AV :=
  match nodupB ((ids h d a).map (·.1)) with
  | true => rel h d a
  | false => none
end Go.Eng
