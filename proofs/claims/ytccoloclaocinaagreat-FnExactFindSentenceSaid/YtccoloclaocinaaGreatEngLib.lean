import Derived.Test.YtccoloclaocinaaGreatEngDoor
import Derived.Lib.ItoaNum
import Derived.Lib.Strings
namespace Go.Eng
set_option linter.unusedVariables false
set_option linter.unusedSimpArgs false
open Go.RowKit Go.Sort
open Cod (enc dec)
def bytesO (s:ByteArray):Option (List UInt8):=if s.size≤4294967296 then some (bl s) else none
theorem sim_bytes {γ δ:Type} {B:Base} {h:kA9} {L:List Ent} (O:Hold B h L) {s:ByteArray} {F:AV→kA9→Option γ} {G:List UInt8→Option δ} {Q:δ→γ→Prop}
  (K:∀ l x' h',Hold B h' (L++[(x',obS (some l))])→Sim (F x' h') (G l) Q):Sim (kA2 (kF0 (sv s) h) F) (kA0 (bytesO s) G) Q:=by
 unfold bytesO
 split
 ·rename_i hs
  rw [conv_bytes s h hs,kA4]
  have:=O.alloc (.sl (Row.w UInt8) ((bl s).map Row.cells)) rfl
  refine K _ _ _ ?_
  simpa [EV.at,obS] using this
 ·exact kDg
def strL (l:List UInt8):ByteArray:=⟨l.toArray⟩
theorem kKi:∀ l:List UInt8,kG2 (l.map Row.cells)=some l
 | []=>rfl
 | b::l=>by
  have h:((b.toNat:Int).toNat).toUInt8=b:=by simp
  show (match kG2 (l.map Row.cells) with | some r=>some (((b.toNat:Int).toNat).toUInt8::r) | none=>none)=_
  rw [kKi l,h]
theorem conv_str {x:AV} {h:kA9} {s:Sl UInt8} (hs:kKk false (Row.w UInt8) x h=some ((s.getD []).map Row.cells)):kF3 x h=some (sv (strL (s.getD []))):=by
 have h1:kKk false 1 x h=some ((s.getD []).map Row.cells):=hs
 unfold kF3
 rw [h1]
 simp only [kKi]
 rfl
theorem str_gtr (a b:ByteArray):kAu .gtr (sv a) (sv b)=some (bv !(ltS a b || decide (a=b))):=aBin_gtrS a b
theorem str_leq (a b:ByteArray):kAu .leq (sv a) (sv b)=some (bv (ltS a b || decide (a=b))):=by
 have:kAu .leq (sv a) (sv b)=some (bv (Op.bytesLess a.toList b.toList || a.toList == b.toList)):=rfl
 rw [this,beq_toList]
 rfl
end Go.Eng
