import Derived.Test.YtjlbidpdiblmaaaEngDoor
import Derived.Lib.ItoaNum
import Derived.Lib.Strings
namespace Go.Eng
set_option linter.unusedVariables false
set_option linter.unusedSimpArgs false
open Go.RowKit Go.Sort
open Cod (enc dec)
def bytesO (s:ByteArray):Option (List UInt8):=if s.size≤4294967296 then some (bl s) else none
theorem sim_bytes {γ δ:Type} {B:Base} {h:kA7} {L:List Ent} (O:Hold B h L) {s:ByteArray} {F:AV→kA7→Option γ} {G:List UInt8→Option δ} {Q:δ→γ→Prop}
  (K:∀ l x' h',Hold B h' (L++[(x',obS (some l))])→Sim (F x' h') (G l) Q):Sim (kA2 (kEb (sv s) h) F) (kA0 (bytesO s) G) Q:=by
 unfold bytesO
 split
 ·rename_i hs
  rw [conv_bytes s h hs,kA5]
  have:=O.alloc (.sl (Row.w UInt8) ((bl s).map Row.cells)) rfl
  refine K _ _ _ ?_
  simpa [EV.at,obS] using this
 ·exact kFc
end Go.Eng
