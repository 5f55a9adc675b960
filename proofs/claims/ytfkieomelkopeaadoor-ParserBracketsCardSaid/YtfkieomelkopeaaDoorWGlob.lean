/-
  What the library's variables hold (strings.asciiSpace, strconv.ErrRange; the shape of all), and that a call which leaves old memory alone keeps it.
-/
import Derived.Test.YtfkieomelkopeaaDoorBase
import Derived.Test.YtfkieomelkopeaaDoorShelf
import Derived.WalkSmall
namespace Go.Proofs.YtfkieomelkopeaaDoor
open Go.RowKit
structure Glob (w : World) : Prop where
  shaped : w.ShapedOpen Tryd.prog
  space : Lib.TabIs Tryd.prog w "strings.asciiSpace" .u8 Lib.asciiSpaceTab
  range : ∃ tp p, w.var? Tryd.prog "strconv.ErrRange" = some #[.iface tp p]
  size : 11 ≤ w.heap.size
theorem named_space : Tryd.prog.globalNamed "strings.asciiSpace" = some 0 := by kernel_rfl
theorem named_range : Tryd.prog.globalNamed "strconv.ErrRange" = some 3 := by kernel_rfl
theorem Glob.below {w w' : World} (h : Glob w) (hb : Below w.heap.size w w') : Glob w' := by
  obtain ⟨tp, p, hr⟩ := h.range
  have hs := h.size
  exact ⟨h.shaped.keptBut (hb.frame (fun _ => False)) (fun _ h => h.elim), var?_below hb named_space (by omega) h.space, ⟨tp, p, var?_below hb named_range (by omega) hr⟩, by have := hb.size; omega⟩
theorem space_below {B : Nat} {w w' : World} (h : Lib.TabIs Tryd.prog w "strings.asciiSpace" .u8 Lib.asciiSpaceTab) (hb : Below B w w') (hB : 11 ≤ B) : Lib.TabIs Tryd.prog w' "strings.asciiSpace" .u8 Lib.asciiSpaceTab :=
  var?_below hb named_space (by omega) h
end Go.Proofs.YtfkieomelkopeaaDoor
