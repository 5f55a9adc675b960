/-
  The statement ParserBrackets walked: whatever the text, the answer is true.
-/
import Derived.Test.YtfkieomelkopeaaDoorWBrack
import Derived.Outline
namespace Go.Proofs.YtfkieomelkopeaaDoor
open Go.RowKit
def TrueEnd (w : World) (e : Ending) (w' : World) : Prop := e = .returned (.bool true) ∧ Below w.heap.size w w'
set_option maxHeartbeats 2000000 in
set_option maxRecDepth 100000 in
theorem brackets_long (s : List UInt8) (w : World) (hg : Glob w) (hs : 300 < s.length) : Calls Tryd.prog 3 #[.string (bs s)] w (TrueEnd w) := by
  have HG := Lib.hid hg; clear hg
  have h1 : (300 : Int) < (s.length : Int) := by omega
  clear hs
  go_enter Tryd.func3, Tryd.ntmps3
  go_wp2_with fail
  refine (known_any _ HG.out).mono ?_
  rintro e w1 ⟨rfl, hb⟩
  have HB := Lib.hid hb; clear hb
  go_wp2_with fail
  go_ret
  exact ⟨rfl, HB.out⟩
set_option maxHeartbeats 2000000 in
set_option maxRecDepth 100000 in
theorem brackets_bad (s : List UInt8) (w : World) (hg : Glob w) (hs : s.length ≤ 300) (a p er : Nat) (b : List Node) (q f : Nat) (ha : parseS isName s = ([], p, er)) (he : er ≠ 0) (hb : parseS isName ([40] ++ s ++ [41]) = (b, q, f)) : Calls Tryd.prog 3 #[.string (bs s)] w (TrueEnd w) := by
  have k1 := parse_at s [] p er ha (by omega)
  have k2 := parse_at ([40] ++ s ++ [41]) b q f hb (by simp; omega)
  have HG := Lib.hid hg; clear hg
  have h1 : ¬ (300 : Int) < (s.length : Int) := by omega
  have hne : (((er : Nat) : Int) != 0) = true := by rw [bne_iff_ne]; omega
  clear hs ha hb he
  go_enter Tryd.func3, Tryd.ntmps3
  go_wp2_with fail
  refine (k1 _ HG.out).mono ?_
  rintro e w1 ⟨v, rfl, hr, hb1⟩
  obtain ⟨xa, ca, rfl⟩ := row_slice hr
  have HB1 := Lib.hid hb1
  have HG1 := Lib.hid (HG.out.below hb1)
  clear hr hb1
  go_wp2_with fail
  refine (k2 _ HG1.out).mono ?_
  rintro e w2 ⟨v2, rfl, hr2, hb2⟩
  have HB2 := Lib.hid (below_then HB1.out hb2)
  have HG2 := Lib.hid (HG1.out.below hb2)
  clear hr2 hb2
  go_wp2_with fail
  refine (known_any _ HG2.out).mono ?_
  rintro e w3 ⟨rfl, hb3⟩
  have HB3 := Lib.hid (below_then HB2.out hb3)
  clear hb3
  go_wp2_with fail
  go_ret
  exact ⟨rfl, HB3.out⟩
set_option maxHeartbeats 2000000 in
set_option maxRecDepth 100000 in
theorem brackets_deep (s : List UInt8) (w : World) (hg : Glob w) (hs : s.length ≤ 300) (a : List Node) (p q : Nat) (ha : parseS isName s = (a, p, 0)) (hb : parseS isName ([40] ++ s ++ [41]) = ([], q, 10)) : Calls Tryd.prog 3 #[.string (bs s)] w (TrueEnd w) := by
  have k1 := parse_at s a p 0 ha (by omega)
  have k2 := parse_at ([40] ++ s ++ [41]) [] q 10 hb (by simp; omega)
  have HG := Lib.hid hg; clear hg
  have h1 : ¬ (300 : Int) < (s.length : Int) := by omega
  clear hs ha hb
  go_enter Tryd.func3, Tryd.ntmps3
  go_wp2_with fail
  refine (k1 _ HG.out).mono ?_
  rintro e w1 ⟨v, rfl, hr, hb1⟩
  obtain ⟨xa, ca, rfl⟩ := row_slice hr
  have HB1 := Lib.hid hb1
  have HG1 := Lib.hid (HG.out.below hb1)
  clear hr hb1
  go_wp2_with fail
  refine (k2 _ HG1.out).mono ?_
  rintro e w2 ⟨v2, rfl, hr2, hb2⟩
  have HB2 := Lib.hid (below_then HB1.out hb2)
  have HG2 := Lib.hid (HG1.out.below hb2)
  clear hr2 hb2
  go_wp2_with fail
  refine (known_any _ HG2.out).mono ?_
  rintro e w3 ⟨rfl, hb3⟩
  have HB3 := Lib.hid (below_then HB2.out hb3)
  clear hb3
  go_wp2_with fail
  go_ret
  exact ⟨rfl, HB3.out⟩
end Go.Proofs.YtfkieomelkopeaaDoor
