/-
  lexer.Name: may a text name a field?
-/
import Derived.Test.YtfkieomelkopeaaDoorWLexer
namespace Go.Proofs.YtfkieomelkopeaaDoor
open Go.RowKit
/-- The words that are no field's name: true false and or not if min max abs round has orelse lag least most any every. -/
def keptWords : List (List UInt8) := [[116, 114, 117, 101], [102, 97, 108, 115, 101], [97, 110, 100], [111, 114], [110, 111, 116], [105, 102], [109, 105, 110], [109, 97, 120], [97, 98, 115], [114, 111, 117, 110, 100], [104, 97, 115], [111, 114, 101, 108, 115, 101], [108, 97, 103], [108, 101, 97, 115, 116], [109, 111, 115, 116], [97, 110, 121], [101, 118, 101, 114, 121]]
def isName (l : List UInt8) : Bool := match l with
  | [] => false
  | c :: r => decide (r.length < 12) && isLetter c && decide (whileN isNameByte (c :: r) = r.length + 1) && !(keptWords.contains (c :: r))
def keptText : List UInt8 := [116, 114, 117, 101, 32, 102, 97, 108, 115, 101, 32, 97, 110, 100, 32, 111, 114, 32, 110, 111, 116, 32, 105, 102, 32, 109, 105, 110, 32, 109, 97, 120, 32, 97, 98, 115, 32, 114, 111, 117, 110, 100, 32, 104, 97, 115, 32, 111, 114, 101, 108, 115, 101, 32, 108, 97, 103, 32, 108, 101, 97, 115, 116, 32, 109, 111, 115, 116, 32, 97, 110, 121, 32, 101, 118, 101, 114, 121]
theorem fields_kept : Lib.fields keptText = keptWords := by decide +kernel
theorem fields_bs (w : World) (ht : Lib.TabIs Tryd.prog w "strings.asciiSpace" .u8 Lib.asciiSpaceTab) :
    Calls Tryd.prog 55 #[.string (bs keptText)] w fun e w' => e = .returned (.slice (some ⟨w.heap.size, 0, none⟩) 17 17) ∧ w' = w.alloc (.cells (keptWords.map fun l => Value.string (bs l)).toArray 9) := by
  refine (Tryd.strings_Fields (bs keptText) w (by simp [keptText]) (by
    rw [bs_data_list]
    intro j b hj
    have : ∀ b ∈ keptText, b.toNat < 128 := by decide
    exact this b (List.mem_of_getElem? hj)) ht).mono fun e w' ⟨h1, h2⟩ => ?_
  rw [bs_data_list, fields_kept] at h1 h2
  exact ⟨h1, h2⟩
theorem contains_bs (l : List UInt8) (w : World) :
    Calls Tryd.prog 54 #[.slice (some ⟨w.heap.size, 0, none⟩) 17 17, .string (bs l)] (w.alloc (.cells (keptWords.map fun l => Value.string (bs l)).toArray 9)) fun e w' =>
      e = .returned (.bool (keptWords.contains l)) ∧ (w.alloc (.cells (keptWords.map fun l => Value.string (bs l)).toArray 9)) = w' := by
  refine (Tryd.slices_Contains_string w.heap.size 0 17 17 (keptWords.map bs) (bs l) _ (by simp [keptWords]) (by omega) (fun j hj => ?_)).mono fun e w' ⟨h1, h2⟩ => ⟨?_, h2.symm⟩
  · rw [Nat.zero_add, cell_of_block (heap_alloc_new w _)]
    simp at hj
    simp [hj]
  · rw [h1]
    congr 2
    rw [Bool.eq_iff_iff, Lib.containsS_iff, List.contains_iff_mem]
    rw [List.take_of_length_le (by simp [keptWords]), List.mem_map]
    constructor
    · rintro ⟨a, ha, he⟩; rw [← bs_inj he]; exact ha
    · intro h; exact ⟨l, h, rfl⟩
set_option maxHeartbeats 1000000 in
set_option maxRecDepth 100000 in
theorem name_any (l : List UInt8) (w : World) (hs : 11 ≤ w.heap.size) (ht : Lib.TabIs Tryd.prog w "strings.asciiSpace" .u8 Lib.asciiSpaceTab) :
    Calls Tryd.prog 47 #[.string (bs l)] w fun e w' => e = .returned (.bool (isName l)) ∧ Below w.heap.size w w' := by
  cases l with
  | nil =>
    go_enter Tryd.func47, Tryd.ntmps47
    go_wp2_with fail
    go_ret
    exact ⟨rfl, Below.refl _ _⟩
  | cons c r =>
    have k1 := letter_any c
    have k2 := named_any (c :: r)
    have HT := Lib.hid ht; clear ht
    by_cases h12 : r.length < 12
    · cases hc : isLetter c
      · have HR : Hid (isName (c :: r) = false) := by simp [Hid, isName, hc]
        rw [hc] at k1
        clear hc
        go_enter Tryd.func47, Tryd.ntmps47
        go_wp2_with fail
        refine (k1 _).mono ?_; rintro e w' ⟨rfl, rfl⟩
        go_wp2_with fail
        go_ret
        exact ⟨by rw [HR.out]; rfl, Below.refl _ _⟩
      · rw [hc] at k1
        by_cases hn : whileN isNameByte (c :: r) = r.length + 1
        · have HR : Hid (isName (c :: r) = !(keptWords.contains (c :: r))) := by simp [Hid, isName, hc, hn, h12]
          rw [hn] at k2
          clear hc hn
          go_enter Tryd.func47, Tryd.ntmps47
          go_wp2_with fail
          refine (k1 _).mono ?_; rintro e w' ⟨rfl, rfl⟩
          go_wp2_with fail
          refine (k2 _).mono ?_; rintro e w1 ⟨rfl, hb1⟩
          have HT1 := Lib.hid (space_below HT.out hb1 hs)
          have HB := Lib.hid hb1; clear hb1
          go_wp2_with fail
          refine (fields_bs _ HT1.out).mono ?_; rintro e w2 ⟨rfl, rfl⟩
          go_wp2_with fail
          refine (contains_bs (c :: r) _).mono ?_; rintro e w2 ⟨rfl, rfl⟩
          have HB2 := Lib.hid (HB.out.alloc HB.out.size (.cells (keptWords.map fun l => Value.string (bs l)).toArray 9))
          generalize keptWords.contains (c :: r) = kc at *
          go_wp2_with fail
          go_ret
          exact ⟨by rw [HR.out]; rfl, HB2.out⟩
        · have HR : Hid (isName (c :: r) = false) := by simp [Hid, isName, hn]
          have hn' : (((whileN isNameByte (c :: r) : Nat) : Int) == (r.length : Int) + 1) = false := by rw [beq_eq_false_iff_ne]; omega
          clear hc hn
          go_enter Tryd.func47, Tryd.ntmps47
          go_wp2_with fail
          refine (k1 _).mono ?_; rintro e w' ⟨rfl, rfl⟩
          go_wp2_with fail
          refine (k2 _).mono ?_; rintro e w1 ⟨rfl, hb1⟩
          have HB := Lib.hid hb1; clear hb1
          go_wp2_with fail
          go_ret
          exact ⟨by rw [HR.out]; rfl, HB.out⟩
    · have HR : Hid (isName (c :: r) = false) := by simp [Hid, isName, h12]
      go_enter Tryd.func47, Tryd.ntmps47
      go_wp2_with fail
      go_ret
      exact ⟨by rw [HR.out]; rfl, Below.refl _ _⟩
end Go.Proofs.YtfkieomelkopeaaDoor
