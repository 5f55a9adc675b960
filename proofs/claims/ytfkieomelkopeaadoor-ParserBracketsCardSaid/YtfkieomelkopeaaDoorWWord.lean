/-
  The walk of lexer.word: the word that a text begins with.
-/
import Derived.Test.YtfkieomelkopeaaDoorWDec3
namespace Go.Proofs.YtfkieomelkopeaaDoor
open Go.RowKit
/-- A word as a value. -/
def tokCells (t : Tok) : List Value := [.int .u8 t.kind, .string (bs t.text), .int .i64 t.c, .int .i64 t.s, .int .i64 t.place]
def tokV (t : Tok) : Value := .agg #[.int .u8 t.kind, .string (bs t.text), .int .i64 t.c, .int .i64 t.s, .int .i64 t.place]
set_option maxHeartbeats 1000000 in
set_option maxRecDepth 100000 in
theorem word_name (c : UInt8) (r : List UInt8) (w : World) (hl : r.length < 400) (hc : isLetter c = true) :
    Calls Tryd.prog 11 #[.string (bs (c :: r))] w fun e w' => e = .returned (.tuple #[tokV ⟨1, (c :: r).take (whileN isNameByte (c :: r)), 0, 0, 0⟩, .int .i64 ((if 12 < whileN isNameByte (c :: r) then 4 else 0 : Nat) : Int)]) ∧ Below w.heap.size w w' := by
  have k1 := sign_any (c :: r) (by simp)
  have k2 := letter_any c
  rw [hc] at k2
  have k3 := named_any (c :: r)
  have hk := whileN_le isNameByte (c :: r)
  clear hc
  generalize whileN isNameByte (c :: r) = n at *
  generalize signN (c :: r) = m at *
  simp only [List.length_cons] at hk
  go_enter Tryd.func11, Tryd.ntmps11
  go_wp2_with fail
  refine (k1 _).mono ?_; rintro e w' ⟨rfl, rfl⟩
  go_wp2_with fail
  refine (k2 _).mono ?_; rintro e w' ⟨rfl, rfl⟩
  go_wp2_with fail
  refine (k3 _).mono ?_; rintro e w1 ⟨rfl, hb1⟩
  obtain ⟨hc1, hf1⟩ := below_cells hb1
  have hz : w.heap.size < w1.heap.size := by have := hb1.size; simp at this; omega
  have hblk := heap_of_alloc hb1
  have HK := Lib.hid hblk; clear hblk
  have HB := Lib.hid hb1; clear hb1
  go_wp2_with fail
  · clear hc1 hf1
    refine post_gen w.heap.size #[.int .u8 1, .string (bs (List.take n (c :: r))), .int .i64 0, .int .i64 0, .int .i64 0] 47 (0, 0) (fun W => Below w.heap.size w W) ?_ ?_ (fun W hW hB => ?_)
    · simp [heap_setCell_eq, HK.out, objSet]
    · (repeat' (refine below_set ?_ _ _ (Nat.le_refl _) _)); exact below_alloc HB.out
    · have q := cell_of_block hW; exact bodyPost_ret (v := .tuple #[tokV ⟨1, (List.take n (c :: r)), 0, 0, 0⟩, .int .i64 4]) (by simp [results, Tryd.results11, go_sem, q, tokV]) rfl ⟨rfl, hB⟩
  · clear hc1 hf1
    refine post_gen w.heap.size #[.int .u8 1, .string (bs (List.take n (c :: r))), .int .i64 0, .int .i64 0, .int .i64 0] 47 (0, 0) (fun W => Below w.heap.size w W) ?_ ?_ (fun W hW hB => ?_)
    · simp [heap_setCell_eq, HK.out, objSet]
    · (repeat' (refine below_set ?_ _ _ (Nat.le_refl _) _)); exact below_alloc HB.out
    · have q := cell_of_block hW; exact bodyPost_ret (v := .tuple #[tokV ⟨1, (List.take n (c :: r)), 0, 0, 0⟩, .int .i64 0]) (by simp [results, Tryd.results11, go_sem, q, tokV]) rfl ⟨rfl, hB⟩
set_option maxHeartbeats 1000000 in
set_option maxRecDepth 100000 in
theorem word_number (c : UInt8) (r : List UInt8) (w : World) (hg : Glob w) (hl : r.length < 400) (hc : isLetter c = false) (hd : isDigit c = true) :
    Calls Tryd.prog 11 #[.string (bs (c :: r))] w fun e w' => e = .returned (.tuple #[tokV ⟨2, (c :: r).take (numberN (c :: r)), (decW (c :: r)).1, (decW (c :: r)).2.1, 0⟩, .int .i64 ((if (decW (c :: r)).2.2 = 3 then 4 else (decW (c :: r)).2.2 : Nat) : Int)]) ∧ Below w.heap.size w w' := by
  have k1 := sign_any (c :: r) (by simp)
  have k2 := letter_any c
  have k2' := digit_any c
  rw [hc] at k2; rw [hd] at k2'
  have k3 := number_any (c :: r) (by simp; omega)
  have hk := numberN_le (c :: r)
  have k4 : ∀ w, Glob w → Calls Tryd.prog 26 #[.string (bs ((c :: r).take (numberN (c :: r))))] w fun e w' =>
      e = .returned (.tuple #[.agg #[.int .i64 (decW (c :: r)).1, .int .i64 (decW (c :: r)).2.1], .int .i64 ((decW (c :: r)).2.2 : Nat)]) ∧ Below w.heap.size w w' := fun w hg => by
    have := decParse_any ((c :: r).take (whileN isDigit (c :: r))) (numRest (c :: r)) (numPoint (c :: r)) (digitsB_whole c r hd) (digitsB_rest _) (numRest_none _) (by
      rw [← take_numberN]; simp; omega) w hg
    rw [← take_numberN] at this
    exact this
  have hg0 : ∀ o, Glob (w.alloc o) := fun o => hg.below ((Below.refl _ _).alloc (Nat.le_refl _) _)
  have HG := Lib.hid hg0
  have HG0 := Lib.hid hg
  clear hc hd hg0 hg
  generalize decW (c :: r) = dw at *
  obtain ⟨dc, ds, de⟩ := dw
  generalize numberN (c :: r) = n at *
  generalize signN (c :: r) = m at *
  simp only [List.length_cons] at hk
  dsimp only at k4
  go_enter Tryd.func11, Tryd.ntmps11
  go_wp2_with fail
  refine (k1 _).mono ?_; rintro e w' ⟨rfl, rfl⟩
  go_wp2_with fail
  refine (k2 _).mono ?_; rintro e w' ⟨rfl, rfl⟩
  go_wp2_with fail
  refine (k2' _).mono ?_; rintro e w' ⟨rfl, rfl⟩
  go_wp2_with fail
  refine (k3 _).mono ?_; rintro e w1 ⟨rfl, hb1⟩
  have HG1 : Hid (Glob w1) := (HG.out _).below hb1
  have HK := Lib.hid (heap_of_alloc hb1)
  obtain ⟨hc1, hf1⟩ := below_cells hb1
  have hz : w.heap.size < w1.heap.size := by have := hb1.size; simp at this; omega
  have HB := Lib.hid hb1; clear hb1
  go_wp2_with fail
  refine calls_gen w.heap.size #[.int .u8 2, .string (bs (List.take n (c :: r))), .int .i64 0, .int .i64 0, .int .i64 0] 47 (0, 0) (fun W => Below w.heap.size w W) ?_ ?_ (fun W hW hB => ?_)
  · simp [heap_setCell_eq, HK.out, objSet]
  · (repeat' (refine below_set ?_ _ _ (Nat.le_refl _) _)); exact below_alloc HB.out
  clear HB HK HG1 hc1 hf1 hz
  refine (k4 _ (HG0.out.below hB)).mono ?_; rintro e w2 ⟨rfl, hb2⟩
  have hlt := lt_of_block hW
  have hW2 := block_below hW hb2 hlt
  have q2 := cell_of_block hW2
  have f2 := free_of_block hW2
  have HB := Lib.hid (below_then hB hb2)
  have HK := Lib.hid hW2
  clear hW2 hW hb2 hB
  by_cases h3 : de = 3
  · subst h3
    go_wp2_with fail
    refine post_gen w.heap.size #[.int .u8 2, .string (bs (List.take n (c :: r))), .int .i64 dc, .int .i64 ds, .int .i64 0] 47 (0, 0) (fun W => Below w.heap.size w W) ?_ ?_ (fun W hW hB => ?_)
    · simp [heap_setCell_eq, HK.out, objSet]
    · (repeat' (refine below_set ?_ _ _ (Nat.le_refl _) _)); exact HB.out
    · have q := cell_of_block hW; exact bodyPost_ret (v := .tuple #[tokV ⟨2, (List.take n (c :: r)), dc, ds, 0⟩, .int .i64 4]) (by simp [results, Tryd.results11, go_sem, q, tokV]) rfl ⟨rfl, hB⟩
  · have h3' : (((de : Nat) : Int) == 3) = false := by rw [beq_eq_false_iff_ne]; omega
    go_wp2_with fail
    refine post_gen w.heap.size #[.int .u8 2, .string (bs (List.take n (c :: r))), .int .i64 dc, .int .i64 ds, .int .i64 0] 47 (0, 0) (fun W => Below w.heap.size w W) ?_ ?_ (fun W hW hB => ?_)
    · simp [heap_setCell_eq, HK.out, objSet]
    · (repeat' (refine below_set ?_ _ _ (Nat.le_refl _) _)); exact HB.out
    · have q := cell_of_block hW; exact bodyPost_ret (v := .tuple #[tokV ⟨2, (List.take n (c :: r)), dc, ds, 0⟩, .int .i64 de]) (by simp [results, Tryd.results11, go_sem, q, tokV]) rfl ⟨rfl, hB⟩
set_option maxHeartbeats 1000000 in
set_option maxRecDepth 100000 in
theorem word_sign (c : UInt8) (r : List UInt8) (w : World) (hl : r.length < 400) (hc : isLetter c = false) (hd : isDigit c = false) (hs : 0 < signN (c :: r)) (hs2 : signN (c :: r) ≤ (c :: r).length) :
    Calls Tryd.prog 11 #[.string (bs (c :: r))] w fun e w' => e = .returned (.tuple #[tokV ⟨3, (c :: r).take (signN (c :: r)), 0, 0, 0⟩, .int .i64 0]) ∧ Below w.heap.size w w' := by
  have k1 := sign_any (c :: r) (by simp)
  have k2 := letter_any c
  have k2' := digit_any c
  rw [hc] at k2; rw [hd] at k2'
  clear hc hd
  generalize signN (c :: r) = m at *
  simp only [List.length_cons] at hs2
  go_enter Tryd.func11, Tryd.ntmps11
  go_wp2_with fail
  refine (k1 _).mono ?_; rintro e w' ⟨rfl, rfl⟩
  go_wp2_with fail
  refine (k2 _).mono ?_; rintro e w' ⟨rfl, rfl⟩
  go_wp2_with fail
  refine (k2' _).mono ?_; rintro e w' ⟨rfl, rfl⟩
  go_wp2_with fail
  exact bodyPost_ret (v := .tuple #[tokV ⟨3, List.take m (c :: r), 0, 0, 0⟩, .int .i64 0]) (by simp [results, Tryd.results11, go_sem, tokV]) rfl ⟨rfl, (by (repeat' (refine below_set ?_ _ _ (Nat.le_refl _) _)); exact (Below.refl _ _).alloc (Nat.le_refl _) _)⟩
set_option maxHeartbeats 1000000 in
set_option maxRecDepth 100000 in
theorem word_none (c : UInt8) (r : List UInt8) (w : World) (hl : r.length < 400) (hc : isLetter c = false) (hd : isDigit c = false) (hs : signN (c :: r) = 0) :
    Calls Tryd.prog 11 #[.string (bs (c :: r))] w fun e w' => e = .returned (.tuple #[tokV ⟨0, [], 0, 0, 0⟩, .int .i64 4]) ∧ Below w.heap.size w w' := by
  have k1 := sign_any (c :: r) (by simp)
  have k2 := letter_any c
  have k2' := digit_any c
  rw [hc] at k2; rw [hd] at k2'; rw [hs] at k1
  clear hc hd hs
  go_enter Tryd.func11, Tryd.ntmps11
  go_wp2_with fail
  refine (k1 _).mono ?_; rintro e w' ⟨rfl, rfl⟩
  go_wp2_with fail
  refine (k2 _).mono ?_; rintro e w' ⟨rfl, rfl⟩
  go_wp2_with fail
  refine (k2' _).mono ?_; rintro e w' ⟨rfl, rfl⟩
  go_wp2_with fail
  exact bodyPost_ret (v := .tuple #[tokV ⟨0, [], 0, 0, 0⟩, .int .i64 4]) (by simp [results, Tryd.results11, go_sem, tokV]) rfl ⟨rfl, (by (repeat' (refine below_set ?_ _ _ (Nat.le_refl _) _)); exact (Below.refl _ _).alloc (Nat.le_refl _) _)⟩
end Go.Proofs.YtfkieomelkopeaaDoor
