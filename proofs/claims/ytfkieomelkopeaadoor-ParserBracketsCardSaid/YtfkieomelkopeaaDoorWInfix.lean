/-
  infix: the op of the next word, if it stands between; the readers of a field's name and of a whole number.
-/
import Derived.Test.YtfkieomelkopeaaDoorWNode
namespace Go.Proofs.YtfkieomelkopeaaDoor
open Go.RowKit
/-- Operators lie in block gl. -/
def OpsAt (w : World) (gl : Nat) (ops : List (List UInt8 × Nat)) : Prop := ∀ i (h : i < ops.length), w.cell? ⟨gl, i * 2, none⟩ = some (.string (bs ops[i].1)) ∧ w.cell? ⟨gl, i * 2 + 1, none⟩ = some (.int .u8 ops[i].2)
theorem ifx_step {ops : List (List UInt8 × Nat)} {k : Nat} (h : k < ops.length) {toks : List Tok} : ifx (ops.drop k) toks = if isW toks ops[k].1 = true then ops[k].2 else ifx (ops.drop (k + 1)) toks := by
  rw [List.drop_eq_getElem_cons h]; rfl
set_option maxHeartbeats 1000000 in
set_option maxRecDepth 100000 in
theorem infix_any (w : World) (b g E deep : Nat) (toks : List Tok) (tree : List Node) (row : Option Nat) (h : PS w b g E deep toks tree row) (gl c : Nat) (ops : List (List UInt8 × Nat)) (ho : OpsAt w gl ops) (hgl : gl < w.heap.size) (hc : ops.length ≤ 100) :
    Calls Tryd.prog 43 #[.pointer (some ⟨b, 0, none⟩), .slice (some ⟨gl, 0, none⟩) ops.length c] w fun e w' => e = .returned (.int .u8 (ifx ops toks : Nat)) ∧ Below w.heap.size w w' := by
  have HPS := Lib.hid h; clear h
  have HO := Lib.hid ho; clear ho
  go_enter Tryd.func43, Tryd.ntmps43
  go_wp2_with fail
  go_loopw [9] (fun v wr => ∃ k : Nat, k ≤ ops.length ∧ v = .int .i64 k ∧ Below w.heap.size w wr ∧ Hid (ifx ops toks = ifx (ops.drop k) toks)) (fun v _ => ops.length - (intOf v).toNat)
  case atStart => exact ⟨0, Nat.zero_le _, rfl, Below.refl _ _, rfl⟩
  case round =>
    obtain ⟨k, hk, rfl, hbw, HS⟩ := hrel
    have HPr : Hid (PS wr b g E deep toks tree row) := HPS.out.same hbw
    have hsz := hbw.size
    by_cases hlt : k < ops.length
    · obtain ⟨o1, o2⟩ := HO.out k hlt
      have o1 : wr.cell? ⟨gl, k * 2, none⟩ = some (.string (bs ops[k].1)) := (hbw.cell (p := ⟨gl, k * 2, none⟩) hgl).trans o1
      have o2 : wr.cell? ⟨gl, k * 2 + 1, none⟩ = some (.int .u8 ops[k].2) := (hbw.cell (p := ⟨gl, k * 2 + 1, none⟩) hgl).trans o2
      have hs := ifx_step (toks := toks) hlt
      have hi0 : (0 : Int) ≤ (k : Int) := by omega
      have hi1 : (k : Int) < (ops.length : Int) := by omega
      generalize ops[k] = op at *
      obtain ⟨tx, on⟩ := op
      dsimp only at *
      have HSS := Lib.hid hs; clear hs
      have HB := Lib.hid hbw; clear hbw
      have hal : ∀ o, PS (wr.alloc o) b g E deep toks tree row := fun o => HPr.out.same ((Below.refl _ _).alloc (Nat.le_refl _) _)
      have hisw : ∀ o, Calls Tryd.prog 44 #[.pointer (some ⟨b, 0, none⟩), .string (bs tx)] (wr.alloc o) fun e w' => e = .returned (.bool (isW toks tx)) ∧ wr.alloc o = w' := fun o => is_any _ b g E deep toks tree row (hal o) tx
      clear hal
      cases hw : isW toks tx
      · have HS2 : Hid (ifx ops toks = ifx (ops.drop (k + 1)) toks) := by
          have h9 := HS.out; rw [HSS.out, hw] at h9; exact (by simpa using h9 : ifx ops toks = _)
        simp only [hw] at hisw
        clear hw
        go_wp2_with fail
        refine (hisw _).mono ?_; rintro e w' ⟨rfl, rfl⟩
        have HB2 := Lib.hid (HB.out.alloc (by omega) (.cells #[.string (bs tx), .int .u8 on] 58))
        clear hisw
        go_wp2_with fail
        go_roundw
        case rel => exact ⟨k + 1, by omega, by go_num, HB2.out, HS2⟩
        case measure => simp [intOf]; omega
      · have HS2 : Hid (ifx ops toks = on) := by
          have h9 := HS.out; rw [HSS.out, hw] at h9; exact (by simpa using h9 : ifx ops toks = _)
        simp only [hw] at hisw
        clear hw
        go_wp2_with fail
        refine (hisw _).mono ?_; rintro e w' ⟨rfl, rfl⟩
        have HB2 := Lib.hid (HB.out.alloc (by omega) (.cells #[.string (bs tx), .int .u8 on] 58))
        clear hisw
        go_wp2_with fail
        go_ret
        exact ⟨by rw [HS2.out]; rfl, HB2.out⟩
    · obtain rfl : k = ops.length := by omega
      have HS2 : Hid (ifx ops toks = 0) := by
        have h9 := HS.out; rw [List.drop_length] at h9; exact h9
      have HB := Lib.hid hbw; clear hbw
      go_wp2_with fail
      go_ret
      exact ⟨by rw [HS2.out]; rfl, HB.out⟩
end Go.Proofs.YtfkieomelkopeaaDoor
