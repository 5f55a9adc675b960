import Derived.Test.YtfkieomelkopeaaDoorWLex
namespace Go.Proofs.YtfkieomelkopeaaDoor
open Go.RowKit
theorem enter_named1 (args : Array Value) (w : World) : (callFunc 38 args).run Tryd.prog w = .ok (.enter 38 args) w := by kernel_rfl
theorem enter_digit (args : Array Value) (w : World) : (callFunc 24 args).run Tryd.prog w = .ok (.enter 24 args) w := by kernel_rfl
set_option maxRecDepth 100000 in
theorem named_any (l : List UInt8) (w : World) :
    Calls Tryd.prog 23 #[.string (bs l)] w fun e w' => e = .returned (.int .i64 (whileN isNameByte l)) ∧ Below w.heap.size w w' := by
  go_enter Tryd.func23, Tryd.ntmps23
  go_wp2_with (first | (go_at_call 37; refine (while_any _ isNameByte named1_any enter_named1 (fun _ => isNameByte_ascii) _ _).mono ?_; rintro e w' ⟨rfl, hb⟩) | fail)
  go_ret
  exact ⟨rfl, hb⟩
set_option maxRecDepth 100000 in
theorem number_any (l : List UInt8) (hl : l.length ≤ 9223372036854775000) (w : World) :
    Calls Tryd.prog 25 #[.string (bs l)] w fun e w' => e = .returned (.int .i64 (numberN l)) ∧ Below w.heap.size w w' := by
  have hk := whileN_le isDigit l
  go_enter Tryd.func25, Tryd.ntmps25
  go_wp2_with (first
    | (go_at_call 37; refine (while_any _ isDigit digit_any enter_digit (fun _ => isDigit_ascii) _ _).mono ?_; rintro e w' ⟨rfl, hb⟩)
    | (go_at_call 24; refine (digit_any _ _).mono ?_; rintro e w' ⟨rfl, rfl⟩))
  · have h1 : whileN isDigit l + 1 < l.length := by omega
    have h2 := whileN_le isDigit (l.drop (whileN isDigit l + 1))
    rw [List.length_drop] at h2
    have h3 : l[whileN isDigit l] = 46 := u8_ofInt (by assumption)
    have h4 : isDigit l[whileN isDigit l + 1] = true := by assumption
    go_ret
    refine ⟨ret_int ?_, below_then (by assumption) hb⟩
    rw [numberN_dot l h1, if_pos h3, if_pos h4, wrap_ok (n := 1 + _) (by omega) (by omega), wrap_ok (by omega) (by omega)]
    omega
  · have h1 : whileN isDigit l + 1 < l.length := by omega
    have h3 : l[whileN isDigit l] = 46 := u8_ofInt (by assumption)
    have h4 : isDigit l[whileN isDigit l + 1] = false := by assumption
    go_ret
    refine ⟨ret_int ?_, hb⟩
    rw [numberN_dot l h1, if_pos h3, if_neg (by simp [h4])]
  · have h1 : whileN isDigit l + 1 < l.length := by omega
    have h3 : ¬ l[whileN isDigit l] = 46 := fun e => by
      have h : ¬ ((l[whileN isDigit l].toNat : Nat) : Int) = 46 := by assumption
      exact h (by rw [e]; rfl)
    go_ret
    refine ⟨ret_int ?_, hb⟩
    rw [numberN_dot l h1, if_neg h3]
  · go_ret
    refine ⟨ret_int ?_, hb⟩
    rw [numberN_short l (by omega)]
end Go.Proofs.YtfkieomelkopeaaDoor
