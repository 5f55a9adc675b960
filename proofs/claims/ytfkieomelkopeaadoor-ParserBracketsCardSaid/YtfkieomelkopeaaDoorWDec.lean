import Derived.Test.YtfkieomelkopeaaDoorWLex3
import Derived.Test.YtfkieomelkopeaaDoorWGlob
import Derived.Test.YtfkieomelkopeaaDoorPDec
namespace Go.Proofs.YtfkieomelkopeaaDoor
open Go.RowKit
set_option maxRecDepth 100000 in
theorem digits_any (l : List UInt8) (w : World) (hl : l.length ≤ 9223372036854775807) :
    Calls Tryd.prog 41 #[.string (bs l)] w fun e w' => e = .returned (.bool (digitsB l)) ∧ w = w' := by
  go_enter Tryd.func41, Tryd.ntmps41
  go_wp2
  go_loop [6] (fun v => ∃ k : Nat, k ≤ l.length ∧ v = .int .i64 k ∧ Hid (∀ j (hj : j < l.length), j < k → isDigit l[j] = true)) (fun v => l.length - (intOf v).toNat)
  case atStart => exact ⟨0, Nat.zero_le _, rfl, fun j _ h => absurd h (by omega)⟩
  case round =>
    obtain ⟨k, hk, rfl, HS⟩ := hrel
    by_cases hlt : k < l.length
    · by_cases h1 : (48 : Int) ≤ (l[k].toNat : Int)
      · by_cases h2 : (l[k].toNat : Int) ≤ 57
        · have HS2 : Hid (∀ j (hj : j < l.length), j < k + 1 → isDigit l[j] = true) := fun j hj h => by
            rcases Nat.lt_or_ge j k with h' | h'
            · exact HS.out j hj h'
            · obtain rfl : j = k := by omega
              simp [isDigit]; omega
          go_wp2
          go_round
          case rel => exact ⟨k + 1, by omega, by go_num, HS2⟩
          case measure => simp [intOf]; omega
        · have hr : digitsB l = false := by
            cases h : digitsB l
            · rfl
            · have := dig_of ((digitsB_iff.1 h).2 _ (List.getElem_mem hlt)); omega
          have HR := Lib.hid hr; clear hr
          go_wp2
          go_ret
          exact ⟨by rw [HR.out]; rfl, rfl⟩
      · have hr : digitsB l = false := by
          cases h : digitsB l
          · rfl
          · have := dig_of ((digitsB_iff.1 h).2 _ (List.getElem_mem hlt)); omega
        have HR := Lib.hid hr; clear hr
        go_wp2
        go_ret
        exact ⟨by rw [HR.out]; rfl, rfl⟩
    · obtain rfl : k = l.length := by omega
      have hr : digitsB l = !l.isEmpty := by
        unfold digitsB
        rw [List.all_eq_true.2 (fun c hc => by obtain ⟨j, hj, rfl⟩ := List.mem_iff_getElem.1 hc; exact HS.out j hj hj)]
        simp
      have HR := Lib.hid hr; clear hr
      go_wp2
      go_ret
      refine ⟨?_, rfl⟩
      rw [HR.out]
      rfl
end Go.Proofs.YtfkieomelkopeaaDoor
