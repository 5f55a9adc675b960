import Derived.Test.YtfkieomelkopeaaDoorPLex
import Derived.Test.YtfkieomelkopeaaDoorProg
import Derived.Lib.OthersKept
import Derived.Deep.LoopGhost
namespace Go.Proofs.YtfkieomelkopeaaDoor
open Go.RowKit
set_option maxHeartbeats 400000 in
theorem letter_any (c : UInt8) (w : World) : Calls Tryd.prog 22 #[.int .u8 c.toNat] w fun e w' => e = .returned (.bool (isLetter c)) ∧ w = w' := by
  go_enter Tryd.func22, Tryd.ntmps22
  go_wp2
  all_goals (go_ret; refine ⟨?_, rfl⟩; show Ending.returned _ = _; first | (simp [isLetter, *]; done) | (simp [isLetter, *]; omega))
set_option maxHeartbeats 400000 in
theorem digit_any (c : UInt8) (w : World) : Calls Tryd.prog 24 #[.int .u8 c.toNat] w fun e w' => e = .returned (.bool (isDigit c)) ∧ w = w' := by
  go_enter Tryd.func24, Tryd.ntmps24
  go_wp2
  all_goals (go_ret; refine ⟨?_, rfl⟩; show Ending.returned _ = _; first | (simp [isDigit, *]; done) | (simp [isDigit, *]; omega))
set_option maxHeartbeats 400000 in
theorem named1_any (c : UInt8) (w : World) : Calls Tryd.prog 38 #[.int .u8 c.toNat] w fun e w' => e = .returned (.bool (isNameByte c)) ∧ w = w' := by
  unfold isNameByte
  cases h : isLetter c
  · have h2 := letter_any c
    have h3 := digit_any c
    rw [h] at h2
    go_enter Tryd.func38, Tryd.ntmps38
    go_wp2_with (first | (go_at_call 22; refine (h2 _).mono ?_; rintro e w' ⟨rfl, rfl⟩) | (go_at_call 24; refine (h3 _).mono ?_; rintro e w' ⟨rfl, rfl⟩))
    go_ret
    exact ⟨rfl, rfl⟩
  · have h2 := letter_any c
    rw [h] at h2
    go_enter Tryd.func38, Tryd.ntmps38
    go_wp2_with (first | (go_at_call 22; refine (h2 _).mono ?_; rintro e w' ⟨rfl, rfl⟩))
    go_ret
    exact ⟨rfl, rfl⟩
set_option maxRecDepth 100000 in
/-- 'while' over a predicate of ASCII bytes. -/
theorem while_any (f : FuncId) (p : UInt8 → Bool) (hp : ∀ (c : UInt8) (w : World), Calls Tryd.prog f #[.int .u8 c.toNat] w fun e w' => e = .returned (.bool (p c)) ∧ w = w')
    (hin : ∀ (args : Array Value) (w : World), (callFunc f args).run Tryd.prog w = .ok (.enter f args) w) (hasc : ∀ c, p c = true → c.toNat < 128) (l : List UInt8) (w : World) :
    Calls Tryd.prog 37 #[.string (bs l), .func (.func f) #[] #[]] w fun e w' => e = .returned (.int .i64 (whileN p l)) ∧ Below w.heap.size w w' := by
  have HA := Lib.hid hasc; clear hasc
  have HP := Lib.hid hp; clear hp
  go_enter Tryd.func37, Tryd.ntmps37
  go_wp2
  go_loopw [8] (fun _ wr => ∃ k : Nat, k ≤ l.length ∧ wr.heap[w.heap.size]? = some (.stringIter (bs l) k) ∧ Below w.heap.size w wr ∧ Hid (∀ j (hj : j < l.length), j < k → p l[j] = true)) (fun _ wr => l.length - wr.iterPos w.heap.size)
  case atStart => exact ⟨0, Nat.zero_le _, World.iter_heap w (bs l) 0, (Below.refl _ _).alloc (Nat.le_refl _) _, fun j _ h => absurd h (by omega)⟩
  case round =>
    obtain ⟨k, hk, hit, hbw, HS⟩ := hrel
    have hpos0 : wr.iterPos w.heap.size = k := by simp [World.iterPos, hit]
    by_cases hlt : k < l.length
    · have hnx : ∀ ty, (Instr.next (.pointer (some ⟨w.heap.size, 0, none⟩)) true ty).run Tryd.prog wr = _ := fun ty => Lib.run_next_any_at wr w.heap.size (bs l) k ty hit (by simpa using hlt)
      have hit2 := Lib.iterAt_heap wr w.heap.size (bs l) k (k + (Utf8.decode (bs l) k).2) hit
      have hbw2 := Lib.below_iterAt hbw (k := w.heap.size) (Nat.le_refl _) (bs l) (k + (Utf8.decode (bs l) k).2)
      obtain ⟨W1, hW1⟩ : ∃ W1, W1 = wr.iterAt w.heap.size (bs l) (k + (Utf8.decode (bs l) k).2) := ⟨_, rfl⟩
      rw [← hW1] at hnx hit2 hbw2
      clear hit hbw
      have hb0 : (0 : Int) ≤ (k : Int) := by omega
      have hb1 : (k : Int) < (l.length : Int) := by omega
      have hwid : p l[k] = true → (Utf8.decode (bs l) k).2 = 1 := fun h => by
        rw [decode_ascii (bs l) k (by simpa using hlt) (by simpa using HA.out _ h)]
      have HW := Lib.hid hwid; clear hwid
      cases hpk : p l[k]
      · have hc := HP.out l[k]
        rw [hpk] at hc
        have hres : whileN p l = k := whileN_stop p l k hlt (fun j hj => HS.out j (by omega) hj) hpk
        have HR := Lib.hid hres; clear hres
        clear hpk hpos0 hit2 hW1
        have HB := Lib.hid hbw2; clear hbw2
        go_wp2_with (refine (hc _).mono ?_; rintro e w' ⟨rfl, rfl⟩)
        go_ret
        exact ⟨by rw [HR.out]; rfl, HB.out⟩
      · have hc := HP.out l[k]
        rw [hpk] at hc
        rw [HW.out hpk] at hit2
        have HS2 : Hid (∀ j (hj : j < l.length), j < k + 1 → p l[j] = true) := fun j hj h => by
          rcases Nat.lt_or_ge j k with h' | h'
          · exact HS.out j hj h'
          · obtain rfl : j = k := by omega
            exact hpk
        have hpos2 : W1.iterPos w.heap.size = k + 1 := by simp [World.iterPos, hit2]
        have HB := Lib.hid hbw2; clear hbw2
        have HI := Lib.hid hit2; clear hit2
        have HP1 := Lib.hid hpos0; clear hpos0
        have HP2 := Lib.hid hpos2; clear hpos2
        clear hpk hW1
        go_wp2_with (refine (hc _).mono ?_; rintro e w' ⟨rfl, rfl⟩)
        go_roundw
        case rel => exact ⟨k + 1, by omega, HI.out, HB.out, HS2⟩
        case measure => rw [HP1.out, HP2.out]; omega
    · obtain rfl : k = l.length := by omega
      have hnx : ∀ ty, (Instr.next (.pointer (some ⟨w.heap.size, 0, none⟩)) true ty).run Tryd.prog wr = _ := fun ty => Lib.run_next_end_at wr w.heap.size (bs l) l.length ty hit (by simp)
      have HR : Hid (whileN p l = l.length) := whileN_all p l (fun j hj => HS.out j hj hj)
      have HB := Lib.hid hbw; clear hbw
      clear hit hpos0
      go_wp2
      go_ret
      exact ⟨by rw [HR.out]; rfl, HB.out⟩
end Go.Proofs.YtfkieomelkopeaaDoor
