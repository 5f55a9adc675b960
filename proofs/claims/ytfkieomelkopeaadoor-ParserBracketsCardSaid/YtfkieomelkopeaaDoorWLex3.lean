import Derived.Test.YtfkieomelkopeaaDoorWLex2
import Derived.Test.YtfkieomelkopeaaDoorPWord
import Derived.Test.YtfkieomelkopeaaDoorShelf
import Derived.Lib.IndexAny
namespace Go.Proofs.YtfkieomelkopeaaDoor
open Go.RowKit
theorem signN_a {l : List UInt8} (h : Lib.hasPrefix l [60, 61] = true) : signN l = 2 := by simp [signN, h]
theorem signN_b {l : List UInt8} (h : Lib.hasPrefix l [62, 61] = true) : signN l = 2 := by simp [signN, h]
theorem signN_c {l : List UInt8} (h : Lib.hasPrefix l [60, 62] = true) : signN l = 2 := by simp [signN, h]
theorem signN_d {c : UInt8} {r : List UInt8} (h0 : Lib.hasPrefix (c :: r) [60, 61] = false) (h1 : Lib.hasPrefix (c :: r) [62, 61] = false) (h2 : Lib.hasPrefix (c :: r) [60, 62] = false) : signN (c :: r) = if signByte c = true then 1 else 0 := by simp [signN, h0, h1, h2]
theorem indexByte_sign (c : UInt8) : (0 ≤ Lib.indexByte [61, 60, 62, 43, 45, 42, 47, 40, 41, 44] c) ↔ signByte c = true := by
  unfold signByte
  rw [Lib.contains_iff_indexByte]
  simp
theorem hasPrefix_bs (l m : List UInt8) (w : World) : Calls Tryd.prog 35 #[.string (bs l), .string (bs m)] w fun e w' => e = .returned (.bool (Lib.hasPrefix l m)) ∧ w = w' :=
  (Tryd.strings_HasPrefix (bs l) (bs m) w).mono fun e w' ⟨h1, h2⟩ => ⟨by rw [h1]; simp, h2.symm⟩
theorem indexByte_bs (l : List UInt8) (c : UInt8) (w : World) : Calls Tryd.prog 36 #[.string (bs l), .int .u8 c.toNat] w fun e w' => e = .returned (.int .i64 (Lib.indexByte l c)) ∧ w = w' :=
  (Tryd.strings_IndexByte (bs l) c.toNat w).mono fun e w' ⟨h1, h2⟩ => ⟨by rw [h1]; simp, h2.symm⟩
set_option maxRecDepth 100000 in
theorem sign_any (l : List UInt8) (hl : l ≠ []) (w : World) :
    Calls Tryd.prog 21 #[.string (bs l)] w fun e w' => e = .returned (.int .i64 (signN l)) ∧ w = w' := by
  have i0 : ∀ w, (Instr.index 68 (.agg #[.string (bs [60, 61]), .string (bs [62, 61]), .string (bs [60, 62])]) (.int .i64 0)).run Tryd.prog w = .ok (.string (bs [60, 61])) w := fun _ => by kernel_rfl
  have i1 : ∀ w, (Instr.index 68 (.agg #[.string (bs [60, 61]), .string (bs [62, 61]), .string (bs [60, 62])]) (.int .i64 1)).run Tryd.prog w = .ok (.string (bs [62, 61])) w := fun _ => by kernel_rfl
  have i2 : ∀ w, (Instr.index 68 (.agg #[.string (bs [60, 61]), .string (bs [62, 61]), .string (bs [60, 62])]) (.int .i64 2)).run Tryd.prog w = .ok (.string (bs [60, 62])) w := fun _ => by kernel_rfl
  have p0 := hasPrefix_bs l [60, 61]
  have p1 := hasPrefix_bs l [62, 61]
  have p2 := hasPrefix_bs l [60, 62]
  have g := indexByte_bs [61, 60, 62, 43, 45, 42, 47, 40, 41, 44]
  obtain ⟨c, r, rfl⟩ := List.exists_cons_of_ne_nil hl
  cases h0 : Lib.hasPrefix (c :: r) [60, 61]
  · cases h1 : Lib.hasPrefix (c :: r) [62, 61]
    · cases h2 : Lib.hasPrefix (c :: r) [60, 62]
      · rw [h0] at p0; rw [h1] at p1; rw [h2] at p2
        have H := Lib.hid (signN_d h0 h1 h2); clear h0 h1 h2 hl
        go_enter Tryd.func21, Tryd.ntmps21
        go_wp2_with fail
        refine wp_loop_rounds 4 ?_
        rw [rounds_succ]
        go_wp2_with ((go_at_call 35; refine (p0 _).mono ?_; rintro e w' ⟨rfl, rfl⟩))
        rw [rounds_succ]
        go_wp2_with ((go_at_call 35; refine (p1 _).mono ?_; rintro e w' ⟨rfl, rfl⟩))
        rw [rounds_succ]
        go_wp2_with ((go_at_call 35; refine (p2 _).mono ?_; rintro e w' ⟨rfl, rfl⟩))
        rw [rounds_succ]
        go_wp2_with ((go_at_call 36; refine (g _ _).mono ?_; rintro e w' ⟨rfl, rfl⟩))
        · have hs : signByte c = true := (indexByte_sign c).1 (by assumption)
          go_ret
          exact ⟨by rw [H.out, if_pos hs]; rfl, rfl⟩
        · have hs : ¬ signByte c = true := fun h => by have := (indexByte_sign c).2 h; omega
          go_ret
          exact ⟨by rw [H.out, if_neg hs]; rfl, rfl⟩
      · rw [h0] at p0; rw [h1] at p1; rw [h2] at p2
        have H := Lib.hid (signN_c h2); clear h0 h1 h2 hl
        go_enter Tryd.func21, Tryd.ntmps21
        go_wp2_with fail
        refine wp_loop_rounds 4 ?_
        rw [rounds_succ]
        go_wp2_with ((go_at_call 35; refine (p0 _).mono ?_; rintro e w' ⟨rfl, rfl⟩))
        rw [rounds_succ]
        go_wp2_with ((go_at_call 35; refine (p1 _).mono ?_; rintro e w' ⟨rfl, rfl⟩))
        rw [rounds_succ]
        go_wp2_with ((go_at_call 35; refine (p2 _).mono ?_; rintro e w' ⟨rfl, rfl⟩))
        go_ret
        exact ⟨by rw [H.out]; rfl, rfl⟩
    · rw [h0] at p0; rw [h1] at p1
      have H := Lib.hid (signN_b h1); clear h0 h1 hl
      go_enter Tryd.func21, Tryd.ntmps21
      go_wp2_with fail
      refine wp_loop_rounds 4 ?_
      rw [rounds_succ]
      go_wp2_with ((go_at_call 35; refine (p0 _).mono ?_; rintro e w' ⟨rfl, rfl⟩))
      rw [rounds_succ]
      go_wp2_with ((go_at_call 35; refine (p1 _).mono ?_; rintro e w' ⟨rfl, rfl⟩))
      go_ret
      exact ⟨by rw [H.out]; rfl, rfl⟩
  · rw [h0] at p0
    have H := Lib.hid (signN_a h0); clear h0 hl
    go_enter Tryd.func21, Tryd.ntmps21
    go_wp2_with fail
    refine wp_loop_rounds 4 ?_
    rw [rounds_succ]
    go_wp2_with ((go_at_call 35; refine (p0 _).mono ?_; rintro e w' ⟨rfl, rfl⟩))
    go_ret
    exact ⟨by rw [H.out]; rfl, rfl⟩
end Go.Proofs.YtfkieomelkopeaaDoor
