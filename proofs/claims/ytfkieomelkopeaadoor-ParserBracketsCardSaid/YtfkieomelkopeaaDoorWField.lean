/-
  field and whole: a field's name, a whole number taken off the words.
-/
import Derived.Test.YtfkieomelkopeaaDoorWAhead
namespace Go.Proofs.YtfkieomelkopeaaDoor
open Go.RowKit
set_option maxHeartbeats 2000000 in
set_option maxRecDepth 100000 in
theorem field_yes (w : World) (b g E deep : Nat) (t : Tok) (r : List Tok) (tree : List Node) (row : Option Nat) (h : PS w b g E deep (t :: r) tree row) (hsp : Spaces w) (h11 : 11 ≤ b) (hk : t.kind = 1) (hn : isName t.text = true) :
    Calls Tryd.prog 33 #[.pointer (some ⟨b, 0, none⟩)] w fun e w' => e = .returned (.string (bs t.text)) ∧ PS w' b g E deep r tree row ∧ Turn b none w w' := by
  have hlt := h.lt
  have hnm := name_any t.text w (by omega) hsp
  rw [hn] at hnm
  have hps := h
  have hkb : (((t.kind : Nat) : Int) != 1) = false := by rw [hk]; rfl
  have HPS := Lib.hid hps; clear hps
  obtain ⟨lv, tv, h1, h2, h3, h4, h5⟩ := h
  have q := cell_of_block h1
  have f := free_of_block h1
  rcases h2 with ⟨h, _⟩ | ⟨-, off, cap, rfl, hc1, hc2, h2⟩
  · cases h
  obtain ⟨t0, t1, t2, t3, t4, -⟩ := id h2
  have H1 := Lib.hid h1; clear h1
  have H2 := Lib.hid h2; clear h2
  have H3 := Lib.hid h3; clear h3
  have H4 := Lib.hid h4; clear h4
  simp only [List.length_cons] at hc1
  simp only [List.length_cons] at q
  have hp0 : (0 : Int) < (r.length : Int) + 1 := by omega
  have hp1 : ((r.length : Int) + 1 == 0) = false := by rw [beq_eq_false_iff_ne]; omega
  clear hn hk hsp
  go_enter Tryd.func33, Tryd.ntmps33
  go_wp2_with fail
  refine hnm.mono ?_
  rintro e w1 ⟨rfl, hb1⟩
  have HT1 := Lib.hid ((Turn.refl b none w).then_below hb1)
  have HPS1 := Lib.hid (HPS.out.same hb1)
  have hlt1 := HPS1.out.lt
  obtain ⟨hc, hf⟩ := below_cells hb1
  have H1' := Lib.hid (block_below H1.out hb1 hlt)
  have H2' := Lib.hid (H2.out.below hb1 (by omega))
  have H3' := Lib.hid (ownsRow_below H3.out hb1 (Nat.le_refl _))
  clear hb1 hnm
  have q1 := cell_of_block H1'.out
  have f1 := free_of_block H1'.out
  obtain ⟨t0', t1', t2', t3', t4', -⟩ := id H2'.out
  simp only [List.length_cons] at q1
  clear hc hf q f t0 t1 t2 t3 t4
  go_wp2_with fail
  all_goals
    go_ret
    exact ⟨rfl, PS.write 0 _ H1'.out rfl (by first | exact tail_a (t := t) hc1 (by assumption) | exact tail_b hc1 hc2 H2'.out) H3'.out H4.out h5, HT1.out.set _ _⟩
set_option maxHeartbeats 2000000 in
set_option maxRecDepth 100000 in
theorem field_no (w : World) (b g E deep : Nat) (toks : List Tok) (tree : List Node) (row : Option Nat) (h : PS w b g E deep toks tree row) (hsp : Spaces w) (h11 : 11 ≤ b) (hn : isFieldW isName toks = false) :
    Calls Tryd.prog 33 #[.pointer (some ⟨b, 0, none⟩)] w fun e w' => e = .panicked (stopChain (pos E toks) 4) ∧ Below w.heap.size w w' := by
  have hlt := h.lt
  have hfl := fun W (hb : Below w.heap.size w W) => fail_any W b g E deep toks tree row (h.same hb) 4
  have HFL := Lib.hid hfl; clear hfl
  cases toks with
  | nil =>
    have hf0 := HFL.out w (Below.refl _ _)
    obtain ⟨lv, tv, h1, h2, h3, h4, h5⟩ := h
    have q := cell_of_block h1
    rcases h2 with ⟨-, a, c, rfl⟩ | ⟨h, _⟩
    · clear h1 h3 h4 hsp
      go_enter Tryd.func33, Tryd.ntmps33
      go_wp2_with fail
      refine hf0.mono ?_; rintro e w' ⟨rfl, rfl⟩
      go_wp2_with fail
      exact ⟨rfl, rfl, Below.refl _ _⟩
    · exact absurd rfl h
  | cons t r =>
    by_cases hk : t.kind = 1
    · have hnn : isName t.text = false := by simpa [isFieldW, hk] using hn
      have hnm := name_any t.text w (by omega) hsp
      rw [hnn] at hnm
      have hkb : (((t.kind : Nat) : Int) != 1) = false := by rw [hk]; rfl
      obtain ⟨lv, tv, h1, h2, h3, h4, h5⟩ := h
      have q := cell_of_block h1
      have f := free_of_block h1
      rcases h2 with ⟨h, _⟩ | ⟨-, off, cap, rfl, hc1, hc2, h2⟩
      · cases h
      obtain ⟨t0, t1, t2, t3, t4, -⟩ := id h2
      have H1 := Lib.hid h1; clear h1
      have H2 := Lib.hid h2; clear h2
      have H3 := Lib.hid h3; clear h3
      have H4 := Lib.hid h4; clear h4
      simp only [List.length_cons] at hc1
      simp only [List.length_cons] at q
      have hp0 : (0 : Int) < (r.length : Int) + 1 := by omega
      have hp1 : ((r.length : Int) + 1 == 0) = false := by rw [beq_eq_false_iff_ne]; omega
      clear hn hk hsp hnn
      go_enter Tryd.func33, Tryd.ntmps33
      go_wp2_with fail
      refine hnm.mono ?_
      rintro e w1 ⟨rfl, hb1⟩
      have hf0 := HFL.out w1 hb1
      have HB := Lib.hid hb1; clear hb1
      go_wp2_with fail
      refine hf0.mono ?_; rintro e w' ⟨rfl, rfl⟩
      go_wp2_with fail
      exact ⟨rfl, rfl, HB.out⟩
    · have hkb : (((t.kind : Nat) : Int) != 1) = true := by rw [bne_iff_ne]; omega
      have hf0 := HFL.out w (Below.refl _ _)
      obtain ⟨lv, tv, h1, h2, h3, h4, h5⟩ := h
      have q := cell_of_block h1
      have f := free_of_block h1
      rcases h2 with ⟨h, _⟩ | ⟨-, off, cap, rfl, hc1, hc2, h2⟩
      · cases h
      obtain ⟨t0, t1, t2, t3, t4, -⟩ := id h2
      have H1 := Lib.hid h1; clear h1
      have H2 := Lib.hid h2; clear h2
      have H3 := Lib.hid h3; clear h3
      have H4 := Lib.hid h4; clear h4
      simp only [List.length_cons] at hc1
      simp only [List.length_cons] at q
      have hp0 : (0 : Int) < (r.length : Int) + 1 := by omega
      have hp1 : ((r.length : Int) + 1 == 0) = false := by rw [beq_eq_false_iff_ne]; omega
      clear hn hk hsp
      go_enter Tryd.func33, Tryd.ntmps33
      go_wp2_with fail
      refine hf0.mono ?_; rintro e w' ⟨rfl, rfl⟩
      go_wp2_with fail
      exact ⟨rfl, rfl, Below.refl _ _⟩
set_option maxHeartbeats 2000000 in
set_option maxRecDepth 100000 in
theorem whole_yes (w : World) (b g E deep : Nat) (t : Tok) (r : List Tok) (tree : List Node) (row : Option Nat) (h : PS w b g E deep (t :: r) tree row) (most : Int) (hk : t.kind = 2) (hs : t.s = 0) (hm : t.c ≤ most) :
    Calls Tryd.prog 45 #[.pointer (some ⟨b, 0, none⟩), .int .i64 most] w fun e w' => e = .returned (.int .i64 t.c) ∧ PS w' b g E deep r tree row ∧ Turn b none w w' := by
  have hkb : (((t.kind : Nat) : Int) != 2) = false := by rw [hk]; rfl
  have hsb : (t.s != 0) = false := by rw [hs]; rfl
  obtain ⟨lv, tv, h1, h2, h3, h4, h5⟩ := h
  have q := cell_of_block h1
  have f := free_of_block h1
  rcases h2 with ⟨h, _⟩ | ⟨-, off, cap, rfl, hc1, hc2, h2⟩
  · cases h
  obtain ⟨t0, t1, t2, t3, t4, -⟩ := id h2
  have H1 := Lib.hid h1; clear h1
  have H2 := Lib.hid h2; clear h2
  have H3 := Lib.hid h3; clear h3
  have H4 := Lib.hid h4; clear h4
  simp only [List.length_cons] at hc1
  simp only [List.length_cons] at q
  have hp0 : (0 : Int) < (r.length : Int) + 1 := by omega
  have hp1 : ((r.length : Int) + 1 == 0) = false := by rw [beq_eq_false_iff_ne]; omega
  clear hk hs
  go_enter Tryd.func45, Tryd.ntmps45
  go_wp2_with fail
  all_goals
    go_ret
    exact ⟨rfl, PS.write 0 _ H1.out rfl (by first | exact tail_a (t := t) hc1 (by assumption) | exact tail_b hc1 hc2 H2.out) H3.out H4.out h5, (Turn.refl _ _ _).set _ _⟩
set_option maxHeartbeats 2000000 in
set_option maxRecDepth 100000 in
theorem whole_no (w : World) (b g E deep : Nat) (toks : List Tok) (tree : List Node) (row : Option Nat) (h : PS w b g E deep toks tree row) (most : Int) (hn : isWhole most toks = false) :
    Calls Tryd.prog 45 #[.pointer (some ⟨b, 0, none⟩), .int .i64 most] w fun e w' => e = .panicked (stopChain (pos E toks) 4) ∧ w = w' := by
  have hf0 := fail_any w b g E deep toks tree row h 4
  cases toks with
  | nil =>
    obtain ⟨lv, tv, h1, h2, h3, h4, h5⟩ := h
    have q := cell_of_block h1
    rcases h2 with ⟨-, a, c, rfl⟩ | ⟨h, _⟩
    · clear h1 h3 h4
      go_enter Tryd.func45, Tryd.ntmps45
      go_wp2_with fail
      refine hf0.mono ?_; rintro e w' ⟨rfl, rfl⟩
      go_wp2_with fail
      exact ⟨rfl, rfl, rfl⟩
    · exact absurd rfl h
  | cons t r =>
    by_cases hk : t.kind = 2
    · have hkb : (((t.kind : Nat) : Int) != 2) = false := by rw [hk]; rfl
      by_cases hs : t.s = 0
      · have hsb : (t.s != 0) = false := by rw [hs]; rfl
        have hm : most < t.c := by simp [isWhole, hk, hs] at hn; omega
        obtain ⟨lv, tv, h1, h2, h3, h4, h5⟩ := h
        have q := cell_of_block h1
        have f := free_of_block h1
        rcases h2 with ⟨h, _⟩ | ⟨-, off, cap, rfl, hc1, hc2, h2⟩
        · cases h
        obtain ⟨t0, t1, t2, t3, t4, -⟩ := id h2
        have H1 := Lib.hid h1; clear h1
        have H2 := Lib.hid h2; clear h2
        have H3 := Lib.hid h3; clear h3
        have H4 := Lib.hid h4; clear h4
        simp only [List.length_cons] at hc1
        simp only [List.length_cons] at q
        have hp0 : (0 : Int) < (r.length : Int) + 1 := by omega
        have hp1 : ((r.length : Int) + 1 == 0) = false := by rw [beq_eq_false_iff_ne]; omega
        clear hn hk hs
        go_enter Tryd.func45, Tryd.ntmps45
        go_wp2_with fail
        refine hf0.mono ?_; rintro e w' ⟨rfl, rfl⟩
        go_wp2_with fail
        exact ⟨rfl, rfl, rfl⟩
      · have hsb : (t.s != 0) = true := by rw [bne_iff_ne]; exact hs
        obtain ⟨lv, tv, h1, h2, h3, h4, h5⟩ := h
        have q := cell_of_block h1
        have f := free_of_block h1
        rcases h2 with ⟨h, _⟩ | ⟨-, off, cap, rfl, hc1, hc2, h2⟩
        · cases h
        obtain ⟨t0, t1, t2, t3, t4, -⟩ := id h2
        have H1 := Lib.hid h1; clear h1
        have H2 := Lib.hid h2; clear h2
        have H3 := Lib.hid h3; clear h3
        have H4 := Lib.hid h4; clear h4
        simp only [List.length_cons] at hc1
        simp only [List.length_cons] at q
        have hp0 : (0 : Int) < (r.length : Int) + 1 := by omega
        have hp1 : ((r.length : Int) + 1 == 0) = false := by rw [beq_eq_false_iff_ne]; omega
        clear hn hk hs
        go_enter Tryd.func45, Tryd.ntmps45
        go_wp2_with fail
        refine hf0.mono ?_; rintro e w' ⟨rfl, rfl⟩
        go_wp2_with fail
        exact ⟨rfl, rfl, rfl⟩
    · have hkb : (((t.kind : Nat) : Int) != 2) = true := by rw [bne_iff_ne]; omega
      obtain ⟨lv, tv, h1, h2, h3, h4, h5⟩ := h
      have q := cell_of_block h1
      have f := free_of_block h1
      rcases h2 with ⟨h, _⟩ | ⟨-, off, cap, rfl, hc1, hc2, h2⟩
      · cases h
      obtain ⟨t0, t1, t2, t3, t4, -⟩ := id h2
      have H1 := Lib.hid h1; clear h1
      have H2 := Lib.hid h2; clear h2
      have H3 := Lib.hid h3; clear h3
      have H4 := Lib.hid h4; clear h4
      simp only [List.length_cons] at hc1
      simp only [List.length_cons] at q
      have hp0 : (0 : Int) < (r.length : Int) + 1 := by omega
      have hp1 : ((r.length : Int) + 1 == 0) = false := by rw [beq_eq_false_iff_ne]; omega
      clear hn hk
      go_enter Tryd.func45, Tryd.ntmps45
      go_wp2_with fail
      refine hf0.mono ?_; rintro e w' ⟨rfl, rfl⟩
      go_wp2_with fail
      exact ⟨rfl, rfl, rfl⟩
end Go.Proofs.YtfkieomelkopeaaDoor
