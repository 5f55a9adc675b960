import Derived.Test.YtfkieomelkopeaaDoorWDec
namespace Go.Proofs.YtfkieomelkopeaaDoor
open Go.RowKit
theorem trim_bs (l : List UInt8) (h : Lib.hasPrefix l [45] = false) (w : World) : Calls Tryd.prog 40 #[.string (bs l), .string (bs [45])] w fun e w' => e = .returned (.string (bs l)) ∧ w = w' :=
  (Tryd.strings_TrimPrefix (bs l) (bs [45]) w).mono fun e w' ⟨h1, h2⟩ => ⟨by rw [h1]; simp [Lib.trimPrefix, h, bs], h2.symm⟩
theorem cut_bs (l a b : List UInt8) (c : Bool) (h : Lib.cut l [46] = (a, b, c)) (hl : l.length < 4294967281) (w : World) (hg : Glob w) :
    Calls Tryd.prog 39 #[.string (bs l), .string (bs [46])] w fun e w' => e = .returned (.tuple #[.string (bs a), .string (bs b), .bool c]) ∧ Below w.heap.size w w' :=
  (Tryd.strings_Cut_shaped (bs l) (bs [46]) w hg.shaped (by simpa using hl)).mono fun e w' ⟨h1, h2⟩ => ⟨by rw [h1]; simp [h, bs], by obtain ⟨n, rfl⟩ := h2; exact below_drewN' (Below.refl _ _) n⟩
theorem head_digit {l : List UInt8} (h : digitsB l = true) (r : List UInt8) : Lib.hasPrefix (l ++ r) [45] = false := by
  obtain ⟨hne, hd⟩ := digitsB_iff.1 h
  cases l with
  | nil => exact absurd rfl hne
  | cons c l =>
    have := dig_of (hd c (by simp))
    have hc : ¬ c = 45 := fun e => by subst e; simp at this
    simp [Lib.hasPrefix, List.isPrefixOf]
    exact fun e => hc e.symm
theorem digits_no_point {l : List UInt8} (h : digitsB l = true) : ∀ x ∈ l, x ≠ 46 := by
  intro x hx e
  subst e
  have := dig_of ((digitsB_iff.1 h).2 _ hx)
  simp at this
theorem parseInt_ok (l : List UInt8) (v : Int) (hl : l.length ≤ 400) (h : Lib.parseIntB 64 l = .ok v) (w : World) :
    Calls Tryd.prog 42 #[.string (bs l), .int .i64 10, .int .i64 64] w fun e w' => e = .returned (.tuple #[.int .i64 v, .nilIface]) ∧ Below w.heap.size w w' :=
  (Tryd.strconv_ParseInt_10_at64_ok (bs l) (by simp; omega) v (by simpa using h) w).mono fun e w' ⟨h1, h2⟩ => ⟨h1, by
    rcases h2 with rfl | ⟨t, rfl⟩
    · exact Below.refl _ _
    · exact Lib.bytesWorld_below _ _ _⟩
theorem parseInt_range (l : List UInt8) (hl : l.length ≤ 400) (h : Lib.parseIntB 64 l = .range) (w : World) (hg : Glob w) :
    Calls Tryd.prog 42 #[.string (bs l), .int .i64 10, .int .i64 64] w fun e w' => ∃ v N, e = .returned (.tuple #[.int .i64 v, .iface 93 (.pointer (some ⟨N, 0, none⟩))]) ∧ Below w.heap.size w w' := by
  obtain ⟨tp, p, hr⟩ := hg.range
  exact (Tryd.strconv_ParseInt_10_at64_range_var (bs l) (by simp; omega) (by simpa using h) tp p w hr).mono fun e w' ⟨N, h1, h2, h3, h4⟩ => ⟨_, N, h1, h4⟩
theorem lastD_get {l : List UInt8} (h : 0 < l.length) : l.getLastD 0 = l[l.length - 1] := by
  rw [List.getLastD_eq_getLast?, List.getLast?_eq_getElem?, List.getElem?_eq_getElem (by omega)]; rfl
theorem u8_beq (c : UInt8) (n : Nat) (d : UInt8) (h : d.toNat = n) : ((c.toNat : Int) == (n : Int)) = decide (c = d) := by
  rw [Bool.eq_iff_iff]
  simp only [beq_iff_eq, decide_eq_true_iff]
  constructor
  · intro e; apply UInt8.toNat_inj.1; omega
  · rintro rfl; omega
set_option maxHeartbeats 1000000 in
set_option maxRecDepth 100000 in
theorem decParse_long (l : List UInt8) (w : World) (hn : l.length ≤ 400) (c1 : 21 < l.length) :
    Calls Tryd.prog 26 #[.string (bs l)] w fun e w' => e = .returned (.tuple #[.agg #[.int .i64 0, .int .i64 0], .int .i64 3]) ∧ Below w.heap.size w w' := by
  go_enter Tryd.func26, Tryd.ntmps26
  go_wp2_with fail
  exact bodyPost_ret (v := .tuple #[.agg #[.int .i64 0, .int .i64 0], .int .i64 3]) (by simp [results, Tryd.results26, go_sem]) rfl ⟨rfl, (Below.refl _ _).alloc (Nat.le_refl _) _⟩
set_option maxHeartbeats 1000000 in
set_option maxRecDepth 100000 in
theorem decParse_zero (c d : UInt8) (ws l b : List UInt8) (p : Bool) (w : World) (hg : Glob w) (hw : digitsB (c :: d :: ws) = true)
    (k1 : ∀ w, Calls Tryd.prog 40 #[.string (bs (c :: l)), .string (bs [45])] w fun e w' => e = .returned (.string (bs (c :: l))) ∧ w = w')
    (k2 : ∀ w, Glob w → Calls Tryd.prog 39 #[.string (bs (c :: l)), .string (bs [46])] w fun e w' => e = .returned (.tuple #[.string (bs (c :: d :: ws)), .string (bs b), .bool p]) ∧ Below w.heap.size w w')
    (c1 : l.length ≤ 20) (hl : ws.length + 1 ≤ l.length) (c2 : ((c.toNat : Int) == 48) = true) :
    Calls Tryd.prog 26 #[.string (bs (c :: l))] w fun e w' => e = .returned (.tuple #[.agg #[.int .i64 0, .int .i64 0], .int .i64 4]) ∧ Below w.heap.size w w' := by
  have k3 := digits_any (c :: d :: ws)
  rw [hw] at k3
  have hg0 : ∀ o, Glob (w.alloc o) := fun o => hg.below ((Below.refl _ _).alloc (Nat.le_refl _) _)
  have HG := Lib.hid hg0
  clear hg0 hw
  have hl2 : (1 : Int) < (ws.length : Int) + 1 + 1 := by omega
  clear hg
  go_enter Tryd.func26, Tryd.ntmps26
  go_wp2_with fail; refine (k1 _).mono ?_; rintro e w' ⟨rfl, rfl⟩; go_wp2_with fail; refine (k2 _ (HG.out _)).mono ?_; rintro e w1 ⟨rfl, hb1⟩; obtain ⟨hc1, hf1⟩ := below_cells hb1; have hz : w.heap.size < w1.heap.size := by have := hb1.size; simp at this; omega
  have HB := Lib.hid hb1; clear hb1
  go_wp2_with fail
  refine (k3 _ (by simp only [List.length_cons, List.length_nil]; omega)).mono ?_; rintro e w' ⟨rfl, rfl⟩
  go_wp2_with fail
  exact bodyPost_ret (v := .tuple #[.agg #[.int .i64 0, .int .i64 0], .int .i64 4]) (by simp [results, Tryd.results26, go_sem, hc1, hz]) rfl ⟨rfl, (by (repeat' (refine below_set ?_ _ _ (Nat.le_refl _) _)); exact below_alloc HB.out)⟩
set_option maxHeartbeats 1000000 in
set_option maxRecDepth 100000 in
theorem decParse_many (c : UInt8) (ws l b : List UInt8) (w : World) (hg : Glob w) (hw : digitsB (c :: ws) = true)
    (k1 : ∀ w, Calls Tryd.prog 40 #[.string (bs (c :: l)), .string (bs [45])] w fun e w' => e = .returned (.string (bs (c :: l))) ∧ w = w')
    (k2 : ∀ w, Glob w → Calls Tryd.prog 39 #[.string (bs (c :: l)), .string (bs [46])] w fun e w' => e = .returned (.tuple #[.string (bs (c :: ws)), .string (bs b), .bool true]) ∧ Below w.heap.size w w')
    (c1 : l.length ≤ 20) (hl : ws.length ≤ l.length) (c2 : ws = [] ∨ ((c.toNat : Int) == 48) = false) (hr : digitsB b = true) (hb : b.length ≤ l.length) (c3 : 9 < b.length) :
    Calls Tryd.prog 26 #[.string (bs (c :: l))] w fun e w' => e = .returned (.tuple #[.agg #[.int .i64 0, .int .i64 0], .int .i64 4]) ∧ Below w.heap.size w w' := by
  have k3 := digits_any (c :: ws)
  rw [hw] at k3
  have hg0 : ∀ o, Glob (w.alloc o) := fun o => hg.below ((Below.refl _ _).alloc (Nat.le_refl _) _)
  have HG := Lib.hid hg0
  clear hg0 hw
  have k4 := digits_any b
  rw [hr] at k4
  have c4 : (9 : Int) < (b.length : Int) := by omega
  clear hr c3 hg
  rcases ws with _ | ⟨d, ws⟩
  · clear c2
    go_enter Tryd.func26, Tryd.ntmps26
    go_wp2_with fail; refine (k1 _).mono ?_; rintro e w' ⟨rfl, rfl⟩; go_wp2_with fail; refine (k2 _ (HG.out _)).mono ?_; rintro e w1 ⟨rfl, hb1⟩; obtain ⟨hc1, hf1⟩ := below_cells hb1; have hz : w.heap.size < w1.heap.size := by have := hb1.size; simp at this; omega
    have HB := Lib.hid hb1; clear hb1
    go_wp2_with fail
    refine (k3 _ (by simp only [List.length_cons, List.length_nil]; omega)).mono ?_; rintro e w' ⟨rfl, rfl⟩
    go_wp2_with fail
    refine (k4 _ (by omega)).mono ?_; rintro e w' ⟨rfl, rfl⟩
    go_wp2_with fail
    exact bodyPost_ret (v := .tuple #[.agg #[.int .i64 0, .int .i64 0], .int .i64 4]) (by simp [results, Tryd.results26, go_sem, hc1, hz]) rfl ⟨rfl, (by (repeat' (refine below_set ?_ _ _ (Nat.le_refl _) _)); exact below_alloc HB.out)⟩
  · have c3 : ((c.toNat : Int) == 48) = false := by simpa using c2
    have hl2 : (1 : Int) < (ws.length : Int) + 1 + 1 := by omega
    simp only [List.length_cons] at hl
    clear c2
    go_enter Tryd.func26, Tryd.ntmps26
    go_wp2_with fail; refine (k1 _).mono ?_; rintro e w' ⟨rfl, rfl⟩; go_wp2_with fail; refine (k2 _ (HG.out _)).mono ?_; rintro e w1 ⟨rfl, hb1⟩; obtain ⟨hc1, hf1⟩ := below_cells hb1; have hz : w.heap.size < w1.heap.size := by have := hb1.size; simp at this; omega
    have HB := Lib.hid hb1; clear hb1
    go_wp2_with fail
    refine (k3 _ (by simp only [List.length_cons, List.length_nil]; omega)).mono ?_; rintro e w' ⟨rfl, rfl⟩
    go_wp2_with fail
    refine (k4 _ (by omega)).mono ?_; rintro e w' ⟨rfl, rfl⟩
    go_wp2_with fail
    exact bodyPost_ret (v := .tuple #[.agg #[.int .i64 0, .int .i64 0], .int .i64 4]) (by simp [results, Tryd.results26, go_sem, hc1, hz]) rfl ⟨rfl, (by (repeat' (refine below_set ?_ _ _ (Nat.le_refl _) _)); exact below_alloc HB.out)⟩
set_option maxHeartbeats 1000000 in
set_option maxRecDepth 100000 in
theorem decParse_last (c : UInt8) (ws l b : List UInt8) (w : World) (hg : Glob w) (hw : digitsB (c :: ws) = true)
    (k1 : ∀ w, Calls Tryd.prog 40 #[.string (bs (c :: l)), .string (bs [45])] w fun e w' => e = .returned (.string (bs (c :: l))) ∧ w = w')
    (k2 : ∀ w, Glob w → Calls Tryd.prog 39 #[.string (bs (c :: l)), .string (bs [46])] w fun e w' => e = .returned (.tuple #[.string (bs (c :: ws)), .string (bs b), .bool true]) ∧ Below w.heap.size w w')
    (c1 : l.length ≤ 20) (hl : ws.length ≤ l.length) (c2 : ws = [] ∨ ((c.toNat : Int) == 48) = false) (hr : digitsB b = true) (hb : b.length ≤ l.length) (c3 : b.length ≤ 9) (h0 : 0 < b.length) (c4 : ((b[b.length - 1].toNat : Int) == 48) = true) :
    Calls Tryd.prog 26 #[.string (bs (c :: l))] w fun e w' => e = .returned (.tuple #[.agg #[.int .i64 0, .int .i64 0], .int .i64 4]) ∧ Below w.heap.size w w' := by
  have k3 := digits_any (c :: ws)
  rw [hw] at k3
  have hg0 : ∀ o, Glob (w.alloc o) := fun o => hg.below ((Below.refl _ _).alloc (Nat.le_refl _) _)
  have HG := Lib.hid hg0
  clear hg0 hw
  have k4 := digits_any b
  rw [hr] at k4
  have b1 : (b.length : Int) ≤ 9 := by omega
  have b2 : (1 : Int) ≤ (b.length : Int) := by omega
  have b3 : (b.length : Int) - 1 < (b.length : Int) := by omega
  have b4 : (0 : Int) ≤ (b.length : Int) - 1 := by omega
  clear hr hg
  rcases ws with _ | ⟨d, ws⟩
  · clear c2
    go_enter Tryd.func26, Tryd.ntmps26
    go_wp2_with fail; refine (k1 _).mono ?_; rintro e w' ⟨rfl, rfl⟩; go_wp2_with fail; refine (k2 _ (HG.out _)).mono ?_; rintro e w1 ⟨rfl, hb1⟩; obtain ⟨hc1, hf1⟩ := below_cells hb1; have hz : w.heap.size < w1.heap.size := by have := hb1.size; simp at this; omega
    have HB := Lib.hid hb1; clear hb1
    go_wp2_with fail
    refine (k3 _ (by simp only [List.length_cons, List.length_nil]; omega)).mono ?_; rintro e w' ⟨rfl, rfl⟩
    go_wp2_with fail
    refine (k4 _ (by omega)).mono ?_; rintro e w' ⟨rfl, rfl⟩
    go_wp2_with fail
    exact bodyPost_ret (v := .tuple #[.agg #[.int .i64 0, .int .i64 0], .int .i64 4]) (by simp [results, Tryd.results26, go_sem, hc1, hz]) rfl ⟨rfl, (by (repeat' (refine below_set ?_ _ _ (Nat.le_refl _) _)); exact below_alloc HB.out)⟩
  · have c3 : ((c.toNat : Int) == 48) = false := by simpa using c2
    have hl2 : (1 : Int) < (ws.length : Int) + 1 + 1 := by omega
    simp only [List.length_cons] at hl
    clear c2
    go_enter Tryd.func26, Tryd.ntmps26
    go_wp2_with fail; refine (k1 _).mono ?_; rintro e w' ⟨rfl, rfl⟩; go_wp2_with fail; refine (k2 _ (HG.out _)).mono ?_; rintro e w1 ⟨rfl, hb1⟩; obtain ⟨hc1, hf1⟩ := below_cells hb1; have hz : w.heap.size < w1.heap.size := by have := hb1.size; simp at this; omega
    have HB := Lib.hid hb1; clear hb1
    go_wp2_with fail
    refine (k3 _ (by simp only [List.length_cons, List.length_nil]; omega)).mono ?_; rintro e w' ⟨rfl, rfl⟩
    go_wp2_with fail
    refine (k4 _ (by omega)).mono ?_; rintro e w' ⟨rfl, rfl⟩
    go_wp2_with fail
    exact bodyPost_ret (v := .tuple #[.agg #[.int .i64 0, .int .i64 0], .int .i64 4]) (by simp [results, Tryd.results26, go_sem, hc1, hz]) rfl ⟨rfl, (by (repeat' (refine below_set ?_ _ _ (Nat.le_refl _) _)); exact below_alloc HB.out)⟩
set_option maxHeartbeats 1000000 in
set_option maxRecDepth 100000 in
theorem decParse_okT (c : UInt8) (ws l b : List UInt8) (w : World) (hg : Glob w) (hw : digitsB (c :: ws) = true)
    (k1 : ∀ w, Calls Tryd.prog 40 #[.string (bs (c :: l)), .string (bs [45])] w fun e w' => e = .returned (.string (bs (c :: l))) ∧ w = w')
    (k2 : ∀ w, Glob w → Calls Tryd.prog 39 #[.string (bs (c :: l)), .string (bs [46])] w fun e w' => e = .returned (.tuple #[.string (bs (c :: ws)), .string (bs b), .bool true]) ∧ Below w.heap.size w w')
    (c1 : l.length ≤ 20) (hl : ws.length ≤ l.length) (c2 : ws = [] ∨ ((c.toNat : Int) == 48) = false) (hr : digitsB b = true) (hb : b.length ≤ l.length) (c3 : b.length ≤ 9) (h0 : 0 < b.length) (c4 : ((b[b.length - 1].toNat : Int) == 48) = false) (f1 : (c == 45) = false) (f2 : ((c.toNat : Int) == 45) = false) (v : Int) (k5 : ∀ w, Calls Tryd.prog 42 #[.string (bs (c :: (ws ++ b))), .int .i64 10, .int .i64 64] w fun e w' => e = .returned (.tuple #[.int .i64 v, .nilIface]) ∧ Below w.heap.size w w') :
    Calls Tryd.prog 26 #[.string (bs (c :: l))] w fun e w' => e = .returned (.tuple #[.agg #[.int .i64 v, .int .i64 ((b.length : Nat) : Int)], .int .i64 0]) ∧ Below w.heap.size w w' := by
  have k3 := digits_any (c :: ws)
  rw [hw] at k3
  have hg0 : ∀ o, Glob (w.alloc o) := fun o => hg.below ((Below.refl _ _).alloc (Nat.le_refl _) _)
  have HG := Lib.hid hg0
  clear hg0 hw
  have k4 := digits_any b
  rw [hr] at k4
  have b1 : (b.length : Int) ≤ 9 := by omega
  have b2 : (1 : Int) ≤ (b.length : Int) := by omega
  have b3 : (b.length : Int) - 1 < (b.length : Int) := by omega
  have b4 : (0 : Int) ≤ (b.length : Int) - 1 := by omega
  clear hr hg
  rcases ws with _ | ⟨d, ws⟩
  · clear c2
    go_enter Tryd.func26, Tryd.ntmps26
    go_wp2_with fail; refine (k1 _).mono ?_; rintro e w' ⟨rfl, rfl⟩; go_wp2_with fail; refine (k2 _ (HG.out _)).mono ?_; rintro e w1 ⟨rfl, hb1⟩; obtain ⟨hc1, hf1⟩ := below_cells hb1; have hz : w.heap.size < w1.heap.size := by have := hb1.size; simp at this; omega
    have HB := Lib.hid hb1; clear hb1
    go_wp2_with fail
    refine (k3 _ (by simp only [List.length_cons, List.length_nil]; omega)).mono ?_; rintro e w' ⟨rfl, rfl⟩
    go_wp2_with fail
    refine (k4 _ (by omega)).mono ?_; rintro e w' ⟨rfl, rfl⟩
    go_wp2_with fail
    refine (k5 _).mono ?_; rintro e w2 ⟨rfl, hb2⟩
    obtain ⟨hc2, hf2⟩ := below_cells hb2
    have hz2 : w.heap.size < w2.heap.size := by have := hb2.size; omega
    have HB2 := Lib.hid (below_then HB.out hb2); clear hb2 HB
    have HB := HB2; clear HB2
    go_wp2_with fail
    exact bodyPost_ret (v := .tuple #[.agg #[.int .i64 v, .int .i64 ((b.length : Nat) : Int)], .int .i64 0]) (by simp [results, Tryd.results26, go_sem, hc1, hz, hc2, hz2]) rfl ⟨rfl, (by (repeat' (refine below_set ?_ _ _ (Nat.le_refl _) _)); exact below_alloc HB.out)⟩
  · have c3 : ((c.toNat : Int) == 48) = false := by simpa using c2
    have hl2 : (1 : Int) < (ws.length : Int) + 1 + 1 := by omega
    simp only [List.length_cons] at hl
    clear c2
    go_enter Tryd.func26, Tryd.ntmps26
    go_wp2_with fail; refine (k1 _).mono ?_; rintro e w' ⟨rfl, rfl⟩; go_wp2_with fail; refine (k2 _ (HG.out _)).mono ?_; rintro e w1 ⟨rfl, hb1⟩; obtain ⟨hc1, hf1⟩ := below_cells hb1; have hz : w.heap.size < w1.heap.size := by have := hb1.size; simp at this; omega
    have HB := Lib.hid hb1; clear hb1
    go_wp2_with fail
    refine (k3 _ (by simp only [List.length_cons, List.length_nil]; omega)).mono ?_; rintro e w' ⟨rfl, rfl⟩
    go_wp2_with fail
    refine (k4 _ (by omega)).mono ?_; rintro e w' ⟨rfl, rfl⟩
    go_wp2_with fail
    refine (k5 _).mono ?_; rintro e w2 ⟨rfl, hb2⟩
    obtain ⟨hc2, hf2⟩ := below_cells hb2
    have hz2 : w.heap.size < w2.heap.size := by have := hb2.size; omega
    have HB2 := Lib.hid (below_then HB.out hb2); clear hb2 HB
    have HB := HB2; clear HB2
    go_wp2_with fail
    exact bodyPost_ret (v := .tuple #[.agg #[.int .i64 v, .int .i64 ((b.length : Nat) : Int)], .int .i64 0]) (by simp [results, Tryd.results26, go_sem, hc1, hz, hc2, hz2]) rfl ⟨rfl, (by (repeat' (refine below_set ?_ _ _ (Nat.le_refl _) _)); exact below_alloc HB.out)⟩
set_option maxHeartbeats 1000000 in
set_option maxRecDepth 100000 in
theorem decParse_rangeT (c : UInt8) (ws l b : List UInt8) (w : World) (hg : Glob w) (hw : digitsB (c :: ws) = true)
    (k1 : ∀ w, Calls Tryd.prog 40 #[.string (bs (c :: l)), .string (bs [45])] w fun e w' => e = .returned (.string (bs (c :: l))) ∧ w = w')
    (k2 : ∀ w, Glob w → Calls Tryd.prog 39 #[.string (bs (c :: l)), .string (bs [46])] w fun e w' => e = .returned (.tuple #[.string (bs (c :: ws)), .string (bs b), .bool true]) ∧ Below w.heap.size w w')
    (c1 : l.length ≤ 20) (hl : ws.length ≤ l.length) (c2 : ws = [] ∨ ((c.toNat : Int) == 48) = false) (hr : digitsB b = true) (hb : b.length ≤ l.length) (c3 : b.length ≤ 9) (h0 : 0 < b.length) (c4 : ((b[b.length - 1].toNat : Int) == 48) = false) (f1 : (c == 45) = false) (f2 : ((c.toNat : Int) == 45) = false) (k5 : ∀ w, Glob w → Calls Tryd.prog 42 #[.string (bs (c :: (ws ++ b))), .int .i64 10, .int .i64 64] w fun e w' => ∃ v N, e = .returned (.tuple #[.int .i64 v, .iface 93 (.pointer (some ⟨N, 0, none⟩))]) ∧ Below w.heap.size w w') :
    Calls Tryd.prog 26 #[.string (bs (c :: l))] w fun e w' => e = .returned (.tuple #[.agg #[.int .i64 0, .int .i64 0], .int .i64 11]) ∧ Below w.heap.size w w' := by
  have k3 := digits_any (c :: ws)
  rw [hw] at k3
  have hg0 : ∀ o, Glob (w.alloc o) := fun o => hg.below ((Below.refl _ _).alloc (Nat.le_refl _) _)
  have HG := Lib.hid hg0
  clear hg0 hw
  have k4 := digits_any b
  rw [hr] at k4
  have b1 : (b.length : Int) ≤ 9 := by omega
  have b2 : (1 : Int) ≤ (b.length : Int) := by omega
  have b3 : (b.length : Int) - 1 < (b.length : Int) := by omega
  have b4 : (0 : Int) ≤ (b.length : Int) - 1 := by omega
  clear hr hg
  rcases ws with _ | ⟨d, ws⟩
  · clear c2
    go_enter Tryd.func26, Tryd.ntmps26
    go_wp2_with fail; refine (k1 _).mono ?_; rintro e w' ⟨rfl, rfl⟩; go_wp2_with fail; refine (k2 _ (HG.out _)).mono ?_; rintro e w1 ⟨rfl, hb1⟩; obtain ⟨hc1, hf1⟩ := below_cells hb1; have hz : w.heap.size < w1.heap.size := by have := hb1.size; simp at this; omega
    have HB := Lib.hid hb1; clear hb1
    go_wp2_with fail
    refine (k3 _ (by simp only [List.length_cons, List.length_nil]; omega)).mono ?_; rintro e w' ⟨rfl, rfl⟩
    go_wp2_with fail
    refine (k4 _ (by omega)).mono ?_; rintro e w' ⟨rfl, rfl⟩
    go_wp2_with fail
    refine (k5 _ ((HG.out _).below HB.out)).mono ?_; rintro e w2 ⟨v, N, rfl, hb2⟩
    obtain ⟨hc2, hf2⟩ := below_cells hb2
    have hz2 : w.heap.size < w2.heap.size := by have := hb2.size; omega
    have HB2 := Lib.hid (below_then HB.out hb2); clear hb2 HB
    have HB := HB2; clear HB2
    go_wp2_with fail
    exact bodyPost_ret (v := .tuple #[.agg #[.int .i64 0, .int .i64 0], .int .i64 11]) (by simp [results, Tryd.results26, go_sem, hc1, hz, hc2, hz2]) rfl ⟨rfl, (by (repeat' (refine below_set ?_ _ _ (Nat.le_refl _) _)); exact below_alloc HB.out)⟩
  · have c3 : ((c.toNat : Int) == 48) = false := by simpa using c2
    have hl2 : (1 : Int) < (ws.length : Int) + 1 + 1 := by omega
    simp only [List.length_cons] at hl
    clear c2
    go_enter Tryd.func26, Tryd.ntmps26
    go_wp2_with fail; refine (k1 _).mono ?_; rintro e w' ⟨rfl, rfl⟩; go_wp2_with fail; refine (k2 _ (HG.out _)).mono ?_; rintro e w1 ⟨rfl, hb1⟩; obtain ⟨hc1, hf1⟩ := below_cells hb1; have hz : w.heap.size < w1.heap.size := by have := hb1.size; simp at this; omega
    have HB := Lib.hid hb1; clear hb1
    go_wp2_with fail
    refine (k3 _ (by simp only [List.length_cons, List.length_nil]; omega)).mono ?_; rintro e w' ⟨rfl, rfl⟩
    go_wp2_with fail
    refine (k4 _ (by omega)).mono ?_; rintro e w' ⟨rfl, rfl⟩
    go_wp2_with fail
    refine (k5 _ ((HG.out _).below HB.out)).mono ?_; rintro e w2 ⟨v, N, rfl, hb2⟩
    obtain ⟨hc2, hf2⟩ := below_cells hb2
    have hz2 : w.heap.size < w2.heap.size := by have := hb2.size; omega
    have HB2 := Lib.hid (below_then HB.out hb2); clear hb2 HB
    have HB := HB2; clear HB2
    go_wp2_with fail
    exact bodyPost_ret (v := .tuple #[.agg #[.int .i64 0, .int .i64 0], .int .i64 11]) (by simp [results, Tryd.results26, go_sem, hc1, hz, hc2, hz2]) rfl ⟨rfl, (by (repeat' (refine below_set ?_ _ _ (Nat.le_refl _) _)); exact below_alloc HB.out)⟩
set_option maxHeartbeats 1000000 in
set_option maxRecDepth 100000 in
theorem decParse_okF (c : UInt8) (ws l : List UInt8) (w : World) (hg : Glob w) (hw : digitsB (c :: ws) = true)
    (k1 : ∀ w, Calls Tryd.prog 40 #[.string (bs (c :: l)), .string (bs [45])] w fun e w' => e = .returned (.string (bs (c :: l))) ∧ w = w')
    (k2 : ∀ w, Glob w → Calls Tryd.prog 39 #[.string (bs (c :: l)), .string (bs [46])] w fun e w' => e = .returned (.tuple #[.string (bs (c :: ws)), .string (bs []), .bool false]) ∧ Below w.heap.size w w')
    (c1 : l.length ≤ 20) (hl : ws.length ≤ l.length) (c2 : ws = [] ∨ ((c.toNat : Int) == 48) = false) (f1 : (c == 45) = false) (f2 : ((c.toNat : Int) == 45) = false) (v : Int) (k5 : ∀ w, Calls Tryd.prog 42 #[.string (bs (c :: ws)), .int .i64 10, .int .i64 64] w fun e w' => e = .returned (.tuple #[.int .i64 v, .nilIface]) ∧ Below w.heap.size w w') :
    Calls Tryd.prog 26 #[.string (bs (c :: l))] w fun e w' => e = .returned (.tuple #[.agg #[.int .i64 v, .int .i64 0], .int .i64 0]) ∧ Below w.heap.size w w' := by
  have k3 := digits_any (c :: ws)
  rw [hw] at k3
  have hg0 : ∀ o, Glob (w.alloc o) := fun o => hg.below ((Below.refl _ _).alloc (Nat.le_refl _) _)
  have HG := Lib.hid hg0
  clear hg0 hw
  clear hg
  rcases ws with _ | ⟨d, ws⟩
  · clear c2
    go_enter Tryd.func26, Tryd.ntmps26
    go_wp2_with fail; refine (k1 _).mono ?_; rintro e w' ⟨rfl, rfl⟩; go_wp2_with fail; refine (k2 _ (HG.out _)).mono ?_; rintro e w1 ⟨rfl, hb1⟩; obtain ⟨hc1, hf1⟩ := below_cells hb1; have hz : w.heap.size < w1.heap.size := by have := hb1.size; simp at this; omega
    have HB := Lib.hid hb1; clear hb1
    go_wp2_with fail
    refine (k3 _ (by simp only [List.length_cons, List.length_nil]; omega)).mono ?_; rintro e w' ⟨rfl, rfl⟩
    go_wp2_with fail
    refine (k5 _).mono ?_; rintro e w2 ⟨rfl, hb2⟩
    obtain ⟨hc2, hf2⟩ := below_cells hb2
    have hz2 : w.heap.size < w2.heap.size := by have := hb2.size; omega
    have HB2 := Lib.hid (below_then HB.out hb2); clear hb2 HB
    have HB := HB2; clear HB2
    go_wp2_with fail
    exact bodyPost_ret (v := .tuple #[.agg #[.int .i64 v, .int .i64 0], .int .i64 0]) (by simp [results, Tryd.results26, go_sem, hc1, hz, hc2, hz2]) rfl ⟨rfl, (by (repeat' (refine below_set ?_ _ _ (Nat.le_refl _) _)); exact below_alloc HB.out)⟩
  · have c3 : ((c.toNat : Int) == 48) = false := by simpa using c2
    have hl2 : (1 : Int) < (ws.length : Int) + 1 + 1 := by omega
    simp only [List.length_cons] at hl
    clear c2
    go_enter Tryd.func26, Tryd.ntmps26
    go_wp2_with fail; refine (k1 _).mono ?_; rintro e w' ⟨rfl, rfl⟩; go_wp2_with fail; refine (k2 _ (HG.out _)).mono ?_; rintro e w1 ⟨rfl, hb1⟩; obtain ⟨hc1, hf1⟩ := below_cells hb1; have hz : w.heap.size < w1.heap.size := by have := hb1.size; simp at this; omega
    have HB := Lib.hid hb1; clear hb1
    go_wp2_with fail
    refine (k3 _ (by simp only [List.length_cons, List.length_nil]; omega)).mono ?_; rintro e w' ⟨rfl, rfl⟩
    go_wp2_with fail
    refine (k5 _).mono ?_; rintro e w2 ⟨rfl, hb2⟩
    obtain ⟨hc2, hf2⟩ := below_cells hb2
    have hz2 : w.heap.size < w2.heap.size := by have := hb2.size; omega
    have HB2 := Lib.hid (below_then HB.out hb2); clear hb2 HB
    have HB := HB2; clear HB2
    go_wp2_with fail
    exact bodyPost_ret (v := .tuple #[.agg #[.int .i64 v, .int .i64 0], .int .i64 0]) (by simp [results, Tryd.results26, go_sem, hc1, hz, hc2, hz2]) rfl ⟨rfl, (by (repeat' (refine below_set ?_ _ _ (Nat.le_refl _) _)); exact below_alloc HB.out)⟩
set_option maxHeartbeats 1000000 in
set_option maxRecDepth 100000 in
theorem decParse_rangeF (c : UInt8) (ws l : List UInt8) (w : World) (hg : Glob w) (hw : digitsB (c :: ws) = true)
    (k1 : ∀ w, Calls Tryd.prog 40 #[.string (bs (c :: l)), .string (bs [45])] w fun e w' => e = .returned (.string (bs (c :: l))) ∧ w = w')
    (k2 : ∀ w, Glob w → Calls Tryd.prog 39 #[.string (bs (c :: l)), .string (bs [46])] w fun e w' => e = .returned (.tuple #[.string (bs (c :: ws)), .string (bs []), .bool false]) ∧ Below w.heap.size w w')
    (c1 : l.length ≤ 20) (hl : ws.length ≤ l.length) (c2 : ws = [] ∨ ((c.toNat : Int) == 48) = false) (f1 : (c == 45) = false) (f2 : ((c.toNat : Int) == 45) = false) (k5 : ∀ w, Glob w → Calls Tryd.prog 42 #[.string (bs (c :: ws)), .int .i64 10, .int .i64 64] w fun e w' => ∃ v N, e = .returned (.tuple #[.int .i64 v, .iface 93 (.pointer (some ⟨N, 0, none⟩))]) ∧ Below w.heap.size w w') :
    Calls Tryd.prog 26 #[.string (bs (c :: l))] w fun e w' => e = .returned (.tuple #[.agg #[.int .i64 0, .int .i64 0], .int .i64 11]) ∧ Below w.heap.size w w' := by
  have k3 := digits_any (c :: ws)
  rw [hw] at k3
  have hg0 : ∀ o, Glob (w.alloc o) := fun o => hg.below ((Below.refl _ _).alloc (Nat.le_refl _) _)
  have HG := Lib.hid hg0
  clear hg0 hw
  clear hg
  rcases ws with _ | ⟨d, ws⟩
  · clear c2
    go_enter Tryd.func26, Tryd.ntmps26
    go_wp2_with fail; refine (k1 _).mono ?_; rintro e w' ⟨rfl, rfl⟩; go_wp2_with fail; refine (k2 _ (HG.out _)).mono ?_; rintro e w1 ⟨rfl, hb1⟩; obtain ⟨hc1, hf1⟩ := below_cells hb1; have hz : w.heap.size < w1.heap.size := by have := hb1.size; simp at this; omega
    have HB := Lib.hid hb1; clear hb1
    go_wp2_with fail
    refine (k3 _ (by simp only [List.length_cons, List.length_nil]; omega)).mono ?_; rintro e w' ⟨rfl, rfl⟩
    go_wp2_with fail
    refine (k5 _ ((HG.out _).below HB.out)).mono ?_; rintro e w2 ⟨v, N, rfl, hb2⟩
    obtain ⟨hc2, hf2⟩ := below_cells hb2
    have hz2 : w.heap.size < w2.heap.size := by have := hb2.size; omega
    have HB2 := Lib.hid (below_then HB.out hb2); clear hb2 HB
    have HB := HB2; clear HB2
    go_wp2_with fail
    exact bodyPost_ret (v := .tuple #[.agg #[.int .i64 0, .int .i64 0], .int .i64 11]) (by simp [results, Tryd.results26, go_sem, hc1, hz, hc2, hz2]) rfl ⟨rfl, (by (repeat' (refine below_set ?_ _ _ (Nat.le_refl _) _)); exact below_alloc HB.out)⟩
  · have c3 : ((c.toNat : Int) == 48) = false := by simpa using c2
    have hl2 : (1 : Int) < (ws.length : Int) + 1 + 1 := by omega
    simp only [List.length_cons] at hl
    clear c2
    go_enter Tryd.func26, Tryd.ntmps26
    go_wp2_with fail; refine (k1 _).mono ?_; rintro e w' ⟨rfl, rfl⟩; go_wp2_with fail; refine (k2 _ (HG.out _)).mono ?_; rintro e w1 ⟨rfl, hb1⟩; obtain ⟨hc1, hf1⟩ := below_cells hb1; have hz : w.heap.size < w1.heap.size := by have := hb1.size; simp at this; omega
    have HB := Lib.hid hb1; clear hb1
    go_wp2_with fail
    refine (k3 _ (by simp only [List.length_cons, List.length_nil]; omega)).mono ?_; rintro e w' ⟨rfl, rfl⟩
    go_wp2_with fail
    refine (k5 _ ((HG.out _).below HB.out)).mono ?_; rintro e w2 ⟨v, N, rfl, hb2⟩
    obtain ⟨hc2, hf2⟩ := below_cells hb2
    have hz2 : w.heap.size < w2.heap.size := by have := hb2.size; omega
    have HB2 := Lib.hid (below_then HB.out hb2); clear hb2 HB
    have HB := HB2; clear HB2
    go_wp2_with fail
    exact bodyPost_ret (v := .tuple #[.agg #[.int .i64 0, .int .i64 0], .int .i64 11]) (by simp [results, Tryd.results26, go_sem, hc1, hz, hc2, hz2]) rfl ⟨rfl, (by (repeat' (refine below_set ?_ _ _ (Nat.le_refl _) _)); exact below_alloc HB.out)⟩
end Go.Proofs.YtfkieomelkopeaaDoor
