/-
  The statement ParserBrackets walked where both texts have a tree.
-/
import Derived.Test.YtfkieomelkopeaaDoorWBrackW
import Derived.Deep.LoopGhost
namespace Go.Proofs.YtfkieomelkopeaaDoor
open Go.RowKit
/-- What the walk keeps of the counts' block. -/
def CntAt (w wr : World) (R n : Nat) (ks : List Nat) : Prop := wr.heap[R]? = some (.cells (cnt n ks) 3 (0, 0)) ∧ w.heap.size ≤ R ∧ Below w.heap.size w wr
theorem info_i64b : (Tryd.prog.info? 3).map (fun i => (i.zero, i.size, i.bytes)) = some (some (.int .i64 0), 1, 8) := by kernel_rfl
set_option maxHeartbeats 4000000 in
set_option maxRecDepth 100000 in
theorem brackets_good (s : List UInt8) (w : World) (hg : Glob w) (hs : s.length ≤ 300) (a b : List Node) (p q : Nat) (ha : parseS isName s = (a, p, 0)) (hb : parseS isName ([40] ++ s ++ [41]) = (b, q, 0)) (hsm : sameS true a b = true) : Calls Tryd.prog 3 #[.string (bs s)] w (TrueEnd w) := by
  have k1 := parse_at s a p 0 ha (by omega)
  have k2 := parse_at ([40] ++ s ++ [41]) b q 0 hb (by simp; omega)
  obtain ⟨hne, h100, hperm, hbeh, hleast⟩ := parseS_whole isName s a p ha
  have HP := Lib.hid hperm; clear hperm
  have HBE := Lib.hid hbeh; clear hbeh
  have HLE := Lib.hid hleast; clear hleast
  have HG := Lib.hid hg; clear hg
  have h1 : ¬ (300 : Int) < (s.length : Int) := by omega
  have hl0 : 0 < a.length := List.length_pos_iff.2 hne
  clear hs ha hb hne
  go_enter Tryd.func3, Tryd.ntmps3
  go_wp2_with fail
  refine (k1 _ HG.out).mono ?_
  rintro e w1 ⟨v, rfl, hr, hb1⟩
  have hna := nodesAt_row hr
  obtain ⟨xa, ca, rfl⟩ := row_slice hr
  have HB1 := Lib.hid hb1
  have HG1 := Lib.hid (HG.out.below hb1)
  have HNA := Lib.hid hna
  clear hr hb1 hna
  go_wp2_with fail
  refine (k2 _ HG1.out).mono ?_
  rintro e w2 ⟨v2, rfl, hr2, hb2⟩
  have hnb := nodesAt_row hr2
  obtain ⟨xb, cb, rfl⟩ := row_slice hr2
  have HB2 := Lib.hid (below_then HB1.out hb2)
  have HG2 := Lib.hid (HG1.out.below hb2)
  have HNA2 := Lib.hid (HNA.out.below hb2 (Nat.le_refl _))
  have hsame := same_any w2 _ _ a b true HNA2.out hnb (by omega)
  rw [hsm] at hsame
  clear hr2 hb2 hnb HNA
  have HSM := Lib.hid hsame; clear hsame
  go_wp2_with fail
  refine HSM.out.mono ?_
  rintro e w3 ⟨rfl, hb3⟩
  have HB3 := Lib.hid (below_then HB2.out hb3)
  have HG3 := Lib.hid (HG2.out.below hb3)
  have HNA3 := Lib.hid (HNA2.out.below hb3 (Nat.le_refl _))
  have hsz3 := HB3.out.size
  clear hb3 HNA2
  have hn0 : ((a.length : Int) == 0) = false := by rw [beq_eq_false_iff_ne]; omega
  have hn1 : ¬ (100 : Int) < (a.length : Int) := by omega
  have hmk := run_make_row' (P := Tryd.prog) 29 3 (.int .i64 0) 8 Tryd.underlying29 info_i64b rfl .i64 .i64 a.length (by omega) (by omega)
  go_wp2_with fail
  clear hmk h1
  obtain ⟨R, hR⟩ : ∃ R, w3.heap.size = R := ⟨_, rfl⟩
  have hc0 : CntAt w (w3.alloc (.cells (madeCells #[.int .i64 0] a.length) 3)) R a.length [] := by
    refine ⟨?_, by omega, HB3.out.alloc hsz3 _⟩
    rw [← hR, heap_alloc_new, cnt_made]
  have HNA4 := Lib.hid (HNA3.out.below ((Below.refl _ w3).alloc (Nat.le_refl _) (.cells (madeCells #[.int .i64 0] a.length) 3)) (Nat.le_refl _))
  have HG4 := Lib.hid (HG3.out.below ((Below.refl _ w3).alloc (Nat.le_refl _) (.cells (madeCells #[.int .i64 0] a.length) 3)))
  have HRs : Hid (R + 1 = (w3.alloc (.cells (madeCells #[.int .i64 0] a.length) 3)).heap.size) := by simp [Hid, hR]
  have HC0 := Lib.hid hc0; clear hc0
  generalize w3.alloc (.cells (madeCells #[.int .i64 0] a.length) 3) = w4 at *
  rw [hR]
  rcases HNA4.out with ⟨h, _⟩ | ⟨ga, cap, hcap, hga, hca1, hca2, hq⟩
  · subst h; simp at hl0
  cases hcap
  have hga4 : ga ≠ R := by
    rintro rfl
    have e1 := hq 0 hl0 0 (by decide)
    have e2 := cell_of_block HC0.out.1 0
    rw [show (0 : Nat) * 9 + 0 = 0 from rfl, e2, cnt_get hl0] at e1
    simp [nodeCells] at e1
  have HQ := Lib.hid hq; clear hq
  have hgaR : ga < R := by have := HRs.out; omega
  clear hR hga HNA3 HNA4 HG3 HB3 HB2 HB1 HG1 HG2 HSM hsz3 k1 k2
  go_loopg [67] a.length (fun g v wr => ∃ i : Nat, v = .int .i64 i ∧ i ≤ a.length ∧ Hid (g = a.length - i) ∧ Hid (CntAt w wr R a.length ((a.take i).flatMap kidsN)) ∧ Hid (R + 1 ≤ wr.heap.size ∧ Below R w4 wr))
  case atStart => exact ⟨0, rfl, Nat.zero_le _, by simp [Hid], HC0, by have := HRs.out; exact ⟨by omega, Below.refl _ _⟩⟩
  case round =>
    obtain ⟨i, rfl, hi, HGH, HC, HW⟩ := hrel
    obtain ⟨g0, hg0⟩ : ∃ g0 : Nat, gk = g0 := ⟨_, rfl⟩
    have HG0 := Lib.hid hg0; clear hg0
    by_cases hlt : i < a.length
    · have hlt' : (i : Int) < (a.length : Int) := by omega
      have HLT := Lib.hid hlt
      have pa : ∀ o, o < 9 → wr.cell? ⟨ga, i * 9 + o, none⟩ = (nodeCells a[i])[o]? := fun o ho => by
        rw [HW.out.2.cell (p := ⟨ga, i * 9 + o, none⟩) hgaR]; exact HQ.out i hlt o ho
      have hbe := HBE.out i hlt
      have hle := HLE.out a[i] (List.getElem_mem hlt)
      have htk : (a.take (i + 1)).flatMap kidsN = (a.take i).flatMap kidsN ++ kidsN a[i] := by
        rw [List.take_succ_eq_append_getElem hlt, List.flatMap_append]; simp; rfl
      have HTK := Lib.hid htk; clear htk
      have hfl : ((a.take i).flatMap kidsN).length ≤ 3 * i := by
        have := flat_len (a.take i); rw [List.length_take, Nat.min_eq_left hi] at this; exact this
      generalize (a.take i).flatMap kidsN = base at *
      generalize a[i] = nd at *
      have a0 := pa 0 (by decide)
      have a1 := pa 1 (by decide)
      have a2 := pa 2 (by decide)
      have a3 := pa 3 (by decide)
      have a4 := pa 4 (by decide)
      have a5 := pa 5 (by decide)
      have a6 := pa 6 (by decide)
      have a7 := pa 7 (by decide)
      have a8 := pa 8 (by decide)
      simp only [nodeCells, List.getElem?_cons_zero, List.getElem?_cons_succ, Nat.add_zero] at a0 a1 a2 a3 a4 a5 a6 a7 a8
      have HBN := Lib.hid hbe
      have HLN := Lib.hid hle
      have HFL := Lib.hid hfl
      clear pa hbe hle hfl
      go_wp2_with fail
      clear a0 a1 a2 a3 a4 a5 a6 a7 a8
      have HC1 : Hid (CntAt w (wr.alloc (.cells #[.int .u8 nd.op, .int .i64 nd.c, .int .i64 nd.s, .string (bs nd.name), .int .i64 nd.k, .int .i64 nd.k0, .int .i64 nd.k1, .int .i64 nd.k2, .int .i64 nd.place] 34)) R a.length base) :=
        ⟨by rw [Below.heap_alloc _ _ _ (lt_of_block HC.out.1)]; exact HC.out.1, HC.out.2.1, HC.out.2.2.alloc HC.out.2.2.size _⟩
      have HW1 : Hid (R + 1 ≤ (wr.alloc (.cells #[.int .u8 nd.op, .int .i64 nd.c, .int .i64 nd.s, .string (bs nd.name), .int .i64 nd.k, .int .i64 nd.k0, .int .i64 nd.k1, .int .i64 nd.k2, .int .i64 nd.place] 34)).heap.size ∧ Below R w4 (wr.alloc (.cells #[.int .u8 nd.op, .int .i64 nd.c, .int .i64 nd.s, .string (bs nd.name), .int .i64 nd.k, .int .i64 nd.k0, .int .i64 nd.k1, .int .i64 nd.k2, .int .i64 nd.place] 34))) :=
        ⟨by have := HW.out.1; simp; omega, HW.out.2.alloc (by have := HW.out.1; omega) _⟩
      generalize wr.alloc (.cells #[.int .u8 nd.op, .int .i64 nd.c, .int .i64 nd.s, .string (bs nd.name), .int .i64 nd.k, .int .i64 nd.k0, .int .i64 nd.k1, .int .i64 nd.k2, .int .i64 nd.place] 34) = wi at *
      go_loopg [74] 3 (fun g v wr => ∃ j : Nat, v = .int .i64 j ∧ j ≤ 3 ∧ Hid (g = 3 - j) ∧ Hid (CntAt w wr R a.length (base ++ kidsTo nd j)) ∧ Hid (R + 1 ≤ wr.heap.size ∧ Below R w4 wr))
      case atStart => exact ⟨0, rfl, by omega, rfl, by simpa [kidsTo] using HC1, HW1⟩
      case round =>
        clear HC1 HW1 HC HW
        obtain ⟨j, rfl, hj, HGJ, HC, HW⟩ := hrel
        by_cases hj3 : j < 3
        · have hj3' : (j : Int) < 3 := by omega
          have hix := idx_at nd j hj3
          have hks := kidsTo_succ nd j hj3
          have hkl := kidsTo_len nd j
          have hkm : ∀ k : Nat, kidAt nd j = k → k < i := fun k hk => HBN.out k (kidOf_mem hj3 hk)
          have hkn : -1 ≤ kidAt nd j := by have := HLN.out; unfold kidAt; split; omega; split; omega; omega
          have hjj : j + 1 ≤ 3 := hj3
          generalize kidAt nd j = kv at *
          generalize hnx : kidsTo nd (j + 1) = nxt at *
          have HNX := Lib.hid hnx; clear hnx
          generalize kidsTo nd j = cur at *
          by_cases hk0 : 0 ≤ kv
          · obtain ⟨k, rfl⟩ : ∃ k : Nat, kv = k := ⟨kv.toNat, by omega⟩
            have hki := hkm k rfl
            have hkl' : k < a.length := by omega
            have hge : ¬ (i : Int) ≤ (k : Int) := by omega
            have hlm : ¬ (k : Int) < -1 := by omega
            have hkz : (0 : Int) ≤ (k : Int) := hk0
            have hka : (k : Int) < (a.length : Int) := by omega
            have q1 : wr.cell? ⟨R, k, none⟩ = some (.int .i64 ((base ++ cur).count k : Nat)) := by rw [cell_of_block HC.out.1]; exact cnt_get hkl'
            have f1 := free_of_block HC.out.1
            have hcb : ((base ++ cur).count k) ≤ 1000 := by
              have := List.count_le_length (a := k) (l := base ++ cur); have := HFL.out; simp at *; omega
            have HC2 : Hid (CntAt w (wr.setCell ⟨R, k, none⟩ (.int .i64 (((base ++ cur).count k : Nat) + 1))) R a.length (base ++ nxt)) := by
              refine ⟨?_, HC.out.2.1, below_set HC.out.2.2 _ _ HC.out.2.1 _⟩
              rw [heap_setCell_eq, HC.out.1]
              simp only [Option.map_some, objSet]
              rw [cnt_set hkl', hks]
              simp [kidOf]
            have HW2 : Hid (R + 1 ≤ (wr.setCell ⟨R, k, none⟩ (.int .i64 (((base ++ cur).count k : Nat) + 1))).heap.size ∧ Below R w4 (wr.setCell ⟨R, k, none⟩ (.int .i64 (((base ++ cur).count k : Nat) + 1)))) :=
              ⟨by have := HW.out.1; simpa [World.setCell] using this, below_set HW.out.2 _ _ (Nat.le_refl _) _⟩
            generalize (base ++ cur).count k = cv at *
            clear hks hkm HC HW hk0 hkl hkn hki
            go_wp2_with fail
            go_roundg (3 - (j + 1))
            case measure => have := HGJ.out; omega
            case rel => exact ⟨j + 1, by go_num, hjj, rfl, by rw [HNX.out]; exact HC2, HW2⟩
          · obtain rfl : kv = -1 := by omega
            have hge : ¬ (i : Int) ≤ -1 := by omega
            have HC2 : Hid (CntAt w wr R a.length (base ++ nxt)) := by rw [hks]; simpa [kidOf] using HC
            clear hks hkm HC hk0 hkl hkn
            go_wp2_with fail
            go_roundg (3 - (j + 1))
            case measure => have := HGJ.out; omega
            case rel => exact ⟨j + 1, by go_num, hjj, rfl, by rw [HNX.out]; exact HC2, HW⟩
        · have hj3' : ¬ (j : Int) < 3 := by omega
          have HC2 : Hid (CntAt w wr R a.length ((a.take (i + 1)).flatMap kidsN)) := by
            rw [HTK.out]
            have := HC.out
            rwa [show kidsTo nd j = kidsN nd by obtain rfl : j = 3 := by omega
                                                rfl] at this
          clear HC
          go_wp2_with fail
          go_roundg (a.length - (i + 1))
          case measure => have := HG0.out; have := HGH.out; have := HLT.out; omega
          case rel => exact ⟨i + 1, by go_num, HLT.out, rfl, HC2, HW⟩
    · have hlt' : ¬ (i : Int) < (a.length : Int) := by omega
      have HCF : Hid (CntAt w wr R a.length (a.flatMap kidsN)) := by
        have := HC.out
        rwa [List.take_of_length_le (show a.length ≤ i by omega)] at this
      clear HC
      go_wp2_with fail
      go_loopw [96] (fun v wf => ∃ i : Nat, v = .int .i64 i ∧ i ≤ a.length ∧ wf = wr) (fun v _ => a.length - (intOf v).toNat)
      case atStart => exact ⟨0, rfl, Nat.zero_le _, rfl⟩
      case round =>
        clear hi hlt hlt'
        obtain ⟨i2, rfl, hi2, rfl⟩ := hrel
        by_cases hl2 : i2 < a.length
        · have hl2' : (i2 : Int) < (a.length : Int) := by omega
          have q1 : wr.cell? ⟨R, i2, none⟩ = some (.int .i64 ((a.flatMap kidsN).count i2 : Nat)) := by rw [cell_of_block HCF.out.1]; exact cnt_get hl2
          rw [count_range HP.out] at q1
          by_cases hlast : i2 < a.length - 1
          · rw [if_pos hlast] at q1
            have hlast' : (i2 : Int) < (a.length : Int) - 1 := by omega
            have HL2 := Lib.hid hl2
            clear hlast
            go_wp2_with fail
            go_roundw
            case rel => exact ⟨i2 + 1, by go_num, HL2.out, by first | trivial | rfl⟩
            case measure => simp [intOf]; omega
          · rw [if_neg hlast] at q1
            have hlast' : ¬ (i2 : Int) < (a.length : Int) - 1 := by omega
            have HL2 := Lib.hid hl2
            clear hlast
            go_wp2_with fail
            go_roundw
            case rel => exact ⟨i2 + 1, by go_num, HL2.out, by first | trivial | rfl⟩
            case measure => simp [intOf]; omega
        · have hl2' : ¬ (i2 : Int) < (a.length : Int) := by omega
          have HKN := Lib.hid (known_any wr (HG.out.below HCF.out.2.2))
          clear hi2 hl2
          go_wp2_with fail
          refine HKN.out.mono ?_
          rintro e w5 ⟨rfl, hb5⟩
          have HB5 := Lib.hid (below_then HCF.out.2.2 hb5)
          clear hb5
          go_wp2_with fail
          go_ret
          exact ⟨rfl, HB5.out⟩
theorem brackets_any (s : List UInt8) (w : World) (hg : Glob w) : Calls Tryd.prog 3 #[.string (bs s)] w (TrueEnd w) := by
  by_cases hs : 300 < s.length
  · exact brackets_long s w hg hs
  · obtain ⟨a, p, er, ha⟩ : ∃ a p er, parseS isName s = (a, p, er) := ⟨_, _, _, rfl⟩
    obtain ⟨b, q, f, hb⟩ : ∃ b q f, parseS isName ([40] ++ s ++ [41]) = (b, q, f) := ⟨_, _, _, rfl⟩
    by_cases he : er = 0
    · subst he
      rcases parseS_par isName s (by omega) a p ha with ⟨p2, h⟩ | ⟨t2, h, hl⟩
      · exact brackets_deep s w hg (by omega) a p p2 ha h
      · exact brackets_good s w hg (by omega) a t2 p 0 ha h (by rw [sameS]; exact decide_eq_true hl)
    · have h0 := parseS_err isName s a p er ha he
      subst h0
      exact brackets_bad s w hg (by omega) 0 p er b q f ha he hb
end Go.Proofs.YtfkieomelkopeaaDoor
