/-
  Same: whether two rows of nodes are the same, with or without their places.
-/
import Derived.Test.YtfkieomelkopeaaDoorWKnown
import Derived.Test.YtfkieomelkopeaaDoorPSim
import Derived.ChangeKeysEq
namespace Go.Proofs.YtfkieomelkopeaaDoor
open Go.RowKit
set_option maxRecDepth 100000 in
theorem kids_eq (a b c x y z : Int) (W : World) (d : Nat) : (Op.equalIn (d + 2) 32 (.agg #[.int .i64 a, .int .i64 b, .int .i64 c]) (.agg #[.int .i64 x, .int .i64 y, .int .i64 z])).run Tryd.prog W = .ok (a == x && b == y && c == z) W := by
  obtain ⟨i, hi⟩ : ∃ i, Tryd.prog.info? 3 = some i := Option.isSome_iff_exists.1 (by kernel_rfl)
  rw [run_equalIn_array W (d + 1) _ _ Tryd.underlying32 hi]
  have hc : Tryd.prog.cellsOf 3 = 1 := by kernel_rfl
  rw [hc, show List.range 3 = [0, 1, 2] from rfl]
  simp [Op.eqItems, go_sem, Tryd.underlying3]
  repeat' split
  all_goals simp_all
set_option maxRecDepth 100000 in
theorem node_eq (a b : Node) (W : World) : (Op.equalIn 10000 34 (.agg #[.int .u8 a.op, .int .i64 a.c, .int .i64 a.s, .string (bs a.name), .int .i64 a.k, .int .i64 a.k0, .int .i64 a.k1, .int .i64 a.k2, .int .i64 a.place]) (.agg #[.int .u8 b.op, .int .i64 b.c, .int .i64 b.s, .string (bs b.name), .int .i64 b.k, .int .i64 b.k0, .int .i64 b.k1, .int .i64 b.k2, .int .i64 b.place])).run Tryd.prog W = .ok (decide (a = b)) W := by
  have hu1 : Tryd.prog.underlying 34 = some (.struct (Tryd.prog.fieldsOf 34)) := by kernel_rfl
  have hs1 : Tryd.prog.stoodInHeld 34 = false := by kernel_rfl
  rw [run_equalIn_struct W 9999 _ _ _ hu1 hs1]
  simp [go_sem, Tryd.underlying34, Tryd.underlying31, kids_eq]
  obtain ⟨a1, a2, a3, a4, a5, a6, a7, a8, a9⟩ := a
  obtain ⟨b1, b2, b3, b4, b5, b6, b7, b8, b9⟩ := b
  simp only [Node.mk.injEq]
  repeat' split
  all_goals simp_all
  all_goals omega
theorem flat_get (l : List Node) (i o : Nat) (h : i < l.length) (ho : o < 9) : (flatNodes l)[i * 9 + o]? = (nodeCells l[i])[o]? := by
  induction l generalizing i with
  | nil => simp at h
  | cons n r ih =>
    have e : flatNodes (n :: r) = nodeCells n ++ flatNodes r := by simp [flatNodes]
    rw [e]
    cases i with
    | zero => rw [List.getElem?_append_left (by simpa [nodeCells] using ho)]; simp
    | succ i =>
      rw [List.getElem?_append_right (by simp [nodeCells]; omega)]
      have := ih i (by simpa using h)
      simp only [List.getElem_cons_succ]
      rw [← this]
      congr 1
      simp [nodeCells]
      omega
/-- Nodes that can be read at a slice. -/
def NodesAt (w : World) (v : Value) (l : List Node) : Prop := (l = [] ∧ ∃ a c, v = .slice a 0 c) ∨ ∃ g cap, v = .slice (some ⟨g, 0, none⟩) l.length cap ∧ g < w.heap.size ∧ l.length ≤ cap ∧ cap ≤ maxLen ∧ ∀ i (h : i < l.length) o, o < 9 → w.cell? ⟨g, i * 9 + o, none⟩ = (nodeCells l[i])[o]?
theorem nodesAt_row {w : World} {base : Nat} {t : TypeId} {v : Value} {l : List Node} (h : w.ownsRow base t 9 v l.length (flatNodes l)) : NodesAt w v l := by
  by_cases hn : l = []
  · subst hn
    obtain ⟨a, c, rfl⟩ := row_slice h
    exact .inl ⟨rfl, _, _, rfl⟩
  · obtain ⟨g, cap, rfl, -, hl, hc, hm, hq, -⟩ := row_cells h (by simpa using hn)
    refine .inr ⟨g, cap, rfl, hl, hc, hm, fun i hi o ho => ?_⟩
    have h1 := flat_get l i o hi ho
    obtain ⟨u, hu⟩ : ∃ u, (nodeCells l[i])[o]? = some u := ⟨_, List.getElem?_eq_getElem (show o < (nodeCells l[i]).length from ho)⟩
    rw [hu] at h1 ⊢
    exact hq _ _ h1
theorem NodesAt.below {w w' : World} {v : Value} {l : List Node} (h : NodesAt w v l) {B : Nat} (hb : Below B w w') (hB : w.heap.size ≤ B) : NodesAt w' v l := by
  rcases h with h | ⟨g, cap, h1, h2, h3, h4, h5⟩
  · exact .inl h
  · exact .inr ⟨g, cap, h1, by have := hb.size; omega, h3, h4, fun i hi o ho => by rw [hb.cell (p := ⟨g, i * 9 + o, none⟩) (by show g < B; omega)]; exact h5 i hi o ho⟩
def nodeB (bf : Bool) (n : Node) : Node := if bf = true then bare n else n
def sameS (bf : Bool) (a b : List Node) : Bool := decide (a.map (nodeB bf) = b.map (nodeB bf))
theorem sameS_step {bf : Bool} {a b : List Node} {i : Nat} (ha : i < a.length) (hb : i < b.length) : sameS bf (a.drop i) (b.drop i) = (decide (nodeB bf a[i] = nodeB bf b[i]) && sameS bf (a.drop (i + 1)) (b.drop (i + 1))) := by
  rw [List.drop_eq_getElem_cons ha, List.drop_eq_getElem_cons hb]
  simp only [sameS, List.map_cons, List.cons.injEq, Bool.decide_and]
set_option maxHeartbeats 2000000 in
set_option maxRecDepth 100000 in
theorem same_any (w : World) (va vb : Value) (a b : List Node) (bf : Bool) (ha : NodesAt w va a) (hb : NodesAt w vb b) (hlen : a.length ≤ 1000) :
    Calls Tryd.prog 6 #[va, vb, .bool bf] w fun e w' => e = .returned (.bool (sameS bf a b)) ∧ Below w.heap.size w w' := by
  have sla : ∃ x c, va = .slice x a.length c := by
    rcases ha with ⟨rfl, x, c, rfl⟩ | ⟨g, cap, rfl, _⟩ <;> exact ⟨_, _, rfl⟩
  have slb : ∃ x c, vb = .slice x b.length c := by
    rcases hb with ⟨rfl, x, c, rfl⟩ | ⟨g, cap, rfl, _⟩ <;> exact ⟨_, _, rfl⟩
  by_cases hne : a.length = b.length
  · have hn2 : ((a.length : Int) != (b.length : Int)) = false := by rw [hne]; simp
    obtain ⟨xa, ca, rfl⟩ := sla
    obtain ⟨xb, cb, rfl⟩ := slb
    have hs : Hid (sameS bf a b = sameS bf (a.drop 0) (b.drop 0)) := by simp [Hid]
    generalize sameS bf a b = fin at *
    have HA := Lib.hid ha; clear ha
    have HB := Lib.hid hb; clear hb
    go_enter Tryd.func6, Tryd.ntmps6
    go_wp2_with fail
    go_loopw [7] (fun v wr => ∃ i : Nat, v = .int .i64 i ∧ i ≤ a.length ∧ Hid (fin = sameS bf (a.drop i) (b.drop i)) ∧ Hid (Below w.heap.size w wr)) (fun v _ => a.length - (intOf v).toNat)
    case atStart => exact ⟨0, rfl, Nat.zero_le _, hs, Below.refl _ _⟩
    case round =>
      obtain ⟨i, rfl, hi, HS, HBW⟩ := hrel
      by_cases hlt : i < a.length
      · have hcmp : (i : Int) < (a.length : Int) := by omega
        have ha1 := HA.out.below HBW.out (Nat.le_refl _)
        have hb1 := HB.out.below HBW.out (Nat.le_refl _)
        rcases ha1 with ⟨rfl, _⟩ | ⟨ga, cap, he, hga, hca, hma, qa⟩
        · simp at hlt
        rcases hb1 with ⟨rfl, _⟩ | ⟨gb, cbp, he2, hgb, hcb, hmb, qb⟩
        · simp at hne; rw [hne] at hlt; simp at hlt
        cases he
        cases he2
        have hj : i < b.length := by omega
        have pa := qa i hlt
        have pb := qb i hj
        generalize hna : a[i] = na at *
        generalize hnb : b[i] = nb at *
        have a0 := pa 0 (by decide)
        have a1 := pa 1 (by decide)
        have a2 := pa 2 (by decide)
        have a3 := pa 3 (by decide)
        have a4 := pa 4 (by decide)
        have a5 := pa 5 (by decide)
        have a6 := pa 6 (by decide)
        have a7 := pa 7 (by decide)
        have a8 := pa 8 (by decide)
        have b0 := pb 0 (by decide)
        have b1 := pb 1 (by decide)
        have b2 := pb 2 (by decide)
        have b3 := pb 3 (by decide)
        have b4 := pb 4 (by decide)
        have b5 := pb 5 (by decide)
        have b6 := pb 6 (by decide)
        have b7 := pb 7 (by decide)
        have b8 := pb 8 (by decide)
        simp only [nodeCells, List.getElem?_cons_zero, List.getElem?_cons_succ, Nat.add_zero] at a0 a1 a2 a3 a4 a5 a6 a7 a8 b0 b1 b2 b3 b4 b5 b6 b7 b8
        clear pa pb qa qb
        have hst : Hid (fin = (decide (nodeB bf na = nodeB bf nb) && sameS bf (a.drop (i + 1)) (b.drop (i + 1)))) := by have := HS.out; rw [sameS_step hlt hj, hna, hnb] at this; exact this
        have heq := fun W => node_eq (nodeB bf na) (nodeB bf nb) W
        generalize decide (nodeB bf na = nodeB bf nb) = ok at *
        clear HS hna hnb
        cases bf with
        | true =>
          have heq2 : ∀ W, (Op.equalIn 10000 34 (.agg #[.int .u8 na.op, .int .i64 na.c, .int .i64 na.s, .string (bs na.name), .int .i64 na.k, .int .i64 na.k0, .int .i64 na.k1, .int .i64 na.k2, .int .i64 0]) (.agg #[.int .u8 nb.op, .int .i64 nb.c, .int .i64 nb.s, .string (bs nb.name), .int .i64 nb.k, .int .i64 nb.k0, .int .i64 nb.k1, .int .i64 nb.k2, .int .i64 0])).run Tryd.prog W = .ok ok W := heq
          clear heq
          cases ok
          · have hf : Hid (fin = false) := by have := hst.out; simpa [Hid] using this
            clear hst
            go_wp2_with fail
            go_region
            all_goals (try go_wp2_with fail)
            all_goals
              go_ret
              exact ⟨by rw [hf.out]; rfl, ((HBW.out.alloc HBW.out.size _).alloc (by have := HBW.out.size; simp; omega) _).drew⟩
          · have hf : Hid (fin = sameS true (a.drop (i + 1)) (b.drop (i + 1))) := by have := hst.out; simpa [Hid] using this
            clear hst
            go_wp2_with fail
            go_region
            all_goals (try go_wp2_with fail)
            all_goals
              go_roundw
              case rel => exact ⟨i + 1, by go_num, by omega, hf, ((HBW.out.alloc HBW.out.size _).alloc (by have := HBW.out.size; simp; omega) _).drew⟩
              case measure => simp [intOf]; omega
        | false =>
          have heq2 : ∀ W, (Op.equalIn 10000 34 (.agg #[.int .u8 na.op, .int .i64 na.c, .int .i64 na.s, .string (bs na.name), .int .i64 na.k, .int .i64 na.k0, .int .i64 na.k1, .int .i64 na.k2, .int .i64 na.place]) (.agg #[.int .u8 nb.op, .int .i64 nb.c, .int .i64 nb.s, .string (bs nb.name), .int .i64 nb.k, .int .i64 nb.k0, .int .i64 nb.k1, .int .i64 nb.k2, .int .i64 nb.place])).run Tryd.prog W = .ok ok W := heq
          clear heq
          cases ok
          · have hf : Hid (fin = false) := by have := hst.out; simpa [Hid] using this
            clear hst
            go_wp2_with fail
            go_region
            all_goals (try go_wp2_with fail)
            all_goals
              go_ret
              exact ⟨by rw [hf.out]; rfl, ((HBW.out.alloc HBW.out.size _).alloc (by have := HBW.out.size; simp; omega) _).drew⟩
          · have hf : Hid (fin = sameS false (a.drop (i + 1)) (b.drop (i + 1))) := by have := hst.out; simpa [Hid] using this
            clear hst
            go_wp2_with fail
            go_region
            all_goals (try go_wp2_with fail)
            all_goals
              go_roundw
              case rel => exact ⟨i + 1, by go_num, by omega, hf, ((HBW.out.alloc HBW.out.size _).alloc (by have := HBW.out.size; simp; omega) _).drew⟩
              case measure => simp [intOf]; omega
      · have hia : i = a.length := by omega
        have hf : Hid (fin = true) := by
          have := HS.out
          rw [Hid, this, hia, List.drop_of_length_le (Nat.le_refl _), hne, List.drop_of_length_le (Nat.le_refl _)]
          simp [sameS]
        have hcmp : ¬ (i : Int) < (a.length : Int) := by omega
        clear HS HA HB hia
        go_wp2_with fail
        go_ret
        exact ⟨by rw [hf.out]; rfl, HBW.out⟩
  · have hs : sameS bf a b = false := by
      simp only [sameS, decide_eq_false_iff_not]
      intro e
      exact hne (by simpa using congrArg List.length e)
    rw [hs]
    obtain ⟨xa, ca, rfl⟩ := sla
    obtain ⟨xb, cb, rfl⟩ := slb
    have hn2 : ((a.length : Int) != (b.length : Int)) = true := by rw [bne_iff_ne]; omega
    clear ha hb hs hne
    go_enter Tryd.func6, Tryd.ntmps6
    go_wp2_with fail
    go_ret
    exact ⟨rfl, Below.refl _ _⟩
end Go.Proofs.YtfkieomelkopeaaDoor
