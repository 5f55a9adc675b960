/-
  known: the four texts of the statement's own trial are read as the document has them.
-/
import Derived.Test.YtfkieomelkopeaaDoorWParse
namespace Go.Proofs.YtfkieomelkopeaaDoor
open Go.RowKit
theorem row_cells {w : World} {base : Nat} {t : TypeId} {size n : Nat} {v : Value} {xs : List Value} (h : w.ownsRow base t size v n xs) (hn : n ≠ 0) : ∃ g cap, v = .slice (some ⟨g, 0, none⟩) n cap ∧ base ≤ g ∧ g < w.heap.size ∧ n ≤ cap ∧ cap ≤ maxLen ∧ (∀ j u, xs[j]? = some u → w.cell? ⟨g, j, none⟩ = some u) ∧ ∀ o, w.frozen? ⟨g, o, none⟩ = false := by
  rcases h.2 with ⟨-, h⟩ | ⟨g, cap, cur, rfl, hg, hh, hc, hm, hs, ht⟩
  · exact absurd h hn
  · refine ⟨g, cap, rfl, hg, lt_of_block hh, hc, hm, fun j u hj => ?_, free_of_block hh⟩
    rw [cell_of_block hh]
    rw [← ht, List.getElem?_take] at hj
    split at hj
    · simpa using hj
    · cases hj
def k1 : List UInt8 := [97, 32, 43, 32, 50, 32, 42, 32, 98]
def k2 : List UInt8 := [110, 111, 116, 32, 97, 32, 61, 32, 98]
def k3 : List UInt8 := [97, 32, 60, 32, 98, 32, 60, 32, 99]
def k4 : List UInt8 := [108, 97, 103, 40, 97, 44, 32, 51, 54, 54, 49, 41]
def t1 : List Node := (parseS isName k1).1
def t2 : List Node := (parseS isName k2).1
theorem parse_k1 : parseS isName k1 = (t1, 0, 0) := by decide +kernel
theorem parse_k2 : parseS isName k2 = (t2, 0, 0) := by decide +kernel
theorem parse_k3 : parseS isName k3 = ([], 6, 4) := by decide +kernel
theorem parse_k4 : parseS isName k4 = ([], 7, 4) := by decide +kernel
theorem t1_len : t1.length = 5 := by decide +kernel
theorem t2_len : t2.length = 4 := by decide +kernel
theorem t1_cells : (flatNodes t1)[36]? = some (.int .u8 14) ∧ (flatNodes t1)[41]? = some (.int .i64 0) ∧ (flatNodes t1)[42]? = some (.int .i64 3) ∧ (flatNodes t1)[43]? = some (.int .i64 (-1)) ∧ (flatNodes t1)[27]? = some (.int .u8 16) := by
  refine ⟨?_, ?_, ?_, ?_, ?_⟩ <;> rfl
theorem t2_cells : (flatNodes t2)[27]? = some (.int .u8 7) := by rfl
theorem parse_at (l : List UInt8) (T : List Node) (p e : Nat) (h : parseS isName l = (T, p, e)) (hl : l.length ≤ 400) (w : World) (hg : Glob w) : Calls Tryd.prog 5 #[.string (bs l)] w fun en w' => ∃ v, en = .returned (.tuple #[v, .int .i64 p, .int .i64 e]) ∧ w'.ownsRow w.heap.size 34 9 v T.length (flatNodes T) ∧ Below w.heap.size w w' :=
  (parse_any l w hg (by omega)).mono fun en w' h' => by rw [ParsePost, h] at h'; exact h'
set_option maxHeartbeats 2000000 in
set_option maxRecDepth 100000 in
theorem known_any (w : World) (hg : Glob w) : Calls Tryd.prog 4 #[] w fun e w' => e = .returned (.bool true) ∧ Below w.heap.size w w' := by
  have h1 := parse_at k1 t1 0 0 parse_k1 (by decide)
  have h2 := parse_at k2 t2 0 0 parse_k2 (by decide)
  have h3 := parse_at k3 [] 6 4 parse_k3 (by decide)
  have h4 := parse_at k4 [] 7 4 parse_k4 (by decide)
  simp only [k1, k2, k3, k4] at h1 h2 h3 h4
  have HG := Lib.hid hg; clear hg
  go_enter Tryd.func4, Tryd.ntmps4
  go_wp2_with fail
  refine (h1 _ HG.out).mono ?_
  rintro e wa ⟨va, rfl, ra, ba⟩
  obtain ⟨ga, ca, rfl, -, la, -, -, qa, -⟩ := row_cells ra (by rw [t1_len]; decide)
  have GA := Lib.hid (HG.out.below ba)
  go_wp2_with fail
  refine (h2 _ GA.out).mono ?_
  rintro e wb ⟨vb, rfl, rb, bb⟩
  obtain ⟨gb, cb, rfl, -, lb, -, -, qb, -⟩ := row_cells rb (by rw [t2_len]; decide)
  have GB := Lib.hid (GA.out.below bb)
  go_wp2_with fail
  refine (h3 _ GB.out).mono ?_
  rintro e wc ⟨vc, rfl, -, bc⟩
  have GC := Lib.hid (GB.out.below bc)
  go_wp2_with fail
  refine (h4 _ GC.out).mono ?_
  rintro e wd ⟨vd, rfl, -, bd⟩
  have ka : ∀ o, wd.cell? ⟨ga, o, none⟩ = wa.cell? ⟨ga, o, none⟩ := fun o => by
    have := bb.size; have := bc.size
    rw [bd.cell (p := ⟨ga, o, none⟩) (by show ga < _; omega), bc.cell (p := ⟨ga, o, none⟩) (by show ga < _; omega), bb.cell (p := ⟨ga, o, none⟩) la]
  have kb : ∀ o, wd.cell? ⟨gb, o, none⟩ = wb.cell? ⟨gb, o, none⟩ := fun o => by
    have := bc.size
    rw [bd.cell (p := ⟨gb, o, none⟩) (by show gb < _; omega), bc.cell (p := ⟨gb, o, none⟩) lb]
  have c36 := (ka 36).trans (qa 36 _ t1_cells.1)
  have c41 := (ka 41).trans (qa 41 _ t1_cells.2.1)
  have c42 := (ka 42).trans (qa 42 _ t1_cells.2.2.1)
  have c43 := (ka 43).trans (qa 43 _ t1_cells.2.2.2.1)
  have c27 := (ka 27).trans (qa 27 _ t1_cells.2.2.2.2)
  have d27 := (kb 27).trans (qb 27 _ t2_cells)
  have HB := Lib.hid (((ba.trans (bb.mono ba.size)).trans (bc.mono (Nat.le_trans ba.size bb.size))).trans (bd.mono (Nat.le_trans (Nat.le_trans ba.size bb.size) bc.size)))
  clear ka kb qa qb ra rb ba bb bc bd la lb h1 h2 h3 h4 GA GB GC HG
  simp only [t1_len, t2_len]
  have heq : ∀ W, (Op.equalIn 10000 32 (.agg #[.int .i64 0, .int .i64 3, .int .i64 (-1)]) (.agg #[.int .i64 0, .int .i64 3, .int .i64 (-1)])).run Tryd.prog W = .ok true W := fun _ => by kernel_rfl
  go_wp2_with fail
  go_ret
  exact ⟨rfl, HB.out⟩
end Go.Proofs.YtfkieomelkopeaaDoor
