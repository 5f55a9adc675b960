/-
  The statement ParserBrackets walked: whatever the text, the answer is true.
-/
import Derived.Test.YtfkieomelkopeaaDoorWSame
import Derived.Test.YtfkieomelkopeaaDoorPBrLaw
import Derived.Deep.OwnRows
namespace Go.Proofs.YtfkieomelkopeaaDoor
open Go.RowKit
def kidAt (n : Node) (j : Nat) : Int := if j = 0 then n.k0 else if j = 1 then n.k1 else n.k2
def kidsTo (n : Node) (j : Nat) : List Nat := if j = 0 then [] else if j = 1 then kidOf n.k0 else if j = 2 then kidOf n.k0 ++ kidOf n.k1 else kidsN n
theorem kidsTo_succ (n : Node) : ∀ j, j < 3 → kidsTo n (j + 1) = kidsTo n j ++ kidOf (kidAt n j)
  | 0, _ => by simp [kidsTo, kidAt]
  | 1, _ => by simp [kidsTo, kidAt]
  | 2, _ => by simp [kidsTo, kidAt, kidsN]
  | j + 3, h => by omega
/-- How often each place stands in a list. -/
def cnt (n : Nat) (ks : List Nat) : Array Value := ((List.range n).map fun k => Value.int .i64 (ks.count k : Nat)).toArray
theorem cnt_get {n : Nat} {ks : List Nat} {k : Nat} (h : k < n) : (cnt n ks)[k]? = some (.int .i64 (ks.count k : Nat)) := by simp [cnt, h]
theorem cnt_made (n : Nat) : madeCells #[.int .i64 0] n = cnt n [] := by
  apply Array.toList_inj.1
  rw [toList_madeCells_one]
  apply List.ext_getElem
  · simp [cnt]
  · intro i h1 h2; simp [cnt]
theorem cnt_set {n : Nat} {ks : List Nat} {k : Nat} (h : k < n) : (cnt n ks).setIfInBounds k (.int .i64 ((ks.count k : Nat) + 1)) = cnt n (ks ++ [k]) := by
  apply Array.toList_inj.1
  apply List.ext_getElem
  · simp [cnt]
  · intro i h1 h2
    simp [cnt] at h1
    simp only [Array.toList_setIfInBounds, List.getElem_set]
    by_cases e : k = i
    · subst e
      simp [cnt]
    · simp [cnt, e, List.count_append]
theorem count_range0 (k : Nat) : ∀ m, (List.range m).count k = if k < m then 1 else 0
  | 0 => by simp
  | m + 1 => by
    rw [List.range_succ, List.count_append, count_range0 k m]
    by_cases h : k = m
    · subst h; simp
    · simp [List.count_cons, Ne.symm h]
      split <;> split <;> omega
theorem count_range {l : List Nat} {m k : Nat} (h : l.Perm (List.range m)) : l.count k = if k < m then 1 else 0 := by
  rw [h.count_eq]; exact count_range0 k m
theorem kidsN_len (n : Node) : (kidsN n).length ≤ 3 := by
  have h : ∀ k, (kidOf k).length ≤ 1 := fun k => by unfold kidOf; split <;> simp
  have h0 := h n.k0
  have h1 := h n.k1
  have h2 := h n.k2
  simp only [kidsN, List.length_append]; omega
theorem flat_len (l : List Node) : (l.flatMap kidsN).length ≤ 3 * l.length := by
  induction l with
  | nil => simp
  | cons n r ih => have := kidsN_len n; simp only [List.flatMap_cons, List.length_append, List.length_cons]; omega
theorem kidsTo_len (n : Node) (j : Nat) : (kidsTo n j).length ≤ 3 := by
  have h : ∀ k, (kidOf k).length ≤ 1 := fun k => by unfold kidOf; split <;> simp
  have h0 := h n.k0
  have h1 := h n.k1
  have h3 := kidsN_len n
  unfold kidsTo; split; simp; split; omega; split; simp; omega; omega
theorem kidOf_mem {n : Node} {j : Nat} {k : Nat} (hj : j < 3) (h : kidAt n j = k) : k ∈ kidsN n := by
  have hk : kidOf (kidAt n j) = [k] := by rw [h]; simp [kidOf]
  have h1 : ∀ l r : List Nat, k ∈ l ++ [k] ++ r := fun l r => by simp
  match j, hj with
  | 0, _ => have : kidOf n.k0 = [k] := hk
            simp [kidsN, this]
  | 1, _ => have : kidOf n.k1 = [k] := hk
            simp [kidsN, this]
  | 2, _ => have : kidOf n.k2 = [k] := hk
            simp [kidsN, this]
theorem idx_kid (a b c : Int) (W : World) : (Instr.index 32 (.agg #[.int .i64 a, .int .i64 b, .int .i64 c]) (.int .i64 0)).run Tryd.prog W = .ok (.int .i64 a) W ∧ (Instr.index 32 (.agg #[.int .i64 a, .int .i64 b, .int .i64 c]) (.int .i64 1)).run Tryd.prog W = .ok (.int .i64 b) W ∧ (Instr.index 32 (.agg #[.int .i64 a, .int .i64 b, .int .i64 c]) (.int .i64 2)).run Tryd.prog W = .ok (.int .i64 c) W := ⟨by kernel_rfl, by kernel_rfl, by kernel_rfl⟩
theorem idx_at (n : Node) : ∀ j, j < 3 → ∀ W, (Instr.index 32 (.agg #[.int .i64 n.k0, .int .i64 n.k1, .int .i64 n.k2]) (.int .i64 (j : Nat))).run Tryd.prog W = .ok (.int .i64 (kidAt n j)) W
  | 0, _, W => (idx_kid _ _ _ W).1
  | 1, _, W => (idx_kid _ _ _ W).2.1
  | 2, _, W => (idx_kid _ _ _ W).2.2
  | j + 3, h, _ => by omega
end Go.Proofs.YtfkieomelkopeaaDoor
