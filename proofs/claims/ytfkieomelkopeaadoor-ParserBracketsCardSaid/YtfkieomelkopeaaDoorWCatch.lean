/-
  Parse's deferred closure: what it does in a frame that is given up by a 'stop', and in one that returns.
-/
import Derived.Test.YtfkieomelkopeaaDoorWLvl
import Derived.Defers
import Derived.Recover
namespace Go.Proofs.YtfkieomelkopeaaDoor
open Go.RowKit
theorem cell_set {w : World} {a : Addr} {v u : Value} (h : w.cell? a = some u) : (w.setCell a v).cell? a = some v := World.cell?_setCell_same w a v h
theorem cell_new {w : World} {o : Obj} {b c : Nat} (h : b < w.heap.size) : (w.alloc o).drew.cell? ⟨b, c, none⟩ = w.cell? ⟨b, c, none⟩ := World.cell?_of_block (a := ⟨b, c, none⟩) (Below.heap_alloc w o b h)
set_option maxHeartbeats 2000000 in
set_option maxRecDepth 100000 in
theorem catch_stop (B : Nat) (w : World) (x y z : Value) (h0 : w.heap[B]? = some (.cells #[x] 24 (0, 0))) (h1 : w.heap[B + 1]? = some (.cells #[y] 3 (0, 0))) (h2 : w.heap[B + 2]? = some (.cells #[z] 25 (0, 0))) (p er : Nat) :
    CallsD Tryd.prog 8 #[.pointer (some ⟨B, 0, none⟩), .pointer (some ⟨B + 1, 0, none⟩), .pointer (some ⟨B + 2, 0, none⟩)] (.panicking (stopChain p er)) w fun e u' w' =>
      e = .returned (.tuple #[]) ∧ u' = .panicking [{ v := .iface 40 (.agg #[.int .i64 p, .int .i64 er]), recovered := true }] ∧ w'.cell? ⟨B, 0, none⟩ = some (.slice none 0 0) ∧ w'.cell? ⟨B + 1, 0, none⟩ = some (.int .i64 p) ∧ w'.cell? ⟨B + 2, 0, none⟩ = some (.int .i64 er) ∧ Below B w w' := by
  have q0 := cell_of_block h0
  have f0 := free_of_block h0
  have q1 := cell_of_block h1
  have f1 := free_of_block h1
  have q2 := cell_of_block h2
  have f2 := free_of_block h2
  refine callsD_of_wpS Tryd.func8 rfl fun c₀ cs hu => ?_
  apply wpS_seq
  apply wpS_region
  simp [wpOpsS, go_sem, recoverD, hu, Tryd.ntmps8, Exit.thenS, stopChain]
  apply wpS_of_wp
  have hta : ∀ (v : Value) (w : World), (Instr.typeAssert (.iface 40 v) 20 40 true).run Tryd.prog w = .ok (.tuple #[v, .bool true]) w := fun _ _ => by kernel_rfl
  simp [Array.replicate]
  have l0 := lt_of_block h0
  have l1 := lt_of_block h1
  have l2 := lt_of_block h2
  go_wp2_with fail
  clear h0 h1 h2
  go_region
  go_wp2_with fail
  refine ⟨rfl, .panicking [{ v := .iface 40 (.agg #[.int .i64 p, .int .i64 er]), recovered := true }], ?_, .tuple #[], ?_, ?_⟩
  · cases c₀; simp
  · simp [results, Tryd.results8]
  · have hb : Below B w ((((w.setCell ⟨B, 0, none⟩ (.slice none 0 0)).setCell ⟨B + 1, 0, none⟩ (.int .i64 p)).setCell ⟨B + 2, 0, none⟩ (.int .i64 er)).alloc (.cells #[.int .i64 p, .int .i64 er] 40)).drew :=
      ((((Below.refl B w).setCell (p := ⟨B, 0, none⟩) (Nat.le_refl _) _).setCell (p := ⟨B + 1, 0, none⟩) (by simp) _).setCell (p := ⟨B + 2, 0, none⟩) (by simp) _).alloc (by simp [World.setCell]; omega) _ |>.drew
    refine ⟨rfl, rfl, ?_, ?_, ?_, hb⟩
    · rw [cell_new (by simp [World.setCell]; omega), cell_far (by simp), cell_far (by simp), cell_set (q0 0)]
    · rw [cell_new (by simp [World.setCell]; omega), cell_far (by simp), cell_set (u := y) (by rw [cell_far (by simp)]; exact q1 0)]
    · rw [cell_new (by simp [World.setCell]; omega), cell_set (u := z) (by rw [cell_far (by simp), cell_far (by simp)]; exact q2 0)]
set_option maxHeartbeats 2000000 in
set_option maxRecDepth 100000 in
theorem catch_idle (B : Nat) (w : World) :
    CallsD Tryd.prog 8 #[.pointer (some ⟨B, 0, none⟩), .pointer (some ⟨B + 1, 0, none⟩), .pointer (some ⟨B + 2, 0, none⟩)] .returning w fun e u' w' =>
      e = .returned (.tuple #[]) ∧ u' = .returning ∧ w' = w := by
  refine callsD_of_wpS Tryd.func8 rfl fun c₀ cs hu => ?_
  apply wpS_seq
  apply wpS_region
  simp [wpOpsS, go_sem, recoverD, hu, Tryd.ntmps8, Exit.thenS]
  apply wpS_of_wp
  go_wp2_with fail
  cases c₀
  simp_all [bodyPostS, results, Tryd.results8, Exit.thenS]
end Go.Proofs.YtfkieomelkopeaaDoor
