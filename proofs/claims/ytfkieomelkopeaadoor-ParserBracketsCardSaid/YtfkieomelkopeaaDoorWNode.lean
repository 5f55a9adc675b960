/-
  node: a node is laid behind the parser's nodes; its place is handed back.
-/
import Derived.Test.YtfkieomelkopeaaDoorWPar0
import Derived.Deep.RegionLaw
import Derived.Deep.RegionLawGrows
import Derived.Deep.AppendLies
namespace Go.Proofs.YtfkieomelkopeaaDoor
open Go.RowKit
theorem info_node : (Tryd.prog.info? 34).map (fun i => (i.zero, i.size, i.bytes)) = some (some (.agg #[.int .u8 0, .int .i64 0, .int .i64 0, .string ⟨#[]⟩, .int .i64 0, .int .i64 0, .int .i64 0, .int .i64 0, .int .i64 0]), 9, 80) := by kernel_rfl
theorem info_int : (Tryd.prog.info? 3).map (·.size) = some 1 := by kernel_rfl
/-- A node as a value, the places below it given. -/
def nodeW (n : Node) (a b c : Int) : List Value := [.int .u8 n.op, .int .i64 n.c, .int .i64 n.s, .string (bs n.name), .int .i64 n.k, .int .i64 a, .int .i64 b, .int .i64 c, .int .i64 n.place]
theorem copy_kids (w : World) (n : Node) (kv : Value) (ks : List Int) (hk : (ks = [] ∧ ∃ a c, kv = .slice a 0 c) ∨ (∃ gk off c, kv = .slice (some ⟨gk, off, none⟩) ks.length c ∧ ∀ j v, (ks.map (Value.int .i64))[j]? = some v → w.cell? ⟨gk, off + j, none⟩ = some v)) (h3 : ks.length ≤ 3) :
    (Builtin.copy_ #[29, 29] 3 #[.slice (some ⟨w.heap.size, 5, none⟩) 3 3, kv]).run Tryd.prog (w.alloc (.cells (nodeW n (-1) (-1) (-1)).toArray 34)) =
      .ok (.int .i64 ks.length) (w.alloc (.cells (nodeW n (ks.getD 0 (-1)) (ks.getD 1 (-1)) (ks.getD 2 (-1))).toArray 34)) := by
  rcases hk with ⟨rfl, a, c, rfl⟩ | ⟨gk, off, c, rfl, hc⟩
  · rw [run_copy_none _ _ _ _ 3 _ _ _ _ _ _ Tryd.underlying29 info_int (by simp [Nat.min])]; rfl
  · have hcell : ∀ o, (w.alloc (.cells (nodeW n (-1) (-1) (-1)).toArray 34)).cell? ⟨w.heap.size, o, none⟩ = (nodeW n (-1) (-1) (-1)).toArray[o]? := fun o => cell_of_block (heap_alloc_new w _) o
    rw [run_copy_cells _ _ _ _ 3 _ _ _ _ ⟨gk, off, none⟩ ks.length c (ks.map (Value.int .i64)) Tryd.underlying29 info_int (by simp [Nat.min]; omega) (fun j v h => by
        have := hc j v h
        rw [show (⟨gk, off, none⟩ : Addr).add j = ⟨gk, off + j, none⟩ by cases j <;> simp [Addr.add]]
        rw [(Below.refl w.heap.size w |>.alloc (Nat.le_refl _) _).cell (p := ⟨gk, off + j, none⟩) (World.block_lt_of_cell? w _ this)]
        exact this)
      (fun j hj => by rw [hcell]; simp at hj; have : 5 + j < (nodeW n (-1) (-1) (-1)).toArray.size := by simp [nodeW]; omega
                      simpa using this) (fun j hj => free_of_block (heap_alloc_new w _) _) (by simp [Value.oneCell'])]
    have hs : ∀ (C : Array Value) (i : Nat) (v : Value), (w.alloc (.cells C 34)).setCell ⟨w.heap.size, i, none⟩ v = w.alloc (.cells (C.setIfInBounds i v) 34) := fun C i v => World.setCell_alloc_at _ _ _ _ _ rfl
    match ks, h3 with
    | [], _ => rfl
    | [x], _ => simp [World.setCells, hs, nodeW, goInt]
    | [x, y], _ => simp [World.setCells, hs, nodeW, goInt]
    | [x, y, z], _ => simp [World.setCells, hs, nodeW, goInt]
    | _ :: _ :: _ :: _ :: _, h => simp at h
theorem node_kept {w w1 : World} {o1 o2 : Obj} {row : Option Nat} (hgrow : ((w.alloc o1).alloc o2).drew.grownBy w1 row) (hne : row ≠ some w.heap.size) : w1.heap[w.heap.size]? = some o1 := by
  have h1 : w.heap.size < (w.alloc o1).heap.size := by simp
  rw [hgrow.block w.heap.size (by show _ < ((w.alloc o1).alloc o2).heap.size; simp; omega) (Ne.symm hne)]
  show ((w.alloc o1).alloc o2).heap[w.heap.size]? = _
  rw [Below.heap_alloc _ _ _ h1]
  exact heap_alloc_new w o1
/-- The node n with these places below it. -/
def withKids (n : Node) (ks : List Int) : Node := { n with k0 := ks.getD 0 (-1), k1 := ks.getD 1 (-1), k2 := ks.getD 2 (-1) }
theorem node_end {w w1 : World} {b g E deep : Nat} {toks : List Tok} {tree : List Node} {row : Option Nat} {n : Node} {ks : List Int} {ka kb kc : Int} {lv tv : Value} {o1 o2 : Obj} {gg cap : Nat}
    (hwk : withKids n ks = { n with k0 := ka, k1 := kb, k2 := kc }) (hlt : b < w.heap.size)
    (h1 : w.heap[b]? = some (.cells #[lv, .int .i64 E, .int .i64 deep, tv] 43 (0, 0))) (h2 : IsToks w g lv toks) (h3 : w.ownsRow (b + 1) 34 9 tv tree.length (flatNodes tree)) (h4 : tv.ownBlock = row) (h5 : g < b)
    (hr : ∀ k, row = some k → b < k ∧ k < w.heap.size) (hgrow : ((w.alloc o1).alloc o2).drew.grownBy w1 tv.ownBlock)
    (hown : w1.ownsRow (b + 1) 34 9 (.slice (some ⟨gg, 0, none⟩) (tree.length + 1) cap) (tree.length + 1) (flatNodes tree ++ [.int .u8 n.op, .int .i64 n.c, .int .i64 n.s, .string (bs n.name), .int .i64 n.k, .int .i64 ka, .int .i64 kb, .int .i64 kc, .int .i64 n.place]))
    (hat : tv.ownBlock = some gg ∨ gg = w.heap.size + 2) :
    ∃ row', PS (w1.setCell ⟨b, 3, none⟩ (.slice (some ⟨gg, 0, none⟩) (tree.length + 1) cap)) b g E deep toks (tree ++ [withKids n ks]) row' ∧ NewRow w row row' ∧ Turn b row w (w1.setCell ⟨b, 3, none⟩ (.slice (some ⟨gg, 0, none⟩) (tree.length + 1) cap)) := by
  have hne : ∀ k, k < w.heap.size → some k ≠ row → w1.heap[k]? = w.heap[k]? := fun k hk hr' => by
    have e1 : k < (w.alloc o1).heap.size := by simp; omega
    rw [hgrow.block k (by show _ < ((w.alloc o1).alloc o2).heap.size; simp; omega) (by rw [h4]; exact hr')]
    show ((w.alloc o1).alloc o2).heap[k]? = _
    rw [Below.heap_alloc _ _ _ e1, Below.heap_alloc _ _ _ hk]
  have hrb : some b ≠ row := fun e => by have := (hr b e.symm).1; omega
  have hsz : w.heap.size + 2 ≤ w1.heap.size := by
    have := hgrow.size
    have e : ((w.alloc o1).alloc o2).drew.heap.size = w.heap.size + 2 := by show ((w.alloc o1).alloc o2).heap.size = _; simp
    omega
  have ht : Turn b row w w1 := ⟨hgrow.os, hgrow.tape, hgrow.output, by omega, fun k hk _ h => hne k hk h⟩
  have hbel : Below b w w1 := ht.below hlt (fun k hk => by have := (hr k hk).1; omega)
  refine ⟨some gg, PS.write 3 _ (lv' := lv) (by rw [hne b hlt hrb]; exact h1) rfl (h2.below hbel h5) (by rw [flatNodes_snoc, List.length_append, hwk]; exact hown) rfl h5, ?_, ht.set _ _⟩
  rcases hat with h | h
  · exact .inl (by rw [← h, h4])
  · exact .inr ⟨gg, rfl, by omega⟩
set_option maxHeartbeats 2000000 in
set_option maxRecDepth 100000 in
theorem node_any (w : World) (b g E deep : Nat) (toks : List Tok) (tree : List Node) (row : Option Nat) (h : PS w b g E deep toks tree row) (n : Node) (kv : Value) (ks : List Int)
    (hk : (ks = [] ∧ ∃ a c, kv = .slice a 0 c) ∨ (∃ gk off c, kv = .slice (some ⟨gk, off, none⟩) ks.length c ∧ ∀ j v, (ks.map (Value.int .i64))[j]? = some v → w.cell? ⟨gk, off + j, none⟩ = some v)) (h3 : ks.length ≤ 3) (hmax : tree.length ≤ 1000) :
    Calls Tryd.prog 34 #[.pointer (some ⟨b, 0, none⟩), .agg (nodeCells n).toArray, kv] w fun e w' => e = .returned (.int .i64 tree.length) ∧ ∃ row', PS w' b g E deep toks (tree ++ [withKids n ks]) row' ∧ NewRow w row row' ∧ Turn b row w w' := by
  have hcp := copy_kids w n kv ks hk h3
  clear hk h3
  generalize hka : ks.getD 0 (-1) = ka at *
  generalize hkb : ks.getD 1 (-1) = kb at *
  generalize hkc : ks.getD 2 (-1) = kc at *
  have hwk : withKids n ks = { n with k0 := ka, k1 := kb, k2 := kc } := by simp only [withKids, hka, hkb, hkc]
  have HWK := Lib.hid hwk
  clear hwk hka hkb hkc
  have hlt := h.lt
  have hrow := h.row_gt
  obtain ⟨lv, tv, h1, h2, h3, h4, h5⟩ := h
  have q := cell_of_block h1
  have f := free_of_block h1
  have q3 : w.cell? ⟨b, 3, none⟩ = some tv := q 3
  have H1 := Lib.hid h1; clear h1
  have H4 := Lib.hid h4; clear h4
  have H2 := Lib.hid h2; clear h2
  have HR := Lib.hid hrow; clear hrow
  obtain ⟨i0, hi, hz0, hz1, hz2⟩ := info_parts info_node
  have hnb : tv.ownBlock ≠ some b := fun e => by have := (HR.out b (H4.out.symm.trans e)).1; omega
  have hnw : tv.ownBlock ≠ some w.heap.size := fun e => by have := (HR.out _ (H4.out.symm.trans e)).2; omega
  unfold nodeCells nodeW at *
  go_enter Tryd.func34, Tryd.ntmps34
  go_wp2_with fail
  clear hcp
  go_region_law
    ((refine step_append_lies _ (by rfl) _ _ _ (by rfl) (b + 1) 34 i0 _ 9 80 Tryd.underlying24 hi hz0 hz1 hz2 rfl (by omega) tv tree.length (flatNodes tree) (by rfl) (((h3.alloc _).alloc _).drew)
        ⟨w.heap.size + 1, 0, none⟩ 1 1 [.int .u8 n.op, .int .i64 n.c, .int .i64 n.s, .string (bs n.name), .int .i64 n.k, .int .i64 ka, .int .i64 kb, .int .i64 kc, .int .i64 n.place] (by rfl) (by rfl) (World.news_of_block (cs := #[.int .u8 n.op, .int .i64 n.c, .int .i64 n.s, .string (bs n.name), .int .i64 n.k, .int .i64 ka, .int .i64 kb, .int .i64 kc, .int .i64 n.place]) (t := 34) (fr := (0, 0)) (by rw [show w.heap.size + 1 = (w.alloc (.cells #[.int .u8 n.op, .int .i64 n.c, .int .i64 n.s, .string (bs n.name), .int .i64 n.k, .int .i64 ka, .int .i64 kb, .int .i64 kc, .int .i64 n.place] 34)).heap.size by simp]; exact heap_alloc_new _ _)) (by simp [Value.oneCell'])
        (by omega) (by unfold maxLen; omega) (by omega) (by simp; omega) (w.heap.size + 2) (by simp) ?_; intro gg cap w1 hown1 hgrow hat hlt1; have n0 := cell_of_block (node_kept hgrow hnw); have e3 : w1.cell? ⟨b, 3, none⟩ = some tv := (by rw [hgrow.cell_far _ (by simp; omega) (Ne.symm hnb), World.cell?_drew, World.cell?_alloc_past _ _ _ (by simp; omega), World.cell?_alloc_past _ _ _ hlt]; exact q3); have e4 : w1.frozen? ⟨b, 3, none⟩ = false := (by rw [hgrow.frozen_far _ (by simp; omega) (Ne.symm hnb), World.frozen?_drew, World.frozen?_alloc_past _ _ _ (by simp; omega), World.frozen?_alloc_past _ _ _ hlt]; exact f 3)))
  all_goals
    have hgr : (b + 1 : Nat) ≤ (b + 1) := Nat.le_refl _
    have HE := Lib.hid (node_end (E := E) (deep := deep) (cap := cap) HWK.out hlt H1.out H2.out h3 H4.out h5 HR.out hgrow hown1 hat)
    clear hown1 hat hgrow n0 hlt1
    go_wp2
    go_ret
    exact ⟨ret_int (by omega), HE.out⟩
end Go.Proofs.YtfkieomelkopeaaDoor
