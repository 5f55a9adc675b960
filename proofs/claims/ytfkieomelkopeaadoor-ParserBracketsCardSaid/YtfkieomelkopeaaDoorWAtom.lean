/-
  atom: an atom's node, a call, or an expression in parentheses.
-/
import Derived.Test.YtfkieomelkopeaaDoorWCall
namespace Go.Proofs.YtfkieomelkopeaaDoor
open Go.RowKit
theorem PS.pop {W : World} {b g E deep : Nat} {t : Tok} {r : List Tok} {tree : List Node} {row : Option Nat} (h : PS W b g E deep (t :: r) tree row) {off cap : Nat} (hc : W.cell? ⟨b, 0, none⟩ = some (.slice (some ⟨g, off, none⟩) (r.length + 1) cap)) (o' c' : Nat)
    (ho : (cap = 1 ∧ o' = off ∧ c' = 0) ∨ (¬ cap = 1 ∧ o' = off + 5 ∧ c' = cap - 1)) : PS (W.setCell ⟨b, 0, none⟩ (.slice (some ⟨g, o', none⟩) r.length c')) b g E deep r tree row := by
  obtain ⟨lv, tv, h1, h2, h3, h4, h5⟩ := h
  have q : W.cell? ⟨b, 0, none⟩ = some lv := cell_of_block h1 0
  rw [hc] at q
  cases q
  rcases h2 with ⟨h, _⟩ | ⟨-, off', cap', he, hc1, hc2, h2⟩
  · cases h
  cases he
  refine PS.write 0 _ h1 rfl ?_ h3 h4 h5
  rcases ho with ⟨e, rfl, rfl⟩ | ⟨e, rfl, rfl⟩
  · exact tail_a (t := t) hc1 e
  · exact tail_b hc1 hc2 h2
theorem cell_far {w : World} {k b : Nat} (h : b ≠ k) (c o : Nat) (v : Value) : (w.setCell ⟨k, c, none⟩ v).cell? ⟨b, o, none⟩ = w.cell? ⟨b, o, none⟩ := World.cell?_of_block (a := ⟨b, o, none⟩) (Below.heap_setCell _ _ _ _ h)
theorem Turn.setFar {b : Nat} {row : Option Nat} {w W : World} (h : Turn b row w W) {k : Nat} (hk : w.heap.size ≤ k) (c : Nat) (v : Value) : Turn b row w (W.setCell ⟨k, c, none⟩ v) :=
  ⟨h.os, h.tape, h.output, by rw [size_setCell]; exact h.size, fun m hm h1 h2 => (Below.heap_setCell _ _ _ _ (by show m ≠ k; omega)).trans (h.block m hm h1 h2)⟩
theorem Turn.drew {b : Nat} {row : Option Nat} {w W : World} (h : Turn b row w W) : Turn b row w W.drew := ⟨h.os, h.tape, h.output, h.size, h.block⟩
theorem two_of {w w2 : World} {o1 o2 : Obj} (hb : Below ((w.alloc o1).alloc o2).heap.size ((w.alloc o1).alloc o2) w2) : w2.heap[w.heap.size]? = some o1 ∧ w2.heap[w.heap.size + 1]? = some o2 ∧ Below w.heap.size w w2 ∧ w.heap.size + 2 ≤ w2.heap.size := by
  have hs : ((w.alloc o1).alloc o2).heap.size = w.heap.size + 2 := by simp
  refine ⟨?_, ?_, (((Below.refl _ w).alloc (Nat.le_refl _) o1).alloc (by simp) o2).trans (hb.mono (by omega)), by have := hb.size; omega⟩
  · rw [hb.block _ (by omega), Below.heap_alloc _ _ _ (by simp)]; exact heap_alloc_new w o1
  · rw [hb.block _ (by omega), show w.heap.size + 1 = (w.alloc o1).heap.size by simp]; exact heap_alloc_new _ o2
set_option maxHeartbeats 4000000 in
set_option maxRecDepth 100000 in
theorem atom_number (w : World) (b g E deep : Nat) (t : Tok) (r : List Tok) (tree : List Node) (row : Option Nat) (h : PS w b g E deep (t :: r) tree row) (h11 : 11 ≤ b) (hmax : tree.length ≤ 1000)
    (co : Nat) (ca : List UInt8) (cm : Int) (cok : Bool) (hcl : ∀ W, Calls Tryd.prog 29 #[.string (bs t.text)] W fun e w' => e = .returned (.tuple #[.agg #[.int .u8 co, .string (bs ca), .int .i64 cm], .bool cok]) ∧ Below W.heap.size W w') (hkb : (((t.kind : Nat) : Int) == 2) = true) :
    Calls Tryd.prog 19 #[.pointer (some ⟨b, 0, none⟩)] w (PPost b g E deep row w (.ok tree.length r (tree ++ [leaf 1 t.c t.s [] t.place]))) := by
  have hlt := h.lt
  have hrg := h.row_gt
  have hbk : b < w.heap.size + 1 := by omega
  have hbk' : b ≠ w.heap.size + 1 := by omega
  have hrk : some (w.heap.size + 1) ≠ row := fun e => by have := (hrg _ e.symm).2; omega
  have HPS := Lib.hid h
  have HRG := Lib.hid hrg; clear hrg
  obtain ⟨lv, tv, h1, h2, h3, h4, h5⟩ := h
  have q := cell_of_block h1
  have f := free_of_block h1
  rcases h2 with ⟨h, _⟩ | ⟨-, off, cap, rfl, hc1, hc2, h2⟩
  · cases h
  obtain ⟨t0, t1, t2, t3, t4, -⟩ := id h2
  have H1 := Lib.hid h1; clear h1
  have H2 := Lib.hid h2; clear h2
  have H3 := Lib.hid h3; clear h3
  have H4 := Lib.hid h4; clear h4
  simp only [List.length_cons] at hc1
  simp only [List.length_cons] at q
  have hp0 : (0 : Int) < (r.length : Int) + 1 := by omega
  have hp1 : ((r.length : Int) + 1 == 0) = false := by rw [beq_eq_false_iff_ne]; omega
  go_enter Tryd.func19, Tryd.ntmps19
  go_wp2_with fail
  refine (hcl _).mono ?_
  rintro e w2 ⟨rfl, hb2⟩
  obtain ⟨hk3, hk4, hb2, hs2⟩ := two_of hb2
  have HPS2 := Lib.hid (HPS.out.same hb2)
  have HB2 := Lib.hid hb2
  have hq2 := block_below H1.out hb2 hlt
  clear q f t0 t1 t2 t3 t4 hcl hb2
  have q := cell_of_block hq2
  have f := free_of_block hq2
  have q3 := cell_of_block hk3
  have q4 := cell_of_block hk4
  have f4 := free_of_block hk4
  simp only [List.length_cons] at q
  have HK4 := Lib.hid hk4
  have hs3 : w.heap.size < w2.heap.size := by omega
  have hs4 : w.heap.size + 1 < w2.heap.size := by omega
  have hs5 : b < w2.heap.size := by omega
  clear hq2 hk3 hk4
  go_wp2_with fail
  go_region
  go_wp2_with fail
  all_goals
    refine calls_world (fun W => PS W b g E deep r tree row ∧ Turn b row w W) ?_ ?_
    · constructor
      · (repeat' (first | (with_reducible refine PS.drew ?_) | (with_reducible refine PS.alloc ?_ _)))
        exact PS.pop (t := t) (off := off) (cap := cap) (by (repeat' (with_reducible refine PS.setFar ?_ hbk hrk _ _)); exact HPS2.out) (by (repeat rw [cell_far hbk']); exact q 0) _ _ (by first | exact .inl ⟨by assumption, rfl, rfl⟩ | exact .inr ⟨by assumption, rfl, rfl⟩)
      · (repeat' (first | (with_reducible refine Turn.drew ?_) | (with_reducible refine Turn.alloc ?_ _) | (with_reducible refine Turn.setFar ?_ (Nat.le_succ _) _ _) | (with_reducible refine Turn.set ?_ _ _)))
        exact Turn.of_below HB2.out
    rintro W ⟨hps, ht⟩
    have hn6 := node_any W b g E deep r tree row hps ⟨1, t.c, t.s, [], 0, 0, 0, 0, t.place⟩ (.slice none 0 0) [] (.inl ⟨rfl, none, 0, rfl⟩) (by simp) hmax
    simp only [nodeCells] at hn6
    refine hn6.mono ?_
    rintro e w6 ⟨rfl, row6, hps6, hnr6, ht6⟩
    have HNR6 := Lib.hid (NewRow.trans (.inl rfl) ht.size hnr6 : NewRow w row row6)
    have HT6 := Lib.hid (ht.trans (.inl rfl) ht6)
    have HPS6 := Lib.hid hps6
    clear hn6 hnr6 ht6 hps6 hps ht q f q3 q4 f4
    go_wp2_with fail
    go_ret
    exact ⟨rfl, row6, HPS6.out, HNR6.out, HT6.out⟩
set_option maxHeartbeats 4000000 in
set_option maxRecDepth 100000 in
theorem atom_true (w : World) (b g E deep : Nat) (t : Tok) (r : List Tok) (tree : List Node) (row : Option Nat) (h : PS w b g E deep (t :: r) tree row) (h11 : 11 ≤ b) (hmax : tree.length ≤ 1000)
    (co : Nat) (ca : List UInt8) (cm : Int) (cok : Bool) (hcl : ∀ W, Calls Tryd.prog 29 #[.string (bs t.text)] W fun e w' => e = .returned (.tuple #[.agg #[.int .u8 co, .string (bs ca), .int .i64 cm], .bool cok]) ∧ Below W.heap.size W w') (hkb : (((t.kind : Nat) : Int) == 2) = false) (ht : (t.text == [116, 114, 117, 101]) = true) :
    Calls Tryd.prog 19 #[.pointer (some ⟨b, 0, none⟩)] w (PPost b g E deep row w (.ok tree.length r (tree ++ [leaf 2 0 0 [] t.place]))) := by
  have hlt := h.lt
  have hrg := h.row_gt
  have hbk : b < w.heap.size + 1 := by omega
  have hbk' : b ≠ w.heap.size + 1 := by omega
  have hrk : some (w.heap.size + 1) ≠ row := fun e => by have := (hrg _ e.symm).2; omega
  have HPS := Lib.hid h
  have HRG := Lib.hid hrg; clear hrg
  obtain ⟨lv, tv, h1, h2, h3, h4, h5⟩ := h
  have q := cell_of_block h1
  have f := free_of_block h1
  rcases h2 with ⟨h, _⟩ | ⟨-, off, cap, rfl, hc1, hc2, h2⟩
  · cases h
  obtain ⟨t0, t1, t2, t3, t4, -⟩ := id h2
  have H1 := Lib.hid h1; clear h1
  have H2 := Lib.hid h2; clear h2
  have H3 := Lib.hid h3; clear h3
  have H4 := Lib.hid h4; clear h4
  simp only [List.length_cons] at hc1
  simp only [List.length_cons] at q
  have hp0 : (0 : Int) < (r.length : Int) + 1 := by omega
  have hp1 : ((r.length : Int) + 1 == 0) = false := by rw [beq_eq_false_iff_ne]; omega
  go_enter Tryd.func19, Tryd.ntmps19
  go_wp2_with fail
  refine (hcl _).mono ?_
  rintro e w2 ⟨rfl, hb2⟩
  obtain ⟨hk3, hk4, hb2, hs2⟩ := two_of hb2
  have HPS2 := Lib.hid (HPS.out.same hb2)
  have HB2 := Lib.hid hb2
  have hq2 := block_below H1.out hb2 hlt
  clear q f t0 t1 t2 t3 t4 hcl hb2
  have q := cell_of_block hq2
  have f := free_of_block hq2
  have q3 := cell_of_block hk3
  have q4 := cell_of_block hk4
  have f4 := free_of_block hk4
  simp only [List.length_cons] at q
  have HK4 := Lib.hid hk4
  have hs3 : w.heap.size < w2.heap.size := by omega
  have hs4 : w.heap.size + 1 < w2.heap.size := by omega
  have hs5 : b < w2.heap.size := by omega
  clear hq2 hk3 hk4
  go_wp2_with fail
  all_goals
    refine calls_world (fun W => PS W b g E deep r tree row ∧ Turn b row w W) ?_ ?_
    · constructor
      · (repeat' (first | (with_reducible refine PS.drew ?_) | (with_reducible refine PS.alloc ?_ _)))
        exact PS.pop (t := t) (off := off) (cap := cap) (by (repeat' (with_reducible refine PS.setFar ?_ hbk hrk _ _)); exact HPS2.out) (by (repeat rw [cell_far hbk']); exact q 0) _ _ (by first | exact .inl ⟨by assumption, rfl, rfl⟩ | exact .inr ⟨by assumption, rfl, rfl⟩)
      · (repeat' (first | (with_reducible refine Turn.drew ?_) | (with_reducible refine Turn.alloc ?_ _) | (with_reducible refine Turn.setFar ?_ (Nat.le_succ _) _ _) | (with_reducible refine Turn.set ?_ _ _)))
        exact Turn.of_below HB2.out
    rintro W ⟨hps, ht⟩
    have hn6 := node_any W b g E deep r tree row hps ⟨2, 0, 0, [], 0, 0, 0, 0, t.place⟩ (.slice none 0 0) [] (.inl ⟨rfl, none, 0, rfl⟩) (by simp) hmax
    simp only [nodeCells] at hn6
    refine hn6.mono ?_
    rintro e w6 ⟨rfl, row6, hps6, hnr6, ht6⟩
    have HNR6 := Lib.hid (NewRow.trans (.inl rfl) ht.size hnr6 : NewRow w row row6)
    have HT6 := Lib.hid (ht.trans (.inl rfl) ht6)
    have HPS6 := Lib.hid hps6
    clear hn6 hnr6 ht6 hps6 hps ht q f q3 q4 f4
    go_wp2_with fail
    go_ret
    exact ⟨rfl, row6, HPS6.out, HNR6.out, HT6.out⟩
set_option maxHeartbeats 4000000 in
set_option maxRecDepth 100000 in
theorem atom_false (w : World) (b g E deep : Nat) (t : Tok) (r : List Tok) (tree : List Node) (row : Option Nat) (h : PS w b g E deep (t :: r) tree row) (h11 : 11 ≤ b) (hmax : tree.length ≤ 1000)
    (co : Nat) (ca : List UInt8) (cm : Int) (cok : Bool) (hcl : ∀ W, Calls Tryd.prog 29 #[.string (bs t.text)] W fun e w' => e = .returned (.tuple #[.agg #[.int .u8 co, .string (bs ca), .int .i64 cm], .bool cok]) ∧ Below W.heap.size W w') (hkb : (((t.kind : Nat) : Int) == 2) = false) (ht : (t.text == [116, 114, 117, 101]) = false) (hf : (t.text == [102, 97, 108, 115, 101]) = true) :
    Calls Tryd.prog 19 #[.pointer (some ⟨b, 0, none⟩)] w (PPost b g E deep row w (.ok tree.length r (tree ++ [leaf 3 0 0 [] t.place]))) := by
  have hlt := h.lt
  have hrg := h.row_gt
  have hbk : b < w.heap.size + 1 := by omega
  have hbk' : b ≠ w.heap.size + 1 := by omega
  have hrk : some (w.heap.size + 1) ≠ row := fun e => by have := (hrg _ e.symm).2; omega
  have HPS := Lib.hid h
  have HRG := Lib.hid hrg; clear hrg
  obtain ⟨lv, tv, h1, h2, h3, h4, h5⟩ := h
  have q := cell_of_block h1
  have f := free_of_block h1
  rcases h2 with ⟨h, _⟩ | ⟨-, off, cap, rfl, hc1, hc2, h2⟩
  · cases h
  obtain ⟨t0, t1, t2, t3, t4, -⟩ := id h2
  have H1 := Lib.hid h1; clear h1
  have H2 := Lib.hid h2; clear h2
  have H3 := Lib.hid h3; clear h3
  have H4 := Lib.hid h4; clear h4
  simp only [List.length_cons] at hc1
  simp only [List.length_cons] at q
  have hp0 : (0 : Int) < (r.length : Int) + 1 := by omega
  have hp1 : ((r.length : Int) + 1 == 0) = false := by rw [beq_eq_false_iff_ne]; omega
  go_enter Tryd.func19, Tryd.ntmps19
  go_wp2_with fail
  refine (hcl _).mono ?_
  rintro e w2 ⟨rfl, hb2⟩
  obtain ⟨hk3, hk4, hb2, hs2⟩ := two_of hb2
  have HPS2 := Lib.hid (HPS.out.same hb2)
  have HB2 := Lib.hid hb2
  have hq2 := block_below H1.out hb2 hlt
  clear q f t0 t1 t2 t3 t4 hcl hb2
  have q := cell_of_block hq2
  have f := free_of_block hq2
  have q3 := cell_of_block hk3
  have q4 := cell_of_block hk4
  have f4 := free_of_block hk4
  simp only [List.length_cons] at q
  have HK4 := Lib.hid hk4
  have hs3 : w.heap.size < w2.heap.size := by omega
  have hs4 : w.heap.size + 1 < w2.heap.size := by omega
  have hs5 : b < w2.heap.size := by omega
  clear hq2 hk3 hk4
  go_wp2_with fail
  all_goals
    refine calls_world (fun W => PS W b g E deep r tree row ∧ Turn b row w W) ?_ ?_
    · constructor
      · (repeat' (first | (with_reducible refine PS.drew ?_) | (with_reducible refine PS.alloc ?_ _)))
        exact PS.pop (t := t) (off := off) (cap := cap) (by (repeat' (with_reducible refine PS.setFar ?_ hbk hrk _ _)); exact HPS2.out) (by (repeat rw [cell_far hbk']); exact q 0) _ _ (by first | exact .inl ⟨by assumption, rfl, rfl⟩ | exact .inr ⟨by assumption, rfl, rfl⟩)
      · (repeat' (first | (with_reducible refine Turn.drew ?_) | (with_reducible refine Turn.alloc ?_ _) | (with_reducible refine Turn.setFar ?_ (Nat.le_succ _) _ _) | (with_reducible refine Turn.set ?_ _ _)))
        exact Turn.of_below HB2.out
    rintro W ⟨hps, ht⟩
    have hn6 := node_any W b g E deep r tree row hps ⟨3, 0, 0, [], 0, 0, 0, 0, t.place⟩ (.slice none 0 0) [] (.inl ⟨rfl, none, 0, rfl⟩) (by simp) hmax
    simp only [nodeCells] at hn6
    refine hn6.mono ?_
    rintro e w6 ⟨rfl, row6, hps6, hnr6, ht6⟩
    have HNR6 := Lib.hid (NewRow.trans (.inl rfl) ht.size hnr6 : NewRow w row row6)
    have HT6 := Lib.hid (ht.trans (.inl rfl) ht6)
    have HPS6 := Lib.hid hps6
    clear hn6 hnr6 ht6 hps6 hps ht q f q3 q4 f4
    go_wp2_with fail
    go_ret
    exact ⟨rfl, row6, HPS6.out, HNR6.out, HT6.out⟩
end Go.Proofs.YtfkieomelkopeaaDoor
