/-
  atom: a call, an expression in parentheses, a field.
-/
import Derived.Test.YtfkieomelkopeaaDoorWAtom
namespace Go.Proofs.YtfkieomelkopeaaDoor
open Go.RowKit
set_option maxHeartbeats 4000000 in
set_option maxRecDepth 100000 in
theorem atom_field_no (w : World) (b g E deep : Nat) (t : Tok) (r : List Tok) (tree : List Node) (row : Option Nat) (h : PS w b g E deep (t :: r) tree row) (h11 : 11 ≤ b) (hmax : tree.length ≤ 1000)
    (co : Nat) (ca : List UInt8) (cm : Int) (cok : Bool) (hsp : Spaces w) (hcl : ∀ W, Calls Tryd.prog 29 #[.string (bs t.text)] W fun e w' => e = .returned (.tuple #[.agg #[.int .u8 co, .string (bs ca), .int .i64 cm], .bool cok]) ∧ Below W.heap.size W w') (hkb : (((t.kind : Nat) : Int) == 2) = false) (ht : (t.text == [116, 114, 117, 101]) = false) (hf : (t.text == [102, 97, 108, 115, 101]) = false) (hp : (t.text == [40]) = false) (hok : cok = false) (hn : isFieldW isName (t :: r) = false) :
    Calls Tryd.prog 19 #[.pointer (some ⟨b, 0, none⟩)] w (PPost b g E deep row w (.err t.place 4)) := by
  subst hok
  have hps0 := h
  have hlt := h.lt
  have hrg := h.row_gt
  have hbk : b < w.heap.size + 1 := by omega
  have hbk' : b ≠ w.heap.size + 1 := by omega
  have hrk : some (w.heap.size + 1) ≠ row := fun e => by have := (hrg _ e.symm).2; omega
  have HPS := Lib.hid h
  have HRG := Lib.hid hrg; clear hrg
  obtain ⟨lv, tv, h1, h2, h3, h4, h5⟩ := h
  have q := cell_of_block h1
  have f := free_of_block h1
  rcases h2 with ⟨h, _⟩ | ⟨-, off, cap, rfl, hc1, hc2, h2⟩
  · cases h
  obtain ⟨t0, t1, t2, t3, t4, -⟩ := id h2
  have H1 := Lib.hid h1; clear h1
  have H2 := Lib.hid h2; clear h2
  have H3 := Lib.hid h3; clear h3
  have H4 := Lib.hid h4; clear h4
  simp only [List.length_cons] at hc1
  simp only [List.length_cons] at q
  have hp0 : (0 : Int) < (r.length : Int) + 1 := by omega
  have hp1 : ((r.length : Int) + 1 == 0) = false := by rw [beq_eq_false_iff_ne]; omega
  have HSP := Lib.hid hsp; clear hsp
  go_enter Tryd.func19, Tryd.ntmps19
  go_wp2_with fail
  refine (hcl _).mono ?_
  rintro e w2 ⟨rfl, hb2⟩
  obtain ⟨hk3, hk4, hb2, hs2⟩ := two_of hb2
  have HPS2 := Lib.hid (HPS.out.same hb2)
  have HB2 := Lib.hid hb2
  have hq2 := block_below H1.out hb2 hlt
  clear q f t0 t1 t2 t3 t4 hcl hb2
  have q := cell_of_block hq2
  have f := free_of_block hq2
  have q3 := cell_of_block hk3
  have q4 := cell_of_block hk4
  have f4 := free_of_block hk4
  simp only [List.length_cons] at q
  have HK4 := Lib.hid hk4
  have hs3 : w.heap.size < w2.heap.size := by omega
  have hs4 : w.heap.size + 1 < w2.heap.size := by omega
  have hs5 : b < w2.heap.size := by omega
  clear hq2 hk3 hk4
  have hps3 : ∀ o, PS (w2.alloc o) b g E deep (t :: r) tree row := fun o => HPS2.out.alloc o
  have hsp3 : ∀ o, Spaces (w2.alloc o) := fun o => space_below HSP.out (HB2.out.alloc HB2.out.size o) (by omega)
  have hfn := field_no (w2.alloc (.cells #[.int .u8 co, .string (bs ca), .int .i64 cm] 61)) b g E deep (t :: r) tree row (hps3 _) (hsp3 _) h11 hn
  have hpe : pos E (t :: r) = t.place := rfl
  rw [hpe] at hfn
  clear hps3 hsp3 hps0 hn hpe
  go_wp2_with fail
  refine hfn.mono ?_
  rintro e w5 ⟨rfl, hb5⟩
  have HB5 := Lib.hid (((HB2.out.mono (by omega) : Below b w w2).alloc (by omega) (.cells #[.int .u8 co, .string (bs ca), .int .i64 cm] 61)).trans (hb5.mono (by simp; omega))); clear hb5 hfn
  go_wp2_with fail
  exact ⟨rfl, rfl, HB5.out⟩
set_option maxHeartbeats 4000000 in
set_option maxRecDepth 100000 in
theorem atom_field (w : World) (b g E deep : Nat) (t : Tok) (r : List Tok) (tree : List Node) (row : Option Nat) (h : PS w b g E deep (t :: r) tree row) (h11 : 11 ≤ b) (hmax : tree.length ≤ 1000)
    (co : Nat) (ca : List UInt8) (cm : Int) (cok : Bool) (hsp : Spaces w) (hcl : ∀ W, Calls Tryd.prog 29 #[.string (bs t.text)] W fun e w' => e = .returned (.tuple #[.agg #[.int .u8 co, .string (bs ca), .int .i64 cm], .bool cok]) ∧ Below W.heap.size W w') (hkb : (((t.kind : Nat) : Int) == 2) = false) (ht : (t.text == [116, 114, 117, 101]) = false) (hf : (t.text == [102, 97, 108, 115, 101]) = false) (hp : (t.text == [40]) = false) (hok : cok = false) (hk1 : t.kind = 1) (hn : isName t.text = true) :
    Calls Tryd.prog 19 #[.pointer (some ⟨b, 0, none⟩)] w (PPost b g E deep row w (.ok tree.length r (tree ++ [leaf 4 0 0 t.text t.place]))) := by
  subst hok
  have hlt := h.lt
  have hrg := h.row_gt
  have hbk : b < w.heap.size + 1 := by omega
  have hbk' : b ≠ w.heap.size + 1 := by omega
  have hrk : some (w.heap.size + 1) ≠ row := fun e => by have := (hrg _ e.symm).2; omega
  have HPS := Lib.hid h
  have HRG := Lib.hid hrg; clear hrg
  obtain ⟨lv, tv, h1, h2, h3, h4, h5⟩ := h
  have q := cell_of_block h1
  have f := free_of_block h1
  rcases h2 with ⟨h, _⟩ | ⟨-, off, cap, rfl, hc1, hc2, h2⟩
  · cases h
  obtain ⟨t0, t1, t2, t3, t4, -⟩ := id h2
  have H1 := Lib.hid h1; clear h1
  have H2 := Lib.hid h2; clear h2
  have H3 := Lib.hid h3; clear h3
  have H4 := Lib.hid h4; clear h4
  simp only [List.length_cons] at hc1
  simp only [List.length_cons] at q
  have hp0 : (0 : Int) < (r.length : Int) + 1 := by omega
  have hp1 : ((r.length : Int) + 1 == 0) = false := by rw [beq_eq_false_iff_ne]; omega
  have HSP := Lib.hid hsp; clear hsp
  go_enter Tryd.func19, Tryd.ntmps19
  go_wp2_with fail
  refine (hcl _).mono ?_
  rintro e w2 ⟨rfl, hb2⟩
  obtain ⟨hk3, hk4, hb2, hs2⟩ := two_of hb2
  have HPS2 := Lib.hid (HPS.out.same hb2)
  have HB2 := Lib.hid hb2
  have hq2 := block_below H1.out hb2 hlt
  clear q f t0 t1 t2 t3 t4 hcl hb2
  have q := cell_of_block hq2
  have f := free_of_block hq2
  have q3 := cell_of_block hk3
  have q4 := cell_of_block hk4
  have f4 := free_of_block hk4
  simp only [List.length_cons] at q
  have HK4 := Lib.hid hk4
  have hs3 : w.heap.size < w2.heap.size := by omega
  have hs4 : w.heap.size + 1 < w2.heap.size := by omega
  have hs5 : b < w2.heap.size := by omega
  clear hq2 hk3 hk4
  have hps3 : ∀ o, PS (w2.alloc o) b g E deep (t :: r) tree row := fun o => HPS2.out.alloc o
  have hsp3 : ∀ o, Spaces (w2.alloc o) := fun o => space_below HSP.out (HB2.out.alloc HB2.out.size o) (by omega)
  have hfn := field_yes (w2.alloc (.cells #[.int .u8 co, .string (bs ca), .int .i64 cm] 61)) b g E deep t r tree row (hps3 _) (hsp3 _) h11 hk1 hn
  clear hps3 hsp3 hn hk1
  go_wp2_with fail
  refine hfn.mono ?_
  rintro e w5 ⟨rfl, hps5, ht5⟩
  have hk5 : w5.heap[w.heap.size + 1]? = _ := (ht5.block (w.heap.size + 1) (by simp; omega) (by omega) (by simp)).trans ((Below.heap_alloc _ _ _ hs4).trans HK4.out)
  have q5 := cell_of_block hk5
  have f5 := free_of_block hk5
  have HK5 := Lib.hid hk5
  have HPS5 := Lib.hid hps5
  have HT5 := Lib.hid (((Turn.of_below HB2.out : Turn b row w w2).alloc _).seq ht5.none_to)
  clear hps5 ht5 hfn q f q3 q4 f4 hk5
  go_wp2_with fail
  refine calls_world (fun W => PS W b g E deep r tree row ∧ Turn b row w W) ?_ ?_
  · constructor
    · (repeat' (with_reducible refine PS.setFar ?_ hbk hrk _ _)); exact HPS5.out
    · (repeat' (with_reducible refine Turn.setFar ?_ (Nat.le_succ _) _ _)); exact HT5.out
  rintro W ⟨hps, ht⟩
  have hn6 := node_any W b g E deep r tree row hps ⟨4, 0, 0, t.text, 0, 0, 0, 0, t.place⟩ (.slice none 0 0) [] (.inl ⟨rfl, none, 0, rfl⟩) (by simp) hmax
  simp only [nodeCells] at hn6
  refine hn6.mono ?_
  rintro e w6 ⟨rfl, row6, hps6, hnr6, ht6⟩
  have HNR6 := Lib.hid (NewRow.trans (.inl rfl) ht.size hnr6 : NewRow w row row6)
  have HT6 := Lib.hid (ht.trans (.inl rfl) ht6)
  have HPS6 := Lib.hid hps6
  clear hn6 hnr6 ht6 hps6 hps ht q5 f5
  go_wp2_with fail
  go_ret
  exact ⟨rfl, row6, HPS6.out, HNR6.out, HT6.out⟩
end Go.Proofs.YtfkieomelkopeaaDoor
