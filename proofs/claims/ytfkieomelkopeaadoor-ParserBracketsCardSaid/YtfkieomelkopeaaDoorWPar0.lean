/-
  How the parser lies in memory: its block, the words that are left, the row of nodes; its small readers walked: at, is, fail.
-/
import Derived.Test.YtfkieomelkopeaaDoorPParse
import Derived.Test.YtfkieomelkopeaaDoorWName
import Derived.Maps.AppendAt
namespace Go.Proofs.YtfkieomelkopeaaDoor
open Go.RowKit

/-- Words lie in block g from offset off on. -/
def TokAt (w : World) (g : Nat) : Nat → List Tok → Prop
  | _, [] => True
  | off, t :: r => w.cell? ⟨g, off, none⟩ = some (.int .u8 t.kind) ∧ w.cell? ⟨g, off + 1, none⟩ = some (.string (bs t.text)) ∧ w.cell? ⟨g, off + 2, none⟩ = some (.int .i64 t.c) ∧
      w.cell? ⟨g, off + 3, none⟩ = some (.int .i64 t.s) ∧ w.cell? ⟨g, off + 4, none⟩ = some (.int .i64 t.place) ∧ TokAt w g (off + 5) r
theorem TokAt.below {w w' : World} {g B : Nat} (hb : Below B w w') (hg : g < B) : ∀ {toks : List Tok} {off : Nat}, TokAt w g off toks → TokAt w' g off toks
  | [], _, _ => trivial
  | t :: r, off, ⟨h1, h2, h3, h4, h5, h6⟩ => by
    have k : ∀ o, w'.cell? ⟨g, o, none⟩ = w.cell? ⟨g, o, none⟩ := fun o => hb.cell (p := ⟨g, o, none⟩) hg
    exact ⟨by rw [k]; exact h1, by rw [k]; exact h2, by rw [k]; exact h3, by rw [k]; exact h4, by rw [k]; exact h5, TokAt.below hb hg h6⟩
/-- A slice that reads as these words. -/
def IsToks (w : World) (g : Nat) (v : Value) (toks : List Tok) : Prop :=
  (toks = [] ∧ ∃ a c, v = .slice a 0 c) ∨ (toks ≠ [] ∧ ∃ off cap, v = .slice (some ⟨g, off, none⟩) toks.length cap ∧ toks.length ≤ cap ∧ cap ≤ maxLen ∧ TokAt w g off toks)
theorem IsToks.below {w w' : World} {g B : Nat} {v : Value} {toks : List Tok} (h : IsToks w g v toks) (hb : Below B w w') (hg : g < B) : IsToks w' g v toks := by
  rcases h with h | ⟨h1, off, cap, h2, h3, h4, h5⟩
  · exact .inl h
  · exact .inr ⟨h1, off, cap, h2, h3, h4, h5.below hb hg⟩
def nodeCells (n : Node) : List Value := [.int .u8 n.op, .int .i64 n.c, .int .i64 n.s, .string (bs n.name), .int .i64 n.k, .int .i64 n.k0, .int .i64 n.k1, .int .i64 n.k2, .int .i64 n.place]
def flatNodes (l : List Node) : List Value := l.flatMap nodeCells
theorem flatNodes_snoc (l : List Node) (t : Node) : flatNodes (l ++ [t]) = flatNodes l ++ nodeCells t := by simp [flatNodes]
/-- The parser p in block b; the words in block g; 'row' is the block of its nodes, if there are any. -/
def PS (w : World) (b g E deep : Nat) (toks : List Tok) (tree : List Node) (row : Option Nat) : Prop :=
  ∃ lv tv, w.heap[b]? = some (.cells #[lv, .int .i64 E, .int .i64 deep, tv] 43 (0, 0)) ∧ IsToks w g lv toks ∧ w.ownsRow (b + 1) 34 9 tv tree.length (flatNodes tree) ∧ tv.ownBlock = row ∧ g < b
/-- Of what was there only block b and the row may have turned. -/
structure Turn (b : Nat) (row : Option Nat) (w w' : World) : Prop where
  os : w'.os = w.os
  tape : w'.tape = w.tape
  output : w'.output = w.output
  size : w.heap.size ≤ w'.heap.size
  block : ∀ k, k < w.heap.size → k ≠ b → some k ≠ row → w'.heap[k]? = w.heap[k]?
/-- The row is the one that it was, or a new one. -/
def NewRow (w : World) (row row' : Option Nat) : Prop := row' = row ∨ ∃ k, row' = some k ∧ w.heap.size ≤ k
theorem Turn.refl (b : Nat) (row : Option Nat) (w : World) : Turn b row w w := ⟨rfl, rfl, rfl, Nat.le_refl _, fun _ _ _ _ => rfl⟩
theorem Turn.trans {b : Nat} {row row' : Option Nat} {a c d : World} (h : Turn b row a c) (hr : NewRow a row row') (k : Turn b row' c d) : Turn b row a d :=
  ⟨k.os.trans h.os, k.tape.trans h.tape, k.output.trans h.output, Nat.le_trans h.size k.size, fun j hj h1 h2 => by
    have := h.size
    refine (k.block j (by omega) h1 (fun e => ?_)).trans (h.block j hj h1 h2)
    rcases hr with rfl | ⟨m, rfl, hm⟩
    · exact h2 e
    · cases e; omega⟩
theorem NewRow.trans {a c : World} {r r' r'' : Option Nat} (h : NewRow a r r') (hs : a.heap.size ≤ c.heap.size) (k : NewRow c r' r'') : NewRow a r r'' := by
  rcases k with rfl | ⟨m, rfl, hm⟩
  · exact h
  · exact .inr ⟨m, rfl, by omega⟩
theorem Turn.of_below {b : Nat} {row : Option Nat} {w w' : World} (h : Below w.heap.size w w') : Turn b row w w' := ⟨h.os, h.tape, h.output, h.size, fun k hk _ _ => h.block k hk⟩
theorem Turn.below {b : Nat} {row : Option Nat} {w w' : World} (h : Turn b row w w') (hb : b < w.heap.size) (hr : ∀ k, row = some k → b ≤ k) : Below b w w' :=
  ⟨h.os, h.tape, h.output, h.size, fun k hk => h.block k (by omega) (by omega) (fun e => by have := hr k e.symm; omega)⟩
theorem PS.lt {w : World} {b g E deep : Nat} {toks : List Tok} {tree : List Node} {row : Option Nat} (h : PS w b g E deep toks tree row) : b < w.heap.size := by
  obtain ⟨_, _, h1, _⟩ := h; exact lt_of_block h1
theorem PS.row_gt {w : World} {b g E deep : Nat} {toks : List Tok} {tree : List Node} {row : Option Nat} (h : PS w b g E deep toks tree row) : ∀ k, row = some k → b < k ∧ k < w.heap.size := by
  obtain ⟨lv, tv, h1, h2, h3, h4, h5⟩ := h
  intro k hk
  have := h3.lt k (h4.trans hk)
  omega
/-- What leaves the parser's block, its words and its row alone keeps it. -/
theorem PS.same {w w' : World} {b g E deep : Nat} {toks : List Tok} {tree : List Node} {row : Option Nat} (h : PS w b g E deep toks tree row) (hb : Below w.heap.size w w') : PS w' b g E deep toks tree row := by
  have hlt := h.lt
  obtain ⟨lv, tv, h1, h2, h3, h4, h5⟩ := h
  exact ⟨lv, tv, block_below h1 hb (lt_of_block h1), h2.below hb (by omega), ownsRow_below h3 hb (Nat.le_refl _), h4, h5⟩

theorem bne_two (k : Nat) : ((k : Int) != 2) = decide (k ≠ 2) := by
  rw [Bool.eq_iff_iff, bne_iff_ne, decide_eq_true_iff]; omega
set_option maxHeartbeats 1000000 in
set_option maxRecDepth 100000 in
theorem at_any (w : World) (b g E deep : Nat) (toks : List Tok) (tree : List Node) (row : Option Nat) (h : PS w b g E deep toks tree row) :
    Calls Tryd.prog 20 #[.pointer (some ⟨b, 0, none⟩)] w fun e w' => e = .returned (.int .i64 (pos E toks : Nat)) ∧ w = w' := by
  obtain ⟨lv, tv, h1, h2, -, -, -⟩ := h
  have q := cell_of_block h1
  cases toks with
  | nil =>
    rcases h2 with ⟨-, a, c, rfl⟩ | ⟨h, _⟩
    · clear h1
      go_enter Tryd.func20, Tryd.ntmps20
      go_wp2_with fail
      go_ret
      exact ⟨rfl, rfl⟩
    · exact absurd rfl h
  | cons t r =>
    rcases h2 with ⟨h, _⟩ | ⟨-, off, cap, rfl, hc1, hc2, t0, t1, t2, t3, t4, t5⟩
    · cases h
    · clear h1 t5
      simp only [List.length_cons] at *
      have hp : (0 : Int) < (r.length : Int) + 1 := by omega
      go_enter Tryd.func20, Tryd.ntmps20
      go_wp2_with fail
      go_ret
      exact ⟨rfl, rfl⟩
set_option maxHeartbeats 1000000 in
set_option maxRecDepth 100000 in
theorem is_any (w : World) (b g E deep : Nat) (toks : List Tok) (tree : List Node) (row : Option Nat) (h : PS w b g E deep toks tree row) (text : List UInt8) :
    Calls Tryd.prog 44 #[.pointer (some ⟨b, 0, none⟩), .string (bs text)] w fun e w' => e = .returned (.bool (isW toks text)) ∧ w = w' := by
  obtain ⟨lv, tv, h1, h2, -, -, -⟩ := h
  have q := cell_of_block h1
  cases toks with
  | nil =>
    rcases h2 with ⟨-, a, c, rfl⟩ | ⟨h, _⟩
    · clear h1
      go_enter Tryd.func44, Tryd.ntmps44
      go_wp2_with fail
      go_ret
      exact ⟨rfl, rfl⟩
    · exact absurd rfl h
  | cons t r =>
    rcases h2 with ⟨h, _⟩ | ⟨-, off, cap, rfl, hc1, hc2, t0, t1, t2, t3, t4, t5⟩
    · cases h
    · clear h1 t5
      simp only [List.length_cons] at *
      have hp : (0 : Int) < (r.length : Int) + 1 := by omega
      go_enter Tryd.func44, Tryd.ntmps44
      go_wp2_with fail
      · go_ret
        refine ⟨ret_bool ?_, rfl⟩
        have ht : t.text = text := by assumption
        rw [show isW (t :: r) text = (decide (t.text = text) && decide (t.kind ≠ 2)) from rfl, decide_eq_true ht, Bool.true_and, bne_two]
      · go_ret
        refine ⟨ret_bool ?_, rfl⟩
        have ht : ¬ t.text = text := by assumption
        rw [show isW (t :: r) text = (decide (t.text = text) && decide (t.kind ≠ 2)) from rfl, decide_eq_false ht, Bool.false_and]
/-- What parsing is given up with. -/
def stopChain (place e : Nat) : List PanicEntry := [{ v := .iface 40 (.agg #[.int .i64 place, .int .i64 e]), recovered := false }]
set_option maxHeartbeats 1000000 in
set_option maxRecDepth 100000 in
theorem fail_any (w : World) (b g E deep : Nat) (toks : List Tok) (tree : List Node) (row : Option Nat) (h : PS w b g E deep toks tree row) (er : Int) :
    Calls Tryd.prog 10 #[.pointer (some ⟨b, 0, none⟩), .int .i64 er] w fun e w' => e = .panicked [{ v := .iface 40 (.agg #[.int .i64 (pos E toks : Nat), .int .i64 er]), recovered := false }] ∧ w = w' := by
  have k := at_any w b g E deep toks tree row h
  go_enter Tryd.func10, Tryd.ntmps10
  go_wp2_with fail
  refine k.mono ?_; rintro e w' ⟨rfl, rfl⟩
  go_wp2_with fail
  exact ⟨rfl, rfl, rfl⟩
theorem Turn.set {b : Nat} {row : Option Nat} {w w' : World} (h : Turn b row w w') (o : Nat) (v : Value) : Turn b row w (w'.setCell ⟨b, o, none⟩ v) :=
  ⟨h.os, h.tape, h.output, by have := h.size; simpa [World.setCell] using this, fun k hk h1 h2 => by rw [Below.heap_setCell _ _ _ _ h1]; exact h.block k hk h1 h2⟩
/-- A cell of the parser's own block written. -/
theorem PS.write {w : World} {b g E' deep' : Nat} {toks : List Tok} {tree : List Node} {row : Option Nat} {lv' tv : Value} {C : Array Value} (o : Nat) (v : Value)
    (h1 : w.heap[b]? = some (.cells C 43 (0, 0))) (hC : C.setIfInBounds o v = #[lv', .int .i64 E', .int .i64 deep', tv])
    (h2 : IsToks w g lv' toks) (h3 : w.ownsRow (b + 1) 34 9 tv tree.length (flatNodes tree)) (h4 : tv.ownBlock = row) (h5 : g < b) :
    PS (w.setCell ⟨b, o, none⟩ v) b g E' deep' toks tree row :=
  ⟨lv', tv, by rw [heap_setCell_eq, h1]; simp only [Option.map_some, objSet]; rw [hC], h2.below ((Below.refl b w).setCell (p := ⟨b, o, none⟩) (Nat.le_refl _) v) h5,
    ownsRow_setCell_below h3 (a := ⟨b, o, none⟩) (Nat.lt_succ_self b) v, h4, h5⟩
theorem tail_a {w : World} {g off cap : Nat} {t : Tok} {r : List Tok} (hc1 : r.length + 1 ≤ cap) (h : cap = 1) : IsToks w g (.slice (some ⟨g, off, none⟩) r.length 0) r := by
  have : r = [] := List.eq_nil_of_length_eq_zero (by omega)
  subst this
  exact .inl ⟨rfl, _, _, rfl⟩
theorem tail_b {w : World} {g off cap : Nat} {t : Tok} {r : List Tok} (hc1 : r.length + 1 ≤ cap) (hc2 : cap ≤ maxLen) (h2 : TokAt w g off (t :: r)) : IsToks w g (.slice (some ⟨g, off + 5, none⟩) r.length (cap - 1)) r := by
  obtain ⟨-, -, -, -, -, h2⟩ := h2
  cases r with
  | nil => exact .inl ⟨rfl, _, _, rfl⟩
  | cons u r => exact .inr ⟨by simp, _, _, rfl, by simp at hc1 ⊢; omega, by omega, h2⟩
set_option maxHeartbeats 1000000 in
set_option maxRecDepth 100000 in
theorem has_yes (w : World) (b g E deep : Nat) (toks : List Tok) (tree : List Node) (row : Option Nat) (h : PS w b g E deep toks tree row) (text : List UInt8) (hy : isW toks text = true) :
    Calls Tryd.prog 46 #[.pointer (some ⟨b, 0, none⟩), .string (bs text)] w fun e w' => e = .returned (.bool true) ∧ PS w' b g E deep toks.tail tree row ∧ Turn b none w w' := by
  have k := is_any w b g E deep toks tree row h text
  rw [hy] at k
  obtain ⟨lv, tv, h1, h2, h3, h4, h5⟩ := h
  have q := cell_of_block h1
  have f := free_of_block h1
  cases toks with
  | nil => simp [isW] at hy
  | cons t r =>
    rcases h2 with ⟨h, _⟩ | ⟨-, off, cap, rfl, hc1, hc2, h2⟩
    · cases h
    · have H1 := Lib.hid h1; clear h1
      have H4 := Lib.hid h4; clear h4 hy
      have H3 := Lib.hid h3; clear h3
      simp only [List.length_cons] at *
      go_enter Tryd.func46, Tryd.ntmps46
      go_wp2_with fail
      refine k.mono ?_; rintro e w' ⟨rfl, rfl⟩
      clear k
      go_wp2_with fail
      · go_ret
        exact ⟨rfl, PS.write 0 _ H1.out rfl (tail_a (t := t) hc1 (by assumption)) H3.out H4.out h5, (Turn.refl _ _ _).set _ _⟩
      · go_ret
        exact ⟨rfl, PS.write 0 _ H1.out rfl (tail_b hc1 hc2 h2) H3.out H4.out h5, (Turn.refl _ _ _).set _ _⟩
set_option maxHeartbeats 1000000 in
set_option maxRecDepth 100000 in
theorem has_no (w : World) (b g E deep : Nat) (toks : List Tok) (tree : List Node) (row : Option Nat) (h : PS w b g E deep toks tree row) (text : List UInt8) (hy : isW toks text = false) :
    Calls Tryd.prog 46 #[.pointer (some ⟨b, 0, none⟩), .string (bs text)] w fun e w' => e = .returned (.bool false) ∧ w = w' := by
  have k := is_any w b g E deep toks tree row h text
  rw [hy] at k
  clear h hy
  go_enter Tryd.func46, Tryd.ntmps46
  go_wp2_with fail
  refine k.mono ?_; rintro e w' ⟨rfl, rfl⟩
  go_wp2_with fail
  go_ret
  exact ⟨rfl, rfl⟩
set_option maxHeartbeats 1000000 in
set_option maxRecDepth 100000 in
theorem must_yes (w : World) (b g E deep : Nat) (toks : List Tok) (tree : List Node) (row : Option Nat) (h : PS w b g E deep toks tree row) (text : List UInt8) (hy : isW toks text = true) :
    Calls Tryd.prog 32 #[.pointer (some ⟨b, 0, none⟩), .string (bs text)] w fun e w' => e = .returned (.tuple #[]) ∧ PS w' b g E deep toks.tail tree row ∧ Turn b none w w' := by
  have k := has_yes w b g E deep toks tree row h text hy
  clear h hy
  go_enter Tryd.func32, Tryd.ntmps32
  go_wp2_with fail
  refine k.mono ?_; rintro e w' ⟨rfl, h1, h2⟩
  go_wp2_with fail
  go_end0
  exact ⟨rfl, h1, h2⟩
set_option maxHeartbeats 1000000 in
set_option maxRecDepth 100000 in
theorem must_no (w : World) (b g E deep : Nat) (toks : List Tok) (tree : List Node) (row : Option Nat) (h : PS w b g E deep toks tree row) (text : List UInt8) (hy : isW toks text = false) :
    Calls Tryd.prog 32 #[.pointer (some ⟨b, 0, none⟩), .string (bs text)] w fun e w' => e = .panicked (stopChain (pos E toks) 4) ∧ w = w' := by
  have k := has_no w b g E deep toks tree row h text hy
  have k2 := fail_any w b g E deep toks tree row h 4
  clear h hy
  go_enter Tryd.func32, Tryd.ntmps32
  go_wp2_with fail
  refine k.mono ?_; rintro e w' ⟨rfl, rfl⟩
  go_wp2_with fail
  refine k2.mono ?_; rintro e w' ⟨rfl, rfl⟩
  go_wp2_with fail
  exact ⟨rfl, rfl, rfl⟩
set_option maxHeartbeats 1000000 in
set_option maxRecDepth 100000 in
theorem open_yes (w : World) (b g E deep : Nat) (toks : List Tok) (tree : List Node) (row : Option Nat) (h : PS w b g E deep toks tree row) (hd : deep < 16) :
    Calls Tryd.prog 31 #[.pointer (some ⟨b, 0, none⟩)] w fun e w' => e = .returned (.tuple #[]) ∧ PS w' b g E (deep + 1) toks tree row ∧ Turn b none w w' := by
  obtain ⟨lv, tv, h1, h2, h3, h4, h5⟩ := h
  have q := cell_of_block h1
  have f := free_of_block h1
  have H1 := Lib.hid h1; clear h1
  have H4 := Lib.hid h4; clear h4
  have H3 := Lib.hid h3; clear h3
  have hd' : (((deep : Nat) : Int) == 16) = false := by rw [beq_eq_false_iff_ne]; omega
  go_enter Tryd.func31, Tryd.ntmps31
  go_wp2_with fail
  go_end0
  exact ⟨rfl, PS.write 2 _ H1.out (by simp) h2 H3.out H4.out h5, (Turn.refl _ _ _).set _ _⟩
set_option maxHeartbeats 1000000 in
set_option maxRecDepth 100000 in
theorem open_no (w : World) (b g E : Nat) (toks : List Tok) (tree : List Node) (row : Option Nat) (h : PS w b g E 16 toks tree row) :
    Calls Tryd.prog 31 #[.pointer (some ⟨b, 0, none⟩)] w fun e w' => e = .panicked (stopChain (pos E toks) 10) ∧ w = w' := by
  have k2 := fail_any w b g E 16 toks tree row h 10
  obtain ⟨lv, tv, h1, h2, h3, h4, h5⟩ := h
  have q := cell_of_block h1
  clear h1 h2 h3 h4
  go_enter Tryd.func31, Tryd.ntmps31
  go_wp2_with fail
  refine k2.mono ?_; rintro e w' ⟨rfl, rfl⟩
  go_wp2_with fail
  exact ⟨rfl, rfl, rfl⟩
end Go.Proofs.YtfkieomelkopeaaDoor
