/-
  Parse hands back the tree of the plain law, in a row of its own; nothing that was there is changed.
-/
import Derived.Test.YtfkieomelkopeaaDoorWCatch
namespace Go.Proofs.YtfkieomelkopeaaDoor
open Go.RowKit
theorem lexGo_len : ∀ (f k : Nat) (r : List UInt8) (acc : List Tok), (lexGo f k r acc).1.length ≤ acc.length + r.length
  | 0, _, _, _ => by simp [lexGo]
  | f + 1, k, [], acc => by simp [lexGo]
  | f + 1, k, c :: r, acc => by
    by_cases h : c = 32
    · subst h; rw [lexGo_space]; have := lexGo_len f (k + 1) r acc; simp; omega
    · by_cases h2 : (wordS (c :: r)).2 = 0
      · rw [lexGo_word h h2]
        have h3 := lexGo_len f (k + (wordS (c :: r)).1.text.length) ((c :: r).drop (wordS (c :: r)).1.text.length) (acc ++ [{ (wordS (c :: r)).1 with place := k }])
        have h4 := wordS_pos c r h2
        simp only [List.length_append, List.length_drop, List.length_cons, List.length_nil] at *
        have := wordS_len c r
        simp at this
        omega
      · rw [lexGo_bad h h2]; simp
theorem lexS_len (l : List UInt8) : (lexS l).1.length ≤ 400 := by
  unfold lexS
  split
  · simp
  · have := lexGo_len (l.length + 1) 0 l []; simp at this; omega
theorem tokAt_of_row {w : World} {g : Nat} : ∀ (toks : List Tok) (off : Nat), (∀ (j : Nat) (u : Value), (flatToks toks)[j]? = some u → w.cell? ⟨g, off + j, none⟩ = some u) → TokAt w g off toks
  | [], _, _ => trivial
  | t :: r, off, h => by
    have e : flatToks (t :: r) = tokCells t ++ flatToks r := by simp [flatToks]
    rw [e] at h
    refine ⟨h 0 _ rfl, h 1 _ rfl, h 2 _ rfl, h 3 _ rfl, h 4 _ rfl, tokAt_of_row r (off + 5) fun j u hj => ?_⟩
    have := h (5 + j) u (by rw [List.getElem?_append_right (by simp [tokCells])]; simpa [tokCells] using hj)
    rwa [← Nat.add_assoc] at this
theorem isToks_of_row {w : World} {base : Nat} {v : Value} {toks : List Tok} (h : w.ownsRow base 47 5 v toks.length (flatToks toks)) : ∃ g, IsToks w g v toks ∧ (toks = [] → g = 0) ∧ (toks ≠ [] → base ≤ g ∧ g < w.heap.size) := by
  obtain ⟨h1, h2⟩ := h
  rcases h2 with ⟨rfl, h⟩ | ⟨g, cap, cur, rfl, hg, hh, hc, hm, hs, ht⟩
  · have : toks = [] := List.eq_nil_of_length_eq_zero h
    subst this
    exact ⟨0, .inl ⟨rfl, none, 0, rfl⟩, fun _ => rfl, fun h => absurd rfl h⟩
  · by_cases hn : toks = []
    · subst hn
      exact ⟨0, .inl ⟨rfl, _, cap, rfl⟩, fun _ => rfl, fun h => absurd rfl h⟩
    · refine ⟨g, .inr ⟨hn, 0, cap, rfl, hc, hm, tokAt_of_row toks 0 fun j u hj => ?_⟩, fun h => absurd h hn, fun _ => ⟨hg, lt_of_block hh⟩⟩
      rw [Nat.zero_add, cell_of_block hh]
      rw [← ht, List.getElem?_take] at hj
      split at hj
      · simpa using hj
      · cases hj
theorem three_of {w w2 : World} {o1 o2 o3 : Obj} (hb : Below (((w.alloc o1).alloc o2).alloc o3).heap.size (((w.alloc o1).alloc o2).alloc o3) w2) : w2.heap[w.heap.size]? = some o1 ∧ w2.heap[w.heap.size + 1]? = some o2 ∧ w2.heap[w.heap.size + 1 + 1]? = some o3 ∧ Below w.heap.size w w2 ∧ w.heap.size + 3 ≤ w2.heap.size := by
  have hs : (((w.alloc o1).alloc o2).alloc o3).heap.size = w.heap.size + 3 := by simp
  refine ⟨?_, ?_, ?_, ((((Below.refl _ w).alloc (Nat.le_refl _) o1).alloc (by simp) o2).alloc (by simp; omega) o3).trans (hb.mono (by omega)), by have := hb.size; omega⟩
  · rw [hb.block _ (by omega), Below.heap_alloc _ _ _ (by simp; omega), Below.heap_alloc _ _ _ (by simp)]; exact heap_alloc_new w o1
  · rw [hb.block _ (by omega), Below.heap_alloc _ _ _ (by simp), show w.heap.size + 1 = (w.alloc o1).heap.size by simp]; exact heap_alloc_new _ o2
  · rw [hb.block _ (by omega), show w.heap.size + 1 + 1 = ((w.alloc o1).alloc o2).heap.size by simp]; exact heap_alloc_new _ o3
theorem wp_world {P : Program} {c : Code} {Q : Exit → Act → World → Prop} {a : Act} {w : World} (R : World → Prop) (hr : R w) (h : ∀ W, R W → c.wp P Q a W) : c.wp P Q a w := h w hr
theorem set_one {w : World} {b : Nat} {u : Value} {t : TypeId} {z : Nat × Nat} (h : w.heap[b]? = some (.cells #[u] t z)) (v : Value) : (w.setCell ⟨b, 0, none⟩ v).heap[b]? = some (.cells #[v] t z) := by
  rw [heap_setCell_eq, h]; rfl
theorem parse_leaves {tmps : Array Value} {R : Ending → World → Prop} {W : World} {p0 p1 p2 : Addr} {a b c : Value} (t2 : tmps[2]? = some (.pointer (some p0))) (t3 : tmps[3]? = some (.pointer (some p1))) (t4 : tmps[4]? = some (.pointer (some p2)))
    (h0 : W.cell? p0 = some a) (h1 : W.cell? p1 = some b) (h2 : W.cell? p2 = some c) (hR : R (.returned (.tuple #[a, b, c])) W) : Leaves Tryd.prog Tryd.f5 tmps R [] .returning W := by
  refine ⟨.tuple #[a, b, c], ?_, hR⟩
  simp [results, Tryd.results5, go_sem, t2, t3, t4, h0, h1, h2]
theorem row_slice {w : World} {base : Nat} {t : TypeId} {size n : Nat} {v : Value} {xs : List Value} (h : w.ownsRow base t size v n xs) : ∃ a c, v = .slice a n c := by
  rcases h.2 with ⟨rfl, rfl⟩ | ⟨g, cap, cur, rfl, _⟩
  · exact ⟨_, _, rfl⟩
  · exact ⟨_, _, rfl⟩
theorem new_at (W : World) (o : Obj) {b : Nat} (h : W.heap.size = b) : (W.alloc o).heap[b]? = some o := by subst h; exact heap_alloc_new W o
theorem isToks_congr {w w' : World} {g : Nat} {v : Value} {toks : List Tok} (h : IsToks w g v toks) (hg : toks ≠ [] → w'.heap[g]? = w.heap[g]?) : IsToks w' g v toks := by
  rcases h with h | ⟨h1, off, cap, h2, h3, h4, h5⟩
  · exact .inl h
  · exact .inr ⟨h1, off, cap, h2, h3, h4, tokAt_congr (hg h1) h5⟩
theorem row_lower {w : World} {b b' : Nat} {t : TypeId} {size n : Nat} {v : Value} {xs : List Value} (h : w.ownsRow b t size v n xs) (hb : b' ≤ b) : w.ownsRow b' t size v n xs := by
  refine ⟨h.1, ?_⟩
  rcases h.2 with h | ⟨g, cap, cur, hv, hg, h⟩
  · exact .inl h
  · exact .inr ⟨g, cap, cur, hv, by omega, h⟩
def ParsePost (l : List UInt8) (w : World) (e : Ending) (w' : World) : Prop :=
  ∃ v, e = .returned (.tuple #[v, .int .i64 ((parseS isName l).2.1 : Nat), .int .i64 ((parseS isName l).2.2 : Nat)]) ∧ w'.ownsRow w.heap.size 34 9 v (parseS isName l).1.length (flatNodes (parseS isName l).1) ∧ Below w.heap.size w w'
theorem parsePost_mk {l : List UInt8} {w w' : World} (v : Value) (a e : Nat) (ts : List Node) (hs : parseS isName l = (ts, a, e)) (ho : w'.ownsRow w.heap.size 34 9 v ts.length (flatNodes ts)) (hb : Below w.heap.size w w') :
    ParsePost l w (.returned (.tuple #[v, .int .i64 a, .int .i64 e])) w' := ⟨v, by rw [hs], by rw [hs]; exact ho, hb⟩
set_option maxHeartbeats 2000000 in
set_option maxRecDepth 100000 in
theorem parse_bad (l : List UInt8) (w : World) (hg : Glob w) (hmax : l.length ≤ 9223372036854775807) (ts : List Tok) (at' er : Nat) (hs : lexS l = (ts, at', er)) (her : er ≠ 0) : Calls Tryd.prog 5 #[.string (bs l)] w (ParsePost l w) := by
  have hp : parseS isName l = ([], at', er) := by simp [parseS, hs, her]
  have hlx : ∀ W : World, Glob W → Calls Tryd.prog 7 #[.string (bs l)] W fun e w' => ∃ v, e = .returned (.tuple #[v, .int .i64 at', .int .i64 er]) ∧ w'.ownsRow W.heap.size 47 5 v ts.length (flatToks ts) ∧ Below W.heap.size W w' := fun W hg => (lex_any l W hg hmax).mono fun e w' h => by rw [LexPost, hs] at h; exact h
  have HLX := Lib.hid hlx; clear hlx
  have HP := Lib.hid hp; clear hp
  have HG := Lib.hid hg; clear hg
  have hne : (((er : Nat) : Int) != 0) = true := by rw [bne_iff_ne]; omega
  clear hs her
  go_enter_defers Tryd.func5, Tryd.ntmps5
  go_wp2_with fail
  refine (HLX.out _ (HG.out.below (((Below.refl w.heap.size w).alloc (Nat.le_refl _) _).alloc (by simp) _ |>.alloc (by simp; omega) _))).mono ?_
  rintro e w2 ⟨v, rfl, -, hb2⟩
  obtain ⟨h0, h1, h2, hb, hsz⟩ := three_of hb2
  have HB := Lib.hid hb; clear hb hb2
  have q0 := cell_of_block h0
  have f0 := free_of_block h0
  have q1 := cell_of_block h1
  have f1 := free_of_block h1
  have q2 := cell_of_block h2
  have f2 := free_of_block h2
  go_wp2_with fail
  refine wp_world (fun W => (∃ t, W.heap[w.heap.size]? = some (.cells #[.slice none 0 0] t (0, 0))) ∧ (∃ t, W.heap[w.heap.size + 1]? = some (.cells #[.int .i64 at'] t (0, 0))) ∧ (∃ t, W.heap[w.heap.size + 1 + 1]? = some (.cells #[.int .i64 er] t (0, 0))) ∧ Below w.heap.size w W) ⟨⟨24, ?_⟩, ⟨3, ?_⟩, ⟨25, ?_⟩, ?_⟩ ?_
  · rw [Below.heap_setCell _ _ _ _ (by simp; omega), Below.heap_setCell _ _ _ _ (by simp)]; exact h0
  · rw [Below.heap_setCell _ _ _ _ (by simp)]; exact set_one h1 _
  · refine set_one (u := .int .i64 0) ?_ _; rw [Below.heap_setCell _ _ _ _ (by simp)]; exact h2
  · exact (HB.out.setCell (by simp) _).setCell (by simp; omega) _
  clear h0 h1 h2 q0 f0 q1 f1 q2 f2
  rintro W ⟨⟨t0, h0⟩, ⟨t1, h1⟩, ⟨t2, h2⟩, hb⟩
  have q0 := cell_of_block h0
  have f0 := free_of_block h0
  have q1 := cell_of_block h1
  have f1 := free_of_block h1
  have q2 := cell_of_block h2
  have f2 := free_of_block h2
  clear h0 h1 h2
  have HB2 := Lib.hid hb; clear hb
  go_region
  go_wp2_with fail
  refine parse_leaves (a := .slice none 0 0) (b := .int .i64 at') (c := .int .i64 er) rfl rfl rfl ?_ ?_ ?_ ?_
  · show World.cell? (World.setCell _ _ _) _ = _
    rw [cell_far (by simp; omega), cell_far (by simp), cell_set (q0 0)]
  · show World.cell? (World.setCell _ _ _) _ = _
    rw [cell_far (by simp), cell_set (u := .int .i64 at') (by rw [cell_far (by simp)]; exact q1 0)]
  · show World.cell? (World.setCell _ _ _) _ = _
    rw [cell_set (u := .int .i64 er) (by rw [cell_far (by simp), cell_far (by simp; omega)]; exact q2 0)]
  · exact parsePost_mk _ at' er [] HP.out (World.ownsRow_nil _ _ _ _) (((HB2.out.setCell (by simp) _).setCell (by simp) _).setCell (by simp; omega) _).drew
set_option maxHeartbeats 2000000 in
set_option maxRecDepth 100000 in
theorem parse_good (l : List UInt8) (w : World) (hg : Glob w) (hmax : l.length ≤ 9223372036854775807) (toks : List Tok) (at' : Nat) (hs : lexS l = (toks, at', 0)) : Calls Tryd.prog 5 #[.string (bs l)] w (ParsePost l w) := by
  have hlx : ∀ W : World, Glob W → Calls Tryd.prog 7 #[.string (bs l)] W fun e w' => ∃ v, e = .returned (.tuple #[v, .int .i64 at', .int .i64 (0 : Nat)]) ∧ w'.ownsRow W.heap.size 47 5 v toks.length (flatToks toks) ∧ Below W.heap.size W w' := fun W hg => (lex_any l W hg hmax).mono fun e w' h => by rw [LexPost, hs] at h; exact h
  have hl4 := lexS_len l
  rw [hs] at hl4
  have HLX := Lib.hid hlx; clear hlx
  have HG := Lib.hid hg; clear hg
  have hne : (((0 : Nat) : Int) != 0) = false := rfl
  have HS := Lib.hid hs; clear hs
  go_enter_defers Tryd.func5, Tryd.ntmps5
  go_wp2_with fail
  refine (HLX.out _ (HG.out.below (((Below.refl w.heap.size w).alloc (Nat.le_refl _) _).alloc (by simp) _ |>.alloc (by simp; omega) _))).mono ?_
  rintro e w2 ⟨v, rfl, hrow, hb2⟩
  obtain ⟨h0, h1, h2, hb, hsz⟩ := three_of hb2
  have HB := Lib.hid hb; clear hb hb2
  have q0 := cell_of_block h0
  have f0 := free_of_block h0
  have q1 := cell_of_block h1
  have f1 := free_of_block h1
  have q2 := cell_of_block h2
  have f2 := free_of_block h2
  obtain ⟨g, hit, hg0, hg1⟩ := isToks_of_row hrow
  obtain ⟨va, vc, rfl⟩ := row_slice hrow
  have hgb : g < w2.heap.size := by
    by_cases hn : toks = []
    · rw [hg0 hn]; omega
    · exact (hg1 hn).2
  have hg3 : toks ≠ [] → w.heap.size + 3 ≤ g := fun hn => by have := (hg1 hn).1; simpa using this
  clear hrow hg0 hg1
  have HIT := Lib.hid hit; clear hit
  have H0 := Lib.hid h0; clear h0
  have H1 := Lib.hid h1; clear h1
  have H2 := Lib.hid h2; clear h2
  go_wp2_with fail
  refine calls_world (fun W => ∃ b, b = w2.heap.size ∧ PS W b g l.length 0 toks [] none ∧ Spaces W ∧ W.heap[w.heap.size]? = some (.cells #[.slice none 0 0] 24 (0, 0)) ∧ (∃ y, W.heap[w.heap.size + 1]? = some (.cells #[y] 3 (0, 0))) ∧ (∃ y, W.heap[w.heap.size + 2]? = some (.cells #[y] 25 (0, 0))) ∧ Below w.heap.size w W) ?_ ?_
  · have hb2 : Below w.heap.size w (((w2.setCell ⟨w.heap.size + 1, 0, none⟩ (.int .i64 at')).setCell ⟨w.heap.size + 1 + 1, 0, none⟩ (.int .i64 0)).alloc (.cells #[.slice va toks.length vc, .int .i64 l.length, .int .i64 0, .slice none 0 0] 43)) :=
      ((HB.out.setCell (p := ⟨w.heap.size + 1, 0, none⟩) (by simp) _).setCell (p := ⟨w.heap.size + 1 + 1, 0, none⟩) (by simp; omega) _).alloc (by simp [World.setCell]; omega) _
    refine ⟨_, rfl, ?_, (HG.out.below hb2).space, ?_, ⟨.int .i64 at', ?_⟩, ⟨.int .i64 0, ?_⟩, hb2⟩
    · refine ⟨.slice va toks.length vc, .slice none 0 0, ?_, ?_, World.ownsRow_nil _ _ _ _, rfl, hgb⟩
      · exact new_at _ _ (by simp [World.setCell])
      · refine isToks_congr HIT.out fun hn => ?_
        have := hg3 hn
        rw [Below.heap_alloc _ _ _ (by simp [World.setCell]; omega), Below.heap_setCell _ _ _ _ (by simp; omega), Below.heap_setCell _ _ _ _ (by simp; omega)]
    · rw [Below.heap_alloc _ _ _ (by simp [World.setCell]; omega), Below.heap_setCell _ _ _ _ (by simp; omega), Below.heap_setCell _ _ _ _ (by simp)]; exact H0.out
    · rw [Below.heap_alloc _ _ _ (by simp [World.setCell]; omega), Below.heap_setCell _ _ _ _ (by simp)]; exact set_one H1.out _
    · rw [Below.heap_alloc _ _ _ (by simp [World.setCell]; omega)]; refine set_one (u := .int .i64 0) ?_ _; rw [Below.heap_setCell _ _ _ _ (by simp)]; exact H2.out
  clear q0 f0 q1 f1 q2 f2
  rintro W ⟨b, hbe, hps, hsp, h0, ⟨y1, h1⟩, ⟨y2, h2⟩, hbw⟩
  have hszb : w.heap.size + 3 ≤ b := by omega
  rw [← hbe]
  have hlv := lvl_ok b g l.length (by have := HG.out.size; omega) 200 0 0 (by decide) (by decide) toks [] W none hps hsp (by simp; omega) (lvl_out _ _ _ _ _ _ _ (by decide) (by decide) (by decide))
  have H0' := Lib.hid h0
  have H1' := Lib.hid h1
  have H2' := Lib.hid h2
  have HBW := Lib.hid hbw
  have hps0 := hps.lt
  clear h0 h1 h2 hbw hps hsp hbe HIT H0 H1 H2 HB hgb hg3 hsz HLX HG
  cases hx : lvl isName l.length 200 0 0 toks [] with
  | out => rw [hx] at hlv; exact absurd hx (lvl_out _ _ _ _ _ _ _ (by decide) (by decide) (by decide))
  | err p er =>
    have HP : Hid (parseS isName l = ([], p, er)) := (by simp [parseS, HS.out, hx] : parseS isName l = ([], p, er))
    rw [hx] at hlv
    clear hx
    refine hlv.mono ?_
    rintro e w3 ⟨rfl, hb3⟩
    have g0 : w3.heap[w.heap.size]? = _ := (hb3.block _ (by omega)).trans H0'.out
    have g1 : w3.heap[w.heap.size + 1]? = _ := (hb3.block _ (by omega)).trans H1'.out
    have g2 : w3.heap[w.heap.size + 2]? = _ := (hb3.block _ (by omega)).trans H2'.out
    have HB3 : Hid (Below w.heap.size w w3) := HBW.out.trans (hb3.mono (by omega))
    refine leaves_cons (f := 8) (args := #[.pointer (some ⟨w.heap.size, 0, none⟩), .pointer (some ⟨w.heap.size + 1, 0, none⟩), .pointer (some ⟨w.heap.size + 2, 0, none⟩)]) (by simp) (by simp [go_sem]) ?_
    refine (catch_stop w.heap.size w3 _ _ _ g0 g1 g2 p er).mono ?_
    rintro e u' w4 ⟨rfl, rfl, c0, c1, c2, hb4⟩
    exact parse_leaves (a := .slice none 0 0) (b := .int .i64 p) (c := .int .i64 er) rfl rfl rfl c0 c1 c2 (parsePost_mk _ p er [] HP.out (World.ownsRow_nil _ _ _ _) (HB3.out.trans hb4))
  | ok a toks' tree' =>
    rw [hx] at hlv
    refine hlv.mono ?_
    rintro e w3 ⟨rfl, row3, hps, hnr, ht⟩
    clear hlv
    have hb3 : Below b W w3 := ht.below (by omega) (fun k hk => by cases hk)
    have g0 : w3.heap[w.heap.size]? = _ := (hb3.block _ (by omega)).trans H0'.out
    have g1 : w3.heap[w.heap.size + 1]? = _ := (hb3.block _ (by omega)).trans H1'.out
    have g2 : w3.heap[w.heap.size + 2]? = _ := (hb3.block _ (by omega)).trans H2'.out
    have HB3 : Hid (Below w.heap.size w w3) := HBW.out.trans (hb3.mono (by omega))
    have hfa := fail_any w3 b g l.length 0 toks' tree' row3 hps 4
    clear hb3 ht hnr
    have hsz3 : w.heap.size + 3 ≤ w3.heap.size := by have := hps.lt; omega
    obtain ⟨lv, tv, h1, h2, h3, h4, h5⟩ := hps
    have q := cell_of_block h1
    have f := free_of_block h1
    by_cases hn : toks' = []
    · subst hn
      have hlv : ∃ a c, lv = .slice a 0 c := by
        rcases h2 with ⟨-, a, c, rfl⟩ | ⟨h, _⟩
        · exact ⟨_, _, rfl⟩
        · exact absurd rfl h
      obtain ⟨la, lc, rfl⟩ := hlv
      obtain ⟨ta, tc, rfl⟩ := row_slice h3
      have q0 := cell_of_block g0
      have f0 := free_of_block g0
      have q1 := cell_of_block g1
      have f1 := free_of_block g1
      have q2 := cell_of_block (b := w.heap.size + 1 + 1) g2
      have f2 := free_of_block (b := w.heap.size + 1 + 1) g2
      have G0 := Lib.hid g0
      have G1 := Lib.hid g1
      have G2 := Lib.hid g2
      have H3 := Lib.hid h3
      clear g0 g1 g2 h1 h2 h3 h4 hfa
      by_cases hbig : 100 < tree'.length
      · have HP : Hid (parseS isName l = ([], 0, 7)) := (by simp [parseS, HS.out, hx, hbig] : parseS isName l = ([], 0, 7))
        have hcmp : (100 : Int) < (tree'.length : Int) := by omega
        clear hx hbig
        go_wp2_with fail
        refine leaves_cons (f := 8) (args := #[.pointer (some ⟨w.heap.size, 0, none⟩), .pointer (some ⟨w.heap.size + 1, 0, none⟩), .pointer (some ⟨w.heap.size + 2, 0, none⟩)]) (by simp) (by simp [go_sem]) ?_
        refine (catch_idle w.heap.size _).mono ?_
        rintro e u' w5 ⟨rfl, rfl, rfl⟩
        refine parse_leaves (a := .slice none 0 0) (b := .int .i64 0) (c := .int .i64 7) rfl rfl rfl ?_ ?_ ?_ ?_
        · rw [cell_far (by simp; omega), cell_far (by simp), cell_set (q0 0)]
        · rw [cell_far (by simp), cell_set (u := y1) (by rw [cell_far (by simp)]; exact q1 0)]
        · rw [cell_set (u := y2) (by rw [cell_far (by simp), cell_far (by simp; omega)]; exact q2 0)]
        · exact parsePost_mk _ 0 7 [] HP.out (World.ownsRow_nil _ _ _ _) (((HB3.out.setCell (by simp) _).setCell (by simp) _).setCell (by simp; omega) _)
      · have HP : Hid (parseS isName l = (tree', 0, 0)) := (by simp [parseS, HS.out, hx, hbig] : parseS isName l = (tree', 0, 0))
        have hcmp : ¬ (100 : Int) < (tree'.length : Int) := by omega
        clear hx hbig
        go_wp2_with fail
        refine leaves_cons (f := 8) (args := #[.pointer (some ⟨w.heap.size, 0, none⟩), .pointer (some ⟨w.heap.size + 1, 0, none⟩), .pointer (some ⟨w.heap.size + 2, 0, none⟩)]) (by simp) (by simp [go_sem]) ?_
        refine (catch_idle w.heap.size _).mono ?_
        rintro e u' w5 ⟨rfl, rfl, rfl⟩
        refine parse_leaves (a := .slice ta tree'.length tc) (b := .int .i64 0) (c := .int .i64 0) rfl rfl rfl ?_ ?_ ?_ ?_
        · rw [cell_far (by simp; omega), cell_far (by simp), cell_set (q0 0)]
        · rw [cell_far (by simp), cell_set (u := y1) (by rw [cell_far (by simp)]; exact q1 0)]
        · rw [cell_set (u := y2) (by rw [cell_far (by simp), cell_far (by simp; omega)]; exact q2 0)]
        · refine parsePost_mk _ 0 0 tree' HP.out (row_lower (ownsRow_congr H3.out fun k hk => ?_) (by omega)) (((HB3.out.setCell (by simp) _).setCell (by simp) _).setCell (by simp; omega) _)
          have hk1 := (H3.out.lt _ hk).1
          rw [Below.heap_setCell _ _ _ _ (by simp; omega), Below.heap_setCell _ _ _ _ (by simp; omega), Below.heap_setCell _ _ _ _ (by simp; omega)]
    · have hlv : ∃ o c, lv = .slice (some ⟨g, o, none⟩) toks'.length c := by
        rcases h2 with ⟨h, _⟩ | ⟨-, o, c, rfl, _⟩
        · exact absurd h hn
        · exact ⟨_, _, rfl⟩
      obtain ⟨lo, lc, rfl⟩ := hlv
      have HP : Hid (parseS isName l = ([], pos l.length toks', 4)) := (by simp [parseS, HS.out, hx, hn] : parseS isName l = ([], pos l.length toks', 4))
      have hcmp : (0 : Int) < (toks'.length : Int) := by have := List.length_pos_iff.2 hn; omega
      generalize pos l.length toks' = pe at *
      clear hx hn h1 h2 h3 h4
      have G0 := Lib.hid g0
      have G1 := Lib.hid g1
      have G2 := Lib.hid g2
      clear g0 g1 g2
      go_wp2_with fail
      refine hfa.mono ?_
      rintro e w4 ⟨rfl, rfl⟩
      go_wp2_with fail
      refine leaves_cons (f := 8) (args := #[.pointer (some ⟨w.heap.size, 0, none⟩), .pointer (some ⟨w.heap.size + 1, 0, none⟩), .pointer (some ⟨w.heap.size + 2, 0, none⟩)]) (by simp) (by simp [go_sem]) ?_
      refine (catch_stop w.heap.size _ _ _ _ G0.out G1.out G2.out pe 4).mono ?_
      rintro e u' w5 ⟨rfl, rfl, c0, c1, c2, hb4⟩
      exact parse_leaves (a := .slice none 0 0) (b := .int .i64 pe) (c := .int .i64 4) rfl rfl rfl c0 c1 c2 (parsePost_mk _ pe 4 [] HP.out (World.ownsRow_nil _ _ _ _) (HB3.out.trans hb4))
theorem parse_any (l : List UInt8) (w : World) (hg : Glob w) (hmax : l.length ≤ 9223372036854775807) : Calls Tryd.prog 5 #[.string (bs l)] w (ParsePost l w) := by
  cases h : lexS l with
  | mk ts r =>
    cases r with
    | mk at' er =>
      by_cases he : er = 0
      · subst he; exact parse_good l w hg hmax ts at' h
      · exact parse_bad l w hg hmax ts at' er h he
end Go.Proofs.YtfkieomelkopeaaDoor
