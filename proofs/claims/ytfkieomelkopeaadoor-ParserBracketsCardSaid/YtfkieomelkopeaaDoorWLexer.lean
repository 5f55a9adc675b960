/-
  lexer.Lex hands back the words of the plain law, in a row of its own; nothing that was there is changed.
-/
import Derived.Test.YtfkieomelkopeaaDoorWWord
namespace Go.Proofs.YtfkieomelkopeaaDoor
open Go.RowKit
theorem info_tok : (Tryd.prog.info? 47).map (fun i => (i.zero, i.size, i.bytes)) = some (some (.agg #[.int .u8 0, .string ⟨#[]⟩, .int .i64 0, .int .i64 0, .int .i64 0]), 5, 48) := by kernel_rfl
theorem word_any (c : UInt8) (r : List UInt8) (w : World) (hg : Glob w) (hl : r.length < 400) :
    Calls Tryd.prog 11 #[.string (bs (c :: r))] w fun e w' => e = .returned (.tuple #[tokV (wordS (c :: r)).1, .int .i64 ((wordS (c :: r)).2 : Nat)]) ∧ Below w.heap.size w w' := by
  rcases wordS_cases c r with h | ⟨h1, h2⟩ | ⟨h1, h2, h3⟩ | ⟨h1, h2, h3⟩
  · rw [wordS_a h]; exact word_name c r w hl h
  · rw [wordS_b h1 h2]; exact word_number c r w hg hl h1 h2
  · rw [wordS_c h1 h2 h3]; exact word_sign c r w hl h1 h2 h3 (signN_le c r)
  · rw [wordS_d h1 h2 h3]; exact word_none c r w hl h1 h2 (by omega)
def flatToks (l : List Tok) : List Value := l.flatMap tokCells
theorem flatToks_snoc (l : List Tok) (t : Tok) : flatToks (l ++ [t]) = flatToks l ++ tokCells t := by simp [flatToks]
theorem flatToks_length (l : List Tok) : (flatToks l).length = l.length * 5 := by
  induction l with
  | nil => rfl
  | cons t l ih => simp only [flatToks, List.flatMap_cons, List.length_append, List.length_cons] at *; rw [ih]; simp [tokCells]; omega
theorem ownsRow_below {w w1 : World} {base : Nat} {e : TypeId} {size : Nat} {v : Value} {n : Nat} {xs : List Value} (h : w.ownsRow base e size v n xs) {B : Nat} (hb : Below B w w1) (hB : w.heap.size ≤ B) : w1.ownsRow base e size v n xs := by
  obtain ⟨h1, h2⟩ := h
  refine ⟨h1, ?_⟩
  rcases h2 with h2 | ⟨g, cap, cur, hv, hg, hh, r⟩
  · exact .inl h2
  · exact .inr ⟨g, cap, cur, hv, hg, by rw [hb.block _ (by have := lt_of_block hh; omega)]; exact hh, r⟩
def LexPost (l : List UInt8) (w : World) (e : Ending) (w' : World) : Prop :=
  ∃ v, e = .returned (.tuple #[v, .int .i64 ((lexS l).2.1 : Nat), .int .i64 ((lexS l).2.2 : Nat)]) ∧ w'.ownsRow w.heap.size 47 5 v (lexS l).1.length (flatToks (lexS l).1) ∧ Below w.heap.size w w'
theorem lexPost_mk {l : List UInt8} {w w' : World} (v : Value) (a e : Nat) (ts : List Tok) (hs : lexS l = (ts, a, e)) (ho : w'.ownsRow w.heap.size 47 5 v ts.length (flatToks ts)) (hb : Below w.heap.size w w') :
    LexPost l w (.returned (.tuple #[v, .int .i64 a, .int .i64 e])) w' := ⟨v, by rw [hs], by rw [hs]; exact ho, hb⟩
theorem lexGo_space {f k : Nat} {r : List UInt8} {acc : List Tok} : lexGo (f + 1) k (32 :: r) acc = lexGo f (k + 1) r acc := by simp [lexGo]
theorem lexGo_word {f k : Nat} {c : UInt8} {r : List UInt8} {acc : List Tok} (hc : c ≠ 32) (h : (wordS (c :: r)).2 = 0) :
    lexGo (f + 1) k (c :: r) acc = lexGo f (k + (wordS (c :: r)).1.text.length) ((c :: r).drop (wordS (c :: r)).1.text.length) (acc ++ [{ (wordS (c :: r)).1 with place := k }]) := by simp [lexGo, hc, h]
theorem lexGo_bad {f k : Nat} {c : UInt8} {r : List UInt8} {acc : List Tok} (hc : c ≠ 32) (h : ¬ (wordS (c :: r)).2 = 0) : lexGo (f + 1) k (c :: r) acc = ([], k, (wordS (c :: r)).2) := by simp [lexGo, hc, h]
theorem lexGo_end {f k : Nat} {acc : List Tok} : lexGo (f + 1) k [] acc = (acc, 0, 0) := rfl
theorem news_cells (w : World) (H : Nat) (C : List Value) (t : TypeId) (hH : w.heap.size = H) : ∀ j u, C[j]? = some u → (w.alloc (.cells C.toArray t)).cell? ((⟨H, 0, none⟩ : Addr).add j) = some u := by
  intro j u h
  subst hH
  rw [show ((⟨w.heap.size, 0, none⟩ : Addr).add j) = ⟨w.heap.size, j, none⟩ by cases j <;> simp [Addr.add]]
  rw [cell_of_block (heap_alloc_new w _)]
  simpa using h
set_option maxHeartbeats 1000000 in
set_option maxRecDepth 100000 in
theorem lex_any (l : List UInt8) (w : World) (hg : Glob w) (hmax : l.length ≤ 9223372036854775807) : Calls Tryd.prog 7 #[.string (bs l)] w (LexPost l w) := by
  by_cases hlong : 400 < l.length
  · have hs : lexS l = ([], 0, 3) := by simp [lexS, hlong]
    have HS := Lib.hid hs; clear hs
    go_enter Tryd.func7, Tryd.ntmps7
    go_wp2_with fail
    go_ret3
    exact lexPost_mk _ 0 3 [] HS.out (World.ownsRow_nil _ _ _ _) (Below.refl _ _)
  · have hs : lexS l = lexGo (l.length + 1) 0 l [] := by simp [lexS, hlong]
    have HS := Lib.hid hs; clear hs
    have HG := Lib.hid hg; clear hg
    obtain ⟨i0, hi, hz0, hz1, hz2⟩ := info_parts info_tok
    have hl4 : l.length ≤ 400 := by omega
    go_enter Tryd.func7, Tryd.ntmps7
    go_wp2_with fail
    go_loopw [5, 6] (fun v i wr => ∃ (k f : Nat) (acc : List Tok), k ≤ l.length ∧ i = .int .i64 k ∧ l.length - k < f ∧ acc.length ≤ k ∧ Hid (lexS l = lexGo f k (l.drop k) acc) ∧ wr.ownsRow w.heap.size 47 5 v acc.length (flatToks acc) ∧ Below w.heap.size w wr) (fun _ i _ => l.length - (intOf i).toNat)
    case atStart => exact ⟨0, l.length + 1, [], Nat.zero_le _, rfl, by omega, Nat.le_refl _, HS, World.ownsRow_nil _ _ _ _, Below.refl _ _⟩
    case round =>
      obtain ⟨k, f, acc, hk, rfl, hf, hak, HL, hown, hbw⟩ := hrel
      have HGr : Hid (Glob wr) := HG.out.below hbw
      obtain ⟨f, rfl⟩ : ∃ f', f = f' + 1 := ⟨f - 1, by omega⟩
      by_cases hlt : k < l.length
      · have hd : l.drop k = l[k] :: l.drop (k + 1) := List.drop_eq_getElem_cons hlt
        by_cases h32 : l[k] = 32
        · have HL2 : Hid (lexS l = lexGo f (k + 1) (l.drop (k + 1)) acc) := by rw [← lexGo_space, ← h32, ← hd]; exact HL
          have h32' : ((l[k].toNat : Int) == 32) = true := by rw [h32]; rfl
          have HO := Lib.hid hown; clear hown
          have HB := Lib.hid hbw; clear hbw
          clear hd h32
          go_wp2_with fail
          go_roundw
          case rel => exact ⟨k + 1, f, acc, by omega, by go_num, by omega, by omega, HL2, HO.out, HB.out⟩
          case measure => simp [intOf]; omega
        · have h32' : ((l[k].toNat : Int) == 32) = false := by
            rw [beq_eq_false_iff_ne]; intro e; exact h32 (UInt8.toNat_inj.1 (by show l[k].toNat = 32; omega))
          have hw0 := word_any l[k] (l.drop (k + 1)) wr HGr.out (by simp; omega)
          have hlen := wordS_len l[k] (l.drop (k + 1))
          have herr := wordS_err l[k] (l.drop (k + 1))
          rw [← hd] at hw0 hlen herr
          by_cases he : (wordS (l.drop k)).2 = 0
          · have hpos := wordS_pos l[k] (l.drop (k + 1)) (by rw [← hd]; exact he)
            rw [← hd] at hpos
            have HL2 : Hid (lexS l = lexGo f (k + (wordS (l.drop k)).1.text.length) (l.drop (k + (wordS (l.drop k)).1.text.length)) (acc ++ [{ (wordS (l.drop k)).1 with place := k }])) := by
              have h1 := HL.out
              rw [hd, lexGo_word h32 (by rw [← hd]; exact he), ← hd, List.drop_drop] at h1
              exact h1
            rw [he] at hw0
            simp only [List.length_drop] at hlen
            generalize (wordS (l.drop k)).1 = t at *
            clear he herr hd h32
            have HO := Lib.hid hown; clear hown
            have HB := Lib.hid hbw; clear hbw
            go_wp2_with fail
            refine hw0.mono ?_
            rintro e w1 ⟨rfl, hb1⟩
            have hown1 := ownsRow_below HO.out hb1 (Nat.le_refl _)
            have hsz : w.heap.size ≤ w1.heap.size := by have := HB.out.size; have := hb1.size; omega
            have HB1 := Lib.hid (HB.out.trans (hb1.mono HB.out.size)); clear hb1
            unfold tokV
            go_wp2_with (at_builtin; refine wpList_append_own _ rfl _ _ 36 rfl w.heap.size 47 i0 _ 5 48 Tryd.underlying36 hi hz0 hz1 hz2 rfl (by decide) _ _ _ rfl ((hown1.alloc _).alloc _) ⟨w1.heap.size + 1, 0, none⟩ 1 1 [.int .u8 t.kind, .string (bs t.text), .int .i64 t.c, .int .i64 t.s, .int .i64 k] rfl rfl (news_cells _ _ [.int .u8 t.kind, .string (bs t.text), .int .i64 t.c, .int .i64 t.s, .int .i64 k] _ (by simp)) (by simp [Value.oneCell']) (by unfold maxLen; omega) (by omega) (by simp; omega) ?_)
            intro v' w2 hown2 hgrow hnil
            have hlt7 : w1.heap.size < (w1.alloc (.cells #[.int .u8 t.kind, .string (bs t.text), .int .i64 t.c, .int .i64 t.s, .int .i64 k] 47)).heap.size := by simp
            have hb7 : w2.heap[w1.heap.size]? = some (.cells #[.int .u8 t.kind, .string (bs t.text), .int .i64 t.c, .int .i64 t.s, .int .i64 k] 47 (0, 0)) := by
              rw [hgrow.block w1.heap.size (by simp; omega) (fun e => by have := (hown1.lt _ e.symm).2; omega)]
              rw [Below.heap_alloc _ _ _ hlt7]
              exact heap_alloc_new w1 _
            have q7 := cell_of_block hb7
            have HB2 : Hid (Below w.heap.size w w2) := Below.grown ((HB1.out.alloc hsz _).alloc (by simp; omega) _) hgrow (by simp; omega) (fun j hj => (hown1.lt _ hj).1)
            have HO2 : Hid (w2.ownsRow w.heap.size 47 5 v' (acc ++ [{ t with place := k }]).length (flatToks (acc ++ [{ t with place := k }]))) := by
              rw [flatToks_snoc, List.length_append]; exact hown2
            clear hown1 hown2 hgrow hnil hb7 HB1 HO HB hlt7
            go_wp2_with fail
            go_roundw
            case rel => exact ⟨k + t.text.length, f, _, by omega, by go_num, by omega, by simp; omega, HL2, HO2.out, HB2.out⟩
            case measure => simp [intOf]; omega
          · have HL2 : Hid (lexS l = ([], k, (wordS (l.drop k)).2)) := by
              have h1 := HL.out
              rw [hd, lexGo_bad h32 (by rw [← hd]; exact he), ← hd] at h1
              exact h1
            have he' : (((wordS (l.drop k)).2 : Nat) : Int) ≠ 0 := by omega
            generalize wordS (l.drop k) = t at *
            obtain ⟨t, er⟩ := t
            dsimp only at *
            have hne : (((er : Nat) : Int) != 0) = true := by rw [bne_iff_ne]; exact he'
            have heq : (((er : Nat) : Int) == 0) = false := by rw [beq_eq_false_iff_ne]; exact he'
            clear he hd h32 he'
            have HO := Lib.hid hown; clear hown
            have HB := Lib.hid hbw; clear hbw
            go_wp2_with fail
            refine hw0.mono ?_
            rintro e w1 ⟨rfl, hb1⟩
            have hsz : w.heap.size ≤ w1.heap.size := by have := HB.out.size; have := hb1.size; omega
            have HB1 := Lib.hid (HB.out.trans (hb1.mono HB.out.size)); clear hb1
            unfold tokV
            go_wp2_with fail
            go_ret3
            exact lexPost_mk _ k er [] HL2.out (World.ownsRow_nil _ _ _ _) (HB1.out.alloc hsz _)
      · obtain rfl : k = l.length := by omega
        have HL2 : Hid (lexS l = (acc, 0, 0)) := by
          have h1 := HL.out
          rw [List.drop_length, lexGo_end] at h1
          exact h1
        have HO := Lib.hid hown; clear hown
        have HB := Lib.hid hbw; clear hbw
        go_wp2_with fail
        go_ret3
        exact lexPost_mk _ 0 0 acc HL2.out HO.out HB.out
end Go.Proofs.YtfkieomelkopeaaDoor
