/-
  ahead: a level with a word ahead; the level above, and the level itself one deeper, given as hypotheses.
-/
import Derived.Test.YtfkieomelkopeaaDoorWRow
namespace Go.Proofs.YtfkieomelkopeaaDoor
open Go.RowKit
theorem kids_oneH (w : World) (H : Nat) (hH : w.heap.size = H) (a : Int) (t : TypeId) : ∀ j v, ([a].map (Value.int .i64))[j]? = some v → (w.alloc (.cells #[.int .i64 a] t)).cell? ⟨H, 0 + j, none⟩ = some v := by
  subst hH; exact kids_one w a t
theorem Turn.none_to {b : Nat} {row : Option Nat} {w w' : World} (h : Turn b none w w') : Turn b row w w' := ⟨h.os, h.tape, h.output, h.size, fun k hk h1 _ => h.block k hk h1 (by simp)⟩
theorem Turn.seq {b : Nat} {row : Option Nat} {w w' w'' : World} (h : Turn b row w w') (k : Turn b row w' w'') : Turn b row w w'' := h.trans (.inl rfl) k
theorem size_setCell (w : World) (a : Addr) (v : Value) : (w.setCell a v).heap.size = w.heap.size := by simp [World.setCell]
set_option maxHeartbeats 2000000 in
set_option maxRecDepth 100000 in
theorem ahead_any (w : World) (b g E deep lev : Nat) (next same : List Tok → List Node → R) (hx : ExOk b g E deep (lev + 1) next) (hy : ExOk b g E (deep + 1) lev same) (hgd : Good same) (toks : List Tok) (tree : List Node) (row : Option Nat)
    (h : PS w b g E deep toks tree row) (hsp : Spaces w) (h11 : 11 ≤ b) (hd : deep ≤ 16) (hmax : tree.length + toks.length ≤ 400) (text : List UInt8) (o : Nat) (hlev : lev ≤ 7) (hne : aheadF next same E deep text o toks tree ≠ .out) :
    Calls Tryd.prog 28 #[.pointer (some ⟨b, 0, none⟩), .int .i64 lev, .string (bs text), .int .u8 o] w (PPost b g E deep row w (aheadF next same E deep text o toks tree)) := by
  have hlt := h.lt
  have hrg := h.row_gt
  have his := is_any w b g E deep toks tree row h text
  cases hw : isW toks text
  · have hf : aheadF next same E deep text o toks tree = next toks tree := by simp [aheadF, hw]
    rw [hf] at hne ⊢
    have hx0 := hx toks tree w row h hsp hmax hne
    rw [hw] at his
    generalize next toks tree = fin at *
    have HNE := Lib.hid hne; clear hne
    clear hx hy hgd h hsp hw hf hrg
    cases fin with
    | out => exact absurd rfl HNE.out
    | err p er =>
      go_enter Tryd.func28, Tryd.ntmps28
      go_wp2_with fail
      refine his.mono ?_; rintro e w' ⟨rfl, rfl⟩
      go_wp2_with fail
      refine hx0.mono ?_
      rintro e w1 ⟨rfl, hb1⟩
      go_wp2_with fail
      exact ⟨rfl, rfl, hb1⟩
    | ok a toks1 tree1 =>
      go_enter Tryd.func28, Tryd.ntmps28
      go_wp2_with fail
      refine his.mono ?_; rintro e w' ⟨rfl, rfl⟩
      go_wp2_with fail
      refine hx0.mono ?_
      rintro e w1 ⟨rfl, hh⟩
      have HH := Lib.hid hh; clear hh hx0
      go_wp2_with fail
      go_ret
      exact ⟨rfl, HH.out⟩
  · cases toks with
    | nil => simp [isW] at hw
    | cons t r =>
    have hat := at_any w b g E deep (t :: r) tree row h
    rw [hw] at his
    have hpe : pos E (t :: r) = t.place := rfl
    by_cases h16 : deep = 16
    · subst h16
      have hf : aheadF next same E 16 text o (t :: r) tree = .err t.place 10 := by simp [aheadF, hw, pos]
      rw [hf]
      have hop := open_no w b g E (t :: r) tree row h
      rw [hpe] at hat hop
      clear hx hy hgd h hsp hw hf hne hrg hpe
      go_enter Tryd.func28, Tryd.ntmps28
      go_wp2_with fail
      refine his.mono ?_; rintro e w' ⟨rfl, rfl⟩
      go_wp2_with fail
      refine hat.mono ?_; rintro e w' ⟨rfl, rfl⟩
      go_wp2_with fail
      refine hop.mono ?_; rintro e w' ⟨rfl, rfl⟩
      go_wp2_with fail
      exact ⟨rfl, rfl, (Below.refl _ _)⟩
    · have hop := open_yes w b g E deep (t :: r) tree row h (by omega)
      rw [hpe] at hat
      have hf : aheadF next same E deep text o (t :: r) tree = match same r tree with | .ok a toks' tree' => .ok tree'.length toks' (tree' ++ [unNode o t.place a]) | x => x := by
        simp only [aheadF, hw, if_true, h16, if_false, List.tail_cons, pos]; rfl
      rw [hf] at hne ⊢
      have HSP := Lib.hid hsp; clear hsp
      have HRG := Lib.hid hrg; clear hrg
      have HY := Lib.hid hy; clear hy
      have HGD := Lib.hid hgd; clear hgd
      generalize t.place = pl at *
      simp only [List.length_cons] at hmax
      cases hr3 : same r tree with
      | out => rw [hr3] at hne; exact absurd rfl hne
      | err p er =>
        have HR3 := Lib.hid hr3; clear hr3
        clear hx h hw hf hne hpe h16
        go_enter Tryd.func28, Tryd.ntmps28
        go_wp2_with fail
        refine his.mono ?_; rintro e w' ⟨rfl, rfl⟩
        clear his
        go_wp2_with fail
        refine hat.mono ?_; rintro e w' ⟨rfl, rfl⟩
        clear hat
        go_wp2_with fail
        refine hop.mono ?_; rintro e w1 ⟨rfl, hps1, ht1⟩
        clear hop
        have HT1 := Lib.hid (ht1.none_to : Turn b row w w1)
        have HSP1 := Lib.hid (spaces_turn HSP.out ht1 hlt h11 (fun k hk => by cases hk))
        clear ht1
        obtain ⟨lv, tv, h1, h2, h3, h4, h5⟩ := hps1
        have q := cell_of_block h1
        have f := free_of_block h1
        rcases h2 with ⟨h, _⟩ | ⟨-, off, cap, rfl, hc1, hc2, h2⟩
        · cases h
        have H1 := Lib.hid h1; clear h1
        have H2 := Lib.hid h2; clear h2
        have H3 := Lib.hid h3; clear h3
        have H4 := Lib.hid h4; clear h4
        simp only [List.length_cons] at hc1
        simp only [List.length_cons] at q
        go_wp2_with fail
        all_goals
          refine calls_world (fun W => PS W b g E (deep + 1) r tree row ∧ Turn b row w W ∧ Spaces W) ?_ ?_
          · exact ⟨PS.write 0 _ H1.out rfl (by first | exact tail_a (t := t) hc1 (by assumption) | exact tail_b hc1 hc2 H2.out) H3.out H4.out h5, HT1.out.set 0 _, space_below HSP1.out ((Below.refl b _).setCell (p := ⟨b, 0, none⟩) (Nat.le_refl _) _) h11⟩
          clear q f H1 H2 H3 H4
          rintro W4 ⟨hps4, ht4, hsp4⟩
          have HT4 := Lib.hid ht4; clear ht4
          have HB4 := Lib.hid (HT4.out.below hlt (fun k hk => Nat.le_of_lt (HRG.out k hk).1))
          have hx4 := HY.out r tree _ row hps4 hsp4 (by omega) (by rw [HR3.out]; simp)
          clear hps4 hsp4
          rw [HR3.out] at hx4
          refine hx4.mono ?_
          rintro e w5 ⟨rfl, hb5⟩
          have HB5 := Lib.hid (HB4.out.trans hb5); clear hb5
          clear hx4
          go_wp2_with fail
          exact ⟨rfl, rfl, HB5.out⟩
      | ok b3 toks3 tree3 =>
        have hg3 := HGD.out _ _ _ _ _ hr3
        have HR3 := Lib.hid hr3; clear hr3
        clear hx h hw hf hne hpe h16
        go_enter Tryd.func28, Tryd.ntmps28
        go_wp2_with fail
        refine his.mono ?_; rintro e w' ⟨rfl, rfl⟩
        clear his
        go_wp2_with fail
        refine hat.mono ?_; rintro e w' ⟨rfl, rfl⟩
        clear hat
        go_wp2_with fail
        refine hop.mono ?_; rintro e w1 ⟨rfl, hps1, ht1⟩
        clear hop
        have HT1 := Lib.hid (ht1.none_to : Turn b row w w1)
        have HSP1 := Lib.hid (spaces_turn HSP.out ht1 hlt h11 (fun k hk => by cases hk))
        clear ht1
        obtain ⟨lv, tv, h1, h2, h3, h4, h5⟩ := hps1
        have q := cell_of_block h1
        have f := free_of_block h1
        rcases h2 with ⟨h, _⟩ | ⟨-, off, cap, rfl, hc1, hc2, h2⟩
        · cases h
        have H1 := Lib.hid h1; clear h1
        have H2 := Lib.hid h2; clear h2
        have H3 := Lib.hid h3; clear h3
        have H4 := Lib.hid h4; clear h4
        simp only [List.length_cons] at hc1
        simp only [List.length_cons] at q
        go_wp2_with fail
        all_goals
          refine calls_world (fun W => PS W b g E (deep + 1) r tree row ∧ Turn b row w W ∧ Spaces W) ?_ ?_
          · exact ⟨PS.write 0 _ H1.out rfl (by first | exact tail_a (t := t) hc1 (by assumption) | exact tail_b hc1 hc2 H2.out) H3.out H4.out h5, HT1.out.set 0 _, space_below HSP1.out ((Below.refl b _).setCell (p := ⟨b, 0, none⟩) (Nat.le_refl _) _) h11⟩
          clear q f H1 H2 H3 H4
          rintro W4 ⟨hps4, ht4, hsp4⟩
          have HT4 := Lib.hid ht4; clear ht4
          have HB4 := Lib.hid (HT4.out.below hlt (fun k hk => Nat.le_of_lt (HRG.out k hk).1))
          have hx4 := HY.out r tree _ row hps4 hsp4 (by omega) (by rw [HR3.out]; simp)
          clear hps4 hsp4
          rw [HR3.out] at hx4
          refine hx4.mono ?_
          rintro e w5 ⟨rfl, row4, hps5, hnr5, ht5⟩
          have HNR5 := Lib.hid (hnr5 : NewRow W4 row row4)
          have HNR5' := Lib.hid (NewRow.trans (.inl rfl) HT4.out.size hnr5 : NewRow w row row4)
          have HT5 := Lib.hid (HT4.out.trans (.inl rfl) ht5)
          have HPS5 := Lib.hid hps5
          clear hps5 hnr5 ht5 hx4
          obtain ⟨lv, tv, h1, h2, h3, h4, h5⟩ := HPS5.out
          have q := cell_of_block h1
          have f := free_of_block h1
          have H1 := Lib.hid h1; clear h1
          have H2 := Lib.hid h2; clear h2
          have H3 := Lib.hid h3; clear h3
          have H4 := Lib.hid h4; clear h4
          go_wp2_with fail
          have hps6 := PS.write (E' := E) (deep' := deep) 2 (.int .i64 deep) H1.out (by simp) H2.out H3.out H4.out h5
          have hn6 := node_any _ b g E deep toks3 tree3 row4 (hps6.alloc (.cells #[.int .i64 b3] 3)) ⟨o, 0, 0, [], 0, 0, 0, 0, pl⟩ (.slice (some ⟨w5.heap.size, 0, none⟩) 1 1) [(b3 : Int)] (.inr ⟨_, 0, 1, rfl, kids_oneH _ _ (size_setCell _ _ _) b3 _⟩) (by simp) (by omega)
          simp only [nodeCells] at hn6
          refine hn6.mono ?_
          rintro e w6 ⟨rfl, row6, hps6, hnr6, ht6⟩
          have HNR6 := Lib.hid (HNR5'.out.trans (by have := HT5.out.size; simp [World.setCell]; omega) hnr6)
          have HT6 := Lib.hid (((HT5.out.set 2 _).alloc _).trans HNR5'.out ht6)
          have HPS6 := Lib.hid hps6
          clear hn6 hnr6 ht6 hps6 q f
          go_wp2_with fail
          go_ret
          exact ⟨rfl, row6, HPS6.out, HNR6.out, HT6.out⟩
end Go.Proofs.YtfkieomelkopeaaDoor
