/-
  row and ahead: a level's parts side by side; a level with a word ahead; the level above given as a hypothesis.
-/
import Derived.Test.YtfkieomelkopeaaDoorWInfix
namespace Go.Proofs.YtfkieomelkopeaaDoor
open Go.RowKit
/-- How a parsing call ends: a node's place, the parser as the plain law says; or given up by a panic. -/
def PPost (b g E deep : Nat) (row : Option Nat) (w : World) : R → Ending → World → Prop
  | .ok a toks tree, e, w' => e = .returned (.int .i64 a) ∧ ∃ row', PS w' b g E deep toks tree row' ∧ NewRow w row row' ∧ Turn b row w w'
  | .err p er, e, w' => e = .panicked (stopChain p er) ∧ Below b w w'
  | .out, _, _ => False
abbrev Spaces (w : World) : Prop := Lib.TabIs Tryd.prog w "strings.asciiSpace" .u8 Lib.asciiSpaceTab
/-- The level 'lev' computes 'ex'. -/
def ExOk (b g E deep lev : Nat) (ex : List Tok → List Node → R) : Prop := ∀ (toks : List Tok) (tree : List Node) (w : World) (row : Option Nat), PS w b g E deep toks tree row → Spaces w → tree.length + toks.length ≤ 400 → ex toks tree ≠ .out →
  Calls Tryd.prog 9 #[.pointer (some ⟨b, 0, none⟩), .int .i64 lev] w (PPost b g E deep row w (ex toks tree))
/-- What is read makes the words fewer, and no more nodes than words. -/
def Good (ex : List Tok → List Node → R) : Prop := ∀ toks tree a toks' tree', ex toks tree = .ok a toks' tree' → toks'.length < toks.length ∧ tree'.length + toks'.length ≤ tree.length + toks.length
theorem PPost.err {b g E deep : Nat} {row : Option Nat} {w w0 : World} {p er : Nat} {e : Ending} {w' : World} (h : PPost b g E deep row w0 (.err p er) e w') (hb : Below b w w0) : e = .panicked (stopChain p er) ∧ Below b w w' := ⟨h.1, hb.trans h.2⟩
/-- How many words the parser's block says are left. -/
def lenAt (w : World) (b : Nat) : Nat := match w.cell? ⟨b, 0, none⟩ with | some (.slice _ n _) => n | _ => 0
theorem PS.lenAt {w : World} {b g E deep : Nat} {toks : List Tok} {tree : List Node} {row : Option Nat} (h : PS w b g E deep toks tree row) : lenAt w b = toks.length := by
  obtain ⟨lv, tv, h1, h2, -⟩ := h
  have q : w.cell? ⟨b, 0, none⟩ = some lv := cell_of_block h1 0
  rcases h2 with ⟨rfl, a, c, rfl⟩ | ⟨h, off, cap, rfl, _⟩
  · simp [Go.Proofs.YtfkieomelkopeaaDoor.lenAt, q]
  · simp [Go.Proofs.YtfkieomelkopeaaDoor.lenAt, q]
theorem opsAt_turn {w w' : World} {b gl : Nat} {row : Option Nat} {ops : List (List UInt8 × Nat)} (h : OpsAt w gl ops) (ht : Turn b row w w') (h1 : gl < w.heap.size) (h2 : gl ≠ b) (h3 : some gl ≠ row) : OpsAt w' gl ops := fun i hi => by
  have hb := ht.block gl h1 h2 h3
  obtain ⟨a, c⟩ := h i hi
  exact ⟨(World.cell?_of_block (a := ⟨gl, i * 2, none⟩) hb).trans a, (World.cell?_of_block (a := ⟨gl, i * 2 + 1, none⟩) hb).trans c⟩
theorem Turn.alloc {b : Nat} {row : Option Nat} {w w' : World} (h : Turn b row w w') (o : Obj) : Turn b row w (w'.alloc o) :=
  ⟨h.os, h.tape, h.output, by have := h.size; simp; omega, fun k hk h1 h2 => by have := h.size; rw [Below.heap_alloc _ _ _ (by omega)]; exact h.block k hk h1 h2⟩
theorem Turn.then_below {b : Nat} {row : Option Nat} {w w' w'' : World} (h : Turn b row w w') (hb : Below w'.heap.size w' w'') : Turn b row w w'' :=
  ⟨hb.os.trans h.os, hb.tape.trans h.tape, hb.output.trans h.output, Nat.le_trans h.size hb.size, fun k hk h1 h2 => by have := h.size; rw [hb.block k (by omega)]; exact h.block k hk h1 h2⟩
theorem PS.alloc {w : World} {b g E deep : Nat} {toks : List Tok} {tree : List Node} {row : Option Nat} (h : PS w b g E deep toks tree row) (o : Obj) : PS (w.alloc o) b g E deep toks tree row := h.same ((Below.refl _ _).alloc (Nat.le_refl _) _)
theorem ifx_nil : ∀ ops : List (List UInt8 × Nat), ifx ops [] = 0
  | [] => rfl
  | (t, o) :: r => by simp [ifx, isW, ifx_nil r]
theorem calls_world {P : Program} {f : FuncId} {args : Array Value} {R : Ending → World → Prop} {w : World} (Q : World → Prop) (hq : Q w) (h : ∀ W, Q W → Calls P f args W R) : Calls P f args w R := h w hq
theorem kids_two (w : World) (a c : Int) (t : TypeId) : ∀ j v, ([a, c].map (Value.int .i64))[j]? = some v → (w.alloc (.cells #[.int .i64 a, .int .i64 c] t)).cell? ⟨w.heap.size, 0 + j, none⟩ = some v := by
  intro j v h
  rw [Nat.zero_add, cell_of_block (heap_alloc_new w _)]
  simpa using h
theorem kids_one (w : World) (a : Int) (t : TypeId) : ∀ j v, ([a].map (Value.int .i64))[j]? = some v → (w.alloc (.cells #[.int .i64 a] t)).cell? ⟨w.heap.size, 0 + j, none⟩ = some v := by
  intro j v h
  rw [Nat.zero_add, cell_of_block (heap_alloc_new w _)]
  simpa using h
theorem spaces_turn {w w' : World} {b : Nat} {row : Option Nat} (h : Spaces w) (ht : Turn b row w w') (hb : b < w.heap.size) (h11 : 11 ≤ b) (hr : ∀ k, row = some k → b ≤ k) : Spaces w' := space_below h (ht.below hb hr) h11
set_option maxHeartbeats 2000000 in
set_option maxRecDepth 100000 in
theorem row_any (w : World) (b g E deep lev : Nat) (ex : List Tok → List Node → R) (hx : ExOk b g E deep (lev + 1) ex) (hgd : Good ex) (toks : List Tok) (tree : List Node) (row : Option Nat) (h : PS w b g E deep toks tree row) (hsp : Spaces w) (h11 : 11 ≤ b)
    (hmax : tree.length + toks.length ≤ 400) (many : Bool) (gl c : Nat) (ops : List (List UInt8 × Nat)) (ho : OpsAt w gl ops) (hgl : gl < w.heap.size) (hglb : b < gl) (hglr : some gl ≠ row) (hc : ops.length ≤ 100) (hlev : lev ≤ 7)
    (hne : rowF ex E many ops toks tree ≠ .out) :
    Calls Tryd.prog 27 #[.pointer (some ⟨b, 0, none⟩), .int .i64 lev, .bool many, .slice (some ⟨gl, 0, none⟩) ops.length c] w (PPost b g E deep row w (rowF ex E many ops toks tree)) := by
  have hx0 := hx toks tree w row h hsp hmax (fun e => hne (by simp [rowF, e]))
  have HX := Lib.hid hx; clear hx
  have HGD := Lib.hid hgd; clear hgd
  have HNE := Lib.hid hne; clear hne
  have hlt := h.lt
  have hrg := h.row_gt
  cases hr1 : ex toks tree with
  | out => exact absurd (by simp [rowF, hr1]) HNE.out
  | err p er =>
    have hf : rowF ex E many ops toks tree = .err p er := by simp [rowF, hr1]
    rw [hf]
    rw [hr1] at hx0
    clear ho hsp h hrg hr1 hf HNE
    go_enter Tryd.func27, Tryd.ntmps27
    go_wp2_with fail
    refine hx0.mono ?_
    rintro e w1 ⟨rfl, hb1⟩
    go_wp2_with fail
    exact ⟨rfl, rfl, hb1⟩
  | ok a toks1 tree1 =>
    have hf : rowF ex E many ops toks tree = rowLoop ex E many ops (toks1.length + 1) a toks1 tree1 := by simp [rowF, hr1]
    rw [hf] at HNE ⊢
    have hg1 := HGD.out _ _ _ _ _ hr1
    rw [hr1] at hx0
    have HO := Lib.hid ho; clear ho
    have HSP := Lib.hid hsp; clear hsp
    have HRG := Lib.hid hrg; clear hrg
    generalize hfin : rowLoop ex E many ops (toks1.length + 1) a toks1 tree1 = fin at *
    have HF := Lib.hid hfin; clear hfin
    clear hr1 hf h
    go_enter Tryd.func27, Tryd.ntmps27
    go_wp2_with fail
    refine hx0.mono ?_
    rintro e w1 ⟨rfl, row1, hps, hnr, ht⟩
    have HPS := Lib.hid hps; clear hps
    have HNR := Lib.hid hnr; clear hnr
    have HT := Lib.hid ht; clear ht
    clear hx0
    go_wp2_with fail
    go_loopw [9] (fun v wr => ∃ (a m : Nat) (toks' : List Tok) (tree' : List Node) (row' : Option Nat), v = .int .i64 a ∧ tree'.length + toks'.length ≤ 400 ∧ Hid (PS wr b g E deep toks' tree' row') ∧ Hid (NewRow w row row') ∧ Hid (Turn b row w wr) ∧ Hid (rowLoop ex E many ops m a toks' tree' = fin)) (fun _ wr => lenAt wr b)
    case atStart => exact ⟨a, toks1.length + 1, toks1, tree1, row1, rfl, by omega, HPS, HNR, HT, HF⟩
    case round =>
      obtain ⟨a, m, toks2, tree2, row2, rfl, hb4, HPS2, HNR2, HT2, HF2⟩ := hrel
      have hlen := HPS2.out.lenAt
      have HLEN := Lib.hid hlen; clear hlen
      have hszr := HT2.out.size
      obtain ⟨m, rfl⟩ : ∃ m', m = m' + 1 := by
        cases m with
        | zero => exact absurd HF2.out.symm HNE.out
        | succ m => exact ⟨m, rfl⟩
      have hat := at_any wr b g E deep toks2 tree2 row2 HPS2.out
      have hglr2 : some gl ≠ row2 := fun e => by
        rcases HNR2.out with h | ⟨k, h, hk⟩
        · exact hglr (e.trans h)
        · rw [h] at e; cases e; omega
      have hin := infix_any wr b g E deep toks2 tree2 row2 HPS2.out gl c ops (opsAt_turn HO.out HT2.out hgl (by omega) hglr) (by omega) hc
      have hblt : b < wr.heap.size := HPS2.out.lt
      have HRG2 := Lib.hid HPS2.out.row_gt
      have HSPr := Lib.hid (spaces_turn HSP.out HT2.out hlt h11 (fun k hk => Nat.le_of_lt (HRG.out k hk).1))
      by_cases ho0 : ifx ops toks2 = 0
      · have HR : Hid (fin = .ok a toks2 tree2) := by
          have := HF2.out
          simp only [rowLoop, ho0, if_true] at this
          exact this.symm
        rw [ho0] at hin
        clear ho0
        have HAT := Lib.hid hat; clear hat
        go_wp2_with fail
        refine HAT.out.mono ?_; rintro e w' ⟨rfl, rfl⟩
        go_wp2_with fail
        refine hin.mono ?_; rintro e w2 ⟨rfl, hb2⟩
        have HB2 := Lib.hid hb2; clear hb2
        clear hin
        go_wp2_with fail
        go_ret
        rw [HR.out]
        exact ⟨rfl, row2, HPS2.out.same HB2.out, HNR2.out, HT2.out.trans HNR2.out (Turn.of_below HB2.out)⟩
      · have ho1 : (((ifx ops toks2 : Nat) : Int) == 0) = false := by rw [beq_eq_false_iff_ne]; omega
        cases toks2 with
        | nil => exact absurd (ifx_nil ops) ho0
        | cons t r =>
        have hgr := HF2.out
        simp only [rowLoop, ho0, if_false, List.tail_cons] at hgr
        have hpe : pos E (t :: r) = t.place := rfl
        rw [hpe] at hat hgr
        generalize ifx ops (t :: r) = on at *
        generalize t.place = pl at *
        have HAT := Lib.hid hat; clear hat
        cases hr3 : ex r tree2 with
        | out => rw [hr3] at hgr; exact absurd hgr.symm HNE.out
        | err p er =>
          rw [hr3] at hgr
          have HR := Lib.hid hgr.symm; clear hgr
          have HR3 := Lib.hid hr3; clear hr3
          go_wp2_with fail
          refine HAT.out.mono ?_; rintro e w' ⟨rfl, rfl⟩
          go_wp2_with fail
          refine hin.mono ?_; rintro e w2 ⟨rfl, hb2⟩
          have HT3 := Lib.hid (HT2.out.then_below hb2)
          have HSP3 := Lib.hid (space_below HSPr.out hb2 (by omega))
          have HPS3 := Lib.hid (HPS2.out.same hb2)
          have hsz3 := HT3.out.size
          clear hb2 hin
          obtain ⟨lv, tv, h1, h2, h3, h4, h5⟩ := HPS3.out
          have q := cell_of_block h1
          have f := free_of_block h1
          rcases h2 with ⟨h, _⟩ | ⟨-, off, cap, rfl, hc1, hc2, h2⟩
          · cases h
          have H1 := Lib.hid h1; clear h1
          have H2 := Lib.hid h2; clear h2
          have H3 := Lib.hid h3; clear h3
          have H4 := Lib.hid h4; clear h4
          simp only [List.length_cons] at hc1 hb4
          simp only [List.length_cons] at q
          go_wp2_with fail
          all_goals
            refine calls_world (fun W => PS W b g E deep r tree2 row2 ∧ Turn b row w W ∧ Spaces W) ?_ ?_
            · exact ⟨PS.write 0 _ H1.out rfl (by first | exact tail_a (t := t) hc1 (by assumption) | exact tail_b hc1 hc2 H2.out) H3.out H4.out h5, HT3.out.set 0 _, space_below HSP3.out ((Below.refl b _).setCell (p := ⟨b, 0, none⟩) (Nat.le_refl _) _) h11⟩
            clear q f H1 H2 H3 H4
            rintro W4 ⟨hps4, ht4, hsp4⟩
            have HT4 := Lib.hid ht4; clear ht4
            have HB4 := Lib.hid (HT4.out.below hlt (fun k hk => Nat.le_of_lt (HRG.out k hk).1))
            have hx4 := HX.out r tree2 _ row2 hps4 hsp4 (by omega) (by rw [HR3.out]; simp)
            clear hps4 hsp4
            rw [HR3.out] at hx4
            refine hx4.mono ?_
            rintro e w5 ⟨rfl, hb5⟩
            have HB5 := Lib.hid (HB4.out.trans hb5); clear hb5
            clear hx4
            go_wp2_with fail
            rw [HR.out]
            exact ⟨rfl, rfl, HB5.out⟩
        | ok b3 toks3 tree3 =>
          rw [hr3] at hgr
          have hg3 := HGD.out _ _ _ _ _ hr3
          have HR := Lib.hid hgr; clear hgr
          have HR3 := Lib.hid hr3; clear hr3
          cases many
          · simp only [Bool.false_eq_true, if_false] at HR
            go_wp2_with fail
            refine HAT.out.mono ?_; rintro e w' ⟨rfl, rfl⟩
            go_wp2_with fail
            refine hin.mono ?_; rintro e w2 ⟨rfl, hb2⟩
            have HT3 := Lib.hid (HT2.out.then_below hb2)
            have HSP3 := Lib.hid (space_below HSPr.out hb2 (by omega))
            have HPS3 := Lib.hid (HPS2.out.same hb2)
            have hsz3 := HT3.out.size
            clear hb2 hin
            obtain ⟨lv, tv, h1, h2, h3, h4, h5⟩ := HPS3.out
            have q := cell_of_block h1
            have f := free_of_block h1
            rcases h2 with ⟨h, _⟩ | ⟨-, off, cap, rfl, hc1, hc2, h2⟩
            · cases h
            have H1 := Lib.hid h1; clear h1
            have H2 := Lib.hid h2; clear h2
            have H3 := Lib.hid h3; clear h3
            have H4 := Lib.hid h4; clear h4
            simp only [List.length_cons] at hc1 hb4
            simp only [List.length_cons] at q
            go_wp2_with fail
            all_goals
              refine calls_world (fun W => PS W b g E deep r tree2 row2 ∧ Turn b row w W ∧ Spaces W) ?_ ?_
              · exact ⟨PS.write 0 _ H1.out rfl (by first | exact tail_a (t := t) hc1 (by assumption) | exact tail_b hc1 hc2 H2.out) H3.out H4.out h5, HT3.out.set 0 _, space_below HSP3.out ((Below.refl b _).setCell (p := ⟨b, 0, none⟩) (Nat.le_refl _) _) h11⟩
              clear q f H1 H2 H3 H4
              rintro W4 ⟨hps4, ht4, hsp4⟩
              have HT4 := Lib.hid ht4; clear ht4
              have HB4 := Lib.hid (HT4.out.below hlt (fun k hk => Nat.le_of_lt (HRG.out k hk).1))
              have hx4 := HX.out r tree2 _ row2 hps4 hsp4 (by omega) (by rw [HR3.out]; simp)
              clear hps4 hsp4
              rw [HR3.out] at hx4
              refine hx4.mono ?_
              rintro e w5 ⟨rfl, row4, hps5, hnr5, ht5⟩
              have HNR5 := Lib.hid (HNR2.out.trans HT4.out.size hnr5)
              have HT5 := Lib.hid (HT4.out.trans HNR2.out ht5)
              have HPS5 := Lib.hid hps5
              clear hps5 hnr5 ht5 hx4
              go_wp2_with fail
              have hn6 := node_any _ b g E deep toks3 tree3 row4 (HPS5.out.alloc (.cells #[.int .i64 a, .int .i64 b3] 3)) ⟨on, 0, 0, [], 0, 0, 0, 0, pl⟩ (.slice (some ⟨w5.heap.size, 0, none⟩) 2 2) [(a : Int), (b3 : Int)] (.inr ⟨_, 0, 2, rfl, kids_two w5 a b3 _⟩) (by simp) (by omega)
              simp only [nodeCells] at hn6
              refine hn6.mono ?_
              rintro e w6 ⟨rfl, row6, hps6, hnr6, ht6⟩
              have HNR6 := Lib.hid (HNR5.out.trans (by have := HT5.out.size; simp; omega) hnr6)
              have HT6 := Lib.hid ((HT5.out.alloc _).trans HNR5.out ht6)
              clear hn6 hnr6 ht6
              have HPS6 := Lib.hid hps6; clear hps6
              go_wp2_with fail
              have hps6 := HPS6.out
              go_ret
              rw [← HR.out]
              exact ⟨rfl, row6, hps6, HNR6.out, HT6.out⟩
          · simp only [if_true] at HR
            go_wp2_with fail
            refine HAT.out.mono ?_; rintro e w' ⟨rfl, rfl⟩
            go_wp2_with fail
            refine hin.mono ?_; rintro e w2 ⟨rfl, hb2⟩
            have HT3 := Lib.hid (HT2.out.then_below hb2)
            have HSP3 := Lib.hid (space_below HSPr.out hb2 (by omega))
            have HPS3 := Lib.hid (HPS2.out.same hb2)
            have hsz3 := HT3.out.size
            clear hb2 hin
            obtain ⟨lv, tv, h1, h2, h3, h4, h5⟩ := HPS3.out
            have q := cell_of_block h1
            have f := free_of_block h1
            rcases h2 with ⟨h, _⟩ | ⟨-, off, cap, rfl, hc1, hc2, h2⟩
            · cases h
            have H1 := Lib.hid h1; clear h1
            have H2 := Lib.hid h2; clear h2
            have H3 := Lib.hid h3; clear h3
            have H4 := Lib.hid h4; clear h4
            simp only [List.length_cons] at hc1 hb4
            simp only [List.length_cons] at q
            go_wp2_with fail
            all_goals
              refine calls_world (fun W => PS W b g E deep r tree2 row2 ∧ Turn b row w W ∧ Spaces W) ?_ ?_
              · exact ⟨PS.write 0 _ H1.out rfl (by first | exact tail_a (t := t) hc1 (by assumption) | exact tail_b hc1 hc2 H2.out) H3.out H4.out h5, HT3.out.set 0 _, space_below HSP3.out ((Below.refl b _).setCell (p := ⟨b, 0, none⟩) (Nat.le_refl _) _) h11⟩
              clear q f H1 H2 H3 H4
              rintro W4 ⟨hps4, ht4, hsp4⟩
              have HT4 := Lib.hid ht4; clear ht4
              have HB4 := Lib.hid (HT4.out.below hlt (fun k hk => Nat.le_of_lt (HRG.out k hk).1))
              have hx4 := HX.out r tree2 _ row2 hps4 hsp4 (by omega) (by rw [HR3.out]; simp)
              clear hps4 hsp4
              rw [HR3.out] at hx4
              refine hx4.mono ?_
              rintro e w5 ⟨rfl, row4, hps5, hnr5, ht5⟩
              have HNR5 := Lib.hid (HNR2.out.trans HT4.out.size hnr5)
              have HT5 := Lib.hid (HT4.out.trans HNR2.out ht5)
              have HPS5 := Lib.hid hps5
              clear hps5 hnr5 ht5 hx4
              go_wp2_with fail
              have hn6 := node_any _ b g E deep toks3 tree3 row4 (HPS5.out.alloc (.cells #[.int .i64 a, .int .i64 b3] 3)) ⟨on, 0, 0, [], 0, 0, 0, 0, pl⟩ (.slice (some ⟨w5.heap.size, 0, none⟩) 2 2) [(a : Int), (b3 : Int)] (.inr ⟨_, 0, 2, rfl, kids_two w5 a b3 _⟩) (by simp) (by omega)
              simp only [nodeCells] at hn6
              refine hn6.mono ?_
              rintro e w6 ⟨rfl, row6, hps6, hnr6, ht6⟩
              have HNR6 := Lib.hid (HNR5.out.trans (by have := HT5.out.size; simp; omega) hnr6)
              have HT6 := Lib.hid ((HT5.out.alloc _).trans HNR5.out ht6)
              clear hn6 hnr6 ht6
              have HPS6 := Lib.hid hps6; clear hps6
              go_wp2_with fail
              have hps6 := HPS6.out
              go_roundw
              case rel => exact ⟨tree3.length, m, toks3, _, row6, rfl, by simp at hg3 hb4 ⊢; omega, hps6, HNR6.out, HT6.out, HR.out⟩
              case measure => rw [HLEN.out, hps6.lenAt]; simp at hg3 ⊢; omega
end Go.Proofs.YtfkieomelkopeaaDoor
