/-
  atom: a call; an expression in parentheses; no word at all.
-/
import Derived.Test.YtfkieomelkopeaaDoorWAtom2
namespace Go.Proofs.YtfkieomelkopeaaDoor
open Go.RowKit
theorem PPost.world {b g E deep : Nat} {row : Option Nat} {w W : World} {x : R} (ht : Turn b row w W) (hlt : b < w.heap.size) (hr : ∀ k, row = some k → b ≤ k) {e : Ending} {w' : World} (h : PPost b g E deep row W x e w') : PPost b g E deep row w x e w' := by
  cases x with
  | ok a toks tree => obtain ⟨h1, row', h2, h3, h4⟩ := h; exact ⟨h1, row', h2, NewRow.trans (.inl rfl) ht.size h3, ht.trans (.inl rfl) h4⟩
  | err p er => exact ⟨h.1, (ht.below hlt hr).trans h.2⟩
  | out => exact h
set_option maxHeartbeats 4000000 in
set_option maxRecDepth 100000 in
theorem atom_call (w : World) (b g E deep : Nat) (ex : List Tok → List Node → R) (hx : ExOk b g E (deep + 1) 0 ex) (hgd : Good ex) (hd : deep ≤ 16) (t : Tok) (r : List Tok) (tree : List Node) (row : Option Nat) (h : PS w b g E deep (t :: r) tree row) (hsp : Spaces w) (h11 : 11 ≤ b) (hmax : tree.length + (t :: r).length ≤ 400)
    (co : Nat) (ca : List UInt8) (cm : Int) (cok : Bool) (hcl : ∀ W, Calls Tryd.prog 29 #[.string (bs t.text)] W fun e w' => e = .returned (.tuple #[.agg #[.int .u8 co, .string (bs ca), .int .i64 cm], .bool cok]) ∧ Below W.heap.size W w') (hkb : (((t.kind : Nat) : Int) == 2) = false) (ht : (t.text == [116, 114, 117, 101]) = false) (hf : (t.text == [102, 97, 108, 115, 101]) = false) (hok : cok = true) (hca : ca.length ≤ 3) (hasc : ∀ c ∈ ca, c.toNat < 128) (hne : callF isName ex E deep (co, ca, cm) (t :: r) tree ≠ .out) :
    Calls Tryd.prog 19 #[.pointer (some ⟨b, 0, none⟩)] w (PPost b g E deep row w (callF isName ex E deep (co, ca, cm) (t :: r) tree)) := by
  subst hok
  have hlt := h.lt
  have hrg := h.row_gt
  have hbk : b < w.heap.size + 1 := by omega
  have hbk' : b ≠ w.heap.size + 1 := by omega
  have hrk : some (w.heap.size + 1) ≠ row := fun e => by have := (hrg _ e.symm).2; omega
  have HPS := Lib.hid h
  have HRG := Lib.hid hrg; clear hrg
  obtain ⟨lv, tv, h1, h2, h3, h4, h5⟩ := h
  have q := cell_of_block h1
  have f := free_of_block h1
  rcases h2 with ⟨h, _⟩ | ⟨-, off, cap, rfl, hc1, hc2, h2⟩
  · cases h
  obtain ⟨t0, t1, t2, t3, t4, -⟩ := id h2
  have H1 := Lib.hid h1; clear h1
  have H2 := Lib.hid h2; clear h2
  have H3 := Lib.hid h3; clear h3
  have H4 := Lib.hid h4; clear h4
  simp only [List.length_cons] at hc1
  simp only [List.length_cons] at q
  have hp0 : (0 : Int) < (r.length : Int) + 1 := by omega
  have hp1 : ((r.length : Int) + 1 == 0) = false := by rw [beq_eq_false_iff_ne]; omega
  have HSP := Lib.hid hsp; clear hsp
  have hca0 := fun W hps hsp => call_any W b g E deep ex hx hgd t r tree row hps hsp h11 hd hmax co ca cm hca hasc hne
  have HCA := Lib.hid hca0; clear hca0
  clear hx hgd hasc hne
  generalize hfin : callF isName ex E deep (co, ca, cm) (t :: r) tree = fin at *
  clear hfin
  go_enter Tryd.func19, Tryd.ntmps19
  go_wp2_with fail
  refine (hcl _).mono ?_
  rintro e w2 ⟨rfl, hb2⟩
  obtain ⟨hk3, hk4, hb2, hs2⟩ := two_of hb2
  have HPS2 := Lib.hid (HPS.out.same hb2)
  have HB2 := Lib.hid hb2
  have hq2 := block_below H1.out hb2 hlt
  clear q f t0 t1 t2 t3 t4 hcl hb2
  have q := cell_of_block hq2
  have f := free_of_block hq2
  have q3 := cell_of_block hk3
  have q4 := cell_of_block hk4
  have f4 := free_of_block hk4
  simp only [List.length_cons] at q
  have HK4 := Lib.hid hk4
  have hs3 : w.heap.size < w2.heap.size := by omega
  have hs4 : w.heap.size + 1 < w2.heap.size := by omega
  have hs5 : b < w2.heap.size := by omega
  clear hq2 hk3 hk4
  have hc2 := HCA.out (w2.alloc (.cells #[.int .u8 co, .string (bs ca), .int .i64 cm] 61)) (HPS2.out.alloc _) (space_below HSP.out (HB2.out.alloc HB2.out.size _) (by omega))
  have HTU := Lib.hid ((Turn.of_below HB2.out : Turn b row w w2).alloc (.cells #[.int .u8 co, .string (bs ca), .int .i64 cm] 61))
  have hrr : ∀ k, row = some k → b ≤ k := fun k hk => Nat.le_of_lt (HRG.out k hk).1
  have HRR := Lib.hid hrr; clear hrr
  go_wp2_with fail
  refine hc2.mono ?_
  intro e w5 hpp
  have hpp2 := PPost.world HTU.out hlt HRR.out hpp
  clear hpp hc2 q f q3 q4 f4
  cases fin with
  | out => exact hpp2.elim
  | err p er =>
    obtain ⟨rfl, hb5⟩ := hpp2
    have HB5 := Lib.hid hb5; clear hb5
    go_wp2_with fail
    exact ⟨rfl, rfl, HB5.out⟩
  | ok a toks5 tree5 =>
    obtain ⟨rfl, hh⟩ := hpp2
    have HH := Lib.hid hh; clear hh
    go_wp2_with fail
    go_ret
    exact ⟨rfl, HH.out⟩
set_option maxHeartbeats 4000000 in
set_option maxRecDepth 100000 in
theorem atom_paren (w : World) (b g E deep : Nat) (ex : List Tok → List Node → R) (hx : ExOk b g E (deep + 1) 0 ex) (hgd : Good ex) (hd : deep ≤ 16) (t : Tok) (r : List Tok) (tree : List Node) (row : Option Nat) (h : PS w b g E deep (t :: r) tree row) (hsp : Spaces w) (h11 : 11 ≤ b) (hmax : tree.length + (t :: r).length ≤ 400)
    (co : Nat) (ca : List UInt8) (cm : Int) (cok : Bool) (hcl : ∀ W, Calls Tryd.prog 29 #[.string (bs t.text)] W fun e w' => e = .returned (.tuple #[.agg #[.int .u8 co, .string (bs ca), .int .i64 cm], .bool cok]) ∧ Below W.heap.size W w') (hkb : (((t.kind : Nat) : Int) == 2) = false) (ht : (t.text == [116, 114, 117, 101]) = false) (hf : (t.text == [102, 97, 108, 115, 101]) = false) (hp : (t.text == [40]) = true) (hok : cok = false) (fin : R) (hne : fin ≠ .out) (hfin : fin = if deep = 16 then .err t.place 10 else match ex r tree with | .ok a toks' tree' => if isW toks' [41] = true then .ok a toks'.tail tree' else .err (pos E toks') 4 | x => x) :
    Calls Tryd.prog 19 #[.pointer (some ⟨b, 0, none⟩)] w (PPost b g E deep row w fin) := by
  subst hok
  have hlt := h.lt
  have hrg := h.row_gt
  have hbk : b < w.heap.size + 1 := by omega
  have hbk' : b ≠ w.heap.size + 1 := by omega
  have hrk : some (w.heap.size + 1) ≠ row := fun e => by have := (hrg _ e.symm).2; omega
  have HPS := Lib.hid h
  have HRG := Lib.hid hrg; clear hrg
  obtain ⟨lv, tv, h1, h2, h3, h4, h5⟩ := h
  have q := cell_of_block h1
  have f := free_of_block h1
  rcases h2 with ⟨h, _⟩ | ⟨-, off, cap, rfl, hc1, hc2, h2⟩
  · cases h
  obtain ⟨t0, t1, t2, t3, t4, -⟩ := id h2
  have H1 := Lib.hid h1; clear h1
  have H2 := Lib.hid h2; clear h2
  have H3 := Lib.hid h3; clear h3
  have H4 := Lib.hid h4; clear h4
  simp only [List.length_cons] at hc1
  simp only [List.length_cons] at q
  have hp0 : (0 : Int) < (r.length : Int) + 1 := by omega
  have hp1 : ((r.length : Int) + 1 == 0) = false := by rw [beq_eq_false_iff_ne]; omega
  have HSP := Lib.hid hsp; clear hsp
  have HX := Lib.hid hx; clear hx
  have HGD := Lib.hid hgd; clear hgd
  have HNE := Lib.hid hne; clear hne
  have HFIN := Lib.hid hfin; clear hfin
  go_enter Tryd.func19, Tryd.ntmps19
  go_wp2_with fail
  refine (hcl _).mono ?_
  rintro e w2 ⟨rfl, hb2⟩
  obtain ⟨hk3, hk4, hb2, hs2⟩ := two_of hb2
  have HPS2 := Lib.hid (HPS.out.same hb2)
  have HB2 := Lib.hid hb2
  have hq2 := block_below H1.out hb2 hlt
  clear q f t0 t1 t2 t3 t4 hcl hb2
  have q := cell_of_block hq2
  have f := free_of_block hq2
  have q3 := cell_of_block hk3
  have q4 := cell_of_block hk4
  have f4 := free_of_block hk4
  simp only [List.length_cons] at q
  have HK4 := Lib.hid hk4
  have hs3 : w.heap.size < w2.heap.size := by omega
  have hs4 : w.heap.size + 1 < w2.heap.size := by omega
  have hs5 : b < w2.heap.size := by omega
  clear hq2 hk3 hk4
  have hps3 := HPS2.out.alloc (.cells #[.int .u8 co, .string (bs ca), .int .i64 cm] 61)
  have hsp3 := space_below HSP.out (HB2.out.alloc HB2.out.size (.cells #[.int .u8 co, .string (bs ca), .int .i64 cm] 61)) (by omega)
  have HTU := Lib.hid ((Turn.of_below HB2.out : Turn b row w w2).alloc (.cells #[.int .u8 co, .string (bs ca), .int .i64 cm] 61))
  have hrr : ∀ k, row = some k → b ≤ k := fun k hk => Nat.le_of_lt (HRG.out k hk).1
  have HRR := Lib.hid hrr; clear hrr
  have HSP3 := Lib.hid hsp3; clear hsp3
  simp only [List.length_cons] at hmax
  by_cases h16 : deep = 16
  · subst h16
    have hop := open_no _ b g E (t :: r) tree row hps3
    have hpe : pos E (t :: r) = t.place := rfl
    rw [hpe] at hop
    have hfa : Hid (fin = .err t.place 10) := by rw [Hid, HFIN.out]; simp
    have HBB := Lib.hid (HTU.out.below hlt HRR.out)
    clear hps3 hpe
    go_wp2_with fail
    refine hop.mono ?_; rintro e w' ⟨rfl, rfl⟩
    go_wp2_with fail
    rw [hfa.out]
    exact ⟨rfl, rfl, HBB.out⟩
  · have hop := open_yes _ b g E deep (t :: r) tree row hps3 (by omega)
    have hf1 : fin = match ex r tree with | .ok a toks' tree' => if isW toks' [41] = true then .ok a toks'.tail tree' else .err (pos E toks') 4 | x => x := by rw [HFIN.out, if_neg h16]
    have HF1 := Lib.hid hf1; clear hf1
    clear hps3 h16
    go_wp2_with fail
    refine hop.mono ?_; rintro e w5 ⟨rfl, hps5, ht5⟩
    have HT5 := Lib.hid (HTU.out.seq ht5.none_to)
    have HSP5 := Lib.hid (space_below HSP.out (HT5.out.below hlt HRR.out) h11)
    have HPS5 := Lib.hid hps5
    obtain ⟨lv, tv, h1', h2', h3', h4', h5'⟩ := hps5
    have q5 := cell_of_block h1'
    have f5 := free_of_block h1'
    rcases h2' with ⟨h, _⟩ | ⟨-, off', cap', rfl, hc1', hc2', h2'⟩
    · cases h
    simp only [List.length_cons] at q5 hc1'
    clear ht5 hop h1' h3' h4' h2' q f q3 q4 f4
    go_wp2_with fail
    all_goals
      refine calls_world (fun W => PS W b g E (deep + 1) r tree row ∧ Turn b row w W) ?_ ?_
      · constructor
        · exact PS.pop (t := t) (off := off') (cap := cap') HPS5.out (q5 0) _ _ (by first | exact .inl ⟨by assumption, rfl, rfl⟩ | exact .inr ⟨by assumption, rfl, rfl⟩)
        · exact HT5.out.set _ _
      rintro W4 ⟨hps4, ht4⟩
      have HT4 := Lib.hid ht4
      have HBB := Lib.hid (ht4.below hlt HRR.out)
      have hx0 := HX.out r tree W4 row hps4 (space_below HSP.out HBB.out h11) (by omega)
      have hf1 := HF1.out
      clear q5 f5 ht4 hps4
      cases hr3 : ex r tree with
      | out => rw [hr3] at hf1; exact absurd hf1 HNE.out
      | err p er =>
        rw [hr3] at hf1 hx0
        have hx4 := hx0 (by simp)
        have hfa : Hid (fin = .err p er) := hf1
        clear hx0 hr3 hf1
        refine hx4.mono ?_; rintro e w6 ⟨rfl, hb6⟩
        have HB6 := Lib.hid (HBB.out.trans hb6); clear hb6 hx4
        go_wp2_with fail
        rw [hfa.out]
        exact ⟨rfl, rfl, HB6.out⟩
      | ok a toks5 tree5 =>
        rw [hr3] at hf1 hx0
        have hx4 := hx0 (by simp)
        have HF2 := Lib.hid hf1
        clear hx0 hr3 hf1
        refine hx4.mono ?_; rintro e w6 ⟨rfl, row6, hps6, hnr6, ht6⟩
        have HNR6 := Lib.hid (NewRow.trans (.inl rfl) HT4.out.size hnr6 : NewRow w row row6)
        have HT6 := Lib.hid (HT4.out.trans (.inl rfl) ht6)
        have HPS6 := Lib.hid hps6
        clear hps6 hnr6 ht6 hx4
        cases hw : isW toks5 [41]
        · have hmu := must_no w6 b g E (deep + 1) toks5 tree5 row6 HPS6.out [41] hw
          have hfa : Hid (fin = .err (pos E toks5) 4) := (by have := HF2.out; simp only [hw] at this; simpa using this : fin = _)
          have HB6 := Lib.hid (HT6.out.below hlt HRR.out)
          clear hw
          go_wp2_with fail
          refine hmu.mono ?_; rintro e w' ⟨rfl, rfl⟩
          go_wp2_with fail
          rw [hfa.out]
          exact ⟨rfl, rfl, HB6.out⟩
        · have hmu := must_yes w6 b g E (deep + 1) toks5 tree5 row6 HPS6.out [41] hw
          have hfa : Hid (fin = .ok a toks5.tail tree5) := (by have := HF2.out; simp only [hw] at this; simpa using this : fin = _)
          clear hw
          go_wp2_with fail
          refine hmu.mono ?_; rintro e w7 ⟨rfl, hps7, ht7⟩
          have HT7 := Lib.hid (HT6.out.trans HNR6.out ht7.none_to)
          clear ht7 hmu
          obtain ⟨lv, tv, h1', h2', h3', h4', h5'⟩ := hps7
          have q7 := cell_of_block h1'
          have f7 := free_of_block h1'
          have H1' := Lib.hid h1'; clear h1'
          have H2' := Lib.hid h2'; clear h2'
          have H3' := Lib.hid h3'; clear h3'
          have H4' := Lib.hid h4'; clear h4'
          go_wp2_with fail
          go_ret
          rw [hfa.out]
          exact ⟨rfl, row6, PS.write (E' := E) (deep' := deep) 2 (.int .i64 deep) H1'.out (by simp) H2'.out H3'.out H4'.out h5', HNR6.out, HT7.out.set 2 _⟩
end Go.Proofs.YtfkieomelkopeaaDoor
