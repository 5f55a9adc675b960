/-
  call: a call's arguments, each by its kind; then its node.
-/
import Derived.Test.YtfkieomelkopeaaDoorWCallK
import Derived.Deep.RegionHeld3
import Derived.Deep.DeepCutAuto
import Derived.Lib.OthersKept
namespace Go.Proofs.YtfkieomelkopeaaDoor
open Go.RowKit
theorem info_int3 : (Tryd.prog.info? 3).map (fun i => (i.zero, i.size, i.bytes)) = some (some (.int .i64 0), 1, 8) := by kernel_rfl
theorem kids_map (n : Node) (ks : List Nat) : withKids n (ks.map fun a => ((a : Nat) : Int)) = { n with k0 := kid ks 0, k1 := kid ks 1, k2 := kid ks 2 } := by
  have h : ∀ i, (ks.map fun a => ((a : Nat) : Int)).getD i (-1) = kid ks i := fun i => by
    rw [List.getD_eq_getElem?_getD, List.getElem?_map]
    cases h : ks[i]? <;> simp [kid, h]
  simp only [withKids, h]
theorem kids_at {w : World} {base : Nat} {kv : Value} {ks : List Nat} (h : w.ownsRow base 3 1 kv ks.length (ks.map fun n => Value.int .i64 ((n : Nat) : Int))) :
    ((ks.map fun a => ((a : Nat) : Int)) = [] ∧ ∃ a c, kv = .slice a 0 c) ∨ (∃ gk off c, kv = .slice (some ⟨gk, off, none⟩) (ks.map fun a => ((a : Nat) : Int)).length c ∧ ∀ j v, ((ks.map fun a => ((a : Nat) : Int)).map (Value.int .i64))[j]? = some v → w.cell? ⟨gk, off + j, none⟩ = some v) := by
  obtain ⟨h1, h2⟩ := h
  rcases h2 with ⟨rfl, h⟩ | ⟨gk, cap, cur, rfl, _, hh, _, _, _, ht⟩
  · exact .inl ⟨by simpa using List.eq_nil_of_length_eq_zero h, _, _, rfl⟩
  · refine .inr ⟨gk, 0, cap, by simp, fun j v hv => ?_⟩
    rw [Nat.zero_add, cell_of_block hh]
    have : (cur.toList.take (ks.length * 1))[j]? = some v := by rw [ht]; simpa using hv
    rw [List.getElem?_take] at this
    split at this
    · simpa using this
    · cases this
set_option maxHeartbeats 4000000 in
set_option maxRecDepth 100000 in
theorem call_any (w : World) (b g E deep : Nat) (ex : List Tok → List Node → R) (hx : ExOk b g E (deep + 1) 0 ex) (hgd : Good ex) (t : Tok) (r : List Tok) (tree : List Node) (row : Option Nat)
    (h : PS w b g E deep (t :: r) tree row) (hsp : Spaces w) (h11 : 11 ≤ b) (hd : deep ≤ 16) (hmax : tree.length + (t :: r).length ≤ 400) (o : Nat) (args : List UInt8) (most : Int) (ha : args.length ≤ 3) (hasc : ∀ c ∈ args, c.toNat < 128)
    (hne : callF isName ex E deep (o, args, most) (t :: r) tree ≠ .out) :
    Calls Tryd.prog 30 #[.pointer (some ⟨b, 0, none⟩), .agg #[.int .u8 o, .string (bs args), .int .i64 most]] w (PPost b g E deep row w (callF isName ex E deep (o, args, most) (t :: r) tree)) := by
  have hlt := h.lt
  have hrg := h.row_gt
  have hpe : pos E (t :: r) = t.place := rfl
  have hat := fun W (hb : Below w.heap.size w W) => at_any W b g E deep (t :: r) tree row (h.same hb)
  rw [hpe] at hat
  have hat1 := hat (w.alloc (.cells #[.int .u8 o, .string (bs args), .int .i64 most] 61)).drew ((Below.refl _ _).alloc (Nat.le_refl _) _).drew
  have hat2 := hat ((w.alloc (.cells #[.int .u8 o, .string (bs args), .int .i64 most] 61)).alloc (.cells #[.int .u8 0, .int .i64 0, .int .i64 0, .string (bs []), .int .i64 0, .int .i64 0, .int .i64 0, .int .i64 0, .int .i64 0] 34)).drew (((Below.refl _ _).alloc (Nat.le_refl _) _).alloc (by simp) _).drew
  generalize hfin : callF isName ex E deep (o, args, most) (t :: r) tree = fin at *
  have HNE := Lib.hid hne; clear hne
  have HFIN := Lib.hid hfin; clear hfin
  have HX := Lib.hid hx; clear hx
  have HGD := Lib.hid hgd; clear hgd
  have HSP := Lib.hid hsp; clear hsp
  have HRG := Lib.hid hrg; clear hrg
  have HPS := Lib.hid h; clear h
  have HASC := Lib.hid hasc; clear hasc
  clear hpe
  generalize hpl : t.place = pl at *
  have HPL := Lib.hid hpl; clear hpl
  clear hat
  go_enter Tryd.func30, Tryd.ntmps30
  go_upto_region 1 with fail
  go_cut [5] (fun s5 wx => s5 = .pointer (some ⟨w.heap.size + 1, 0, none⟩) ∧ wx.heap[w.heap.size]? = some (.cells #[.int .u8 o, .string (bs args), .int .i64 most] 61 (0, 0)) ∧ wx.heap[w.heap.size + 1]? = some (.cells #[.int .u8 o, .int .i64 0, .int .i64 0, .string (bs []), .int .i64 0, .int .i64 0, .int .i64 0, .int .i64 0, .int .i64 pl] 34 (0, 0)) ∧ Below w.heap.size w wx ∧ wx.heap.size = w.heap.size + 2)
  case first =>
    go_region_held3 (fun w' => w'.cell? ⟨w.heap.size, 0, none⟩ = some (.int .u8 o)) (go_keep)
      (first | (go_at_call 20; (with_reducible refine hat1.mono ?_); rintro e w' ⟨rfl, rfl⟩) | (go_at_call 20; (with_reducible refine hat2.mono ?_); rintro e w' ⟨rfl, rfl⟩))
    all_goals
      go_wp2_with fail
      go_meet
      refine ⟨rfl, ?_, ?_, (((Below.refl _ _).alloc (Nat.le_refl _) _).alloc (by simp) _).drew, ?_⟩
      · show ((w.alloc _).alloc _).heap[w.heap.size]? = _
        rw [Below.heap_alloc _ _ _ (by simp), heap_alloc_new w _]
      · show ((w.alloc _).alloc _).heap[w.heap.size + 1]? = _
        rw [show w.heap.size + 1 = (w.alloc (.cells #[.int .u8 o, .string (bs args), .int .i64 most] 61)).heap.size by simp, heap_alloc_new _ _]
      · show ((w.alloc _).alloc _).heap.size = _
        simp
  case rest =>
    obtain ⟨rfl, hk0, hk1, hb0, hsz⟩ := hcut
    clear hat1 hat2
    have hps0 := HPS.out.same hb0
    have HB0 := Lib.hid hb0; clear hb0
    have HK0 := Lib.hid hk0; clear hk0
    have HK1 := Lib.hid hk1; clear hk1
    have HSZ := Lib.hid hsz; clear hsz
    go_upto_region 2 with fail
    go_cut [14] (fun _ wx' => Hid (wx'.heap[w.heap.size]? = some (.cells #[.int .u8 o, .string (bs args), .int .i64 most] 61 (0, 0)) ∧ wx'.heap[w.heap.size + 1]? = some (.cells #[.int .u8 o, .int .i64 0, .int .i64 0, .string (bs []), .int .i64 0, .int .i64 0, .int .i64 0, .int .i64 0, .int .i64 pl] 34 (0, 0)) ∧ PS wx' b g E deep r tree row ∧ Turn b row w wx' ∧ wx'.heap.size = w.heap.size + 2))
    case first =>
      obtain ⟨lv, tv, h1, h2, h3, h4, h5⟩ := hps0
      have q := cell_of_block h1
      have f := free_of_block h1
      rcases h2 with ⟨h, _⟩ | ⟨-, off, cap, rfl, hc1, hc2, h2⟩
      · cases h
      have H1 := Lib.hid h1; clear h1
      have H2 := Lib.hid h2; clear h2
      have H3 := Lib.hid h3; clear h3
      have H4 := Lib.hid h4; clear h4
      simp only [List.length_cons] at hc1
      simp only [List.length_cons] at q
      go_wp2_with fail
      all_goals
        go_meet
        exact ⟨by rw [Below.heap_setCell _ _ _ _ (by show w.heap.size ≠ b; omega)]; exact HK0.out, by rw [Below.heap_setCell _ _ _ _ (by show w.heap.size + 1 ≠ b; omega)]; exact HK1.out,
          PS.write 0 _ H1.out rfl (by first | exact tail_a (t := t) hc1 (by assumption) | exact tail_b hc1 hc2 H2.out) H3.out H4.out h5, ((Turn.of_below HB0.out).set 0 _), by rw [size_setCell]; exact HSZ.out⟩
    case rest =>
      obtain ⟨hk0, hk1, hps, ht, hsz⟩ := hcut.out
      have his := is_any _ b g E deep r tree row hps [40]
      have HB := Lib.hid (ht.below hlt (fun k hk => Nat.le_of_lt (HRG.out k hk).1))
      cases hw : isW r [40]
      · have hf : fin = .err (pos E r) 4 := by rw [← HFIN.out]; simp [callF, hw]
        have hmu := must_no _ b g E deep r tree row hps [40] hw
        rw [hw] at his
        subst hf
        clear hk0 hk1 hps ht hsz hw hcut HNE HFIN
        go_wp2_with fail
        refine his.mono ?_; rintro e w' ⟨rfl, rfl⟩
        go_wp2_with fail
        refine hmu.mono ?_; rintro e w' ⟨rfl, rfl⟩
        go_wp2_with fail
        exact ⟨rfl, rfl, HB.out⟩
      · rw [hw] at his
        by_cases h16 : deep = 16
        · subst h16
          have hf : fin = .err (pos E r) 10 := by rw [← HFIN.out]; simp [callF, hw]
          have hop := open_no _ b g E r tree row hps
          subst hf
          clear hk0 hk1 hps ht hsz hw hcut HNE HFIN
          go_wp2_with fail
          refine his.mono ?_; rintro e w' ⟨rfl, rfl⟩
          go_wp2_with fail
          refine hop.mono ?_; rintro e w' ⟨rfl, rfl⟩
          go_wp2_with fail
          exact ⟨rfl, rfl, HB.out⟩
        · have hop := open_yes _ b g E deep r tree row hps (by omega)
          have hf : fin = match argsF isName ex E most args true [] [] 0 r.tail tree with
            | .ok kids name k toks' tree' => if isW toks' [41] = true then .ok tree'.length toks'.tail (tree' ++ [⟨o, 0, 0, name, k, kid kids 0, kid kids 1, kid kids 2, t.place⟩]) else .err (pos E toks') 4
            | .err p e => .err p e
            | .out => .out := by rw [← HFIN.out]; simp only [callF, List.tail_cons, hw, Bool.true_eq_false, if_false, h16]; rfl
          have HPLo := HPL.out
          rw [HPLo] at hf
          generalize hfa : argsF isName ex E most args true [] [] 0 r.tail tree = fa at hf
          have HFA := Lib.hid hfa; clear hfa
          have HF := Lib.hid hf; clear hf
          have hrl : r.tail.length < r.length := by cases r <;> simp_all [isW]
          simp only [List.length_cons] at hmax
          have HT := Lib.hid ht; clear ht
          have HK0 := Lib.hid hk0; clear hk0
          have HK1 := Lib.hid hk1; clear hk1
          clear hps hcut HPLo
          have HWR := Lib.hid hw; clear hw
          go_wp2_with fail
          refine his.mono ?_; rintro e w' ⟨rfl, rfl⟩
          clear his
          go_wp2_with fail
          refine hop.mono ?_; rintro e w2 ⟨rfl, hps2, ht2⟩
          clear hop
          have hmu := must_yes w2 b g E (deep + 1) r tree row hps2 [40] HWR.out
          have HT2 := Lib.hid (HT.out.seq ht2.none_to)
          have HK02 : Hid (w2.heap[w.heap.size]? = some (.cells #[.int .u8 o, .string (bs args), .int .i64 most] 61 (0, 0))) := by rw [Hid, ht2.block _ (by omega) (by omega) (by simp)]; exact HK0.out
          have HK12 := (ht2.block (w.heap.size + 1) (by omega) (by omega) (by simp)).trans HK1.out
          have hsz2 := ht2.size
          have HK12 := Lib.hid HK12
          clear hps2 ht2
          go_wp2_with fail
          refine hmu.mono ?_; rintro e w3 ⟨rfl, hps3, ht3⟩
          clear hmu
          have HT3 := Lib.hid (HT2.out.seq ht3.none_to)
          have HK03 : Hid (w3.heap[w.heap.size]? = some (.cells #[.int .u8 o, .string (bs args), .int .i64 most] 61 (0, 0))) := by rw [Hid, ht3.block _ (by omega) (by omega) (by simp)]; exact HK02.out
          have HK13 := Lib.hid ((ht3.block (w.heap.size + 1) (by omega) (by omega) (by simp)).trans HK12.out)
          have hsz3 := ht3.size
          have HPS3 := Lib.hid hps3
          have q0 := cell_of_block HK03.out
          clear ht3 hps3
          go_wp2_with fail
          obtain ⟨i0, hi, hz0, hz1, hz2⟩ := info_parts info_int3
          have hmax3 : tree.length + r.tail.length ≤ 399 := by omega
          go_loopw [6] (fun kv wr => ∃ (i : Nat) (ks : List Nat) (nm : List UInt8) (kk : Int) (toks : List Tok) (tr : List Node) (row' : Option Nat), Hid (CK w b row w3.heap.size o args most pl wr kv i ks nm kk row') ∧ Hid (PS wr b g E (deep + 1) toks tr row') ∧ i ≤ args.length ∧ ks.length ≤ i ∧ tr.length + toks.length ≤ 399 ∧ Hid (argsF isName ex E most (args.drop i) (decide (i = 0)) ks nm kk toks tr = fa)) (fun _ wr => args.length - wr.iterPos w3.heap.size)
          case atStart =>
            refine ⟨0, [], [], 0, r.tail, tree, row, ?_, HPS3.out.alloc _, Nat.zero_le _, Nat.le_refl _, hmax3, HFA⟩
            have e1 : ∀ k, k < w3.heap.size → (w3.iter (bs args) 0).heap[k]? = w3.heap[k]? := fun k hk => Below.heap_alloc _ _ _ hk
            exact ⟨(e1 _ (by omega)).trans HK03.out, (e1 _ (by omega)).trans HK13.out, World.iter_heap w3 (bs args) 0, World.ownsRow_nil _ _ _ _, (fun k hk => by cases hk), .inl rfl, HT3.out.alloc _, by omega, hlt, HRG.out⟩
          case round =>
            obtain ⟨i, ks, nm, kk, toks, tr, row2, HCK, HPSr, hi1, hks, hb4, HA⟩ := hrel
            have hsp0 : Hid (b < w3.heap.size ∧ some w3.heap.size ≠ row2) := ⟨by omega, HCK.out.rowne _ (by omega) (Nat.le_refl _)⟩
            have hpos0 : Hid (wr.iterPos w3.heap.size = i) := by simp [Hid, World.iterPos, HCK.out.it]
            by_cases hlt2 : i < args.length
            · have hnx : ∀ ty, (Instr.next (.pointer (some ⟨w3.heap.size, 0, none⟩)) true ty).run Tryd.prog wr = _ := fun ty => Lib.run_next_ascii_at wr w3.heap.size (bs args) i ty HCK.out.it (by simpa using hlt2) (by simpa using HASC.out _ (List.getElem_mem hlt2))
              have hd : args.drop i = args[i] :: args.drop (i + 1) := List.drop_eq_getElem_cons hlt2
              have HA1 : Hid (argsF isName ex E most (args[i] :: args.drop (i + 1)) (decide (i = 0)) ks nm kk toks tr = fa) := by rw [← hd]; exact HA
              have HCK1 := Lib.hid (HCK.out.next (i + 1))
              have HPS1 := Lib.hid (HPSr.out.next hsp0.out.1 hsp0.out.2 (bs args) (i + 1))
              have HPOS := Lib.hid (iterPos_of HCK1.out.it)
              simp only [bs_get] at hnx
              generalize args[i] = c at *
              generalize wr.iterAt w3.heap.size (bs args) (i + 1) = W1 at *
              clear hd HA HCK HPSr HFA HPS3 HT3 HT2 HT HK0 HK1 HK02 HK12 HK03 HK13 HB0 HSZ
              go_upto_if 36 with fail
              go_cut [37] (fun _ wx => Hid (∃ toks1 : List Tok, CK w b row w3.heap.size o args most pl wx u6 (i + 1) ks nm kk row2 ∧ PS wx b g E (deep + 1) toks1 tr row2 ∧ toks1 = (if i = 0 then toks else toks.tail) ∧ ¬ (decide (i = 0) = false ∧ isW toks [44] = false)))
              case first =>
                by_cases hi0 : i = 0
                · have hi0' : ¬ (0 : Int) < (i : Int) := by omega
                  subst hi0
                  go_wp2_with fail
                  go_meet
                  exact ⟨toks, HCK1.out, HPS1.out, rfl, by simp⟩
                · have hi0' : (0 : Int) < (i : Int) := by omega
                  have hBB := Lib.hid (HCK1.out.turn.below hlt (fun k hk => Nat.le_of_lt (HRG.out k hk).1))
                  cases hw : isW toks [44]
                  · have hfa : Hid (fin = .err (pos E toks) 4) := by
                      have := HA1.out
                      simp only [argsF, hi0, decide_false, hw, and_self, if_true] at this
                      rw [Hid, HF.out, ← this]
                    have hmu := must_no W1 b g E (deep + 1) toks tr row2 HPS1.out [44] hw
                    clear hw
                    go_wp2_with fail
                    refine hmu.mono ?_; rintro e w' ⟨rfl, rfl⟩
                    go_wp2_with fail
                    rw [hfa.out]
                    exact ⟨rfl, rfl, hBB.out⟩
                  · have hmu := must_yes W1 b g E (deep + 1) toks tr row2 HPS1.out [44] hw
                    have HW := Lib.hid hw; clear hw
                    go_wp2_with fail
                    refine hmu.mono ?_; rintro e w' ⟨rfl, hps4, ht4⟩
                    have HPS4 := Lib.hid hps4
                    have HCK4 := Lib.hid (HCK1.out.keep ht4.none_to (.inl rfl))
                    clear hps4 ht4 hmu
                    go_wp2_with fail
                    go_meet
                    exact ⟨toks.tail, HCK4.out, HPS4.out, by rw [if_neg hi0], by rw [HW.out]; simp⟩
              case rest =>
                obtain ⟨toks1, hck, hps, htk, hnc⟩ := hcut.out
                have hA2 := HA1.out
                rw [argsF, if_neg hnc] at hA2
                simp only [decide_eq_true_eq, ← htk] at hA2
                have hd0 : decide (i + 1 = 0) = false := by simp
                have htl : toks1.length ≤ toks.length := by rw [htk]; split <;> simp
                have HTU := Lib.hid hck.turn
                have HBB := Lib.hid (hck.turn.below hlt (fun k hk => Nat.le_of_lt (HRG.out k hk).1))
                have hsp1 := space_below HSP.out HBB.out h11
                have hrlt := hps.row_gt
                have hx0 := HX.out toks1 tr _ row2 hps hsp1 (by omega)
                have HCK2 := Lib.hid hck; clear hck
                have HD0 := Lib.hid hd0; clear hd0
                have q1 := cell_of_block HCK2.out.k1
                have f1 := free_of_block HCK2.out.k1
                have q0' := cell_of_block HCK2.out.k0
                clear hcut HA1 hnc htk q0
                by_cases h101 : c = 101
                · subst h101
                  rw [if_pos rfl] at hA2
                  cases hr3 : ex toks1 tr with
                  | out =>
                    rw [hr3] at hA2
                    exact absurd (HF.out.trans (by rw [← hA2])) HNE.out
                  | err p er =>
                    rw [hr3] at hA2 hx0
                    have hx4 := hx0 (by simp)
                    have hfa : Hid (fin = .err p er) := by rw [Hid, HF.out, ← hA2]
                    clear hx0 hr3 hA2 hps hsp1 hrlt q1 f1 q0'
                    go_wp2_with fail
                    refine hx4.mono ?_; rintro e w5 ⟨rfl, hb5⟩
                    have HB5 := Lib.hid (HBB.out.trans hb5); clear hb5 hx4
                    go_wp2_with fail
                    rw [hfa.out]
                    exact ⟨rfl, rfl, HB5.out⟩
                  | ok b3 toks3 tr3 =>
                    have hg3 := HGD.out _ _ _ _ _ hr3
                    rw [hr3] at hA2 hx0
                    have hx4 := hx0 (by simp)
                    have HA2 := Lib.hid hA2
                    clear hx0 hr3 hA2 hps hsp1 hrlt q1 f1 q0'
                    go_wp2_with fail
                    refine hx4.mono ?_; rintro e w5 ⟨rfl, row4, hps5, hnr5, ht5⟩
                    have HCK5 := Lib.hid (HCK2.out.keep ht5 hnr5)
                    have HPS5 := Lib.hid hps5
                    have HRL5 := Lib.hid hps5.row_gt
                    have hown5 := HCK5.out.own
                    have hsz5 := HCK5.out.size
                    clear hps5 hnr5 ht5 hx4
                    go_wp2_with (at_builtin; refine wpList_append_own_at _ rfl _ _ 29 rfl (w3.heap.size + 1) 3 i0 _ 1 8 Tryd.underlying29 hi hz0 hz1 hz2 rfl (by decide) _ _ _ rfl (hown5.alloc _) ⟨w5.heap.size, 0, none⟩ 1 1 [.int .i64 b3] rfl rfl (news_cells _ _ [.int .i64 b3] _ rfl) (by simp [Value.oneCell']) (by unfold maxLen; omega) (by omega) (by simp; omega) ?_)
                    intro v6 w6 hown6 hgrow hnil hat
                    obtain ⟨hck6, hsame⟩ := HCK5.out.kids (a := b3) (kv' := v6) _ (fun k hk => (HRL5.out k hk).2) hgrow (by simpa using hown6) (by simpa using hat)
                    have HCK6 := Lib.hid hck6
                    have HPS6 : Hid (PS w6 b g E (deep + 1) toks3 tr3 row4) := HPS5.out.congr (fun k hk => hsame k (by omega) (fun e => by have := hown5.lt k e; omega)) (fun k hk => hsame k (HRL5.out k hk).2 (fun e => HCK5.out.apart k e hk))
                    have HPOS6 := Lib.hid (iterPos_of hck6.it)
                    clear hown6 hgrow hnil hat hck6 hsame hown5
                    go_wp2_with fail
                    go_roundw
                    case rel => exact ⟨i + 1, ks ++ [b3], nm, kk, toks3, tr3, row4, HCK6, HPS6, by omega, by simp; omega, by omega, by rw [HD0.out]; exact HA2.out⟩
                    case measure => rw [hpos0.out, HPOS6.out]; omega
                · have hc101 : ((c.toNat : Int) == 101) = false := by rw [beq_eq_false_iff_ne]; intro e; exact h101 (UInt8.toNat_inj.1 (by show c.toNat = 101; omega))
                  rw [if_neg h101] at hA2
                  clear hx0
                  by_cases h102 : c = 102
                  · subst h102
                    rw [if_pos rfl] at hA2
                    cases hfw : isFieldW isName toks1
                    · have hfa : Hid (fin = .err (pos E toks1) 4) := by
                        rw [hfw] at hA2; simp only [Bool.false_eq_true, if_false] at hA2
                        rw [Hid, HF.out, ← hA2]
                      have hfn := field_no _ b g E (deep + 1) toks1 tr row2 hps hsp1 h11 hfw
                      have hltc := hps.lt
                      clear hA2 hfw hps hsp1 hrlt q1 f1 q0' h101 hc101
                      go_wp2_with fail
                      refine hfn.mono ?_; rintro e w5 ⟨rfl, hb5⟩
                      have HB5 := Lib.hid (HBB.out.trans (hb5.mono (by omega))); clear hb5 hfn
                      go_wp2_with fail
                      rw [hfa.out]
                      exact ⟨rfl, rfl, HB5.out⟩
                    · cases toks1 with
                      | nil => simp [isFieldW] at hfw
                      | cons t1 r1 =>
                      rw [hfw] at hA2; simp only [if_true, List.headD_cons, List.tail_cons] at hA2
                      simp only [isFieldW, Bool.and_eq_true, decide_eq_true_eq] at hfw
                      have hfn := field_yes _ b g E (deep + 1) t1 r1 tr row2 hps hsp1 h11 hfw.1 hfw.2
                      have HA2 := Lib.hid hA2
                      simp only [List.length_cons] at htl
                      clear hA2 hfw hps hsp1 hrlt q1 f1 q0' h101 hc101
                      go_wp2_with fail
                      refine hfn.mono ?_; rintro e w5 ⟨rfl, hps5, ht5⟩
                      have HCK5 := Lib.hid (HCK2.out.keep ht5.none_to (.inl rfl))
                      have HPS5 := Lib.hid hps5
                      have q5 := cell_of_block HCK5.out.k1
                      have f5 := free_of_block HCK5.out.k1
                      clear hps5 ht5 hfn
                      go_wp2_with fail
                      have HCK6 := Lib.hid (HCK5.out.write (nm' := t1.text) (kk' := kk) 3 (.string (bs t1.text)) (by simp))
                      have HPS6 := Lib.hid (HPS5.out.setFar (k := w.heap.size + 1) (by omega) (HCK5.out.rowne _ (by omega) (by omega)) 3 (.string (bs t1.text)))
                      have HPOS6 := Lib.hid (iterPos_of HCK6.out.it)
                      go_roundw
                      case rel => exact ⟨i + 1, ks, t1.text, kk, r1, tr, row2, HCK6, HPS6, by omega, by omega, by omega, by rw [HD0.out]; exact HA2.out⟩
                      case measure => rw [hpos0.out, HPOS6.out]; omega
                  · have hc102 : ((c.toNat : Int) == 102) = false := by rw [beq_eq_false_iff_ne]; intro e; exact h102 (UInt8.toNat_inj.1 (by show c.toNat = 102; omega))
                    rw [if_neg h102] at hA2
                    cases hfw : isWhole most toks1
                    · have hfa : Hid (fin = .err (pos E toks1) 4) := by
                        rw [hfw] at hA2; simp only [Bool.false_eq_true, if_false] at hA2
                        rw [Hid, HF.out, ← hA2]
                      have hfn := whole_no _ b g E (deep + 1) toks1 tr row2 hps most hfw
                      clear hA2 hfw hps hsp1 hrlt q1 f1 h101 h102
                      go_wp2_with fail
                      refine hfn.mono ?_; rintro e w5 ⟨rfl, rfl⟩
                      clear hfn
                      go_wp2_with fail
                      rw [hfa.out]
                      exact ⟨rfl, rfl, HBB.out⟩
                    · cases toks1 with
                      | nil => simp [isWhole] at hfw
                      | cons t1 r1 =>
                      rw [hfw] at hA2; simp only [if_true, List.headD_cons, List.tail_cons] at hA2
                      simp only [isWhole, Bool.and_eq_true, decide_eq_true_eq] at hfw
                      have hfn := whole_yes _ b g E (deep + 1) t1 r1 tr row2 hps most hfw.1.1 hfw.1.2 hfw.2
                      have HA2 := Lib.hid hA2
                      simp only [List.length_cons] at htl
                      clear hA2 hfw hps hsp1 hrlt q1 f1 h101 h102
                      go_wp2_with fail
                      refine hfn.mono ?_; rintro e w5 ⟨rfl, hps5, ht5⟩
                      have HCK5 := Lib.hid (HCK2.out.keep ht5.none_to (.inl rfl))
                      have HPS5 := Lib.hid hps5
                      have q5 := cell_of_block HCK5.out.k1
                      have f5 := free_of_block HCK5.out.k1
                      clear hps5 ht5 hfn q0'
                      go_wp2_with fail
                      have HCK6 := Lib.hid (HCK5.out.write (nm' := nm) (kk' := t1.c) 4 (.int .i64 t1.c) (by simp))
                      have HPS6 := Lib.hid (HPS5.out.setFar (k := w.heap.size + 1) (by omega) (HCK5.out.rowne _ (by omega) (by omega)) 4 (.int .i64 t1.c))
                      have HPOS6 := Lib.hid (iterPos_of HCK6.out.it)
                      go_roundw
                      case rel => exact ⟨i + 1, ks, nm, t1.c, r1, tr, row2, HCK6, HPS6, by omega, by omega, by omega, by rw [HD0.out]; exact HA2.out⟩
                      case measure => rw [hpos0.out, HPOS6.out]; omega
            · obtain rfl : i = args.length := by omega
              have hnx : ∀ ty, (Instr.next (.pointer (some ⟨w3.heap.size, 0, none⟩)) true ty).run Tryd.prog wr = _ := fun ty => Lib.run_next_end_at wr w3.heap.size (bs args) args.length ty HCK.out.it (by simp)
              have hA2 := HA.out
              rw [List.drop_length, argsF] at hA2
              have hfv : fin = if isW toks [41] = true then .ok tr.length toks.tail (tr ++ [⟨o, 0, 0, nm, kk, kid ks 0, kid ks 1, kid ks 2, pl⟩]) else .err (pos E toks) 4 := by rw [HF.out, ← hA2]
              have HBB := Lib.hid (HCK.out.turn.below hlt (fun k hk => Nat.le_of_lt (HRG.out k hk).1))
              clear HA hA2 q0
              cases hw : isW toks [41]
              · have hfa : Hid (fin = .err (pos E toks) 4) := by rw [Hid, hfv, hw]; simp
                have hmu := must_no wr b g E (deep + 1) toks tr row2 HPSr.out [41] hw
                clear hw hfv
                go_wp2_with fail
                refine hmu.mono ?_; rintro e w' ⟨rfl, rfl⟩
                go_wp2_with fail
                rw [hfa.out]
                exact ⟨rfl, rfl, HBB.out⟩
              · have hfa : Hid (fin = .ok tr.length toks.tail (tr ++ [⟨o, 0, 0, nm, kk, kid ks 0, kid ks 1, kid ks 2, pl⟩])) := by rw [Hid, hfv, hw]; simp
                have hmu := must_yes wr b g E (deep + 1) toks tr row2 HPSr.out [41] hw
                clear hw hfv
                go_wp2_with fail
                refine hmu.mono ?_; rintro e w5 ⟨rfl, hps5, ht5⟩
                have HCK5 := Lib.hid (HCK.out.keep ht5.none_to (.inl rfl))
                clear ht5 hmu
                obtain ⟨lv, tv, h1, h2, h3, h4, h5⟩ := hps5
                have q := cell_of_block h1
                have f := free_of_block h1
                have H1 := Lib.hid h1; clear h1
                have H2 := Lib.hid h2; clear h2
                have H3 := Lib.hid h3; clear h3
                have H4 := Lib.hid h4; clear h4
                have q1 := cell_of_block HCK5.out.k1
                have hbk : ¬ w.heap.size + 1 = b := by omega
                go_wp2_with fail
                have hps6 := PS.write (E' := E) (deep' := deep) 2 (.int .i64 deep) H1.out (by simp) H2.out H3.out H4.out h5
                have hkid : (w5.setCell ⟨b, 2, none⟩ (.int .i64 deep)).ownsRow (w3.heap.size + 1) 3 1 u6 ks.length (ks.map fun n => Value.int .i64 ((n : Nat) : Int)) := ownsRow_congr HCK5.out.own (fun k hk => Below.heap_setCell _ _ _ _ (by have := HCK5.out.own.lt k hk; show k ≠ b; omega))
                have hn6 := node_any _ b g E deep toks.tail tr row2 hps6 ⟨o, 0, 0, nm, kk, 0, 0, 0, pl⟩ u6 (ks.map fun a => ((a : Nat) : Int)) (kids_at hkid) (by simp; omega) (by omega)
                rw [kids_map] at hn6
                simp only [nodeCells] at hn6
                refine hn6.mono ?_
                rintro e w6 ⟨rfl, row6, hps6, hnr6, ht6⟩
                have HNR6 := Lib.hid (HCK5.out.newrow.trans (by rw [size_setCell]; exact HCK5.out.turn.size) hnr6)
                have HT6 := Lib.hid ((HCK5.out.turn.set 2 _).trans HCK5.out.newrow ht6)
                have HPS6 := Lib.hid hps6
                clear hn6 hnr6 ht6 hps6 q f q1
                go_wp2_with fail
                go_ret
                rw [hfa.out]
                exact ⟨rfl, row6, HPS6.out, HNR6.out, HT6.out⟩
end Go.Proofs.YtfkieomelkopeaaDoor
