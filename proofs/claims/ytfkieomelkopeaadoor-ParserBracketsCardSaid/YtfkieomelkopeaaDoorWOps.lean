/-
  The levels' own functions, each by row or ahead.
-/
import Derived.Test.YtfkieomelkopeaaDoorWOut
namespace Go.Proofs.YtfkieomelkopeaaDoor
open Go.RowKit
theorem PPost.of_alloc {b g E deep : Nat} {row : Option Nat} {w : World} {x : R} (o : Obj) (hlt : b < w.heap.size) (hrg : ∀ k, row = some k → b < k ∧ k < w.heap.size) {e : Ending} {w' : World} (h : PPost b g E deep row (w.alloc o) x e w') : PPost b g E deep row w x e w' :=
  PPost.world ((Turn.of_below (Below.refl _ w)).alloc o) hlt (fun k hk => Nat.le_of_lt (hrg k hk).1) h
theorem ops_at0 (w : World) : OpsAt (w.alloc (.cells #[.string (bs [111, 114]), .int .u8 5] 58)) w.heap.size (opsOf 0) := by
  intro i hi
  have hi : i < 1 := hi
  rw [cell_of_block (heap_alloc_new w _), cell_of_block (heap_alloc_new w _)]
  rcases i with _ | i
  all_goals first | exact ⟨rfl, rfl⟩ | omega
set_option maxHeartbeats 2000000 in
set_option maxRecDepth 100000 in
theorem or_any (w : World) (b g E deep : Nat) (ex : List Tok → List Node → R) (hx : ExOk b g E deep 1 ex) (hgd : Good ex) (toks : List Tok) (tree : List Node) (row : Option Nat) (h : PS w b g E deep toks tree row) (hsp : Spaces w) (h11 : 11 ≤ b)
    (hmax : tree.length + toks.length ≤ 400) (hne : rowF ex E true (opsOf 0) toks tree ≠ .out) :
    Calls Tryd.prog 12 #[.pointer (some ⟨b, 0, none⟩)] w (PPost b g E deep row w (rowF ex E true (opsOf 0) toks tree)) := by
  have hlt := h.lt
  have hrg := h.row_gt
  have hro := row_any (w.alloc (.cells #[.string (bs [111, 114]), .int .u8 5] 58)) b g E deep 0 ex hx hgd toks tree row (h.alloc _) (space_below hsp ((Below.refl _ w).alloc (Nat.le_refl _) _) (by omega)) h11 hmax true w.heap.size 1 (opsOf 0) (ops_at0 w) (by simp) hlt (fun e => by have := (hrg _ e.symm).2; omega) (by decide) (by decide) hne
  have HW := Lib.hid (fun e w' (hh : PPost b g E deep row (w.alloc (.cells #[.string (bs [111, 114]), .int .u8 5] 58)) (rowF ex E true (opsOf 0) toks tree) e w') => hh.of_alloc _ hlt hrg)
  generalize rowF ex E true (opsOf 0) toks tree = fin at *
  have HNE := Lib.hid hne; clear hne
  clear hx hgd h hsp hmax hlt hrg
  go_enter Tryd.func12, Tryd.ntmps12
  go_wp2_with fail
  cases fin with
  | out => exact absurd rfl HNE.out
  | err p er =>
    refine hro.mono ?_
    rintro e w1 hh
    obtain ⟨rfl, hb1⟩ := HW.out _ _ hh
    clear hh
    go_wp2_with fail
    exact ⟨rfl, rfl, hb1⟩
  | ok a toks1 tree1 =>
    refine hro.mono ?_
    rintro e w1 hh
    obtain ⟨rfl, hz⟩ := HW.out _ _ hh
    have HH := Lib.hid hz; clear hh hro hz
    go_wp2_with fail
    go_ret
    exact ⟨rfl, HH.out⟩
theorem ops_at1 (w : World) : OpsAt (w.alloc (.cells #[.string (bs [97, 110, 100]), .int .u8 6] 58)) w.heap.size (opsOf 1) := by
  intro i hi
  have hi : i < 1 := hi
  rw [cell_of_block (heap_alloc_new w _), cell_of_block (heap_alloc_new w _)]
  rcases i with _ | i
  all_goals first | exact ⟨rfl, rfl⟩ | omega
set_option maxHeartbeats 2000000 in
set_option maxRecDepth 100000 in
theorem and_any (w : World) (b g E deep : Nat) (ex : List Tok → List Node → R) (hx : ExOk b g E deep 2 ex) (hgd : Good ex) (toks : List Tok) (tree : List Node) (row : Option Nat) (h : PS w b g E deep toks tree row) (hsp : Spaces w) (h11 : 11 ≤ b)
    (hmax : tree.length + toks.length ≤ 400) (hne : rowF ex E true (opsOf 1) toks tree ≠ .out) :
    Calls Tryd.prog 13 #[.pointer (some ⟨b, 0, none⟩)] w (PPost b g E deep row w (rowF ex E true (opsOf 1) toks tree)) := by
  have hlt := h.lt
  have hrg := h.row_gt
  have hro := row_any (w.alloc (.cells #[.string (bs [97, 110, 100]), .int .u8 6] 58)) b g E deep 1 ex hx hgd toks tree row (h.alloc _) (space_below hsp ((Below.refl _ w).alloc (Nat.le_refl _) _) (by omega)) h11 hmax true w.heap.size 1 (opsOf 1) (ops_at1 w) (by simp) hlt (fun e => by have := (hrg _ e.symm).2; omega) (by decide) (by decide) hne
  have HW := Lib.hid (fun e w' (hh : PPost b g E deep row (w.alloc (.cells #[.string (bs [97, 110, 100]), .int .u8 6] 58)) (rowF ex E true (opsOf 1) toks tree) e w') => hh.of_alloc _ hlt hrg)
  generalize rowF ex E true (opsOf 1) toks tree = fin at *
  have HNE := Lib.hid hne; clear hne
  clear hx hgd h hsp hmax hlt hrg
  go_enter Tryd.func13, Tryd.ntmps13
  go_wp2_with fail
  cases fin with
  | out => exact absurd rfl HNE.out
  | err p er =>
    refine hro.mono ?_
    rintro e w1 hh
    obtain ⟨rfl, hb1⟩ := HW.out _ _ hh
    clear hh
    go_wp2_with fail
    exact ⟨rfl, rfl, hb1⟩
  | ok a toks1 tree1 =>
    refine hro.mono ?_
    rintro e w1 hh
    obtain ⟨rfl, hz⟩ := HW.out _ _ hh
    have HH := Lib.hid hz; clear hh hro hz
    go_wp2_with fail
    go_ret
    exact ⟨rfl, HH.out⟩
theorem ops_at3 (w : World) : OpsAt (w.alloc (.cells #[.string (bs [61]), .int .u8 8, .string (bs [60, 62]), .int .u8 9, .string (bs [60]), .int .u8 10, .string (bs [60, 61]), .int .u8 11, .string (bs [62]), .int .u8 12, .string (bs [62, 61]), .int .u8 13] 58)) w.heap.size (opsOf 3) := by
  intro i hi
  have hi : i < 6 := hi
  rw [cell_of_block (heap_alloc_new w _), cell_of_block (heap_alloc_new w _)]
  rcases i with _ | _ | _ | _ | _ | _ | i
  all_goals first | exact ⟨rfl, rfl⟩ | omega
set_option maxHeartbeats 2000000 in
set_option maxRecDepth 100000 in
theorem cmp_any (w : World) (b g E deep : Nat) (ex : List Tok → List Node → R) (hx : ExOk b g E deep 4 ex) (hgd : Good ex) (toks : List Tok) (tree : List Node) (row : Option Nat) (h : PS w b g E deep toks tree row) (hsp : Spaces w) (h11 : 11 ≤ b)
    (hmax : tree.length + toks.length ≤ 400) (hne : rowF ex E false (opsOf 3) toks tree ≠ .out) :
    Calls Tryd.prog 15 #[.pointer (some ⟨b, 0, none⟩)] w (PPost b g E deep row w (rowF ex E false (opsOf 3) toks tree)) := by
  have hlt := h.lt
  have hrg := h.row_gt
  have hro := row_any (w.alloc (.cells #[.string (bs [61]), .int .u8 8, .string (bs [60, 62]), .int .u8 9, .string (bs [60]), .int .u8 10, .string (bs [60, 61]), .int .u8 11, .string (bs [62]), .int .u8 12, .string (bs [62, 61]), .int .u8 13] 58)) b g E deep 3 ex hx hgd toks tree row (h.alloc _) (space_below hsp ((Below.refl _ w).alloc (Nat.le_refl _) _) (by omega)) h11 hmax false w.heap.size 6 (opsOf 3) (ops_at3 w) (by simp) hlt (fun e => by have := (hrg _ e.symm).2; omega) (by decide) (by decide) hne
  have HW := Lib.hid (fun e w' (hh : PPost b g E deep row (w.alloc (.cells #[.string (bs [61]), .int .u8 8, .string (bs [60, 62]), .int .u8 9, .string (bs [60]), .int .u8 10, .string (bs [60, 61]), .int .u8 11, .string (bs [62]), .int .u8 12, .string (bs [62, 61]), .int .u8 13] 58)) (rowF ex E false (opsOf 3) toks tree) e w') => hh.of_alloc _ hlt hrg)
  generalize rowF ex E false (opsOf 3) toks tree = fin at *
  have HNE := Lib.hid hne; clear hne
  clear hx hgd h hsp hmax hlt hrg
  go_enter Tryd.func15, Tryd.ntmps15
  go_wp2_with fail
  cases fin with
  | out => exact absurd rfl HNE.out
  | err p er =>
    refine hro.mono ?_
    rintro e w1 hh
    obtain ⟨rfl, hb1⟩ := HW.out _ _ hh
    clear hh
    go_wp2_with fail
    exact ⟨rfl, rfl, hb1⟩
  | ok a toks1 tree1 =>
    refine hro.mono ?_
    rintro e w1 hh
    obtain ⟨rfl, hz⟩ := HW.out _ _ hh
    have HH := Lib.hid hz; clear hh hro hz
    go_wp2_with fail
    go_ret
    exact ⟨rfl, HH.out⟩
theorem ops_at4 (w : World) : OpsAt (w.alloc (.cells #[.string (bs [43]), .int .u8 14, .string (bs [45]), .int .u8 15] 58)) w.heap.size (opsOf 4) := by
  intro i hi
  have hi : i < 2 := hi
  rw [cell_of_block (heap_alloc_new w _), cell_of_block (heap_alloc_new w _)]
  rcases i with _ | _ | i
  all_goals first | exact ⟨rfl, rfl⟩ | omega
set_option maxHeartbeats 2000000 in
set_option maxRecDepth 100000 in
theorem sum_any (w : World) (b g E deep : Nat) (ex : List Tok → List Node → R) (hx : ExOk b g E deep 5 ex) (hgd : Good ex) (toks : List Tok) (tree : List Node) (row : Option Nat) (h : PS w b g E deep toks tree row) (hsp : Spaces w) (h11 : 11 ≤ b)
    (hmax : tree.length + toks.length ≤ 400) (hne : rowF ex E true (opsOf 4) toks tree ≠ .out) :
    Calls Tryd.prog 16 #[.pointer (some ⟨b, 0, none⟩)] w (PPost b g E deep row w (rowF ex E true (opsOf 4) toks tree)) := by
  have hlt := h.lt
  have hrg := h.row_gt
  have hro := row_any (w.alloc (.cells #[.string (bs [43]), .int .u8 14, .string (bs [45]), .int .u8 15] 58)) b g E deep 4 ex hx hgd toks tree row (h.alloc _) (space_below hsp ((Below.refl _ w).alloc (Nat.le_refl _) _) (by omega)) h11 hmax true w.heap.size 2 (opsOf 4) (ops_at4 w) (by simp) hlt (fun e => by have := (hrg _ e.symm).2; omega) (by decide) (by decide) hne
  have HW := Lib.hid (fun e w' (hh : PPost b g E deep row (w.alloc (.cells #[.string (bs [43]), .int .u8 14, .string (bs [45]), .int .u8 15] 58)) (rowF ex E true (opsOf 4) toks tree) e w') => hh.of_alloc _ hlt hrg)
  generalize rowF ex E true (opsOf 4) toks tree = fin at *
  have HNE := Lib.hid hne; clear hne
  clear hx hgd h hsp hmax hlt hrg
  go_enter Tryd.func16, Tryd.ntmps16
  go_wp2_with fail
  cases fin with
  | out => exact absurd rfl HNE.out
  | err p er =>
    refine hro.mono ?_
    rintro e w1 hh
    obtain ⟨rfl, hb1⟩ := HW.out _ _ hh
    clear hh
    go_wp2_with fail
    exact ⟨rfl, rfl, hb1⟩
  | ok a toks1 tree1 =>
    refine hro.mono ?_
    rintro e w1 hh
    obtain ⟨rfl, hz⟩ := HW.out _ _ hh
    have HH := Lib.hid hz; clear hh hro hz
    go_wp2_with fail
    go_ret
    exact ⟨rfl, HH.out⟩
theorem ops_at5 (w : World) : OpsAt (w.alloc (.cells #[.string (bs [42]), .int .u8 16, .string (bs [47]), .int .u8 17] 58)) w.heap.size (opsOf 5) := by
  intro i hi
  have hi : i < 2 := hi
  rw [cell_of_block (heap_alloc_new w _), cell_of_block (heap_alloc_new w _)]
  rcases i with _ | _ | i
  all_goals first | exact ⟨rfl, rfl⟩ | omega
set_option maxHeartbeats 2000000 in
set_option maxRecDepth 100000 in
theorem prod_any (w : World) (b g E deep : Nat) (ex : List Tok → List Node → R) (hx : ExOk b g E deep 6 ex) (hgd : Good ex) (toks : List Tok) (tree : List Node) (row : Option Nat) (h : PS w b g E deep toks tree row) (hsp : Spaces w) (h11 : 11 ≤ b)
    (hmax : tree.length + toks.length ≤ 400) (hne : rowF ex E true (opsOf 5) toks tree ≠ .out) :
    Calls Tryd.prog 17 #[.pointer (some ⟨b, 0, none⟩)] w (PPost b g E deep row w (rowF ex E true (opsOf 5) toks tree)) := by
  have hlt := h.lt
  have hrg := h.row_gt
  have hro := row_any (w.alloc (.cells #[.string (bs [42]), .int .u8 16, .string (bs [47]), .int .u8 17] 58)) b g E deep 5 ex hx hgd toks tree row (h.alloc _) (space_below hsp ((Below.refl _ w).alloc (Nat.le_refl _) _) (by omega)) h11 hmax true w.heap.size 2 (opsOf 5) (ops_at5 w) (by simp) hlt (fun e => by have := (hrg _ e.symm).2; omega) (by decide) (by decide) hne
  have HW := Lib.hid (fun e w' (hh : PPost b g E deep row (w.alloc (.cells #[.string (bs [42]), .int .u8 16, .string (bs [47]), .int .u8 17] 58)) (rowF ex E true (opsOf 5) toks tree) e w') => hh.of_alloc _ hlt hrg)
  generalize rowF ex E true (opsOf 5) toks tree = fin at *
  have HNE := Lib.hid hne; clear hne
  clear hx hgd h hsp hmax hlt hrg
  go_enter Tryd.func17, Tryd.ntmps17
  go_wp2_with fail
  cases fin with
  | out => exact absurd rfl HNE.out
  | err p er =>
    refine hro.mono ?_
    rintro e w1 hh
    obtain ⟨rfl, hb1⟩ := HW.out _ _ hh
    clear hh
    go_wp2_with fail
    exact ⟨rfl, rfl, hb1⟩
  | ok a toks1 tree1 =>
    refine hro.mono ?_
    rintro e w1 hh
    obtain ⟨rfl, hz⟩ := HW.out _ _ hh
    have HH := Lib.hid hz; clear hh hro hz
    go_wp2_with fail
    go_ret
    exact ⟨rfl, HH.out⟩
set_option maxHeartbeats 2000000 in
set_option maxRecDepth 100000 in
theorem not_any (w : World) (b g E deep : Nat) (next same : List Tok → List Node → R) (hx : ExOk b g E deep 3 next) (hy : ExOk b g E (deep + 1) 2 same) (hgd : Good same) (toks : List Tok) (tree : List Node) (row : Option Nat) (h : PS w b g E deep toks tree row) (hsp : Spaces w) (h11 : 11 ≤ b)
    (hd : deep ≤ 16) (hmax : tree.length + toks.length ≤ 400) (hne : aheadF next same E deep [110, 111, 116] 7 toks tree ≠ .out) :
    Calls Tryd.prog 14 #[.pointer (some ⟨b, 0, none⟩)] w (PPost b g E deep row w (aheadF next same E deep [110, 111, 116] 7 toks tree)) := by
  have hro := ahead_any w b g E deep 2 next same hx hy hgd toks tree row h hsp h11 hd hmax [110, 111, 116] 7 (by decide) hne
  have HW : Hid (∀ e w', PPost b g E deep row w (aheadF next same E deep [110, 111, 116] 7 toks tree) e w' → PPost b g E deep row w (aheadF next same E deep [110, 111, 116] 7 toks tree) e w') := fun _ _ h => h
  generalize aheadF next same E deep [110, 111, 116] 7 toks tree = fin at *
  have HNE := Lib.hid hne; clear hne
  clear hx hy hgd h hsp hmax hd
  go_enter Tryd.func14, Tryd.ntmps14
  go_wp2_with fail
  cases fin with
  | out => exact absurd rfl HNE.out
  | err p er =>
    refine hro.mono ?_
    rintro e w1 hh
    obtain ⟨rfl, hb1⟩ := HW.out _ _ hh
    clear hh
    go_wp2_with fail
    exact ⟨rfl, rfl, hb1⟩
  | ok a toks1 tree1 =>
    refine hro.mono ?_
    rintro e w1 hh
    obtain ⟨rfl, hz⟩ := HW.out _ _ hh
    have HH := Lib.hid hz; clear hh hro hz
    go_wp2_with fail
    go_ret
    exact ⟨rfl, HH.out⟩
set_option maxHeartbeats 2000000 in
set_option maxRecDepth 100000 in
theorem minus_any (w : World) (b g E deep : Nat) (next same : List Tok → List Node → R) (hx : ExOk b g E deep 7 next) (hy : ExOk b g E (deep + 1) 6 same) (hgd : Good same) (toks : List Tok) (tree : List Node) (row : Option Nat) (h : PS w b g E deep toks tree row) (hsp : Spaces w) (h11 : 11 ≤ b)
    (hd : deep ≤ 16) (hmax : tree.length + toks.length ≤ 400) (hne : aheadF next same E deep [45] 18 toks tree ≠ .out) :
    Calls Tryd.prog 18 #[.pointer (some ⟨b, 0, none⟩)] w (PPost b g E deep row w (aheadF next same E deep [45] 18 toks tree)) := by
  have hro := ahead_any w b g E deep 6 next same hx hy hgd toks tree row h hsp h11 hd hmax [45] 18 (by decide) hne
  have HW : Hid (∀ e w', PPost b g E deep row w (aheadF next same E deep [45] 18 toks tree) e w' → PPost b g E deep row w (aheadF next same E deep [45] 18 toks tree) e w') := fun _ _ h => h
  generalize aheadF next same E deep [45] 18 toks tree = fin at *
  have HNE := Lib.hid hne; clear hne
  clear hx hy hgd h hsp hmax hd
  go_enter Tryd.func18, Tryd.ntmps18
  go_wp2_with fail
  cases fin with
  | out => exact absurd rfl HNE.out
  | err p er =>
    refine hro.mono ?_
    rintro e w1 hh
    obtain ⟨rfl, hb1⟩ := HW.out _ _ hh
    clear hh
    go_wp2_with fail
    exact ⟨rfl, rfl, hb1⟩
  | ok a toks1 tree1 =>
    refine hro.mono ?_
    rintro e w1 hh
    obtain ⟨rfl, hz⟩ := HW.out _ _ hh
    have HH := Lib.hid hz; clear hh hro hz
    go_wp2_with fail
    go_ret
    exact ⟨rfl, HH.out⟩
end Go.Proofs.YtfkieomelkopeaaDoor
