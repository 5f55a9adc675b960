/-
  level: picks a level's function and calls it; then every level, by induction on how many calls stand in each other.
-/
import Derived.Test.YtfkieomelkopeaaDoorWOps
namespace Go.Proofs.YtfkieomelkopeaaDoor
open Go.RowKit
@[go_sem] theorem run_makeFuncP (P : Program) (fn : Fn) (first cap : Array Value) (w : World) : (Instr.makeFunc fn first cap).run P w = .ok (.func fn first cap) w := rfl
@[go_sem] theorem events_makeFuncP (P : Program) (fn : Fn) (first cap : Array Value) (w : World) (es : Array Event) : (Instr.makeFunc fn first cap).events P w es = es := rfl
theorem index_0 (v : Value) (w : World) : (Instr.index 51 (.agg #[.func (.func 12) #[v] #[], .func (.func 13) #[v] #[], .func (.func 14) #[v] #[], .func (.func 15) #[v] #[], .func (.func 16) #[v] #[], .func (.func 17) #[v] #[], .func (.func 18) #[v] #[], .func (.func 19) #[v] #[]]) (.int .i64 0)).run Tryd.prog w = .ok (.func (.func 12) #[v] #[]) w := by kernel_rfl
set_option maxHeartbeats 2000000 in
set_option maxRecDepth 100000 in
theorem level_0 (w : World) (b g E deep : Nat) (row : Option Nat) (fin : R) (hne : fin ≠ .out) (hro : Calls Tryd.prog 12 #[.pointer (some ⟨b, 0, none⟩)] w (PPost b g E deep row w fin)) :
    Calls Tryd.prog 9 #[.pointer (some ⟨b, 0, none⟩), .int .i64 0] w (PPost b g E deep row w fin) := by
  have HW : Hid (∀ e w', PPost b g E deep row w fin e w' → PPost b g E deep row w fin e w') := fun _ _ h => h
  have HNE := Lib.hid hne; clear hne
  have hix := index_0
  go_enter Tryd.func9, Tryd.ntmps9
  go_wp2_with fail
  cases fin with
  | out => exact absurd rfl HNE.out
  | err p er =>
    refine hro.mono ?_
    rintro e w1 hh
    obtain ⟨rfl, hb1⟩ := HW.out _ _ hh
    clear hh
    go_wp2_with fail
    exact ⟨rfl, rfl, hb1⟩
  | ok a toks1 tree1 =>
    refine hro.mono ?_
    rintro e w1 hh
    obtain ⟨rfl, hz⟩ := HW.out _ _ hh
    have HH := Lib.hid hz; clear hh hro hz
    go_wp2_with fail
    go_ret
    exact ⟨rfl, HH.out⟩
theorem index_1 (v : Value) (w : World) : (Instr.index 51 (.agg #[.func (.func 12) #[v] #[], .func (.func 13) #[v] #[], .func (.func 14) #[v] #[], .func (.func 15) #[v] #[], .func (.func 16) #[v] #[], .func (.func 17) #[v] #[], .func (.func 18) #[v] #[], .func (.func 19) #[v] #[]]) (.int .i64 1)).run Tryd.prog w = .ok (.func (.func 13) #[v] #[]) w := by kernel_rfl
set_option maxHeartbeats 2000000 in
set_option maxRecDepth 100000 in
theorem level_1 (w : World) (b g E deep : Nat) (row : Option Nat) (fin : R) (hne : fin ≠ .out) (hro : Calls Tryd.prog 13 #[.pointer (some ⟨b, 0, none⟩)] w (PPost b g E deep row w fin)) :
    Calls Tryd.prog 9 #[.pointer (some ⟨b, 0, none⟩), .int .i64 1] w (PPost b g E deep row w fin) := by
  have HW : Hid (∀ e w', PPost b g E deep row w fin e w' → PPost b g E deep row w fin e w') := fun _ _ h => h
  have HNE := Lib.hid hne; clear hne
  have hix := index_1
  go_enter Tryd.func9, Tryd.ntmps9
  go_wp2_with fail
  cases fin with
  | out => exact absurd rfl HNE.out
  | err p er =>
    refine hro.mono ?_
    rintro e w1 hh
    obtain ⟨rfl, hb1⟩ := HW.out _ _ hh
    clear hh
    go_wp2_with fail
    exact ⟨rfl, rfl, hb1⟩
  | ok a toks1 tree1 =>
    refine hro.mono ?_
    rintro e w1 hh
    obtain ⟨rfl, hz⟩ := HW.out _ _ hh
    have HH := Lib.hid hz; clear hh hro hz
    go_wp2_with fail
    go_ret
    exact ⟨rfl, HH.out⟩
theorem index_2 (v : Value) (w : World) : (Instr.index 51 (.agg #[.func (.func 12) #[v] #[], .func (.func 13) #[v] #[], .func (.func 14) #[v] #[], .func (.func 15) #[v] #[], .func (.func 16) #[v] #[], .func (.func 17) #[v] #[], .func (.func 18) #[v] #[], .func (.func 19) #[v] #[]]) (.int .i64 2)).run Tryd.prog w = .ok (.func (.func 14) #[v] #[]) w := by kernel_rfl
set_option maxHeartbeats 2000000 in
set_option maxRecDepth 100000 in
theorem level_2 (w : World) (b g E deep : Nat) (row : Option Nat) (fin : R) (hne : fin ≠ .out) (hro : Calls Tryd.prog 14 #[.pointer (some ⟨b, 0, none⟩)] w (PPost b g E deep row w fin)) :
    Calls Tryd.prog 9 #[.pointer (some ⟨b, 0, none⟩), .int .i64 2] w (PPost b g E deep row w fin) := by
  have HW : Hid (∀ e w', PPost b g E deep row w fin e w' → PPost b g E deep row w fin e w') := fun _ _ h => h
  have HNE := Lib.hid hne; clear hne
  have hix := index_2
  go_enter Tryd.func9, Tryd.ntmps9
  go_wp2_with fail
  cases fin with
  | out => exact absurd rfl HNE.out
  | err p er =>
    refine hro.mono ?_
    rintro e w1 hh
    obtain ⟨rfl, hb1⟩ := HW.out _ _ hh
    clear hh
    go_wp2_with fail
    exact ⟨rfl, rfl, hb1⟩
  | ok a toks1 tree1 =>
    refine hro.mono ?_
    rintro e w1 hh
    obtain ⟨rfl, hz⟩ := HW.out _ _ hh
    have HH := Lib.hid hz; clear hh hro hz
    go_wp2_with fail
    go_ret
    exact ⟨rfl, HH.out⟩
theorem index_3 (v : Value) (w : World) : (Instr.index 51 (.agg #[.func (.func 12) #[v] #[], .func (.func 13) #[v] #[], .func (.func 14) #[v] #[], .func (.func 15) #[v] #[], .func (.func 16) #[v] #[], .func (.func 17) #[v] #[], .func (.func 18) #[v] #[], .func (.func 19) #[v] #[]]) (.int .i64 3)).run Tryd.prog w = .ok (.func (.func 15) #[v] #[]) w := by kernel_rfl
set_option maxHeartbeats 2000000 in
set_option maxRecDepth 100000 in
theorem level_3 (w : World) (b g E deep : Nat) (row : Option Nat) (fin : R) (hne : fin ≠ .out) (hro : Calls Tryd.prog 15 #[.pointer (some ⟨b, 0, none⟩)] w (PPost b g E deep row w fin)) :
    Calls Tryd.prog 9 #[.pointer (some ⟨b, 0, none⟩), .int .i64 3] w (PPost b g E deep row w fin) := by
  have HW : Hid (∀ e w', PPost b g E deep row w fin e w' → PPost b g E deep row w fin e w') := fun _ _ h => h
  have HNE := Lib.hid hne; clear hne
  have hix := index_3
  go_enter Tryd.func9, Tryd.ntmps9
  go_wp2_with fail
  cases fin with
  | out => exact absurd rfl HNE.out
  | err p er =>
    refine hro.mono ?_
    rintro e w1 hh
    obtain ⟨rfl, hb1⟩ := HW.out _ _ hh
    clear hh
    go_wp2_with fail
    exact ⟨rfl, rfl, hb1⟩
  | ok a toks1 tree1 =>
    refine hro.mono ?_
    rintro e w1 hh
    obtain ⟨rfl, hz⟩ := HW.out _ _ hh
    have HH := Lib.hid hz; clear hh hro hz
    go_wp2_with fail
    go_ret
    exact ⟨rfl, HH.out⟩
theorem index_4 (v : Value) (w : World) : (Instr.index 51 (.agg #[.func (.func 12) #[v] #[], .func (.func 13) #[v] #[], .func (.func 14) #[v] #[], .func (.func 15) #[v] #[], .func (.func 16) #[v] #[], .func (.func 17) #[v] #[], .func (.func 18) #[v] #[], .func (.func 19) #[v] #[]]) (.int .i64 4)).run Tryd.prog w = .ok (.func (.func 16) #[v] #[]) w := by kernel_rfl
set_option maxHeartbeats 2000000 in
set_option maxRecDepth 100000 in
theorem level_4 (w : World) (b g E deep : Nat) (row : Option Nat) (fin : R) (hne : fin ≠ .out) (hro : Calls Tryd.prog 16 #[.pointer (some ⟨b, 0, none⟩)] w (PPost b g E deep row w fin)) :
    Calls Tryd.prog 9 #[.pointer (some ⟨b, 0, none⟩), .int .i64 4] w (PPost b g E deep row w fin) := by
  have HW : Hid (∀ e w', PPost b g E deep row w fin e w' → PPost b g E deep row w fin e w') := fun _ _ h => h
  have HNE := Lib.hid hne; clear hne
  have hix := index_4
  go_enter Tryd.func9, Tryd.ntmps9
  go_wp2_with fail
  cases fin with
  | out => exact absurd rfl HNE.out
  | err p er =>
    refine hro.mono ?_
    rintro e w1 hh
    obtain ⟨rfl, hb1⟩ := HW.out _ _ hh
    clear hh
    go_wp2_with fail
    exact ⟨rfl, rfl, hb1⟩
  | ok a toks1 tree1 =>
    refine hro.mono ?_
    rintro e w1 hh
    obtain ⟨rfl, hz⟩ := HW.out _ _ hh
    have HH := Lib.hid hz; clear hh hro hz
    go_wp2_with fail
    go_ret
    exact ⟨rfl, HH.out⟩
theorem index_5 (v : Value) (w : World) : (Instr.index 51 (.agg #[.func (.func 12) #[v] #[], .func (.func 13) #[v] #[], .func (.func 14) #[v] #[], .func (.func 15) #[v] #[], .func (.func 16) #[v] #[], .func (.func 17) #[v] #[], .func (.func 18) #[v] #[], .func (.func 19) #[v] #[]]) (.int .i64 5)).run Tryd.prog w = .ok (.func (.func 17) #[v] #[]) w := by kernel_rfl
set_option maxHeartbeats 2000000 in
set_option maxRecDepth 100000 in
theorem level_5 (w : World) (b g E deep : Nat) (row : Option Nat) (fin : R) (hne : fin ≠ .out) (hro : Calls Tryd.prog 17 #[.pointer (some ⟨b, 0, none⟩)] w (PPost b g E deep row w fin)) :
    Calls Tryd.prog 9 #[.pointer (some ⟨b, 0, none⟩), .int .i64 5] w (PPost b g E deep row w fin) := by
  have HW : Hid (∀ e w', PPost b g E deep row w fin e w' → PPost b g E deep row w fin e w') := fun _ _ h => h
  have HNE := Lib.hid hne; clear hne
  have hix := index_5
  go_enter Tryd.func9, Tryd.ntmps9
  go_wp2_with fail
  cases fin with
  | out => exact absurd rfl HNE.out
  | err p er =>
    refine hro.mono ?_
    rintro e w1 hh
    obtain ⟨rfl, hb1⟩ := HW.out _ _ hh
    clear hh
    go_wp2_with fail
    exact ⟨rfl, rfl, hb1⟩
  | ok a toks1 tree1 =>
    refine hro.mono ?_
    rintro e w1 hh
    obtain ⟨rfl, hz⟩ := HW.out _ _ hh
    have HH := Lib.hid hz; clear hh hro hz
    go_wp2_with fail
    go_ret
    exact ⟨rfl, HH.out⟩
theorem index_6 (v : Value) (w : World) : (Instr.index 51 (.agg #[.func (.func 12) #[v] #[], .func (.func 13) #[v] #[], .func (.func 14) #[v] #[], .func (.func 15) #[v] #[], .func (.func 16) #[v] #[], .func (.func 17) #[v] #[], .func (.func 18) #[v] #[], .func (.func 19) #[v] #[]]) (.int .i64 6)).run Tryd.prog w = .ok (.func (.func 18) #[v] #[]) w := by kernel_rfl
set_option maxHeartbeats 2000000 in
set_option maxRecDepth 100000 in
theorem level_6 (w : World) (b g E deep : Nat) (row : Option Nat) (fin : R) (hne : fin ≠ .out) (hro : Calls Tryd.prog 18 #[.pointer (some ⟨b, 0, none⟩)] w (PPost b g E deep row w fin)) :
    Calls Tryd.prog 9 #[.pointer (some ⟨b, 0, none⟩), .int .i64 6] w (PPost b g E deep row w fin) := by
  have HW : Hid (∀ e w', PPost b g E deep row w fin e w' → PPost b g E deep row w fin e w') := fun _ _ h => h
  have HNE := Lib.hid hne; clear hne
  have hix := index_6
  go_enter Tryd.func9, Tryd.ntmps9
  go_wp2_with fail
  cases fin with
  | out => exact absurd rfl HNE.out
  | err p er =>
    refine hro.mono ?_
    rintro e w1 hh
    obtain ⟨rfl, hb1⟩ := HW.out _ _ hh
    clear hh
    go_wp2_with fail
    exact ⟨rfl, rfl, hb1⟩
  | ok a toks1 tree1 =>
    refine hro.mono ?_
    rintro e w1 hh
    obtain ⟨rfl, hz⟩ := HW.out _ _ hh
    have HH := Lib.hid hz; clear hh hro hz
    go_wp2_with fail
    go_ret
    exact ⟨rfl, HH.out⟩
theorem index_7 (v : Value) (w : World) : (Instr.index 51 (.agg #[.func (.func 12) #[v] #[], .func (.func 13) #[v] #[], .func (.func 14) #[v] #[], .func (.func 15) #[v] #[], .func (.func 16) #[v] #[], .func (.func 17) #[v] #[], .func (.func 18) #[v] #[], .func (.func 19) #[v] #[]]) (.int .i64 7)).run Tryd.prog w = .ok (.func (.func 19) #[v] #[]) w := by kernel_rfl
set_option maxHeartbeats 2000000 in
set_option maxRecDepth 100000 in
theorem level_7 (w : World) (b g E deep : Nat) (row : Option Nat) (fin : R) (hne : fin ≠ .out) (hro : Calls Tryd.prog 19 #[.pointer (some ⟨b, 0, none⟩)] w (PPost b g E deep row w fin)) :
    Calls Tryd.prog 9 #[.pointer (some ⟨b, 0, none⟩), .int .i64 7] w (PPost b g E deep row w fin) := by
  have HW : Hid (∀ e w', PPost b g E deep row w fin e w' → PPost b g E deep row w fin e w') := fun _ _ h => h
  have HNE := Lib.hid hne; clear hne
  have hix := index_7
  go_enter Tryd.func9, Tryd.ntmps9
  go_wp2_with fail
  cases fin with
  | out => exact absurd rfl HNE.out
  | err p er =>
    refine hro.mono ?_
    rintro e w1 hh
    obtain ⟨rfl, hb1⟩ := HW.out _ _ hh
    clear hh
    go_wp2_with fail
    exact ⟨rfl, rfl, hb1⟩
  | ok a toks1 tree1 =>
    refine hro.mono ?_
    rintro e w1 hh
    obtain ⟨rfl, hz⟩ := HW.out _ _ hh
    have HH := Lib.hid hz; clear hh hro hz
    go_wp2_with fail
    go_ret
    exact ⟨rfl, HH.out⟩
/-- At 16 no level opens: what would stand behind plays no part. -/
def nxt (deep : Nat) (ex : List Tok → List Node → R) : List Tok → List Node → R := if deep = 16 then fun _ _ => .out else ex
theorem aheadF_nxt (next same : List Tok → List Node → R) (E deep : Nat) (text : List UInt8) (o : Nat) (toks : List Tok) (tree : List Node) : aheadF next same E deep text o toks tree = aheadF next (nxt deep same) E deep text o toks tree := by
  by_cases h : deep = 16
  · simp [aheadF, h]
  · simp [nxt, h]
theorem atomF_nxt (nm : List UInt8 → Bool) (ex : List Tok → List Node → R) (E deep : Nat) (toks : List Tok) (tree : List Node) : atomF nm ex E deep toks tree = atomF nm (nxt deep ex) E deep toks tree := by
  by_cases h : deep = 16
  · cases toks with
    | nil => simp [atomF]
    | cons t r => simp [atomF, callF, h]
  · simp [nxt, h]
theorem nxt_good {deep : Nat} {ex : List Tok → List Node → R} (h : Good ex) : Good (nxt deep ex) := by
  by_cases h' : deep = 16
  · intro toks tree a t2 n2 e; simp [nxt, h'] at e
  · simpa [nxt, h'] using h
theorem lvl_ok (b g E : Nat) (h11 : 11 ≤ b) : ∀ (f n deep : Nat), n ≤ 7 → deep ≤ 16 → ExOk b g E deep n (lvl isName E f n deep)
  | 0, n, deep, _, _ => fun toks tree w row _ _ _ hne => absurd (by simp [lvl]) hne
  | f + 1, n, deep, hn, hd => fun toks tree w row h hsp hm hne => by
    have up (m : Nat) (hm : m ≤ 7) := lvl_ok b g E h11 f m deep hm hd
    have nx (m : Nat) (hm : m ≤ 7) : ExOk b g E (deep + 1) m (nxt deep (lvl isName E f m (deep + 1))) := by
      by_cases h16 : deep = 16
      · intro toks tree w row _ _ _ hne; exact absurd (by simp [nxt, h16]) hne
      · rw [nxt, if_neg h16]; exact lvl_ok b g E h11 f m (deep + 1) hm (by omega)
    rw [lvl] at hne ⊢
    rw [aheadF_nxt _ (lvl isName E f 2 (deep + 1)), aheadF_nxt _ (lvl isName E f 6 (deep + 1)), atomF_nxt] at hne ⊢
    rcases n with _ | _ | _ | _ | _ | _ | _ | _ | n
    · exact level_0 w b g E deep row _ hne (or_any w b g E deep _ (up 1 (by decide)) (lvl_good _ _ _ _ _) toks tree row h hsp h11 hm hne)
    · exact level_1 w b g E deep row _ hne (and_any w b g E deep _ (up 2 (by decide)) (lvl_good _ _ _ _ _) toks tree row h hsp h11 hm hne)
    · exact level_2 w b g E deep row _ hne (not_any w b g E deep _ _ (up 3 (by decide)) (nx 2 (by decide)) (nxt_good (lvl_good _ _ _ _ _)) toks tree row h hsp h11 hd hm hne)
    · exact level_3 w b g E deep row _ hne (cmp_any w b g E deep _ (up 4 (by decide)) (lvl_good _ _ _ _ _) toks tree row h hsp h11 hm hne)
    · exact level_4 w b g E deep row _ hne (sum_any w b g E deep _ (up 5 (by decide)) (lvl_good _ _ _ _ _) toks tree row h hsp h11 hm hne)
    · exact level_5 w b g E deep row _ hne (prod_any w b g E deep _ (up 6 (by decide)) (lvl_good _ _ _ _ _) toks tree row h hsp h11 hm hne)
    · exact level_6 w b g E deep row _ hne (minus_any w b g E deep _ _ (up 7 (by decide)) (nx 6 (by decide)) (nxt_good (lvl_good _ _ _ _ _)) toks tree row h hsp h11 hd hm hne)
    · exact level_7 w b g E deep row _ hne (atom_any w b g E deep _ (nx 0 (by decide)) (nxt_good (lvl_good _ _ _ _ _)) hd toks tree row h hsp h11 hm hne)
    · omega
end Go.Proofs.YtfkieomelkopeaaDoor
