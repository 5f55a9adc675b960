/-
  Plain law: a level that reads a tree of words reads the same one, but for places, of words that end with ')', one level deeper, or is too deep. Nothing of the program is used here.
-/
import Derived.Test.YtfkieomelkopeaaDoorPBrack
namespace Go.Proofs.YtfkieomelkopeaaDoor
open Go.RowKit
def bare (n : Node) : Node := { n with place := 0 }
def Like (p : Nat) (toks toks2 : List Tok) : Prop := toks2 = toks.map sh ++ [rp p]
def LikeT (a b : List Node) : Prop := a.map bare = b.map bare
theorem LikeT.len {a b : List Node} (h : LikeT a b) : a.length = b.length := by simpa using congrArg List.length h
theorem LikeT.snoc {a b : List Node} (h : LikeT a b) {m n : Node} (hn : bare m = bare n) : LikeT (a ++ [m]) (b ++ [n]) := by simp [LikeT] at *; exact ⟨h, hn⟩
/-- Where 'r' is a tree, 'r2' is it too, but for places; or too deep; or the reckoning was too short. -/
def RelR (p : Nat) (r r2 : R) : Prop := match r with
  | .ok a toks tree => r2 = .out ∨ (∃ pl, r2 = .err pl 10) ∨ ∃ toks2 tree2, r2 = .ok a toks2 tree2 ∧ Like p toks toks2 ∧ LikeT tree tree2
  | _ => True
def Sim (p : Nat) (ex ex2 : List Tok → List Node → R) : Prop := ∀ toks tree toks2 tree2, Like p toks toks2 → LikeT tree tree2 → RelR p (ex toks tree) (ex2 toks2 tree2)
theorem isW_like {p : Nat} {toks toks2 : List Tok} (h : Like p toks toks2) {text : List UInt8} (ht : text ≠ [41]) : isW toks2 text = isW toks text := by
  subst h
  cases toks with
  | nil => simp [isW, rp, Ne.symm ht]
  | cons t r => simp [isW, sh]
theorem isW_like_rp {p : Nat} {toks toks2 : List Tok} (h : Like p toks toks2) {text : List UInt8} (ht : isW toks text = true) : isW toks2 text = true := by
  subst h
  cases toks with
  | nil => simp [isW] at ht
  | cons t r => simpa [isW, sh] using ht
theorem isW_ne {toks : List Tok} {text : List UInt8} (h : isW toks text = true) : toks ≠ [] := by rintro rfl; simp [isW] at h
theorem like_tail {p : Nat} {toks toks2 : List Tok} (h : Like p toks toks2) (hn : toks ≠ []) : Like p toks.tail toks2.tail := by
  subst h
  cases toks with
  | nil => exact absurd rfl hn
  | cons t r => simp [Like]
theorem ifx_like {p : Nat} {toks toks2 : List Tok} (h : Like p toks toks2) : ∀ {ops : List (List UInt8 × Nat)}, (∀ x ∈ ops, x.1 ≠ [41]) → ifx ops toks2 = ifx ops toks
  | [], _ => rfl
  | (t, o) :: r, ho => by
    rw [ifx, ifx, isW_like h (ho (t, o) (by simp)), ifx_like h (fun x hx => ho x (by simp [hx]))]
theorem ifx_ne {ops : List (List UInt8 × Nat)} {toks : List Tok} (h : ifx ops toks ≠ 0) : toks ≠ [] := by
  rintro rfl
  apply h
  clear h
  induction ops with
  | nil => rfl
  | cons x r ih => obtain ⟨t, o⟩ := x; simp [ifx, isW, ih]
theorem opsOf_41 (n : Nat) : ∀ x ∈ opsOf n, x.1 ≠ [41] := by
  unfold opsOf
  repeat' split
  all_goals decide
theorem relR_bad {p : Nat} {r : R} {pl : Nat} : RelR p r (.err pl 10) := by cases r <;> simp [RelR]
theorem relR_out {p : Nat} {r : R} : RelR p r .out := by cases r <;> simp [RelR]
theorem rowLoop_sim {p : Nat} {ex ex2 : List Tok → List Node → R} (hs : Sim p ex ex2) {E E2 : Nat} {many : Bool} {ops : List (List UInt8 × Nat)} (ho : ∀ x ∈ ops, x.1 ≠ [41]) : ∀ (m m2 a : Nat) (toks toks2 : List Tok) (tree tree2 : List Node), Like p toks toks2 → LikeT tree tree2 →
    RelR p (rowLoop ex E many ops m a toks tree) (rowLoop ex2 E2 many ops m2 a toks2 tree2)
  | 0, _, _, _, _, _, _, _, _ => by simp [rowLoop, RelR]
  | _ + 1, 0, _, _, _, _, _, _, _ => by rw [rowLoop]; exact relR_out
  | m + 1, m2 + 1, a, toks, toks2, tree, tree2, hl, ht => by
    rw [rowLoop, rowLoop, ifx_like hl ho]
    by_cases h0 : ifx ops toks = 0
    · simp only [h0, if_true]; exact .inr (.inr ⟨toks2, tree2, rfl, hl, ht⟩)
    · simp only [h0, if_false]
      have h1 := hs _ _ _ _ (like_tail hl (ifx_ne h0)) ht
      cases hx : ex toks.tail tree with
      | out => simp [RelR]
      | err q er => simp [RelR]
      | ok b t2 n2 =>
        rw [hx] at h1
        rcases h1 with h | ⟨pl, h⟩ | ⟨toks3, tree3, h, hl3, ht3⟩
        · rw [h]; exact relR_out
        · rw [h]; exact relR_bad
        · rw [h]
          simp only
          have ht4 : LikeT (n2 ++ [binNode (ifx ops toks) (pos E toks) a b]) (tree3 ++ [binNode (ifx ops toks) (pos E2 toks2) a b]) := ht3.snoc rfl
          rw [ht3.len]
          cases many
          · exact .inr (.inr ⟨_, _, rfl, hl3, ht4⟩)
          · exact rowLoop_sim hs ho m m2 _ _ _ _ _ hl3 ht4
theorem rowF_sim {p : Nat} {ex ex2 : List Tok → List Node → R} (hs : Sim p ex ex2) {E E2 : Nat} {many : Bool} {ops : List (List UInt8 × Nat)} (ho : ∀ x ∈ ops, x.1 ≠ [41]) : Sim p (rowF ex E many ops) (rowF ex2 E2 many ops) := by
  intro toks tree toks2 tree2 hl ht
  rw [rowF, rowF]
  have h1 := hs _ _ _ _ hl ht
  cases hx : ex toks tree with
  | out => simp [RelR]
  | err q er => simp [RelR]
  | ok b t2 n2 =>
    rw [hx] at h1
    rcases h1 with h | ⟨pl, h⟩ | ⟨toks3, tree3, h, hl3, ht3⟩
    · rw [h]; exact relR_out
    · rw [h]; exact relR_bad
    · rw [h]; exact rowLoop_sim hs ho _ _ _ _ _ _ _ hl3 ht3
theorem aheadF_sim {p : Nat} {next next2 same same2 : List Tok → List Node → R} (hn : Sim p next next2) (hs : Sim p same same2) {E E2 deep : Nat} {text : List UInt8} {o : Nat} (ht : text ≠ [41]) : Sim p (aheadF next same E deep text o) (aheadF next2 same2 E2 (deep + 1) text o) := by
  intro toks tree toks2 tree2 hl htr
  rw [aheadF, aheadF, isW_like hl ht]
  cases hw : isW toks text
  · simpa using hn _ _ _ _ hl htr
  · simp only [if_true]
    by_cases h16 : deep = 16
    · simp [h16, RelR]
    · simp only [h16, if_false]
      by_cases h15 : deep + 1 = 16
      · simp only [h15, if_true]; exact relR_bad
      · simp only [h15, if_false]
        have h1 := hs _ _ _ _ (like_tail hl (isW_ne hw)) htr
        cases hx : same toks.tail tree with
        | out => simp [RelR]
        | err q er => simp [RelR]
        | ok b t2 n2 =>
          rw [hx] at h1
          rcases h1 with h | ⟨pl, h⟩ | ⟨toks3, tree3, h, hl3, ht3⟩
          · rw [h]; exact relR_out
          · rw [h]; exact relR_bad
          · rw [h]; simp only; rw [ht3.len]; exact .inr (.inr ⟨_, _, rfl, hl3, ht3.snoc rfl⟩)
theorem isFieldW_like {nm : List UInt8 → Bool} {p : Nat} {toks toks2 : List Tok} (h : Like p toks toks2) : isFieldW nm toks2 = isFieldW nm toks := by
  subst h
  cases toks with
  | nil => simp [isFieldW, rp]
  | cons t r => simp [isFieldW, sh]
theorem isWhole_like {most : Int} {p : Nat} {toks toks2 : List Tok} (h : Like p toks toks2) : isWhole most toks2 = isWhole most toks := by
  subst h
  cases toks with
  | nil => simp [isWhole, rp]
  | cons t r => simp [isWhole, sh]
theorem head_like {p : Nat} {toks toks2 : List Tok} (h : Like p toks toks2) (hn : toks ≠ []) (d : Tok) : (toks2.headD d).text = (toks.headD d).text ∧ (toks2.headD d).c = (toks.headD d).c := by
  subst h
  cases toks with
  | nil => exact absurd rfl hn
  | cons t r => simp [sh]
def RelA (p : Nat) (r r2 : RA) : Prop := match r with
  | .ok kids name k toks tree => r2 = .out ∨ (∃ pl, r2 = .err pl 10) ∨ ∃ toks2 tree2, r2 = .ok kids name k toks2 tree2 ∧ Like p toks toks2 ∧ LikeT tree tree2
  | _ => True
theorem relA_bad {p : Nat} {r : RA} {pl : Nat} : RelA p r (.err pl 10) := by cases r <;> simp [RelA]
theorem relA_out {p : Nat} {r : RA} : RelA p r .out := by cases r <;> simp [RelA]
theorem argsF_sim {nm : List UInt8 → Bool} {p : Nat} {ex ex2 : List Tok → List Node → R} (hs : Sim p ex ex2) {E E2 : Nat} {most : Int} : ∀ (az : List UInt8) (first : Bool) (kids : List Nat) (name : List UInt8) (k : Int) (toks toks2 : List Tok) (tree tree2 : List Node), Like p toks toks2 → LikeT tree tree2 →
    RelA p (argsF nm ex E most az first kids name k toks tree) (argsF nm ex2 E2 most az first kids name k toks2 tree2)
  | [], _, _, _, _, _, _, _, _, hl, ht => by rw [argsF, argsF]; exact .inr (.inr ⟨_, _, rfl, hl, ht⟩)
  | a :: az, first, kids, name, k, toks, toks2, tree, tree2, hl, ht => by
    rw [argsF, argsF, isW_like hl (by decide)]
    by_cases h0 : first = false ∧ isW toks [44] = false
    · rw [if_pos h0]; simp [RelA]
    · rw [if_neg h0, if_neg h0]
      have hl1 : Like p (if first = true then toks else toks.tail) (if first = true then toks2 else toks2.tail) := by
        cases first with
        | true => simpa using hl
        | false =>
          simp at h0 ⊢
          exact like_tail hl (isW_ne h0)
      generalize (if first = true then toks else toks.tail) = u at *
      generalize (if first = true then toks2 else toks2.tail) = u2 at *
      simp only
      by_cases ha : a = 101
      · simp only [ha, if_true]
        have h1 := hs _ _ _ _ hl1 ht
        cases hx : ex u tree with
        | out => simp [RelA]
        | err q er => simp [RelA]
        | ok b t2 n2 =>
          rw [hx] at h1
          rcases h1 with h | ⟨pl, h⟩ | ⟨toks3, tree3, h, hl3, ht3⟩
          · rw [h]; exact relA_out
          · rw [h]; exact relA_bad
          · rw [h]; exact argsF_sim hs az _ _ _ _ _ _ _ _ hl3 ht3
      · simp only [ha, if_false]
        by_cases hb : a = 102
        · simp only [hb, if_true, isFieldW_like hl1]
          by_cases hf : isFieldW nm u = true
          · simp only [hf, if_true]
            have hu : u ≠ [] := by rintro rfl; simp [isFieldW] at hf
            rw [(head_like hl1 hu _).1]
            exact argsF_sim hs az _ _ _ _ _ _ _ _ (like_tail hl1 hu) ht
          · rw [if_neg hf]; simp [RelA]
        · simp only [hb, if_false, isWhole_like hl1]
          by_cases hf : isWhole most u = true
          · simp only [hf, if_true]
            have hu : u ≠ [] := by rintro rfl; simp [isWhole] at hf
            rw [(head_like hl1 hu _).2]
            exact argsF_sim hs az _ _ _ _ _ _ _ _ (like_tail hl1 hu) ht
          · rw [if_neg hf]; simp [RelA]
theorem callF_sim {nm : List UInt8 → Bool} {p : Nat} {ex ex2 : List Tok → List Node → R} (hs : Sim p ex ex2) {E E2 deep : Nat} (c : Nat × List UInt8 × Int) {toks toks2 : List Tok} {tree tree2 : List Node} (hn : toks ≠ []) (hl : Like p toks toks2) (ht : LikeT tree tree2) :
    RelR p (callF nm ex E deep c toks tree) (callF nm ex2 E2 (deep + 1) c toks2 tree2) := by
  have hl1 := like_tail hl hn
  rw [callF, callF, isW_like hl1 (by decide)]
  cases hw : isW toks.tail [40] with
  | false => simp [RelR]
  | true =>
    simp only [Bool.true_eq_false, if_false]
    by_cases h16 : deep = 16
    · simp [h16, RelR]
    · simp only [h16, if_false]
      by_cases h15 : deep + 1 = 16
      · simp only [h15, if_true]; exact relR_bad
      · simp only [h15, if_false]
        have h1 := argsF_sim (nm := nm) hs (E := E) (E2 := E2) (most := c.2.2) c.2.1 true [] [] 0 _ _ _ _ (like_tail hl1 (isW_ne hw)) ht
        cases hx : argsF nm ex E c.2.2 c.2.1 true [] [] 0 toks.tail.tail tree with
        | out => simp [RelR]
        | err q er => simp [RelR]
        | ok kids name k t2 n2 =>
          rw [hx] at h1
          rcases h1 with h | ⟨pl, h⟩ | ⟨toks3, tree3, h, hl3, ht3⟩
          · rw [h]; exact relR_out
          · rw [h]; exact relR_bad
          · rw [h]
            simp only
            by_cases hp : isW t2 [41] = true
            · simp only [hp, if_true, isW_like_rp hl3 hp]
              rw [ht3.len]
              exact .inr (.inr ⟨_, _, rfl, like_tail hl3 (isW_ne hp), ht3.snoc rfl⟩)
            · rw [if_neg hp]; simp [RelR]
theorem atomF_sim {nm : List UInt8 → Bool} {p : Nat} {ex ex2 : List Tok → List Node → R} (hs : Sim p ex ex2) {E E2 deep : Nat} : Sim p (atomF nm ex E deep) (atomF nm ex2 E2 (deep + 1)) := by
  intro toks tree toks2 tree2 hl ht
  cases toks with
  | nil => simp [atomF, RelR]
  | cons t r =>
    have e : toks2 = sh t :: (r.map sh ++ [rp p]) := by simpa [Like] using hl
    have hl1 : Like p r (r.map sh ++ [rp p]) := rfl
    have hf : isFieldW nm toks2 = isFieldW nm (t :: r) := isFieldW_like hl
    subst e
    rw [atomF, atomF]
    have e1 : (sh t).kind = t.kind := rfl
    have e2 : (sh t).text = t.text := rfl
    have e3 : (sh t).c = t.c := rfl
    have e4 : (sh t).s = t.s := rfl
    simp only [e1, e2, e3, e4, hf]
    by_cases h1 : t.kind = 2
    · simp only [h1, if_true]; rw [ht.len]; exact .inr (.inr ⟨_, _, rfl, hl1, ht.snoc rfl⟩)
    simp only [h1, if_false]
    by_cases h2 : t.text = [116, 114, 117, 101]
    · simp only [h2, if_true]; rw [ht.len]; exact .inr (.inr ⟨_, _, rfl, hl1, ht.snoc rfl⟩)
    simp only [h2, if_false]
    by_cases h3 : t.text = [102, 97, 108, 115, 101]
    · simp only [h3, if_true]; rw [ht.len]; exact .inr (.inr ⟨_, _, rfl, hl1, ht.snoc rfl⟩)
    simp only [h3, if_false]
    cases hc : callsOf t.text with
    | some c => exact callF_sim hs c (by simp) hl ht
    | none =>
      simp only
      by_cases h4 : t.text = [40]
      · simp only [h4, if_true]
        by_cases h16 : deep = 16
        · simp [h16, RelR]
        · simp only [h16, if_false]
          by_cases h15 : deep + 1 = 16
          · simp only [h15, if_true]; exact relR_bad
          · simp only [h15, if_false]
            have h5 := hs _ _ _ _ hl1 ht
            cases hx : ex r tree with
            | out => simp [RelR]
            | err q er => simp [RelR]
            | ok b t2 n2 =>
              rw [hx] at h5
              rcases h5 with h | ⟨pl, h⟩ | ⟨toks3, tree3, h, hl3, ht3⟩
              · rw [h]; exact relR_out
              · rw [h]; exact relR_bad
              · rw [h]
                simp only
                by_cases hp : isW t2 [41] = true
                · simp only [hp, if_true, isW_like_rp hl3 hp]
                  exact .inr (.inr ⟨_, _, rfl, like_tail hl3 (isW_ne hp), ht3⟩)
                · rw [if_neg hp]; simp [RelR]
      · simp only [h4, if_false]
        by_cases h6 : isFieldW nm (t :: r) = true
        · simp only [h6, if_true]; rw [ht.len]; exact .inr (.inr ⟨_, _, rfl, hl1, ht.snoc rfl⟩)
        · rw [if_neg h6]; simp [RelR]
theorem lvl_sim (nm : List UInt8 → Bool) (p E E2 : Nat) : ∀ (f f2 n deep : Nat), Sim p (lvl nm E f n deep) (lvl nm E2 f2 n (deep + 1))
  | 0, _, _, _ => by intro toks tree toks2 tree2 _ _; simp [lvl, RelR]
  | f + 1, 0, _, _ => by intro toks tree toks2 tree2 _ _; rw [lvl.eq_1 (E := E2)]; exact relR_out
  | f + 1, f2 + 1, n, deep => by
    intro toks tree toks2 tree2 hl ht
    rw [lvl, lvl]
    by_cases h2 : n = 2
    · simp only [h2, if_true]; exact aheadF_sim (lvl_sim nm p E E2 f f2 _ _) (lvl_sim nm p E E2 f f2 _ _) (by decide) _ _ _ _ hl ht
    simp only [h2, if_false]
    by_cases h6 : n = 6
    · simp only [h6, if_true]; exact aheadF_sim (lvl_sim nm p E E2 f f2 _ _) (lvl_sim nm p E E2 f f2 _ _) (by decide) _ _ _ _ hl ht
    simp only [h6, if_false]
    by_cases h7 : n = 7
    · simp only [h7, if_true]; exact atomF_sim (lvl_sim nm p E E2 f f2 _ _) _ _ _ _ hl ht
    simp only [h7, if_false]
    exact rowF_sim (lvl_sim nm p E E2 f f2 _ _) (opsOf_41 n) _ _ _ _ hl ht
end Go.Proofs.YtfkieomelkopeaaDoor
