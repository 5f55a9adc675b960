/-
  The levels of the grammar, each by the one above: by induction on how many calls stand in each other.
-/
import Derived.Test.YtfkieomelkopeaaDoorWAtom3
namespace Go.Proofs.YtfkieomelkopeaaDoor
open Go.RowKit
/-! What the plain law's levels leave: fewer words, no more nodes than words. -/
theorem rowLoop_good {ex : List Tok → List Node → R} (h : Good ex) {E : Nat} {many : Bool} {ops : List (List UInt8 × Nat)} : ∀ (m a : Nat) (toks : List Tok) (tree : List Node) (a' : Nat) (toks' : List Tok) (tree' : List Node),
    rowLoop ex E many ops m a toks tree = .ok a' toks' tree' → toks'.length ≤ toks.length ∧ tree'.length + toks'.length ≤ tree.length + toks.length
  | 0, _, _, _, _, _, _, e => by simp [rowLoop] at e
  | m + 1, a, toks, tree, a', toks', tree', e => by
    rw [rowLoop] at e
    by_cases h0 : ifx ops toks = 0
    · rw [if_pos h0] at e; cases e; exact ⟨Nat.le_refl _, Nat.le_refl _⟩
    · rw [if_neg h0] at e
      cases toks with
      | nil => exact absurd (ifx_nil ops) h0
      | cons t r =>
      cases hx : ex r tree with
      | out => simp [hx] at e
      | err p er => simp [hx] at e
      | ok b t2 n2 =>
        have g := h _ _ _ _ _ hx
        simp only [List.tail_cons, hx] at e
        cases many with
        | false => simp at e; obtain ⟨-, rfl, rfl⟩ := e; simp; omega
        | true =>
          simp only [if_true] at e
          have := rowLoop_good h m _ _ _ _ _ _ e
          simp at this ⊢; omega
theorem rowF_good {ex : List Tok → List Node → R} (h : Good ex) (E : Nat) (many : Bool) (ops : List (List UInt8 × Nat)) : Good (rowF ex E many ops) := by
  intro toks tree a toks' tree' e
  rw [rowF] at e
  cases hx : ex toks tree with
  | out => simp [hx] at e
  | err p er => simp [hx] at e
  | ok b t2 n2 =>
    have g := h _ _ _ _ _ hx
    simp only [hx] at e
    have := rowLoop_good h _ _ _ _ _ _ _ e
    omega
theorem aheadF_good {next same : List Tok → List Node → R} (h1 : Good next) (h2 : Good same) (E deep : Nat) (text : List UInt8) (o : Nat) : Good (aheadF next same E deep text o) := by
  intro toks tree a toks' tree' e
  rw [aheadF] at e
  cases hw : isW toks text
  · simp only [hw, Bool.false_eq_true, if_false] at e; exact h1 _ _ _ _ _ e
  · simp only [hw, if_true] at e
    cases toks with
    | nil => simp [isW] at hw
    | cons t r =>
    by_cases h16 : deep = 16
    · simp [h16] at e
    · simp only [h16, if_false, List.tail_cons] at e
      cases hx : same r tree with
      | out => simp [hx] at e
      | err p er => simp [hx] at e
      | ok b t2 n2 =>
        have g := h2 _ _ _ _ _ hx
        simp only [hx] at e
        cases e; simp; omega
theorem argsF_good {nm : List UInt8 → Bool} {ex : List Tok → List Node → R} (h : Good ex) {E : Nat} {most : Int} : ∀ (az : List UInt8) (first : Bool) (kids : List Nat) (name : List UInt8) (k : Int) (toks : List Tok) (tree : List Node) (kids' : List Nat) (name' : List UInt8) (k' : Int) (toks' : List Tok) (tree' : List Node),
    argsF nm ex E most az first kids name k toks tree = .ok kids' name' k' toks' tree' → toks'.length ≤ toks.length ∧ tree'.length + toks'.length ≤ tree.length + toks.length
  | [], _, _, _, _, _, _, _, _, _, _, _, e => by rw [argsF] at e; cases e; exact ⟨Nat.le_refl _, Nat.le_refl _⟩
  | a :: az, first, kids, name, k, toks, tree, kids', name', k', toks', tree', e => by
    rw [argsF] at e
    by_cases h0 : first = false ∧ isW toks [44] = false
    · rw [if_pos h0] at e; cases e
    · rw [if_neg h0] at e
      generalize ht : (if first = true then toks else toks.tail) = toks1 at e
      have hl : toks1.length ≤ toks.length := by rw [← ht]; split <;> simp
      try simp only at e
      split at e
      · cases hx : ex toks1 tree with
        | out => simp [hx] at e
        | err p er => simp [hx] at e
        | ok b t2 n2 =>
          have g := h _ _ _ _ _ hx
          simp only [hx] at e
          have := argsF_good h az _ _ _ _ _ _ _ _ _ _ _ e
          omega
      · split at e
        · split at e
          · have := argsF_good h az _ _ _ _ _ _ _ _ _ _ _ e
            have h2 : toks1.tail.length ≤ toks1.length := by simp
            omega
          · cases e
        · split at e
          · have := argsF_good h az _ _ _ _ _ _ _ _ _ _ _ e
            have h2 : toks1.tail.length ≤ toks1.length := by simp
            omega
          · cases e
theorem callF_good {nm : List UInt8 → Bool} {ex : List Tok → List Node → R} (h : Good ex) (E deep : Nat) (c : Nat × List UInt8 × Int) (t : Tok) (r : List Tok) (tree : List Node) (a : Nat) (toks' : List Tok) (tree' : List Node) (e : callF nm ex E deep c (t :: r) tree = .ok a toks' tree') :
    toks'.length < (t :: r).length ∧ tree'.length + toks'.length ≤ tree.length + (t :: r).length := by
  rw [callF] at e
  simp only [List.tail_cons] at e
  cases hw0 : isW r [40] with
  | false => simp [hw0] at e
  | true =>
  simp only [hw0, Bool.true_eq_false, if_false] at e
  by_cases h16 : deep = 16
  · rw [if_pos h16] at e; cases e
  rw [if_neg h16] at e
  cases hx : argsF nm ex E c.2.2 c.2.1 true [] [] 0 r.tail tree with
  | out => simp [hx] at e
  | err p er => simp [hx] at e
  | ok kids name k t2 n2 =>
    have g := argsF_good h _ _ _ _ _ _ _ _ _ _ _ _ hx
    have h2 : r.tail.length ≤ r.length := by simp
    simp only [hx] at e
    by_cases hw : isW t2 [41] = true
    · rw [if_pos hw] at e
      cases e
      cases t2 with
      | nil => simp [isW] at hw
      | cons u t2 => simp at *; omega
    · rw [if_neg hw] at e; cases e
theorem atomF_good {nm : List UInt8 → Bool} {ex : List Tok → List Node → R} (h : Good ex) (E deep : Nat) : Good (atomF nm ex E deep) := by
  intro toks tree a toks' tree' e
  cases toks with
  | nil => simp [atomF] at e
  | cons t r =>
    rw [atomF] at e
    try simp only at e
    by_cases h1 : t.kind = 2
    · rw [if_pos h1] at e; cases e; simp; omega
    rw [if_neg h1] at e
    by_cases h2 : t.text = [116, 114, 117, 101]
    · rw [if_pos h2] at e; cases e; simp; omega
    rw [if_neg h2] at e
    by_cases h3 : t.text = [102, 97, 108, 115, 101]
    · rw [if_pos h3] at e; cases e; simp; omega
    rw [if_neg h3] at e
    cases hc : callsOf t.text with
    | some c => rw [hc] at e; exact callF_good h E deep _ t r tree a toks' tree' e
    | none =>
      rw [hc] at e
      try simp only at e
      by_cases h4 : t.text = [40]
      · rw [if_pos h4] at e
        by_cases h16 : deep = 16
        · rw [if_pos h16] at e; cases e
        rw [if_neg h16] at e
        cases hx : ex r tree with
        | out => rw [hx] at e; cases e
        | err p er => rw [hx] at e; cases e
        | ok b t2 n2 =>
          have g := h _ _ _ _ _ hx
          rw [hx] at e
          try simp only at e
          have h3 : t2.tail.length ≤ t2.length := by simp
          by_cases hw : isW t2 [41] = true
          · rw [if_pos hw] at e; cases e; simp at *; omega
          · rw [if_neg hw] at e; cases e
      · rw [if_neg h4] at e
        by_cases h5 : isFieldW nm (t :: r) = true
        · rw [if_pos h5] at e; cases e; simp; omega
        · rw [if_neg h5] at e; cases e
theorem lvl_good (nm : List UInt8 → Bool) (E : Nat) : ∀ (f n deep : Nat), Good (lvl nm E f n deep)
  | 0, n, deep => fun _ _ _ _ _ e => by simp [lvl] at e
  | f + 1, n, deep => fun toks tree a toks' tree' e => by
    rw [lvl] at e
    split at e
    · exact aheadF_good (lvl_good nm E f _ _) (lvl_good nm E f _ _) E deep _ _ _ _ _ _ _ e
    split at e
    · exact aheadF_good (lvl_good nm E f _ _) (lvl_good nm E f _ _) E deep _ _ _ _ _ _ _ e
    split at e
    · exact atomF_good (lvl_good nm E f _ _) E deep _ _ _ _ _ e
    · exact rowF_good (lvl_good nm E f _ _) E _ _ _ _ _ _ _ e
end Go.Proofs.YtfkieomelkopeaaDoor
