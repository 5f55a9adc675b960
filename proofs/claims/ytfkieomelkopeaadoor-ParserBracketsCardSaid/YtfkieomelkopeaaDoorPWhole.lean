/-
  Plain law: what a level reads is a whole: each node but the last one is below just one, behind it. Nothing of the program is used here.
-/
import Derived.Test.YtfkieomelkopeaaDoorPSim
namespace Go.Proofs.YtfkieomelkopeaaDoor
open Go.RowKit
def kidOf (k : Int) : List Nat := if 0 ≤ k then [k.toNat] else []
def kidsN (n : Node) : List Nat := kidOf n.k0 ++ kidOf n.k1 ++ kidOf n.k2
/-- Nodes that are laid behind 't' ones: each but the roots is below just one. -/
structure Forest (t : Nat) (new : List Node) (roots : List Nat) : Prop where
  perm : (new.flatMap kidsN ++ roots).Perm (List.range' t new.length)
  behind : ∀ i (h : i < new.length), ∀ k ∈ kidsN new[i], k < t + i
  least : ∀ n ∈ new, -1 ≤ n.k0 ∧ -1 ≤ n.k1 ∧ -1 ≤ n.k2
theorem Forest.nil (t : Nat) : Forest t [] [] := ⟨by simp, fun i h => by simp at h, fun n h => by simp at h⟩
theorem Forest.append {t : Nat} {a b : List Node} {r s : List Nat} (h : Forest t a r) (k : Forest (t + a.length) b s) : Forest t (a ++ b) (r ++ s) := by
  refine ⟨?_, fun i hi => ?_, fun n hn => ?_⟩
  · have e : List.range' t (a ++ b).length = List.range' t a.length ++ List.range' (t + a.length) b.length := by
      rw [List.length_append, List.range'_append_1]
    rw [e, List.flatMap_append]
    have h1 : (a.flatMap kidsN ++ b.flatMap kidsN ++ (r ++ s)).Perm ((a.flatMap kidsN ++ r) ++ (b.flatMap kidsN ++ s)) := by
      simp only [List.append_assoc]
      refine List.Perm.append_left _ ?_
      rw [← List.append_assoc, ← List.append_assoc]
      exact List.perm_append_comm.append_right _
    exact h1.trans (h.perm.append k.perm)
  · by_cases hl : i < a.length
    · rw [List.getElem_append_left hl]; exact h.behind i hl
    · rw [List.getElem_append_right (by omega)]
      intro c hc
      have := k.behind (i - a.length) (by simp at hi; omega) c hc
      omega
  · rcases List.mem_append.1 hn with hn | hn
    · exact h.least n hn
    · exact k.least n hn
theorem Forest.node {t : Nat} {a : List Node} {r : List Nat} (h : Forest t a r) {n : Node} (hk : (kidsN n).Perm r) (hl : -1 ≤ n.k0 ∧ -1 ≤ n.k1 ∧ -1 ≤ n.k2) : Forest t (a ++ [n]) [t + a.length] := by
  refine ⟨?_, fun i hi => ?_, fun m hm => ?_⟩
  · have e : List.range' t (a ++ [n]).length = List.range' t a.length ++ [t + a.length] := by
      rw [List.length_append, List.length_singleton, ← List.range'_append_1]; rfl
    rw [e]
    simp only [List.flatMap_append, List.flatMap_cons, List.flatMap_nil, List.append_nil]
    exact ((List.Perm.append_left _ hk).trans h.perm).append_right _
  · by_cases hl : i < a.length
    · rw [List.getElem_append_left hl]; exact h.behind i hl
    · have hi2 : i = a.length := by simp at hi; omega
      subst hi2
      simp only [List.getElem_concat_length]
      intro c hc
      have h1 : c ∈ List.range' t a.length := h.perm.subset (List.mem_append_right _ (hk.subset hc))
      simp [List.mem_range'] at h1
      omega
  · rcases List.mem_append.1 hm with hm | hm
    · exact h.least m hm
    · simp at hm; subst hm; exact hl
def Grown (tree : List Node) (roots : List Nat) (tree' : List Node) : Prop := ∃ new, tree' = tree ++ new ∧ Forest tree.length new roots
theorem Grown.refl (tree : List Node) : Grown tree [] tree := ⟨[], by simp, .nil _⟩
theorem Grown.trans {a b c : List Node} {r s : List Nat} (h : Grown a r b) (k : Grown b s c) : Grown a (r ++ s) c := by
  obtain ⟨x, rfl, hx⟩ := h
  obtain ⟨y, rfl, hy⟩ := k
  exact ⟨x ++ y, by simp, hx.append (by simpa using hy)⟩
theorem Grown.node {a b : List Node} {r : List Nat} (h : Grown a r b) {n : Node} (hk : (kidsN n).Perm r) (hl : -1 ≤ n.k0 ∧ -1 ≤ n.k1 ∧ -1 ≤ n.k2) : Grown a [b.length] (b ++ [n]) := by
  obtain ⟨x, rfl, hx⟩ := h
  exact ⟨x ++ [n], by simp, by simpa using hx.node hk hl⟩
def Whole (ex : List Tok → List Node → R) : Prop := ∀ toks tree a toks' tree', ex toks tree = .ok a toks' tree' → Grown tree [a] tree' ∧ a + 1 = tree'.length
theorem bin_kids (o pl a b : Nat) : kidsN (binNode o pl a b) = [a, b] := by simp [kidsN, kidOf, binNode]
theorem un_kids (o pl a : Nat) : kidsN (unNode o pl a) = [a] := by simp [kidsN, kidOf, unNode]
theorem rowLoop_whole {ex : List Tok → List Node → R} (h : Whole ex) {E : Nat} {many : Bool} {ops : List (List UInt8 × Nat)} {tree0 : List Node} : ∀ (m a : Nat) (toks : List Tok) (tree : List Node) (a' : Nat) (toks' : List Tok) (tree' : List Node),
    rowLoop ex E many ops m a toks tree = .ok a' toks' tree' → Grown tree0 [a] tree → a + 1 = tree.length → Grown tree0 [a'] tree' ∧ a' + 1 = tree'.length
  | 0, _, _, _, _, _, _, e, _, _ => by simp [rowLoop] at e
  | m + 1, a, toks, tree, a', toks', tree', e, hg, hl => by
    rw [rowLoop] at e
    by_cases h0 : ifx ops toks = 0
    · rw [if_pos h0] at e; cases e; exact ⟨hg, hl⟩
    · rw [if_neg h0] at e
      cases hx : ex toks.tail tree with
      | out => simp [hx] at e
      | err p er => simp [hx] at e
      | ok b t2 n2 =>
        obtain ⟨g1, g2⟩ := h _ _ _ _ _ hx
        have g3 := (hg.trans g1).node (n := binNode (ifx ops toks) (pos E toks) a b) (by rw [bin_kids]; simp) (by simp [binNode])
        simp only [hx] at e
        cases many with
        | false => simp at e; obtain ⟨rfl, rfl, rfl⟩ := e; exact ⟨g3, by simp⟩
        | true => simp only [if_true] at e; exact rowLoop_whole h m _ _ _ _ _ _ e g3 (by simp)
theorem rowF_whole {ex : List Tok → List Node → R} (h : Whole ex) (E : Nat) (many : Bool) (ops : List (List UInt8 × Nat)) : Whole (rowF ex E many ops) := by
  intro toks tree a toks' tree' e
  rw [rowF] at e
  cases hx : ex toks tree with
  | out => simp [hx] at e
  | err p er => simp [hx] at e
  | ok b t2 n2 =>
    obtain ⟨g1, g2⟩ := h _ _ _ _ _ hx
    simp only [hx] at e
    exact rowLoop_whole h _ _ _ _ _ _ _ e g1 g2
theorem aheadF_whole {next same : List Tok → List Node → R} (h1 : Whole next) (h2 : Whole same) (E deep : Nat) (text : List UInt8) (o : Nat) : Whole (aheadF next same E deep text o) := by
  intro toks tree a toks' tree' e
  rw [aheadF] at e
  cases hw : isW toks text
  · simp only [hw, Bool.false_eq_true, if_false] at e; exact h1 _ _ _ _ _ e
  · simp only [hw, if_true] at e
    by_cases h16 : deep = 16
    · simp [h16] at e
    · simp only [h16, if_false] at e
      cases hx : same toks.tail tree with
      | out => simp [hx] at e
      | err p er => simp [hx] at e
      | ok b t2 n2 =>
        obtain ⟨g1, g2⟩ := h2 _ _ _ _ _ hx
        simp only [hx] at e
        cases e
        exact ⟨g1.node (by rw [un_kids]) (by simp [unNode]), by simp⟩
theorem argsF_whole {nm : List UInt8 → Bool} {ex : List Tok → List Node → R} (h : Whole ex) {E : Nat} {most : Int} {tree0 : List Node} : ∀ (az : List UInt8) (first : Bool) (kids : List Nat) (name : List UInt8) (k : Int) (toks : List Tok) (tree : List Node) (kids' : List Nat) (name' : List UInt8) (k' : Int) (toks' : List Tok) (tree' : List Node),
    argsF nm ex E most az first kids name k toks tree = .ok kids' name' k' toks' tree' → Grown tree0 kids tree → Grown tree0 kids' tree' ∧ kids'.length ≤ kids.length + az.length
  | [], _, _, _, _, _, _, _, _, _, _, _, e, hg => by rw [argsF] at e; cases e; exact ⟨hg, by simp⟩
  | a :: az, first, kids, name, k, toks, tree, kids', name', k', toks', tree', e, hg => by
    rw [argsF] at e
    by_cases h0 : first = false ∧ isW toks [44] = false
    · rw [if_pos h0] at e; cases e
    · rw [if_neg h0] at e
      generalize (if first = true then toks else toks.tail) = toks1 at e
      simp only at e
      split at e
      · cases hx : ex toks1 tree with
        | out => simp [hx] at e
        | err p er => simp [hx] at e
        | ok b t2 n2 =>
          obtain ⟨g1, g2⟩ := h _ _ _ _ _ hx
          simp only [hx] at e
          have := argsF_whole h az _ _ _ _ _ _ _ _ _ _ _ e (hg.trans g1)
          exact ⟨this.1, by have := this.2; simp at this ⊢; first | omega | exact this⟩
      · split at e
        · split at e
          · have := argsF_whole h az _ _ _ _ _ _ _ _ _ _ _ e hg
            exact ⟨this.1, by have := this.2; simp; omega⟩
          · cases e
        · split at e
          · have := argsF_whole h az _ _ _ _ _ _ _ _ _ _ _ e hg
            exact ⟨this.1, by have := this.2; simp; omega⟩
          · cases e
theorem kid_least (l : List Nat) (i : Nat) : -1 ≤ kid l i := by unfold kid; split <;> omega
theorem kids_three : ∀ l : List Nat, l.length ≤ 3 → kidOf (kid l 0) ++ kidOf (kid l 1) ++ kidOf (kid l 2) = l
  | [], _ => by simp [kid, kidOf]
  | [a], _ => by simp [kid, kidOf]
  | [a, b], _ => by simp [kid, kidOf]
  | [a, b, c], _ => by simp [kid, kidOf]
  | a :: b :: c :: d :: r, h => by simp at h
theorem ite_some2 {A : Type} {p : Prop} [Decidable p] {a c : A} {x : Option A} (h : (if p then some a else x) = some c) : a = c ∨ x = some c := by
  split at h
  · cases h; exact .inl rfl
  · exact .inr h
theorem callsOf_three {l : List UInt8} {c : Nat × List UInt8 × Int} (h : callsOf l = some c) : c.2.1.length ≤ 3 := by
  unfold callsOf at h
  iterate 12 (rcases ite_some2 h with rfl | h; · decide)
  cases h
theorem callF_whole {nm : List UInt8 → Bool} {ex : List Tok → List Node → R} (h : Whole ex) {E deep : Nat} {c : Nat × List UInt8 × Int} (hc : c.2.1.length ≤ 3) {toks : List Tok} {tree : List Node} {a : Nat} {toks' : List Tok} {tree' : List Node} (e : callF nm ex E deep c toks tree = .ok a toks' tree') :
    Grown tree [a] tree' ∧ a + 1 = tree'.length := by
  rw [callF] at e
  cases hw0 : isW toks.tail [40] with
  | false => simp [hw0] at e
  | true =>
  simp only [hw0, Bool.true_eq_false, if_false] at e
  by_cases h16 : deep = 16
  · rw [if_pos h16] at e; cases e
  rw [if_neg h16] at e
  cases hx : argsF nm ex E c.2.2 c.2.1 true [] [] 0 toks.tail.tail tree with
  | out => simp [hx] at e
  | err p er => simp [hx] at e
  | ok kids name k t2 n2 =>
    obtain ⟨g1, g2⟩ := argsF_whole h _ _ _ _ _ _ _ _ _ _ _ _ hx (.refl tree)
    simp only [hx] at e
    by_cases hw : isW t2 [41] = true
    · rw [if_pos hw] at e
      cases e
      exact ⟨g1.node (by simp only [kidsN]; rw [kids_three _ (by simp at g2; first | omega | exact Nat.le_trans g2 hc)]) ⟨kid_least _ _, kid_least _ _, kid_least _ _⟩, by simp⟩
    · rw [if_neg hw] at e; cases e
theorem leaf_whole (tree : List Node) (o : Nat) (c s : Int) (name : List UInt8) (pl : Nat) : Grown tree [tree.length] (tree ++ [leaf o c s name pl]) ∧ tree.length + 1 = (tree ++ [leaf o c s name pl]).length :=
  ⟨(Grown.refl tree).node (by simp [kidsN, kidOf, leaf]) (by simp [leaf]), by simp⟩
theorem atomF_whole {nm : List UInt8 → Bool} {ex : List Tok → List Node → R} (h : Whole ex) (E deep : Nat) : Whole (atomF nm ex E deep) := by
  intro toks tree a toks' tree' e
  cases toks with
  | nil => simp [atomF] at e
  | cons t r =>
    rw [atomF] at e
    try simp only at e
    by_cases h1 : t.kind = 2
    · rw [if_pos h1] at e; cases e; exact leaf_whole _ _ _ _ _ _
    rw [if_neg h1] at e
    by_cases h2 : t.text = [116, 114, 117, 101]
    · rw [if_pos h2] at e; cases e; exact leaf_whole _ _ _ _ _ _
    rw [if_neg h2] at e
    by_cases h3 : t.text = [102, 97, 108, 115, 101]
    · rw [if_pos h3] at e; cases e; exact leaf_whole _ _ _ _ _ _
    rw [if_neg h3] at e
    cases hc : callsOf t.text with
    | some c => rw [hc] at e; exact callF_whole h (callsOf_three hc) e
    | none =>
      rw [hc] at e
      try simp only at e
      by_cases h4 : t.text = [40]
      · rw [if_pos h4] at e
        by_cases h16 : deep = 16
        · rw [if_pos h16] at e; cases e
        rw [if_neg h16] at e
        cases hx : ex r tree with
        | out => rw [hx] at e; cases e
        | err p er => rw [hx] at e; cases e
        | ok b t2 n2 =>
          have g := h _ _ _ _ _ hx
          rw [hx] at e
          try simp only at e
          by_cases hw : isW t2 [41] = true
          · rw [if_pos hw] at e; cases e; exact g
          · rw [if_neg hw] at e; cases e
      · rw [if_neg h4] at e
        by_cases h5 : isFieldW nm (t :: r) = true
        · rw [if_pos h5] at e; cases e; exact leaf_whole _ _ _ _ _ _
        · rw [if_neg h5] at e; cases e
theorem lvl_whole (nm : List UInt8 → Bool) (E : Nat) : ∀ (f n deep : Nat), Whole (lvl nm E f n deep)
  | 0, n, deep => fun _ _ _ _ _ e => by simp [lvl] at e
  | f + 1, n, deep => fun toks tree a toks' tree' e => by
    rw [lvl] at e
    split at e
    · exact aheadF_whole (lvl_whole nm E f _ _) (lvl_whole nm E f _ _) E deep _ _ _ _ _ _ _ e
    split at e
    · exact aheadF_whole (lvl_whole nm E f _ _) (lvl_whole nm E f _ _) E deep _ _ _ _ _ _ _ e
    split at e
    · exact atomF_whole (lvl_whole nm E f _ _) E deep _ _ _ _ _ e
    · exact rowF_whole (lvl_whole nm E f _ _) E _ _ _ _ _ _ _ e
/-- An error is 4 or 10. -/
def Errs (ex : List Tok → List Node → R) : Prop := ∀ toks tree p e, ex toks tree = .err p e → e = 4 ∨ e = 10
theorem rowLoop_errs {ex : List Tok → List Node → R} (h : Errs ex) {E : Nat} {many : Bool} {ops : List (List UInt8 × Nat)} : ∀ (m a : Nat) (toks : List Tok) (tree : List Node) (p e : Nat), rowLoop ex E many ops m a toks tree = .err p e → e = 4 ∨ e = 10
  | 0, _, _, _, _, _, e => by simp [rowLoop] at e
  | m + 1, a, toks, tree, p, er, e => by
    rw [rowLoop] at e
    by_cases h0 : ifx ops toks = 0
    · rw [if_pos h0] at e; cases e
    · rw [if_neg h0] at e
      cases hx : ex toks.tail tree with
      | out => simp [hx] at e
      | err q er2 => simp [hx] at e; obtain ⟨rfl, rfl⟩ := e; exact h _ _ _ _ hx
      | ok b t2 n2 =>
        simp only [hx] at e
        cases many with
        | false => simp at e
        | true => simp only [if_true] at e; exact rowLoop_errs h m _ _ _ _ _ e
theorem rowF_errs {ex : List Tok → List Node → R} (h : Errs ex) (E : Nat) (many : Bool) (ops : List (List UInt8 × Nat)) : Errs (rowF ex E many ops) := by
  intro toks tree p er e
  rw [rowF] at e
  cases hx : ex toks tree with
  | out => simp [hx] at e
  | err q er2 => simp [hx] at e; obtain ⟨rfl, rfl⟩ := e; exact h _ _ _ _ hx
  | ok b t2 n2 => simp only [hx] at e; exact rowLoop_errs h _ _ _ _ _ _ e
theorem aheadF_errs {next same : List Tok → List Node → R} (h1 : Errs next) (h2 : Errs same) (E deep : Nat) (text : List UInt8) (o : Nat) : Errs (aheadF next same E deep text o) := by
  intro toks tree p er e
  rw [aheadF] at e
  cases hw : isW toks text
  · simp only [hw, Bool.false_eq_true, if_false] at e; exact h1 _ _ _ _ e
  · simp only [hw, if_true] at e
    by_cases h16 : deep = 16
    · simp [h16] at e; exact .inr e.2.symm
    · simp only [h16, if_false] at e
      cases hx : same toks.tail tree with
      | out => simp [hx] at e
      | err q er2 => simp [hx] at e; obtain ⟨rfl, rfl⟩ := e; exact h2 _ _ _ _ hx
      | ok b t2 n2 => simp [hx] at e
theorem argsF_errs {nm : List UInt8 → Bool} {ex : List Tok → List Node → R} (h : Errs ex) {E : Nat} {most : Int} : ∀ (az : List UInt8) (first : Bool) (kids : List Nat) (name : List UInt8) (k : Int) (toks : List Tok) (tree : List Node) (p er : Nat),
    argsF nm ex E most az first kids name k toks tree = .err p er → er = 4 ∨ er = 10
  | [], _, _, _, _, _, _, _, _, e => by rw [argsF] at e; cases e
  | a :: az, first, kids, name, k, toks, tree, p, er, e => by
    rw [argsF] at e
    by_cases h0 : first = false ∧ isW toks [44] = false
    · rw [if_pos h0] at e; cases e; exact .inl rfl
    · rw [if_neg h0] at e
      generalize (if first = true then toks else toks.tail) = toks1 at e
      simp only at e
      split at e
      · cases hx : ex toks1 tree with
        | out => simp [hx] at e
        | err q er2 => simp [hx] at e; obtain ⟨rfl, rfl⟩ := e; exact h _ _ _ _ hx
        | ok b t2 n2 => simp only [hx] at e; exact argsF_errs h az _ _ _ _ _ _ _ _ e
      · split at e
        · split at e
          · exact argsF_errs h az _ _ _ _ _ _ _ _ e
          · cases e; exact .inl rfl
        · split at e
          · exact argsF_errs h az _ _ _ _ _ _ _ _ e
          · cases e; exact .inl rfl
theorem callF_errs {nm : List UInt8 → Bool} {ex : List Tok → List Node → R} (h : Errs ex) {E deep : Nat} {c : Nat × List UInt8 × Int} {toks : List Tok} {tree : List Node} {p er : Nat} (e : callF nm ex E deep c toks tree = .err p er) : er = 4 ∨ er = 10 := by
  rw [callF] at e
  cases hw0 : isW toks.tail [40] with
  | false => simp [hw0] at e; exact .inl e.2.symm
  | true =>
  simp only [hw0, Bool.true_eq_false, if_false] at e
  by_cases h16 : deep = 16
  · rw [if_pos h16] at e; cases e; exact .inr rfl
  rw [if_neg h16] at e
  cases hx : argsF nm ex E c.2.2 c.2.1 true [] [] 0 toks.tail.tail tree with
  | out => simp [hx] at e
  | err q er2 => simp [hx] at e; obtain ⟨rfl, rfl⟩ := e; exact argsF_errs h _ _ _ _ _ _ _ _ _ hx
  | ok kids name k t2 n2 =>
    simp only [hx] at e
    by_cases hw : isW t2 [41] = true
    · rw [if_pos hw] at e; cases e
    · rw [if_neg hw] at e; cases e; exact .inl rfl
theorem atomF_errs {nm : List UInt8 → Bool} {ex : List Tok → List Node → R} (h : Errs ex) (E deep : Nat) : Errs (atomF nm ex E deep) := by
  intro toks tree p er e
  cases toks with
  | nil => simp [atomF] at e; exact .inl e.2.symm
  | cons t r =>
    rw [atomF] at e
    try simp only at e
    by_cases h1 : t.kind = 2
    · rw [if_pos h1] at e; cases e
    rw [if_neg h1] at e
    by_cases h2 : t.text = [116, 114, 117, 101]
    · rw [if_pos h2] at e; cases e
    rw [if_neg h2] at e
    by_cases h3 : t.text = [102, 97, 108, 115, 101]
    · rw [if_pos h3] at e; cases e
    rw [if_neg h3] at e
    cases hc : callsOf t.text with
    | some c => rw [hc] at e; exact callF_errs h e
    | none =>
      rw [hc] at e
      try simp only at e
      by_cases h4 : t.text = [40]
      · rw [if_pos h4] at e
        by_cases h16 : deep = 16
        · rw [if_pos h16] at e; cases e; exact .inr rfl
        rw [if_neg h16] at e
        cases hx : ex r tree with
        | out => rw [hx] at e; cases e
        | err q er2 => rw [hx] at e; cases e; exact h _ _ _ _ hx
        | ok b t2 n2 =>
          rw [hx] at e
          try simp only at e
          by_cases hw : isW t2 [41] = true
          · rw [if_pos hw] at e; cases e
          · rw [if_neg hw] at e; cases e; exact .inl rfl
      · rw [if_neg h4] at e
        by_cases h5 : isFieldW nm (t :: r) = true
        · rw [if_pos h5] at e; cases e
        · rw [if_neg h5] at e; cases e; exact .inl rfl
theorem lvl_errs (nm : List UInt8 → Bool) (E : Nat) : ∀ (f n deep : Nat), Errs (lvl nm E f n deep)
  | 0, n, deep => fun _ _ _ _ e => by simp [lvl] at e
  | f + 1, n, deep => fun toks tree p er e => by
    rw [lvl] at e
    split at e
    · exact aheadF_errs (lvl_errs nm E f _ _) (lvl_errs nm E f _ _) E deep _ _ _ _ _ _ e
    split at e
    · exact aheadF_errs (lvl_errs nm E f _ _) (lvl_errs nm E f _ _) E deep _ _ _ _ _ _ e
    split at e
    · exact atomF_errs (lvl_errs nm E f _ _) E deep _ _ _ _ e
    · exact rowF_errs (lvl_errs nm E f _ _) E _ _ _ _ _ _ e
/-- What is read of a text is a whole. -/
theorem parseS_whole (nm : List UInt8 → Bool) (l : List UInt8) (tree : List Node) (at' : Nat) (h : parseS nm l = (tree, at', 0)) :
    tree ≠ [] ∧ tree.length ≤ 100 ∧ (tree.flatMap kidsN).Perm (List.range (tree.length - 1)) ∧ (∀ i (h : i < tree.length), ∀ k ∈ kidsN tree[i], k < i) ∧ ∀ n ∈ tree, -1 ≤ n.k0 ∧ -1 ≤ n.k1 ∧ -1 ≤ n.k2 := by
  unfold parseS at h
  by_cases hl : (lexS l).2.2 ≠ 0
  · rw [if_pos hl] at h; simp at h; exact absurd h.2.2 hl
  rw [if_neg hl] at h
  cases hx : lvl nm l.length 200 0 0 (lexS l).1 [] with
  | out => simp [hx] at h
  | err p e =>
    simp [hx] at h
    rcases lvl_errs _ _ _ _ _ _ _ _ _ hx with rfl | rfl <;> simp at h
  | ok a toks' tree' =>
    simp only [hx] at h
    by_cases ht : toks' = []
    · rw [if_pos ht] at h
      by_cases hb : 100 < tree'.length
      · rw [if_pos hb] at h; simp at h
      · rw [if_neg hb] at h
        simp at h
        obtain ⟨rfl, -⟩ := h
        obtain ⟨⟨new, hn, hf⟩, hlen⟩ := lvl_whole nm _ _ _ _ _ _ _ _ _ hx
        simp only [List.nil_append] at hn
        subst hn
        have hp := hf.perm
        simp only [List.length_nil] at hp
        refine ⟨fun e => by simp [e] at hlen, by omega, ?_, fun i h k hk => by simpa using hf.behind i h k hk, hf.least⟩
        have e : List.range' 0 tree'.length = List.range (tree'.length - 1) ++ [a] := by
          rw [← hlen, List.range'_eq_map_range]
          simp [List.range_succ]
        rw [e] at hp
        exact (List.perm_append_right_iff _).1 hp
    · rw [if_neg ht] at h; simp at h
end Go.Proofs.YtfkieomelkopeaaDoor
