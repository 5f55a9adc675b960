/-
  The plain law is never out of reckoning: 200 calls in each other are enough. And an atom's contract, all cases joined.
-/
import Derived.Test.YtfkieomelkopeaaDoorWLevel
namespace Go.Proofs.YtfkieomelkopeaaDoor
open Go.RowKit
theorem rowLoop_out {ex : List Tok → List Node → R} (hg : Good ex) (h : ∀ toks tree, ex toks tree ≠ .out) {E : Nat} {many : Bool} {ops : List (List UInt8 × Nat)} : ∀ (m a : Nat) (toks : List Tok) (tree : List Node), toks.length < m → rowLoop ex E many ops m a toks tree ≠ .out
  | 0, _, _, _, e => by omega
  | m + 1, a, toks, tree, e => by
    rw [rowLoop]
    by_cases h0 : ifx ops toks = 0
    · rw [if_pos h0]; simp
    · rw [if_neg h0]
      cases toks with
      | nil => exact absurd (ifx_nil ops) h0
      | cons t r =>
      cases hx : ex r tree with
      | out => exact absurd hx (h _ _)
      | err p er => simp [hx]
      | ok b t2 n2 =>
        have g := hg _ _ _ _ _ hx
        simp only [List.tail_cons, hx]
        cases many with
        | false => simp
        | true =>
          simp only [if_true]
          exact rowLoop_out hg h m _ _ _ (by simp at e; omega)
theorem rowF_out {ex : List Tok → List Node → R} (hg : Good ex) (h : ∀ toks tree, ex toks tree ≠ .out) (E : Nat) (many : Bool) (ops : List (List UInt8 × Nat)) (toks : List Tok) (tree : List Node) : rowF ex E many ops toks tree ≠ .out := by
  rw [rowF]
  cases hx : ex toks tree with
  | out => exact absurd hx (h _ _)
  | err p er => simp
  | ok b t2 n2 => exact rowLoop_out hg h _ _ _ _ (by omega)
theorem aheadF_out {next same : List Tok → List Node → R} (h1 : ∀ toks tree, next toks tree ≠ .out) (E deep : Nat) (h2 : deep ≠ 16 → ∀ toks tree, same toks tree ≠ .out) (text : List UInt8) (o : Nat) (toks : List Tok) (tree : List Node) : aheadF next same E deep text o toks tree ≠ .out := by
  rw [aheadF]
  cases hw : isW toks text
  · simpa using h1 _ _
  · simp only [if_true]
    by_cases h16 : deep = 16
    · simp [h16]
    · simp only [h16, if_false]
      cases hx : same toks.tail tree with
      | out => exact absurd hx (h2 h16 _ _)
      | err p er => simp
      | ok b t2 n2 => simp
theorem argsF_out {nm : List UInt8 → Bool} {ex : List Tok → List Node → R} (h : ∀ toks tree, ex toks tree ≠ .out) {E : Nat} {most : Int} : ∀ (az : List UInt8) (first : Bool) (kids : List Nat) (name : List UInt8) (k : Int) (toks : List Tok) (tree : List Node), argsF nm ex E most az first kids name k toks tree ≠ .out
  | [], _, _, _, _, _, _ => by rw [argsF]; simp
  | a :: az, first, kids, name, k, toks, tree => by
    rw [argsF]
    by_cases h0 : first = false ∧ isW toks [44] = false
    · rw [if_pos h0]; simp
    · rw [if_neg h0]
      generalize (if first = true then toks else toks.tail) = toks1
      try simp only
      split
      · cases hx : ex toks1 tree with
        | out => exact absurd hx (h _ _)
        | err p er => simp
        | ok b t2 n2 => simpa using argsF_out h az _ _ _ _ _ _
      · split
        · split
          · exact argsF_out h az _ _ _ _ _ _
          · simp
        · split
          · exact argsF_out h az _ _ _ _ _ _
          · simp
theorem callF_out {nm : List UInt8 → Bool} {ex : List Tok → List Node → R} (E deep : Nat) (h : deep ≠ 16 → ∀ toks tree, ex toks tree ≠ .out) (c : Nat × List UInt8 × Int) (toks : List Tok) (tree : List Node) : callF nm ex E deep c toks tree ≠ .out := by
  rw [callF]
  cases hw0 : isW toks.tail [40] with
  | false => simp
  | true =>
  simp only [Bool.true_eq_false, if_false]
  by_cases h16 : deep = 16
  · rw [if_pos h16]; simp
  rw [if_neg h16]
  cases hx : argsF nm ex E c.2.2 c.2.1 true [] [] 0 toks.tail.tail tree with
  | out => exact absurd hx (argsF_out (h h16) _ _ _ _ _ _ _)
  | err p er => simp
  | ok kids name k t2 n2 =>
    simp only
    split <;> simp
theorem atomF_out {nm : List UInt8 → Bool} {ex : List Tok → List Node → R} (E deep : Nat) (h : deep ≠ 16 → ∀ toks tree, ex toks tree ≠ .out) (toks : List Tok) (tree : List Node) : atomF nm ex E deep toks tree ≠ .out := by
  cases toks with
  | nil => simp [atomF]
  | cons t r =>
    rw [atomF]
    try simp only
    by_cases h1 : t.kind = 2
    · rw [if_pos h1]; simp
    rw [if_neg h1]
    by_cases h2 : t.text = [116, 114, 117, 101]
    · rw [if_pos h2]; simp
    rw [if_neg h2]
    by_cases h3 : t.text = [102, 97, 108, 115, 101]
    · rw [if_pos h3]; simp
    rw [if_neg h3]
    cases hc : callsOf t.text with
    | some c => exact callF_out E deep h c _ _
    | none =>
      simp only
      by_cases h4 : t.text = [40]
      · rw [if_pos h4]
        by_cases h16 : deep = 16
        · rw [if_pos h16]; simp
        rw [if_neg h16]
        cases hx : ex r tree with
        | out => exact absurd hx (h h16 _ _)
        | err p er => simp
        | ok b t2 n2 => simp only; split <;> simp
      · rw [if_neg h4]; split <;> simp
theorem lvl_out (nm : List UInt8 → Bool) (E : Nat) : ∀ (f n deep : Nat) (toks : List Tok) (tree : List Node), deep ≤ 16 → n ≤ 7 → 10 * (16 - deep) + (8 - n) < f → lvl nm E f n deep toks tree ≠ .out
  | 0, n, deep, toks, tree, h1, h2, h3 => by omega
  | f + 1, n, deep, toks, tree, h1, h2, h3 => by
    rw [lvl]
    split
    · exact aheadF_out (fun _ _ => lvl_out nm E f _ _ _ _ h1 (by omega) (by omega)) E deep (fun h _ _ => lvl_out nm E f _ _ _ _ (by omega) (by omega) (by omega)) _ _ _ _
    split
    · exact aheadF_out (fun _ _ => lvl_out nm E f _ _ _ _ h1 (by omega) (by omega)) E deep (fun h _ _ => lvl_out nm E f _ _ _ _ (by omega) (by omega) (by omega)) _ _ _ _
    split
    · exact atomF_out E deep (fun h _ _ => lvl_out nm E f _ _ _ _ (by omega) (by omega) (by omega)) _ _
    · exact rowF_out (lvl_good nm E f _ _) (fun _ _ => lvl_out nm E f _ _ _ _ h1 (by omega) (by omega)) E _ _ _ _
theorem ite_some {A : Type} {p : Prop} [Decidable p] {a c : A} {x : Option A} (h : (if p then some a else x) = some c) : a = c ∨ x = some c := by
  split at h
  · cases h; exact .inl rfl
  · exact .inr h
theorem callsOf_small {l : List UInt8} {c : Nat × List UInt8 × Int} (h : callsOf l = some c) : c.2.1.length ≤ 3 ∧ ∀ x ∈ c.2.1, x.toNat < 128 := by
  unfold callsOf at h
  iterate 12 (rcases ite_some h with rfl | h; · decide)
  cases h
set_option maxHeartbeats 4000000 in
set_option maxRecDepth 100000 in
theorem atom_nil (w : World) (b g E deep : Nat) (tree : List Node) (row : Option Nat) (h : PS w b g E deep [] tree row) :
    Calls Tryd.prog 19 #[.pointer (some ⟨b, 0, none⟩)] w (PPost b g E deep row w (.err E 4)) := by
  have hfa := fail_any w b g E deep [] tree row h 4
  have hpe : pos E ([] : List Tok) = E := rfl
  rw [hpe] at hfa
  obtain ⟨lv, tv, h1, h2, h3, h4, h5⟩ := h
  have q := cell_of_block h1
  have f := free_of_block h1
  rcases h2 with ⟨-, a, c, rfl⟩ | ⟨h, _⟩
  · clear h1 h3 h4 h5
    go_enter Tryd.func19, Tryd.ntmps19
    go_wp2_with fail
    refine hfa.mono ?_; rintro e w' ⟨rfl, rfl⟩
    go_wp2_with fail
    exact ⟨rfl, rfl, Below.refl _ _⟩
  · exact absurd rfl h
theorem atom_any (w : World) (b g E deep : Nat) (ex : List Tok → List Node → R) (hx : ExOk b g E (deep + 1) 0 ex) (hgd : Good ex) (hd : deep ≤ 16) (toks : List Tok) (tree : List Node) (row : Option Nat) (h : PS w b g E deep toks tree row) (hsp : Spaces w) (h11 : 11 ≤ b) (hmax : tree.length + toks.length ≤ 400)
    (hne : atomF isName ex E deep toks tree ≠ .out) :
    Calls Tryd.prog 19 #[.pointer (some ⟨b, 0, none⟩)] w (PPost b g E deep row w (atomF isName ex E deep toks tree)) := by
  cases toks with
  | nil => simpa [atomF] using atom_nil w b g E deep tree row h
  | cons t r =>
    have hkb (k : Bool) (hk : decide (t.kind = 2) = k) : (((t.kind : Nat) : Int) == 2) = k := by
      rw [← hk, Bool.eq_iff_iff]; simp; omega
    have htb (l : List UInt8) (k : Bool) (hk : decide (t.text = l) = k) : (t.text == l) = k := by
      rw [← hk, Bool.eq_iff_iff]; simp
    have hm1 : tree.length ≤ 1000 := by omega
    rw [atomF] at hne ⊢
    try simp only at hne ⊢
    by_cases h1 : t.kind = 2
    · rw [if_pos h1]
      cases hc : callsOf t.text with
      | none => exact atom_number w b g E deep t r tree row h h11 hm1 0 [] 0 false (fun W => calls_any W t.text 0 [] 0 false (by simp [callRes, hc])) (hkb _ (by simp [h1]))
      | some c => exact atom_number w b g E deep t r tree row h h11 hm1 c.1 c.2.1 c.2.2 true (fun W => calls_any W t.text c.1 c.2.1 c.2.2 true (by simp [callRes, hc])) (hkb _ (by simp [h1]))
    rw [if_neg h1] at hne ⊢
    have hk := hkb false (by simp [h1])
    by_cases h2 : t.text = [116, 114, 117, 101]
    · rw [if_pos h2]
      exact atom_true w b g E deep t r tree row h h11 hm1 0 [] 0 false (fun W => calls_any W t.text 0 [] 0 false (by rw [h2]; rfl)) hk (htb _ _ (by simp [h2]))
    rw [if_neg h2] at hne ⊢
    have ht := htb _ false (by simpa using h2)
    by_cases h3 : t.text = [102, 97, 108, 115, 101]
    · rw [if_pos h3]
      exact atom_false w b g E deep t r tree row h h11 hm1 0 [] 0 false (fun W => calls_any W t.text 0 [] 0 false (by rw [h3]; rfl)) hk ht (htb _ _ (by simp [h3]))
    rw [if_neg h3] at hne ⊢
    have hf := htb _ false (by simpa using h3)
    cases hc : callsOf t.text with
    | some c =>
      rw [hc] at hne
      obtain ⟨ha, hb⟩ := callsOf_small hc
      exact atom_call w b g E deep ex hx hgd hd t r tree row h hsp h11 hmax c.1 c.2.1 c.2.2 true (fun W => calls_any W t.text c.1 c.2.1 c.2.2 true (by simp [callRes, hc])) hk ht hf rfl ha hb hne
    | none =>
      rw [hc] at hne
      simp only at hne ⊢
      have hcl := fun W => calls_any W t.text 0 [] 0 false (by simp [callRes, hc])
      by_cases h4 : t.text = [40]
      · rw [if_pos h4] at hne ⊢
        exact atom_paren w b g E deep ex hx hgd hd t r tree row h hsp h11 hmax 0 [] 0 false hcl hk ht hf (htb _ _ (by simp [h4])) rfl _ hne rfl
      · rw [if_neg h4]
        have hp := htb _ false (by simpa using h4)
        by_cases h5 : isFieldW isName (t :: r) = true
        · rw [if_pos h5]
          have h6 : t.kind = 1 ∧ isName t.text = true := by simpa [isFieldW] using h5
          exact atom_field w b g E deep t r tree row h h11 hm1 0 [] 0 false hsp hcl hk ht hf hp rfl h6.1 h6.2
        · rw [if_neg h5]
          exact atom_field_no w b g E deep t r tree row h h11 hm1 0 [] 0 false hsp hcl hk ht hf hp rfl (by simpa using h5)
end Go.Proofs.YtfkieomelkopeaaDoor
