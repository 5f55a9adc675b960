/-
  Plain law of ParserBrackets: a text that has a tree has the same one in parentheses, but for places; or is too deep. Nothing of the program is used here.
-/
import Derived.Test.YtfkieomelkopeaaDoorPWhole
import Derived.Test.YtfkieomelkopeaaDoorWOut
namespace Go.Proofs.YtfkieomelkopeaaDoor
open Go.RowKit
theorem parseS_err (nm : List UInt8 → Bool) (l : List UInt8) (tree : List Node) (a e : Nat) (h : parseS nm l = (tree, a, e)) (he : e ≠ 0) : tree = [] := by
  unfold parseS at h
  split at h
  · simp at h; exact h.1
  · cases hx : lvl nm l.length 200 0 0 (lexS l).1 [] with
    | out => simp [hx] at h; exact h.1
    | err p q => simp [hx] at h; exact h.1
    | ok b t n =>
      simp only [hx] at h
      split at h
      · split at h
        · simp at h; exact h.1
        · simp at h; exact absurd h.2.2.symm he
      · simp at h; exact h.1
/-- The levels' outcome where parentheses stand around all. -/
def Par (a : Nat) (tree : List Node) (r : R) : Prop := (∃ p, r = .err p 10) ∨ ∃ tree2, r = .ok a [] tree2 ∧ LikeT tree tree2
theorem rowF_par {ex : List Tok → List Node → R} {E : Nat} {many : Bool} {ops : List (List UInt8 × Nat)} {a : Nat} {tree : List Node} {T : List Tok} {t0 : List Node} (h : Par a tree (ex T t0)) : Par a tree (rowF ex E many ops T t0) := by
  rw [rowF]
  rcases h with ⟨p, h⟩ | ⟨t2, h, hl⟩
  · rw [h]; exact .inl ⟨p, rfl⟩
  · rw [h]
    simp only [List.length_nil, Nat.zero_add]
    rw [rowLoop, ifx_nil]
    exact .inr ⟨t2, rfl, hl⟩
theorem aheadF_par {next same : List Tok → List Node → R} {E deep : Nat} {text : List UInt8} {o : Nat} {a : Nat} {tree : List Node} {T : List Tok} {t0 : List Node} (hw : isW T text = false) (h : Par a tree (next T t0)) : Par a tree (aheadF next same E deep text o T t0) := by
  rw [aheadF, hw]; simpa using h
theorem lvl_par (nm : List UInt8 → Bool) (E : Nat) (T : List Tok) (t0 : List Node) (a : Nat) (tree : List Node) (hn : isW T [110, 111, 116] = false) (hm : isW T [45] = false) (f : Nat) (h : Par a tree (lvl nm E f 7 0 T t0)) : Par a tree (lvl nm E (f + 7) 0 0 T t0) := by
  have h6 : Par a tree (lvl nm E (f + 1) 6 0 T t0) := by rw [lvl]; simp only [show ¬ (6 : Nat) = 2 by decide, if_false, if_true]; exact aheadF_par hm h
  have h5 : Par a tree (lvl nm E (f + 2) 5 0 T t0) := by rw [lvl]; simp only [show ¬ (5 : Nat) = 2 by decide, show ¬ (5 : Nat) = 6 by decide, show ¬ (5 : Nat) = 7 by decide, if_false]; exact rowF_par h6
  have h4 : Par a tree (lvl nm E (f + 3) 4 0 T t0) := by rw [lvl]; simp only [show ¬ (4 : Nat) = 2 by decide, show ¬ (4 : Nat) = 6 by decide, show ¬ (4 : Nat) = 7 by decide, if_false]; exact rowF_par h5
  have h3 : Par a tree (lvl nm E (f + 4) 3 0 T t0) := by rw [lvl]; simp only [show ¬ (3 : Nat) = 2 by decide, show ¬ (3 : Nat) = 6 by decide, show ¬ (3 : Nat) = 7 by decide, if_false]; exact rowF_par h4
  have h2 : Par a tree (lvl nm E (f + 5) 2 0 T t0) := by rw [lvl]; simp only [if_true]; exact aheadF_par hn h3
  have h1 : Par a tree (lvl nm E (f + 6) 1 0 T t0) := by rw [lvl]; simp only [show ¬ (1 : Nat) = 2 by decide, show ¬ (1 : Nat) = 6 by decide, show ¬ (1 : Nat) = 7 by decide, if_false]; exact rowF_par h2
  rw [lvl]; simp only [show ¬ (0 : Nat) = 2 by decide, show ¬ (0 : Nat) = 6 by decide, show ¬ (0 : Nat) = 7 by decide, if_false]; exact rowF_par h1
/-- What a text's tree says of its words. -/
theorem parseS_parts (nm : List UInt8 → Bool) (l : List UInt8) (tree : List Node) (a : Nat) (h : parseS nm l = (tree, a, 0)) : ∃ toks at' b, lexS l = (toks, at', 0) ∧ lvl nm l.length 200 0 0 toks [] = .ok b [] tree ∧ tree.length ≤ 100 := by
  unfold parseS at h
  by_cases hl : (lexS l).2.2 ≠ 0
  · rw [if_pos hl] at h; simp at h; exact absurd h.2.2 hl
  rw [if_neg hl] at h
  simp only [ne_eq, Decidable.not_not] at hl
  cases hx : lvl nm l.length 200 0 0 (lexS l).1 [] with
  | out => simp [hx] at h
  | err p e =>
    simp [hx] at h
    rcases lvl_errs _ _ _ _ _ _ _ _ _ hx with rfl | rfl <;> simp at h
  | ok b toks' tree' =>
    simp only [hx] at h
    by_cases ht : toks' = []
    · rw [if_pos ht] at h
      by_cases hb : 100 < tree'.length
      · rw [if_pos hb] at h; simp at h
      · rw [if_neg hb] at h
        simp at h
        obtain ⟨rfl, -⟩ := h
        subst ht
        exact ⟨(lexS l).1, (lexS l).2.1, b, by rw [← hl], hx, by omega⟩
    · rw [if_neg ht] at h; simp at h
theorem parseS_par (nm : List UInt8 → Bool) (l : List UInt8) (hl : l.length ≤ 300) (tree : List Node) (a : Nat) (h : parseS nm l = (tree, a, 0)) :
    (∃ p, parseS nm ([40] ++ l ++ [41]) = ([], p, 10)) ∨ ∃ tree2, parseS nm ([40] ++ l ++ [41]) = (tree2, 0, 0) ∧ LikeT tree tree2 := by
  obtain ⟨toks, at', b, hlex, hx, h100⟩ := parseS_parts nm l tree a h
  have hlex2 := lexS_par l hl toks at' hlex
  have key : Par b tree (lvl nm ([40] ++ l ++ [41]).length 200 0 0 (⟨3, [40], 0, 0, 0⟩ :: (toks.map sh ++ [rp (1 + l.length)])) []) := by
    generalize ([40] ++ l ++ [41]).length = E2
    refine lvl_par nm E2 _ _ b tree (by simp [isW]) (by simp [isW]) 193 ?_
    rw [lvl]
    simp only [show ¬ (7 : Nat) = 2 by decide, show ¬ (7 : Nat) = 6 by decide, if_false, if_true]
    rw [atomF]
    have hc : callsOf [40] = none := by decide
    simp only [show ¬ (3 : Nat) = 2 by decide, show ¬ ([40] : List UInt8) = [116, 114, 117, 101] by decide, show ¬ ([40] : List UInt8) = [102, 97, 108, 115, 101] by decide, hc, show ¬ (0 : Nat) = 16 by decide, if_false, if_true]
    have hs := lvl_sim nm (1 + l.length) l.length E2 200 192 0 0 toks [] (toks.map sh ++ [rp (1 + l.length)]) [] rfl rfl
    rw [hx] at hs
    rcases hs with hs | ⟨p, hs⟩ | ⟨t2, tree2, hs, hl2, ht2⟩
    · exact absurd hs (lvl_out _ _ _ _ _ _ _ (by decide) (by decide) (by decide))
    · rw [hs]; exact .inl ⟨p, rfl⟩
    · rw [hs]
      simp only [Like, List.map_nil, List.nil_append] at hl2
      subst hl2
      simp only [show isW [rp (1 + l.length)] [41] = true by simp [isW, rp], if_true, List.tail_cons]
      exact .inr ⟨tree2, rfl, ht2⟩
  unfold parseS
  rw [hlex2]
  simp only [ne_eq, not_true, if_false]
  rcases key with ⟨p, hk⟩ | ⟨tree2, hk, hl2⟩
  · rw [hk]; exact .inl ⟨p, rfl⟩
  · rw [hk]
    simp only [if_true]
    rw [if_neg (by rw [← hl2.len]; omega)]
    exact .inr ⟨tree2, rfl, hl2⟩
end Go.Proofs.YtfkieomelkopeaaDoor
