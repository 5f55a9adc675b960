/-
  Plain law: the words of a text in parentheses; a text that has a tree has the same one in parentheses, but for places, one level deeper, or is too deep. Nothing of the program is used here.
-/
import Derived.Test.YtfkieomelkopeaaDoorPParse
namespace Go.Proofs.YtfkieomelkopeaaDoor
open Go.RowKit
theorem whileN_rp (p : UInt8 → Bool) (h : p 41 = false) : ∀ l : List UInt8, whileN p (l ++ [41]) = whileN p l
  | [] => by simp [whileN, h]
  | c :: r => by simp [whileN, whileN_rp p h r]
theorem hasPrefix_rp (a b : UInt8) (hb : b ≠ 41) : ∀ l : List UInt8, l ≠ [] → Lib.hasPrefix (l ++ [41]) [a, b] = Lib.hasPrefix l [a, b]
  | [], h => absurd rfl h
  | [c], _ => by simp [Lib.hasPrefix, List.isPrefixOf, hb]
  | c :: d :: r, _ => by simp [Lib.hasPrefix, List.isPrefixOf]
theorem signN_rp (c : UInt8) (r : List UInt8) : signN ((c :: r) ++ [41]) = signN (c :: r) := by
  unfold signN
  rw [hasPrefix_rp _ _ (by decide) _ (by simp), hasPrefix_rp _ _ (by decide) _ (by simp), hasPrefix_rp _ _ (by decide) _ (by simp)]
  simp
theorem numPoint_rp (l : List UInt8) : numPoint (l ++ [41]) = numPoint l := by
  unfold numPoint
  rw [whileN_rp _ (by decide), List.drop_append_of_le_length (whileN_le _ _)]
  rcases l.drop (whileN isDigit l) with _ | ⟨a, _ | ⟨b, r⟩⟩
  · simp
  · simp [isDigit]
  · simp
theorem numPoint_lt {l : List UInt8} (h : numPoint l = true) : whileN isDigit l + 1 < l.length := by
  rcases Nat.lt_or_ge (whileN isDigit l + 1) l.length with h1 | h1
  · exact h1
  · rw [numPoint_short l h1] at h; simp at h
theorem numRest_rp (l : List UInt8) : numRest (l ++ [41]) = numRest l := by
  unfold numRest
  rw [numPoint_rp, whileN_rp _ (by decide)]
  split
  · rename_i h
    have := numPoint_lt h
    rw [List.drop_append_of_le_length (by omega), whileN_rp _ (by decide), List.take_append_of_le_length (whileN_le _ _)]
  · rfl
theorem numberN_rp (l : List UInt8) : numberN (l ++ [41]) = numberN l := by
  rw [numberN_point, numberN_point, numPoint_rp, whileN_rp _ (by decide)]
  split
  · rename_i h
    have := numPoint_lt h
    rw [List.drop_append_of_le_length (by omega), whileN_rp _ (by decide)]
  · rfl
theorem decW_rp (l : List UInt8) : decW (l ++ [41]) = decW l := by
  unfold decW
  rw [numRest_rp, numPoint_rp, whileN_rp _ (by decide), List.take_append_of_le_length (whileN_le _ _)]
theorem wordS_rp (c : UInt8) (r : List UInt8) : wordS (c :: (r ++ [41])) = wordS (c :: r) := by
  have e1 := whileN_rp isNameByte (by decide) (c :: r)
  have e2 := numberN_rp (c :: r)
  have e3 := decW_rp (c :: r)
  have e4 := signN_rp c r
  simp only [List.cons_append] at e1 e2 e3 e4
  simp only [wordS, e1, e2, e3, e4]
  rw [← List.cons_append, List.take_append_of_le_length (whileN_le _ _), List.take_append_of_le_length (numberN_le _), List.take_append_of_le_length (signN_le _ _)]
def sh (t : Tok) : Tok := { t with place := t.place + 1 }
def rp (p : Nat) : Tok := ⟨3, [41], 0, 0, p⟩
theorem wordS_par : wordS [41] = (⟨3, [41], 0, 0, 0⟩, 0) := by decide
theorem lexGo_rp : ∀ (f k : Nat) (r : List UInt8) (acc toks : List Tok) (a : Nat), lexGo f k r acc = (toks, a, 0) → ∃ new, toks = acc ++ new ∧ ∀ acc2 f2, r.length + 1 < f2 → lexGo f2 (k + 1) (r ++ [41]) acc2 = (acc2 ++ (new.map sh ++ [rp (k + 1 + r.length)]), 0, 0)
  | 0, k, r, acc, toks, a, h => by simp [lexGo] at h
  | f + 1, k, [], acc, toks, a, h => by
    simp [lexGo] at h
    refine ⟨[], by simp [h.1], fun acc2 f2 hf => ?_⟩
    obtain ⟨f2, rfl⟩ : ∃ g, f2 = g + 1 + 1 := ⟨f2 - 2, by simp at hf; omega⟩
    simp [lexGo, wordS_par, rp]
  | f + 1, k, c :: r, acc, toks, a, h => by
    by_cases h32 : c = 32
    · subst h32
      simp only [lexGo, if_true] at h
      obtain ⟨new, e, hn⟩ := lexGo_rp f (k + 1) r acc toks a h
      refine ⟨new, e, fun acc2 f2 hf => ?_⟩
      obtain ⟨f2, rfl⟩ : ∃ g, f2 = g + 1 := ⟨f2 - 1, by omega⟩
      simp only [List.cons_append, lexGo, if_true]
      rw [hn acc2 f2 (by simp at hf; omega)]
      simp only [List.length_cons]
      rw [show k + 1 + 1 + r.length = k + 1 + (r.length + 1) by omega]
    · by_cases hw : (wordS (c :: r)).2 = 0
      · simp only [lexGo, h32, hw, if_true, if_false] at h
        obtain ⟨new, e, hn⟩ := lexGo_rp f _ _ _ toks a h
        have hl : (wordS (c :: r)).1.text.length ≤ (c :: r).length := by
          rcases wordS_cases c r with h1 | ⟨h1, h2⟩ | ⟨h1, h2, h3⟩ | ⟨h1, h2, h3⟩
          · rw [wordS_a h1]; exact List.length_take_le' _ _
          · rw [wordS_b h1 h2]; exact List.length_take_le' _ _
          · rw [wordS_c h1 h2 h3]; exact List.length_take_le' _ _
          · rw [wordS_d h1 h2 h3]; simp
        have hp := wordS_pos c r hw
        refine ⟨{ (wordS (c :: r)).1 with place := k } :: new, by rw [e]; simp, fun acc2 f2 hf => ?_⟩
        obtain ⟨f2, rfl⟩ : ∃ g, f2 = g + 1 := ⟨f2 - 1, by omega⟩
        simp only [List.cons_append, lexGo, h32, if_false, wordS_rp, hw, if_true]
        rw [← List.cons_append, List.drop_append_of_le_length hl, show k + 1 + (wordS (c :: r)).1.text.length = k + (wordS (c :: r)).1.text.length + 1 by omega, hn _ f2 (by simp at hf ⊢; simp at hl; omega)]
        simp only [List.length_drop, List.map_cons, List.append_assoc, List.cons_append, List.nil_append]
        rw [show k + (wordS (c :: r)).1.text.length + 1 + ((c :: r).length - (wordS (c :: r)).1.text.length) = k + 1 + (c :: r).length by omega]
        rfl
      · simp [lexGo, h32, hw] at h
theorem wordS_open (r : List UInt8) : wordS (40 :: r) = (⟨3, [40], 0, 0, 0⟩, 0) := by
  have h : signN (40 :: r) = 1 := by simp [signN, Lib.hasPrefix, List.isPrefixOf, signByte]
  rw [wordS_c (by decide) (by decide) (by rw [h]; decide), h]
  rfl
/-- The words of a text in parentheses. -/
theorem lexS_par (l : List UInt8) (hl : l.length ≤ 300) (toks : List Tok) (a : Nat) (h : lexS l = (toks, a, 0)) : lexS ([40] ++ l ++ [41]) = (⟨3, [40], 0, 0, 0⟩ :: (toks.map sh ++ [rp (1 + l.length)]), 0, 0) := by
  unfold lexS at h ⊢
  rw [if_neg (by omega)] at h
  rw [if_neg (by simp; omega)]
  obtain ⟨new, e, hn⟩ := lexGo_rp _ _ _ _ _ _ h
  simp only [List.nil_append] at e
  subst e
  simp only [List.cons_append, List.nil_append, List.length_cons, List.length_append, List.length_nil, Nat.zero_add]
  rw [show l.length + 1 + 1 + 1 = (l.length + 2) + 1 by omega, lexGo, if_neg (by decide), wordS_open]
  simp only [if_true, List.length_cons, List.length_nil, Nat.zero_add, List.drop_succ_cons, List.drop_zero]
  have := hn [⟨3, [40], 0, 0, 0⟩] (l.length + 2) (by omega)
  simpa using this
end Go.Proofs.YtfkieomelkopeaaDoor
