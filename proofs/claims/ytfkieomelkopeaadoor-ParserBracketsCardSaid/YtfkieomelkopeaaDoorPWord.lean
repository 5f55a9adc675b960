/-
  One word of a text, as a Lean function: its kind, its bytes, a number's worth. Nothing of the program is used here.
-/
import Derived.Test.YtfkieomelkopeaaDoorPDec
namespace Go.Proofs.YtfkieomelkopeaaDoor
open Go.RowKit

structure Tok where
  kind : Nat
  text : List UInt8
  c : Int
  s : Int
  place : Nat
deriving DecidableEq

def numPoint (l : List UInt8) : Bool :=
  match l.drop (whileN isDigit l) with
  | a :: c :: _ => decide (a = 46) && isDigit c
  | _ => false
def numRest (l : List UInt8) : List UInt8 :=
  if numPoint l = true then (l.drop (whileN isDigit l + 1)).take (whileN isDigit (l.drop (whileN isDigit l + 1))) else []
theorem take_whileN (p : UInt8 → Bool) : ∀ (l : List UInt8), ∀ c ∈ l.take (whileN p l), p c = true
  | [], c, h => by simp at h
  | d :: r, c, h => by
    cases hd : p d
    · simp [whileN, hd] at h
    · simp [whileN, hd] at h
      rcases h with rfl | h
      · exact hd
      · exact take_whileN p r c h
theorem numPoint_short (l : List UInt8) (h : l.length ≤ whileN isDigit l + 1) : numPoint l = false := by
  unfold numPoint
  have : (l.drop (whileN isDigit l)).length ≤ 1 := by simp; omega
  split
  · rename_i h2; rw [h2] at this; simp at this
  · rfl
theorem numPoint_dot (l : List UInt8) (h : whileN isDigit l + 1 < l.length) : numPoint l = (decide (l[whileN isDigit l] = 46) && isDigit (l[whileN isDigit l + 1])) := by
  unfold numPoint
  rw [drop_two l _ h]
theorem numberN_point (l : List UInt8) : numberN l = if numPoint l = true then whileN isDigit l + (1 + whileN isDigit (l.drop (whileN isDigit l + 1))) else whileN isDigit l := by
  by_cases h : whileN isDigit l + 1 < l.length
  · rw [numberN_dot l h, numPoint_dot l h]
    by_cases h1 : l[whileN isDigit l] = 46
    · simp [h1]
    · simp [h1]
  · rw [numberN_short l (by omega), numPoint_short l (by omega)]; simp
theorem take_numberN (l : List UInt8) : l.take (numberN l) = numText (l.take (whileN isDigit l)) (numRest l) (numPoint l) := by
  rw [numberN_point, numText, numRest]
  cases h : numPoint l
  · simp
  · simp only [if_true]
    have hk : whileN isDigit l + 1 < l.length := by
      rcases Nat.lt_or_ge (whileN isDigit l + 1) l.length with h1 | h1
      · exact h1
      · rw [numPoint_short l h1] at h; simp at h
    rw [numPoint_dot l hk] at h
    simp at h
    have e : l.drop (whileN isDigit l) = 46 :: l.drop (whileN isDigit l + 1) := by
      rw [List.drop_eq_getElem_cons (show whileN isDigit l < l.length by omega), h.1]
    rw [List.take_add, e, Nat.add_comm 1, List.take_succ_cons]
theorem digitsB_rest (l : List UInt8) (h : numPoint l = true) : digitsB (numRest l) = true := by
  have hk : whileN isDigit l + 1 < l.length := by
    rcases Nat.lt_or_ge (whileN isDigit l + 1) l.length with h1 | h1
    · exact h1
    · rw [numPoint_short l h1] at h; simp at h
  rw [numRest, if_pos h]
  rw [numPoint_dot l hk] at h
  simp at h
  refine digitsB_iff.2 ⟨?_, take_whileN _ _⟩
  rw [List.drop_eq_getElem_cons hk]
  simp [whileN, h.2, hk]
theorem digitsB_whole (c : UInt8) (r : List UInt8) (h : isDigit c = true) : digitsB ((c :: r).take (whileN isDigit (c :: r))) = true :=
  digitsB_iff.2 ⟨by simp [whileN, h], take_whileN _ _⟩
theorem numRest_none (l : List UInt8) (h : numPoint l = false) : numRest l = [] := by simp [numRest, h]
/-- What the number that a text begins with is worth: C, S, and the error. -/
def decW (l : List UInt8) : Int × Int × Nat := decN (l.take (whileN isDigit l)) (numRest l) (numPoint l)
/-- A sign of one byte. -/
def signByte (c : UInt8) : Bool := [61, 60, 62, 43, 45, 42, 47, 40, 41, 44].contains c
def signN (l : List UInt8) : Nat :=
  if Lib.hasPrefix l [60, 61] = true ∨ Lib.hasPrefix l [62, 61] = true ∨ Lib.hasPrefix l [60, 62] = true then 2 else if signByte (l.headD 0) = true then 1 else 0
/-- The word that a text begins with, and the error. -/
def wordS : List UInt8 → Tok × Nat
  | [] => (⟨0, [], 0, 0, 0⟩, 4)
  | c :: r =>
    if isLetter c = true then (⟨1, (c :: r).take (whileN isNameByte (c :: r)), 0, 0, 0⟩, if 12 < whileN isNameByte (c :: r) then 4 else 0)
    else if isDigit c = true then (⟨2, (c :: r).take (numberN (c :: r)), (decW (c :: r)).1, (decW (c :: r)).2.1, 0⟩, if (decW (c :: r)).2.2 = 3 then 4 else (decW (c :: r)).2.2)
    else if 0 < signN (c :: r) then (⟨3, (c :: r).take (signN (c :: r)), 0, 0, 0⟩, 0)
    else (⟨0, [], 0, 0, 0⟩, 4)
theorem wordS_a {c : UInt8} {r : List UInt8} (h : isLetter c = true) : wordS (c :: r) = (⟨1, (c :: r).take (whileN isNameByte (c :: r)), 0, 0, 0⟩, if 12 < whileN isNameByte (c :: r) then 4 else 0) := by
  simp only [wordS, h, if_true]
theorem wordS_b {c : UInt8} {r : List UInt8} (h : isLetter c = false) (h2 : isDigit c = true) : wordS (c :: r) = (⟨2, (c :: r).take (numberN (c :: r)), (decW (c :: r)).1, (decW (c :: r)).2.1, 0⟩, if (decW (c :: r)).2.2 = 3 then 4 else (decW (c :: r)).2.2) := by
  simp only [wordS, h, h2, if_true, Bool.false_eq_true, if_false]
theorem wordS_c {c : UInt8} {r : List UInt8} (h : isLetter c = false) (h2 : isDigit c = false) (h3 : 0 < signN (c :: r)) : wordS (c :: r) = (⟨3, (c :: r).take (signN (c :: r)), 0, 0, 0⟩, 0) := by
  simp only [wordS, h, h2, h3, if_true, Bool.false_eq_true, if_false]
theorem wordS_d {c : UInt8} {r : List UInt8} (h : isLetter c = false) (h2 : isDigit c = false) (h3 : ¬ 0 < signN (c :: r)) : wordS (c :: r) = (⟨0, [], 0, 0, 0⟩, 4) := by
  simp only [wordS, h, h2, h3, Bool.false_eq_true, if_false]
theorem signN_le (c : UInt8) (r : List UInt8) : signN (c :: r) ≤ (c :: r).length := by
  unfold signN
  split
  · rename_i h
    have : ∀ a b : UInt8, Lib.hasPrefix (c :: r) [a, b] = true → 2 ≤ (c :: r).length := fun a b h => by
      have := List.IsPrefix.length_le (List.isPrefixOf_iff_prefix.1 h); simpa using this
    rcases h with h | h | h <;> exact this _ _ h
  · split <;> simp
theorem wordS_cases (c : UInt8) (r : List UInt8) : (isLetter c = true) ∨ (isLetter c = false ∧ isDigit c = true) ∨ (isLetter c = false ∧ isDigit c = false ∧ 0 < signN (c :: r)) ∨ (isLetter c = false ∧ isDigit c = false ∧ ¬ 0 < signN (c :: r)) := by
  cases isLetter c <;> cases isDigit c <;> simp <;> omega
theorem wordS_len (c : UInt8) (r : List UInt8) : (wordS (c :: r)).1.text.length ≤ (c :: r).length := by
  rcases wordS_cases c r with h | ⟨h1, h2⟩ | ⟨h1, h2, h3⟩ | ⟨h1, h2, h3⟩
  · rw [wordS_a h]; exact List.length_take_le' _ _
  · rw [wordS_b h1 h2]; exact List.length_take_le' _ _
  · rw [wordS_c h1 h2 h3]; exact List.length_take_le' _ _
  · rw [wordS_d h1 h2 h3]; exact Nat.zero_le _
theorem decN_err (a b : List UInt8) (p : Bool) : (decN a b p).2.2 < 100 := by
  unfold decN
  repeat' split
  all_goals simp
theorem wordS_err (c : UInt8) (r : List UInt8) : (wordS (c :: r)).2 < 100 := by
  rcases wordS_cases c r with h | ⟨h1, h2⟩ | ⟨h1, h2, h3⟩ | ⟨h1, h2, h3⟩
  · rw [wordS_a h]; dsimp only; split <;> omega
  · rw [wordS_b h1 h2]; dsimp only; split
    · omega
    · exact decN_err _ _ _
  · rw [wordS_c h1 h2 h3]; simp
  · rw [wordS_d h1 h2 h3]; simp
theorem wordS_pos (c : UInt8) (r : List UInt8) (h : (wordS (c :: r)).2 = 0) : 0 < (wordS (c :: r)).1.text.length := by
  rcases wordS_cases c r with h1 | ⟨h1, h2⟩ | ⟨h1, h2, h3⟩ | ⟨h1, h2, h3⟩
  · rw [wordS_a h1]; simp [isNameByte, whileN, h1]
  · rw [wordS_b h1 h2]; simp only [take_numberN, numText]; simp [whileN, h2]
  · rw [wordS_c h1 h2 h3]; simp; omega
  · rw [wordS_d h1 h2 h3] at h; simp at h
/-- The words of a text from a place on. -/
def lexGo : Nat → Nat → List UInt8 → List Tok → List Tok × Nat × Nat
  | 0, _, _, _ => ([], 0, 999)
  | _ + 1, _, [], acc => (acc, 0, 0)
  | f + 1, k, c :: r, acc =>
    if c = 32 then lexGo f (k + 1) r acc
    else if (wordS (c :: r)).2 = 0 then lexGo f (k + (wordS (c :: r)).1.text.length) ((c :: r).drop (wordS (c :: r)).1.text.length) (acc ++ [{ (wordS (c :: r)).1 with place := k }])
    else ([], k, (wordS (c :: r)).2)
/-- The words of a text; or the place and the error. -/
def lexS (l : List UInt8) : List Tok × Nat × Nat := if 400 < l.length then ([], 0, 3) else lexGo (l.length + 1) 0 l []
end Go.Proofs.YtfkieomelkopeaaDoor
