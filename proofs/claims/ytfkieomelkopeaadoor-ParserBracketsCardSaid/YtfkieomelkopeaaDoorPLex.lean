/-
  The lexer's plain law: words of a text, byte by byte, as Lean functions. Nothing of the program is used here.
-/
import Derived.Test.YtfkieomelkopeaaDoorBase
namespace Go.Proofs.YtfkieomelkopeaaDoor
open Go.RowKit

def isLetter (c : UInt8) : Bool := decide (97 ≤ (c.toNat : Int)) && decide ((c.toNat : Int) ≤ 122)
def isDigit (c : UInt8) : Bool := decide (48 ≤ (c.toNat : Int)) && decide ((c.toNat : Int) ≤ 57)
def isNameByte (c : UInt8) : Bool := isLetter c || isDigit c
/-- How many bytes a list begins with that are so. -/
def whileN (p : UInt8 → Bool) : List UInt8 → Nat
  | [] => 0
  | c :: r => if p c = true then whileN p r + 1 else 0
theorem whileN_le (p : UInt8 → Bool) : ∀ l, whileN p l ≤ l.length
  | [] => Nat.le_refl _
  | c :: r => by have := whileN_le p r; simp only [whileN]; split <;> simp <;> omega
theorem whileN_stop (p : UInt8 → Bool) : ∀ (l : List UInt8) (k : Nat) (h : k < l.length), (∀ j (hj : j < k), p (l[j]'(by omega)) = true) → p l[k] = false → whileN p l = k
  | c :: r, 0, _, _, hp => by simp at hp; simp [whileN, hp]
  | c :: r, k + 1, h, ha, hp => by
    have h0 : p c = true := ha 0 (by omega)
    have := whileN_stop p r k (by simpa using h) (fun j hj => by simpa using ha (j + 1) (by omega)) (by simpa using hp)
    simp [whileN, h0, this]
theorem whileN_all (p : UInt8 → Bool) : ∀ (l : List UInt8), (∀ j (hj : j < l.length), p l[j] = true) → whileN p l = l.length
  | [], _ => rfl
  | c :: r, ha => by
    have h0 : p c = true := ha 0 (by simp)
    have := whileN_all p r (fun j hj => ha (j + 1) (by simpa using hj))
    simp [whileN, h0, this]
theorem isLetter_ascii {c : UInt8} (h : isLetter c = true) : c.toNat < 128 := by simp [isLetter] at h; omega
theorem isDigit_ascii {c : UInt8} (h : isDigit c = true) : c.toNat < 128 := by simp [isDigit] at h; omega
theorem isNameByte_ascii {c : UInt8} (h : isNameByte c = true) : c.toNat < 128 := by
  simp only [isNameByte, Bool.or_eq_true] at h; exact h.elim isLetter_ascii isDigit_ascii

/-- How many bytes a number has that a list begins with. -/
def numberN (l : List UInt8) : Nat :=
  match l.drop (whileN isDigit l) with
  | a :: c :: _ => if a = 46 then (if isDigit c = true then whileN isDigit l + (1 + whileN isDigit (l.drop (whileN isDigit l + 1))) else whileN isDigit l) else whileN isDigit l
  | _ => whileN isDigit l
theorem drop_two (l : List UInt8) (k : Nat) (h : k + 1 < l.length) : l.drop k = l[k] :: l[k + 1] :: l.drop (k + 2) := by
  rw [List.drop_eq_getElem_cons (by omega), List.drop_eq_getElem_cons h]
theorem numberN_short (l : List UInt8) (h : l.length ≤ whileN isDigit l + 1) : numberN l = whileN isDigit l := by
  unfold numberN
  have : (l.drop (whileN isDigit l)).length ≤ 1 := by simp; omega
  split
  · rename_i h2; rw [h2] at this; simp at this
  · rfl
theorem numberN_dot (l : List UInt8) (h : whileN isDigit l + 1 < l.length) : numberN l = if l[whileN isDigit l] = 46 then (if isDigit (l[whileN isDigit l + 1]) = true then whileN isDigit l + (1 + whileN isDigit (l.drop (whileN isDigit l + 1))) else whileN isDigit l) else whileN isDigit l := by
  unfold numberN
  rw [drop_two l _ h]
theorem numberN_le (l : List UInt8) : numberN l ≤ l.length := by
  have h1 := whileN_le isDigit l
  by_cases h : whileN isDigit l + 1 < l.length
  · have h2 := whileN_le isDigit (l.drop (whileN isDigit l + 1))
    rw [List.length_drop] at h2
    rw [numberN_dot l h]
    split
    · split <;> omega
    · omega
  · rw [numberN_short l (by omega)]; omega
end Go.Proofs.YtfkieomelkopeaaDoor
