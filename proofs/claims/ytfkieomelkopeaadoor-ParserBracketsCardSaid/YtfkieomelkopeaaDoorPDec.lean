/-
  Decimals' texts, the plain law: what a word of digits (with or without a point) is worth. Nothing of the program is used here.
-/
import Derived.Test.YtfkieomelkopeaaDoorPLex
import Derived.Lib.ParseIntB
import Derived.Lib.IndexMore
import Derived.Lib.IndexBytes
import Derived.Lib.Bytealg
namespace Go.Proofs.YtfkieomelkopeaaDoor
open Go.RowKit

def valFrom (a : Nat) (l : List UInt8) : Nat := l.foldl (fun a c => a * 10 + (c.toNat - 48)) a
def val (l : List UInt8) : Nat := valFrom 0 l
theorem valFrom_le : ∀ (l : List UInt8) (a b : Nat), a ≤ b → a ≤ valFrom b l
  | [], a, b, h => h
  | c :: r, a, b, h => valFrom_le r a (b * 10 + (c.toNat - 48)) (by omega)
theorem dig_of {c : UInt8} (h : isDigit c = true) : 48 ≤ c.toNat ∧ c.toNat ≤ 57 := by simp [isDigit] at h; omega
theorem parseUintM_digits : ∀ (l : List UInt8) (a : Nat), a ≤ 18446744073709551615 → (∀ c ∈ l, isDigit c = true) →
    Lib.parseUintM 18446744073709551615 a l = if valFrom a l ≤ 18446744073709551615 then .ok (valFrom a l) else .range
  | [], a, ha, _ => by
    have : valFrom a [] = a := rfl
    rw [this, if_pos ha]; rfl
  | c :: r, a, ha, hd => by
    have hc := dig_of (hd c (by simp))
    have e : valFrom a (c :: r) = valFrom (a * 10 + (c.toNat - 48)) r := rfl
    have hm := valFrom_le r (a * 10 + (c.toNat - 48)) (a * 10 + (c.toNat - 48)) (Nat.le_refl _)
    simp only [Lib.parseUintM]
    rw [if_pos hc, e]
    by_cases h1 : 1844674407370955162 ≤ a
    · rw [if_pos h1, if_neg (by omega)]
    · rw [if_neg h1]
      by_cases h2 : 18446744073709551615 < a * 10 + (c.toNat - 48)
      · rw [if_pos h2, if_neg (by omega)]
      · rw [if_neg h2]
        exact parseUintM_digits r _ (by omega) (fun c hc => hd c (by simp [hc]))
theorem parseIntB_digits (l : List UInt8) (hne : l ≠ []) (hd : ∀ c ∈ l, isDigit c = true) :
    Lib.parseIntB 64 l = if val l < 9223372036854775808 then .ok ((val l : Nat) : Int) else .range := by
  cases l with
  | nil => exact absurd rfl hne
  | cons c r =>
    have hc := dig_of (hd c (by simp))
    have h43 : ¬ (c.toNat = 43 ∨ c.toNat = 45) := by omega
    have h45 : ¬ c.toNat = 45 := by omega
    have hu := parseUintM_digits (c :: r) 0 (by omega) hd
    have hz : valFrom 0 (c :: r) = val (c :: r) := rfl
    rw [hz] at hu
    simp only [Lib.parseIntB, Lib.parseUintB, if_neg h43, if_neg (show ¬ (c :: r) = [] by simp), show (2 ^ 64 - 1 : Nat) = 18446744073709551615 from rfl, hu, show (2 ^ (64 - 1) : Nat) = 9223372036854775808 from rfl]
    by_cases h1 : val (c :: r) ≤ 18446744073709551615
    · rw [if_pos h1]
      by_cases h2 : val (c :: r) < 9223372036854775808
      · simp [h45, h2]
      · simp [h45, h2]
    · rw [if_neg h1, if_neg (by omega)]
theorem indexByte_mem : ∀ (l : List UInt8) (c : UInt8) (r : List UInt8), (∀ x ∈ l, x ≠ c) → Lib.indexByte (l ++ c :: r) c = l.length
  | [], c, r, _ => by simp [Lib.indexByte]
  | x :: l, c, r, h => by
    have ih := indexByte_mem l c r (fun y hy => h y (by simp [hy]))
    have hx : x ≠ c := h x (by simp)
    simp [Lib.indexByte, hx, ih]
theorem indexByte_none : ∀ (l : List UInt8) (c : UInt8), (∀ x ∈ l, x ≠ c) → Lib.indexByte l c = -1
  | [], c, _ => by simp [Lib.indexByte]
  | x :: l, c, h => by
    have ih := indexByte_none l c (fun y hy => h y (by simp [hy]))
    have hx : x ≠ c := h x (by simp)
    simp [Lib.indexByte, hx, ih]
theorem cut_point (l r : List UInt8) (h : ∀ x ∈ l, x ≠ 46) : Lib.cut (l ++ 46 :: r) [46] = (l, r, true) := by
  unfold Lib.cut
  rw [Lib.index_one, indexByte_mem l 46 r h, if_pos (by omega)]
  simp
theorem cut_none (l : List UInt8) (h : ∀ x ∈ l, x ≠ 46) : Lib.cut l [46] = (l, [], false) := by
  unfold Lib.cut
  rw [Lib.index_one, indexByte_none l 46 h, if_neg (by omega)]
/-- Digits alone, one at least. -/
def digitsB (l : List UInt8) : Bool := !l.isEmpty && l.all isDigit
theorem digitsB_iff {l : List UInt8} : digitsB l = true ↔ l ≠ [] ∧ ∀ c ∈ l, isDigit c = true := by
  unfold digitsB; cases l <;> simp
/-- The word of a number: digits, and, with a point, more of them. -/
def numText (whole rest : List UInt8) (point : Bool) : List UInt8 := whole ++ (if point = true then 46 :: rest else [])
/-- C, S and the error of such a word. -/
def decN (whole rest : List UInt8) (point : Bool) : Int × Int × Nat :=
  if 21 < (numText whole rest point).length then (0, 0, 3)
  else if (1 < whole.length ∧ whole.headD 0 = 48) ∨ (point = true ∧ (9 < rest.length ∨ rest.getLastD 0 = 48)) then (0, 0, 4)
  else if val (whole ++ rest) < 9223372036854775808 then (((val (whole ++ rest) : Nat) : Int), ((rest.length : Nat) : Int), 0) else (0, 0, 11)
end Go.Proofs.YtfkieomelkopeaaDoor
