/-
  The walks of decimal texts and of one word, joined: dectext.Parse at a number's word; lexer.word.
-/
import Derived.Test.YtfkieomelkopeaaDoorWDec2
namespace Go.Proofs.YtfkieomelkopeaaDoor
open Go.RowKit
theorem list_beq_cons (c : UInt8) (l : List UInt8) (h : c ≠ 45) : (c == 45) = false := by simpa using h
theorem decParse_any (whole rest : List UInt8) (point : Bool) (hw : digitsB whole = true) (hr : point = true → digitsB rest = true) (hp : point = false → rest = [])
    (hn : (numText whole rest point).length ≤ 400) (w : World) (hg : Glob w) :
    Calls Tryd.prog 26 #[.string (bs (numText whole rest point))] w fun e w' =>
      e = .returned (.tuple #[.agg #[.int .i64 (decN whole rest point).1, .int .i64 (decN whole rest point).2.1], .int .i64 ((decN whole rest point).2.2 : Nat)]) ∧ Below w.heap.size w w' := by
  by_cases hlong : 21 < (numText whole rest point).length
  · refine (decParse_long _ w hn hlong).mono fun e w' ⟨h1, h2⟩ => ⟨?_, h2⟩
    rw [h1]; simp only [decN, if_pos hlong]; rfl
  · obtain ⟨hne, hd⟩ := digitsB_iff.1 hw
    obtain ⟨c, ws, rfl⟩ := List.exists_cons_of_ne_nil hne
    have hc := dig_of (hd c (by simp))
    have hc45 : c ≠ 45 := fun e => by subst e; simp at hc
    have f1 : (c == 45) = false := by simpa using hc45
    have f2 : ((c.toNat : Int) == 45) = false := by rw [beq_eq_false_iff_ne]; omega
    -- the text with its first byte in front
    have ht : numText (c :: ws) rest point = c :: (ws ++ (if point = true then 46 :: rest else [])) := rfl
    generalize hl : ws ++ (if point = true then 46 :: rest else []) = l at ht
    have hll : (numText (c :: ws) rest point).length = l.length + 1 := by rw [ht]; rfl
    have k1 : ∀ w, Calls Tryd.prog 40 #[.string (bs (c :: l)), .string (bs [45])] w fun e w' => e = .returned (.string (bs (c :: l))) ∧ w = w' :=
      trim_bs _ (by simp [Lib.hasPrefix, List.isPrefixOf]; exact fun e => hc45 e.symm)
    have hwl : ws.length ≤ l.length := by rw [← hl]; simp
    have hnp := digits_no_point hw
    have hcut : Lib.cut (c :: l) [46] = (c :: ws, rest, point) := by
      rw [← hl]
      cases point with
      | true => exact cut_point (c :: ws) rest hnp
      | false => rw [hp rfl]; simpa using cut_none (c :: ws) hnp
    have k2 : ∀ w, Glob w → _ := cut_bs (c :: l) _ _ _ hcut (by simp; omega)
    have hdec : ∀ x, numText (c :: ws) rest point = x → x.length ≤ 21 := fun x hx => by rw [← hx]; omega
    have c1 : l.length ≤ 20 := by omega
    rw [ht]
    by_cases hz : 1 < (c :: ws).length ∧ c = 48
    · obtain ⟨d, ws, rfl⟩ := List.exists_cons_of_ne_nil (show ws ≠ [] from fun e => by subst e; simp at hz)
      refine (decParse_zero c d ws l rest point w hg hw k1 k2 c1 (by simpa using hwl) (by rw [beq_iff_eq, hz.2]; rfl)).mono fun e w' ⟨h1, h2⟩ => ⟨?_, h2⟩
      rw [h1]
      have : decN (c :: d :: ws) rest point = (0, 0, 4) := by
        unfold decN; rw [if_neg hlong, if_pos (.inl ⟨hz.1, by simpa using hz.2⟩)]
      rw [this]; rfl
    · have c2 : ws = [] ∨ ((c.toNat : Int) == 48) = false := by
        cases ws with
        | nil => exact .inl rfl
        | cons d ws =>
          refine .inr ?_
          rw [beq_eq_false_iff_ne]
          intro e
          exact hz ⟨by simp, UInt8.toNat_inj.1 (by show c.toNat = 48; omega)⟩
      have hz' : ¬ (1 < (c :: ws).length ∧ (c :: ws).headD 0 = 48) := by simpa using hz
      cases point with
      | false =>
        obtain rfl : rest = [] := hp rfl
        have hnum : decN (c :: ws) [] false = if val (c :: ws) < 9223372036854775808 then (((val (c :: ws) : Nat) : Int), 0, 0) else (0, 0, 11) := by
          unfold decN; rw [if_neg hlong, if_neg (by simpa using hz')]; simp
        have hpi := parseIntB_digits (c :: ws) (by simp) hd
        have hl4 : (c :: ws).length ≤ 400 := by simp; omega
        by_cases hv : val (c :: ws) < 9223372036854775808
        · rw [if_pos hv] at hpi hnum
          refine (decParse_okF c ws l w hg hw k1 k2 c1 hwl c2 f1 f2 _ (parseInt_ok _ _ hl4 hpi)).mono fun e w' ⟨h1, h2⟩ => ⟨?_, h2⟩
          rw [h1, hnum]; rfl
        · rw [if_neg hv] at hpi hnum
          refine (decParse_rangeF c ws l w hg hw k1 k2 c1 hwl c2 f1 f2 (parseInt_range _ hl4 hpi)).mono fun e w' ⟨h1, h2⟩ => ⟨?_, h2⟩
          rw [h1, hnum]; rfl
      | true =>
        have hr' := hr rfl
        obtain ⟨rne, rd⟩ := digitsB_iff.1 hr'
        have r0 : 0 < rest.length := List.length_pos_iff.2 rne
        have hrl : rest.length ≤ l.length := by rw [← hl]; simp; omega
        by_cases h9 : 9 < rest.length
        · refine (decParse_many c ws l rest w hg hw k1 k2 c1 hwl c2 hr' hrl h9).mono fun e w' ⟨h1, h2⟩ => ⟨?_, h2⟩
          have : decN (c :: ws) rest true = (0, 0, 4) := by
            unfold decN; rw [if_neg hlong, if_pos (.inr ⟨rfl, .inl h9⟩)]
          rw [h1, this]; rfl
        · by_cases hlast : rest.getLastD 0 = 48
          · refine (decParse_last c ws l rest w hg hw k1 k2 c1 hwl c2 hr' hrl (by omega) r0 (by rw [beq_iff_eq, ← lastD_get r0, hlast]; rfl)).mono fun e w' ⟨h1, h2⟩ => ⟨?_, h2⟩
            have : decN (c :: ws) rest true = (0, 0, 4) := by
              unfold decN; rw [if_neg hlong, if_pos (.inr ⟨rfl, .inr hlast⟩)]
            rw [h1, this]; rfl
          · have c4 : ((rest[rest.length - 1].toNat : Int) == 48) = false := by
              rw [beq_eq_false_iff_ne]
              intro e
              exact hlast (by rw [lastD_get r0]; exact UInt8.toNat_inj.1 (by show (rest[rest.length - 1]).toNat = 48; omega))
            have hnum : decN (c :: ws) rest true = if val (c :: ws ++ rest) < 9223372036854775808 then (((val (c :: ws ++ rest) : Nat) : Int), ((rest.length : Nat) : Int), 0) else (0, 0, 11) := by
              unfold decN; rw [if_neg hlong, if_neg (by intro h; rcases h with h | ⟨_, h | h⟩; exact hz' h; exact h9 h; exact hlast h)]
            have hpi := parseIntB_digits (c :: ws ++ rest) (by simp) (fun x hx => by
              rcases List.mem_append.1 hx with h | h
              · exact hd x h
              · exact rd x h)
            have hl4 : (c :: ws ++ rest).length ≤ 400 := by simp; omega
            by_cases hv : val (c :: ws ++ rest) < 9223372036854775808
            · rw [if_pos hv] at hpi hnum
              refine (decParse_okT c ws l rest w hg hw k1 k2 c1 hwl c2 hr' hrl (by omega) r0 c4 f1 f2 _ (parseInt_ok _ _ hl4 hpi)).mono fun e w' ⟨h1, h2⟩ => ⟨?_, h2⟩
              rw [h1, hnum]; rfl
            · rw [if_neg hv] at hpi hnum
              refine (decParse_rangeT c ws l rest w hg hw k1 k2 c1 hwl c2 hr' hrl (by omega) r0 c4 f1 f2 (parseInt_range _ hl4 hpi)).mono fun e w' ⟨h1, h2⟩ => ⟨?_, h2⟩
              rw [h1, hnum]; rfl
end Go.Proofs.YtfkieomelkopeaaDoor
