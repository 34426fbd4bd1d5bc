/- The numbers next to a root are farther. -/
import Derived.Test.YtlmiobfnkdkkjaaFlI
namespace Go.Proofs.Ytlmiobfnkdkkjaa.Fl
open Ieee
set_option linter.unusedVariables false
set_option linter.unusedSimpArgs false

/-- A word below the infinite one reads as a number. -/
theorem read_of_low {a : Nat} (h : a < 9218868437227405312) : ∃ m p, double.read a = .number false m p := by
  have hs : (a / 9223372036854775808 % 2 == 1) = false := by
    have : a / 9223372036854775808 % 2 = 0 := by omega
    rw [this]; rfl
  have key := read_eq a
  rw [hs] at key
  by_cases c1 : a % 9223372036854775808 < 4503599627370496
  · rw [if_pos c1] at key; exact ⟨_, _, key⟩
  · rw [if_neg c1, if_pos (by omega)] at key; exact ⟨_, _, key⟩

/-- Of a number that isn't too great or too small: the squares of the words next to its root's word lie on both sides of it. -/
theorem near {a m : Nat} {p : Int} (h : double.read a = .number false m p) (h0 : m ≠ 0) (hp1 : -1000 ≤ p) (hp2 : p ≤ 800) :
    ∃ R m1 m2 : Nat, ∃ p1 p2 : Int, double.sqrt a = some R ∧ 1 ≤ R ∧ R + 1 < 9218868437227405312 ∧ double.read (R - 1) = .number false m1 p1 ∧ double.read (R + 1) = .number false m2 p2 ∧ m1 ≠ 0 ∧ m2 ≠ 0 ∧
      rung (m1 * m1) (p1 + p1) ≤ rung m p ∧ rung m p ≤ rung (m2 * m2) (p2 + p2) := by
  obtain ⟨n, w, more, q, hn, hq, hw, hl1, hl2, hs⟩ := sqrt_eq h h0
  obtain ⟨g1, g2, g3, g4, g5, g6⟩ := read_number h
  have hlm : m.log2 < 53 := (Nat.log2_lt h0).2 g1
  have hln : n.log2 = m.log2 + more := by rw [hn]; exact log2_scale m more h0
  have hn0 : n ≠ 0 := by intro hh; rw [hh] at hl1; simp at hl1
  have hnlo : 2 ^ 108 ≤ n := by rw [← Nat.le_log2 hn0]; exact hl1
  have hnhi : n < 2 ^ 110 := by rw [← Nat.log2_lt hn0]; omega
  have hwlo : 2 ^ 54 ≤ w := by
    by_cases cc : 2 ^ 54 ≤ w
    · exact cc
    · have := Nat.mul_le_mul (show w + 1 ≤ 2 ^ 54 by omega) (show w + 1 ≤ 2 ^ 54 by omega)
      have := hw.2
      omega
  have hwhi : w < 2 ^ 55 := by
    by_cases cc : w < 2 ^ 55
    · exact cc
    · have := Nat.mul_le_mul (show 2 ^ 55 ≤ w by omega) (show 2 ^ 55 ≤ w by omega)
      have := hw.1
      omega
  have hrl := rst_le n w
  -- the root's own word
  obtain ⟨S, hS⟩ : ∃ S, S = 2 * w + rst n w := ⟨_, rfl⟩
  have hS0 : S ≠ 0 := by omega
  have hSl : S.log2 = 55 := by
    have a1 : 55 ≤ S.log2 := by rw [Nat.le_log2 hS0]; omega
    have a2 : S.log2 < 56 := (Nat.log2_lt hS0).2 (by omega)
    omega
  obtain ⟨R, hR⟩ : ∃ R, R = rung S (q - 1) := ⟨_, rfl⟩
  have hLP : lastP S (q - 1) = q + 2 := by unfold lastP; rw [hSl]; omega
  have hRv : R = (q + 2 + 1074).toNat * 2 ^ 52 + rne S 3 := by
    rw [hR]; unfold rung; rw [hLP]
    have t1 : (q - 1 - (q + 2)).toNat = 0 := by omega
    have t2 : (q + 2 - (q - 1)).toNat = 3 := by omega
    rw [t1, t2, Nat.pow_zero, Nat.mul_one]
  have hk1 : 2 ^ 52 ≤ rne S 3 := by
    have := rne_mono 3 (show 2 ^ 55 ≤ S by omega)
    have e : rne (2 ^ 55) 3 = 2 ^ 52 := by decide
    omega
  have hk2 : rne S 3 ≤ 2 ^ 53 := by
    have := rne_mono 3 (show S ≤ 2 ^ 56 by omega)
    have e : rne (2 ^ 56) 3 = 2 ^ 53 := by decide
    omega
  have hqb : -600 ≤ q ∧ q ≤ 400 := by omega
  have hR1 : (q + 2 + 1074).toNat * 2 ^ 52 + 2 ^ 52 ≤ R := by omega
  have hR2 : R ≤ (q + 2 + 1074).toNat * 2 ^ 52 + 2 ^ 53 := by omega
  obtain ⟨m1, p1, hr1⟩ := read_of_low (a := R - 1) (by omega)
  obtain ⟨m2, p2, hr2⟩ := read_of_low (a := R + 1) (by omega)
  obtain ⟨c1, c2, c3, c4, c5, c6⟩ := read_number hr1
  obtain ⟨d1, d2, d3, d4, d5, d6⟩ := read_number hr2
  have hp1 : q + 1 ≤ p1 := by omega
  have hp2 : q + 2 ≤ p2 := by omega
  have hm10 : m1 ≠ 0 := by omega
  have hm20 : m2 ≠ 0 := by omega
  have hmin : double.sqrt a = some R := by
    rw [hs, ← hS, nearest_eq _ _ _ hS0, ← hR]
    have : min R 9218868437227405312 = R := by omega
    rw [this]; rfl
  have w1 := read_rung hr1 hm10
  have w2 := read_rung hr2 hm20
  have v1 : (R - 1) % 9223372036854775808 = R - 1 := by omega
  have v2 : (R + 1) % 9223372036854775808 = R + 1 := by omega
  rw [v1] at w1
  rw [v2] at w2
  -- a number below (above) the root, in the root's own steps
  have scaled : ∀ (mm : Nat) (pp : Int), mm ≠ 0 → q ≤ pp → rung (2 * (mm * 2 ^ (pp - q).toNat)) (q - 1) = rung mm pp := by
    intro mm pp h0 hh
    have e := rung_scale mm ((pp - q).toNat + 1) pp h0
    rw [← e]
    congr 1
    · rw [Nat.pow_succ, Nat.mul_comm (2 ^ (pp - q).toNat) 2, Nat.mul_left_comm]
    · omega
  have square : ∀ (mm : Nat) (pp : Int), mm ≠ 0 → q ≤ pp → rung ((mm * 2 ^ (pp - q).toNat) * (mm * 2 ^ (pp - q).toNat)) (q + q) = rung (mm * mm) (pp + pp) := by
    intro mm pp h0 hh
    have e := rung_scale (mm * mm) ((pp - q).toNat + (pp - q).toNat) (pp + pp) (Nat.mul_ne_zero h0 h0)
    rw [← e]
    congr 1
    · rw [Nat.pow_add, Nat.mul_mul_mul_comm]
    · omega
  have own : rung n (q + q) = rung m p := by
    have e := rung_scale m more p h0
    rw [← e, ← hn]
    congr 1
    omega
  refine ⟨R, m1, m2, p1, p2, hmin, by omega, by omega, hr1, hr2, hm10, hm20, ?_, ?_⟩
  · rw [← own, ← square m1 p1 hm10 (by omega)]
    obtain ⟨P, hP⟩ : ∃ P, P = m1 * 2 ^ (p1 - q).toNat := ⟨_, rfl⟩
    rw [← hP]
    have hP0 : P ≠ 0 := by rw [hP]; exact Nat.mul_ne_zero hm10 (by have := Nat.two_pow_pos (p1 - q).toNat; omega)
    have hle : P * P ≤ n := by
      by_cases cc : P * P ≤ n
      · exact cc
      · exfalso
        have hPw : w + 1 ≤ P := by
          by_cases c2 : w + 1 ≤ P
          · exact c2
          · have := Nat.mul_le_mul (show P ≤ w by omega) (show P ≤ w by omega)
            have := hw.1
            omega
        have hm := rung_mono (q - 1) hS0 (show S ≤ 2 * P by omega)
        rw [hP, scaled m1 p1 hm10 (by omega), ← w1, ← hR] at hm
        omega
    exact rung_mono _ (Nat.mul_ne_zero hP0 hP0) hle
  · rw [← own, ← square m2 p2 hm20 (by omega)]
    obtain ⟨P, hP⟩ : ∃ P, P = m2 * 2 ^ (p2 - q).toNat := ⟨_, rfl⟩
    rw [← hP]
    have hP0 : P ≠ 0 := by rw [hP]; exact Nat.mul_ne_zero hm20 (by have := Nat.two_pow_pos (p2 - q).toNat; omega)
    have hle : n ≤ P * P := by
      by_cases cc : n ≤ P * P
      · exact cc
      · exfalso
        have hPw : P ≤ w := by
          by_cases c2 : P ≤ w
          · exact c2
          · have := Nat.mul_le_mul (show w + 1 ≤ P by omega) (show w + 1 ≤ P by omega)
            have := hw.2
            omega
        have hm := rung_mono (q - 1) (show 2 * P ≠ 0 by omega) (show 2 * P ≤ S by omega)
        rw [hP, scaled m2 p2 hm20 (by omega), ← w2, ← hR] at hm
        omega
    exact rung_mono _ hn0 hle

/-- The root of a square of a whole number is the number. -/
theorem sqrt_square (n : Nat) (hn0 : n ≠ 0) (hn : n * n < 2 ^ 53) : double.sqrt (double.nearest false (n * n) 0) = some (double.nearest false n 0) := by
  have hnn : n * n ≠ 0 := Nat.mul_ne_zero hn0 hn0
  have hr := read_whole false (n * n) hnn hn
  have hlog : (n * n).log2 < 53 := (Nat.log2_lt hnn).2 hn
  obtain ⟨j, hj⟩ : ∃ j, j = 52 - (n * n).log2 := ⟨_, rfl⟩
  rw [← hj] at hr
  have hk0 : n * n * 2 ^ j ≠ 0 := Nat.mul_ne_zero hnn (by have := Nat.two_pow_pos j; omega)
  obtain ⟨N, w, more, q, hN, hq, hw, hl1, hl2, hs⟩ := sqrt_eq hr hk0
  rw [hs]
  have hlk : (n * n * 2 ^ j).log2 = 52 := by rw [log2_scale _ _ hnn]; omega
  have hlN : N.log2 = 52 + more := by rw [hN, log2_scale _ _ hk0, hlk]
  obtain ⟨h, hh⟩ : ∃ h : Nat, q = -(h : Int) := ⟨(-q).toNat, by omega⟩
  have hjm : j + more = h + h := by omega
  have hNs : N = n * 2 ^ h * (n * 2 ^ h) := by
    rw [hN, Nat.mul_assoc, ← Nat.pow_add, hjm, Nat.pow_add, Nat.mul_mul_mul_comm]
  have hwv : w = n * 2 ^ h := by
    refine IsRt.uniq hw ⟨by omega, ?_⟩
    rw [hNs]
    exact Nat.mul_lt_mul_of_lt_of_lt (by omega) (by omega)
  have hr0 : rst N w = 0 := by unfold rst; rw [if_pos]; rw [hwv, hNs]
  rw [hr0, hwv, Nat.add_zero, ← Nat.mul_assoc]
  have e1 : 2 * n * 2 ^ h = n * 2 ^ (h + 1) := by rw [Nat.pow_succ, Nat.mul_comm 2 n, Nat.mul_assoc, Nat.mul_comm 2]
  rw [e1, nearest_eq _ _ _ (Nat.mul_ne_zero hn0 (by have := Nat.two_pow_pos (h + 1); omega)), nearest_eq _ _ _ hn0]
  have := rung_scale n (h + 1) 0 hn0
  have e2 : q - 1 = 0 - ((h + 1 : Nat) : Int) := by omega
  rw [e2, this]

end Go.Proofs.Ytlmiobfnkdkkjaa.Fl
