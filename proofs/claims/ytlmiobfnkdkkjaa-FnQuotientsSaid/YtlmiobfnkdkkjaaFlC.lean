/- Words of doubles: what they read as; roots; the order of what is rounded. -/
import Derived.Test.YtlmiobfnkdkkjaaFlA
namespace Go.Proofs.Ytlmiobfnkdkkjaa.Fl
open Ieee
set_option linter.unusedVariables false

theorem sw_dbl : double.signWeight = 9223372036854775808 := by decide
theorem bn_dbl : double.binade = 4503599627370496 := by decide

/-- What a word reads as. -/
theorem read_eq (a : Nat) : double.read a = (if a % 9223372036854775808 < 4503599627370496 then Datum.number (a / 9223372036854775808 % 2 == 1) (a % 9223372036854775808) (-1074)
      else if a % 9223372036854775808 < 9218868437227405312 then Datum.number (a / 9223372036854775808 % 2 == 1) (4503599627370496 + a % 9223372036854775808 % 4503599627370496) ((-1074) + ((a % 9223372036854775808 / 4503599627370496 - 1 : Nat) : Int))
      else if a % 9223372036854775808 = 9218868437227405312 then Datum.infinity (a / 9223372036854775808 % 2 == 1) else Datum.nan (a / 9223372036854775808 % 2 == 1) (a % 9223372036854775808 - 9218868437227405312)) := by
  unfold Format.read
  simp only [sw_dbl, bn_dbl, inf_double, least_double]

/-- A number that is read: its bounds; and its word. -/
theorem read_number {a : Nat} {s : Bool} {m : Nat} {p : Int} (h : double.read a = .number s m p) :
    m < 2 ^ 53 ∧ -1074 ≤ p ∧ p ≤ 971 ∧ (2 ^ 52 ≤ m ∨ p = -1074) ∧ s = (a / 9223372036854775808 % 2 == 1) ∧ a % 9223372036854775808 = (p + 1074).toNat * 2 ^ 52 + m := by
  rw [read_eq] at h
  by_cases c1 : a % 9223372036854775808 < 4503599627370496
  · rw [if_pos c1] at h
    injection h with h1 h2 h3
    subst h1; subst h2; subst h3
    refine ⟨by omega, by omega, by omega, by omega, rfl, by omega⟩
  · rw [if_neg c1] at h
    by_cases c2 : a % 9223372036854775808 < 9218868437227405312
    · rw [if_pos c2] at h
      injection h with h1 h2 h3
      subst h1; subst h2; subst h3
      refine ⟨by omega, by omega, by omega, by omega, rfl, by omega⟩
    · rw [if_neg c2] at h
      by_cases c3 : a % 9223372036854775808 = 9218868437227405312
      · rw [if_pos c3] at h; cases h
      · rw [if_neg c3] at h; cases h

theorem lastP_own {m : Nat} {p : Int} (h0 : m ≠ 0) (h1 : m < 2 ^ 53) (h2 : -1074 ≤ p) (h3 : 2 ^ 52 ≤ m ∨ p = -1074) : lastP m p = p := by
  unfold lastP
  have hhi : m.log2 < 53 := (Nat.log2_lt h0).2 h1
  rcases h3 with h3 | h3
  · have hlo : 52 ≤ m.log2 := by rw [Nat.le_log2 h0]; exact h3
    omega
  · omega
/-- A number that a word can stand for is its own rung. -/
theorem rung_own {m : Nat} {p : Int} (h0 : m ≠ 0) (h1 : m < 2 ^ 53) (h2 : -1074 ≤ p) (h3 : 2 ^ 52 ≤ m ∨ p = -1074) : rung m p = (p + 1074).toNat * 2 ^ 52 + m := by
  unfold rung
  rw [lastP_own h0 h1 h2 h3]
  have t1 : (p - p).toNat = 0 := by omega
  rw [t1, rne_zero, Nat.pow_zero, Nat.mul_one]
theorem read_rung {a : Nat} {s : Bool} {m : Nat} {p : Int} (h : double.read a = .number s m p) (h0 : m ≠ 0) : a % 9223372036854775808 = rung m p := by
  obtain ⟨h1, h2, h3, h4, h5, h6⟩ := read_number h
  rw [rung_own h0 h1 h2 h4, h6]

/-- The word of a number that a word can stand for reads as it. -/
theorem read_word (s : Bool) {m : Nat} {p : Int} (h1 : m < 2 ^ 53) (h2 : -1074 ≤ p) (h3 : 2 ^ 52 ≤ m ∨ p = -1074) (h4 : p ≤ 971) :
    double.read (double.word s ((p + 1074).toNat * 2 ^ 52 + m)) = .number s m p := by
  rw [read_eq]
  obtain ⟨P, hP⟩ : ∃ P : Nat, p = (P : Int) - 1074 := ⟨(p + 1074).toNat, by omega⟩
  subst hP
  have t1 : ((P : Int) - 1074 + 1074).toNat = P := by omega
  rw [t1]
  have hw : double.word s (P * 2 ^ 52 + m) % 9223372036854775808 = P * 2 ^ 52 + m := by
    unfold Format.word; rw [sw_dbl]; cases s <;> simp <;> omega
  have hs : (double.word s (P * 2 ^ 52 + m) / 9223372036854775808 % 2 == 1) = s := by
    unfold Format.word; rw [sw_dbl]
    cases s
    · have : (P * 2 ^ 52 + m) / 9223372036854775808 % 2 = 0 := by omega
      simp only [Bool.false_eq_true, if_false, this]; rfl
    · have : (9223372036854775808 + (P * 2 ^ 52 + m)) / 9223372036854775808 % 2 = 1 := by omega
      simp only [if_true, this]; rfl
  rw [hw, hs]
  by_cases c : P * 2 ^ 52 + m < 4503599627370496
  · rw [if_pos c]
    have : P = 0 := by omega
    subst this
    simp
  · rw [if_neg c, if_pos (by omega)]
    congr 1
    · omega
    · omega

/-- A whole number below 2 ^ 53, as a word, reads as just that, scaled. -/
theorem read_whole (s : Bool) (n : Nat) (h0 : n ≠ 0) (h : n < 2 ^ 53) :
    double.read (double.nearest s n 0) = .number s (n * 2 ^ (52 - n.log2)) (-((52 - n.log2 : Nat) : Int)) := by
  have hl : n.log2 < 53 := (Nat.log2_lt h0).2 h
  obtain ⟨j, hj⟩ : ∃ j, j = 52 - n.log2 := ⟨_, rfl⟩
  rw [← hj]
  have hlj : (n * 2 ^ j).log2 = 52 := by rw [log2_scale n j h0]; omega
  have hk0 : n * 2 ^ j ≠ 0 := Nat.mul_ne_zero h0 (by have := Nat.two_pow_pos j; omega)
  have hlo : 2 ^ 52 ≤ n * 2 ^ j := by rw [← Nat.le_log2 hk0]; omega
  have hhi : n * 2 ^ j < 2 ^ 53 := by rw [← Nat.log2_lt hk0]; omega
  have hr : rung n 0 = (-(j : Int) + 1074).toNat * 2 ^ 52 + n * 2 ^ j := by
    have a := rung_scale n j 0 h0
    have b := rung_own (p := 0 - (j : Int)) hk0 hhi (by omega) (Or.inl hlo)
    rw [← a, b]
    congr 2
    omega
  rw [nearest_eq s n 0 h0, hr]
  have hmin : min ((-(j : Int) + 1074).toNat * 2 ^ 52 + n * 2 ^ j) 9218868437227405312 = (-(j : Int) + 1074).toNat * 2 ^ 52 + n * 2 ^ j := by omega
  rw [hmin]
  exact read_word s hhi (by omega) (Or.inl hlo) (by omega)

/-! ### Roots -/
def IsRt (n w : Nat) : Prop := w * w ≤ n ∧ n < (w + 1) * (w + 1)
theorem IsRt.uniq {n w v : Nat} (h : IsRt n w) (k : IsRt n v) : w = v := by
  have a : w < v + 1 := by
    by_cases c : w < v + 1
    · exact c
    · have := Nat.mul_le_mul (show v + 1 ≤ w by omega) (show v + 1 ≤ w by omega)
      have := h.1; have := k.2; omega
  have b : v < w + 1 := by
    by_cases c : v < w + 1
    · exact c
    · have := Nat.mul_le_mul (show w + 1 ≤ v by omega) (show w + 1 ≤ v by omega)
      have := k.1; have := h.2; omega
  omega
theorem rootFrom_is (n : Nat) : ∀ todo root : Nat, root * root ≤ n → n < (root + 2 ^ todo) * (root + 2 ^ todo) → IsRt n (Datum.rootFrom n todo root) := by
  intro todo
  induction todo with
  | zero => intro root h0 h1; exact ⟨h0, by simpa [Datum.rootFrom] using h1⟩
  | succ t ih =>
    intro root h0 h1
    simp only [Datum.rootFrom, Nat.one_shiftLeft]
    have e : 2 ^ (t + 1) = 2 ^ t + 2 ^ t := by rw [Nat.pow_succ]; omega
    rw [e, ← Nat.add_assoc] at h1
    by_cases c : (root + 2 ^ t) * (root + 2 ^ t) ≤ n
    · rw [if_pos c]; exact ih _ c h1
    · rw [if_neg c]; exact ih _ h0 (by omega)
theorem root_is (n : Nat) : IsRt n (Datum.rootFrom n (n.log2 / 2 + 1) 0) := by
  refine rootFrom_is n _ 0 (by omega) ?_
  rw [Nat.zero_add, ← Nat.pow_add]
  have a : n < 2 ^ (n.log2 + 1) := Nat.lt_log2_self
  have b : 2 ^ (n.log2 + 1) ≤ 2 ^ (n.log2 / 2 + 1 + (n.log2 / 2 + 1)) := Nat.pow_le_pow_right (by omega) (by omega)
  omega

/-- What is left of a root that is cut. -/
def rst (n w : Nat) : Nat := if w * w = n then 0 else 1
theorem rst_le (n w : Nat) : rst n w ≤ 1 := by unfold rst; split <;> omega

/-- The root's word doesn't hang on how many digits are reckoned. -/
theorem root_scale {n w w' c : Nat} (q : Int) (h : IsRt n w) (h' : IsRt (n * 4 ^ c) w') (hw : 2 ^ 53 ≤ w) :
    rung (2 * w' + rst (n * 4 ^ c) w') (q - c - 1) = rung (2 * w + rst n w) (q - 1) := by
  have e4 : (4 : Nat) ^ c = 2 ^ c * 2 ^ c := by
    rw [show (4 : Nat) = 2 * 2 from rfl, Nat.mul_pow]
  have hc : 0 < 2 ^ c := Nat.two_pow_pos c
  have sq : ∀ v : Nat, (v * 2 ^ c) * (v * 2 ^ c) = v * v * 4 ^ c := fun v => by rw [e4, Nat.mul_mul_mul_comm]
  by_cases hx : w * w = n
  · have hw' : w' = w * 2 ^ c := by
      refine IsRt.uniq h' ⟨?_, ?_⟩
      · rw [sq, hx]; exact Nat.le_refl _
      · have := sq w
        have h2 : (w * 2 ^ c) * (w * 2 ^ c) < (w * 2 ^ c + 1) * (w * 2 ^ c + 1) := Nat.mul_lt_mul_of_lt_of_lt (by omega) (by omega)
        rw [sq, hx] at h2
        exact h2
    have r1 : rst (n * 4 ^ c) w' = 0 := by unfold rst; rw [if_pos]; rw [hw', sq, hx]
    have r2 : rst n w = 0 := by unfold rst; rw [if_pos hx]
    rw [r1, r2, hw', Nat.add_zero, Nat.add_zero, ← Nat.mul_assoc]
    have := rung_scale (2 * w) c (q - 1) (by omega)
    rw [← this]
    congr 1
    omega
  · have r2 : rst n w = 1 := by unfold rst; rw [if_neg hx]
    have lo : w * 2 ^ c ≤ w' := by
      by_cases cc : w * 2 ^ c ≤ w'
      · exact cc
      · have := Nat.mul_le_mul (show w' + 1 ≤ w * 2 ^ c by omega) (show w' + 1 ≤ w * 2 ^ c by omega)
        rw [sq] at this
        have h1 := Nat.mul_le_mul_right (4 ^ c) h.1
        have := h'.2
        omega
    have hi : w' < (w + 1) * 2 ^ c := by
      by_cases cc : w' < (w + 1) * 2 ^ c
      · exact cc
      · have := Nat.mul_le_mul (show (w + 1) * 2 ^ c ≤ w' by omega) (show (w + 1) * 2 ^ c ≤ w' by omega)
        rw [sq] at this
        have h1 := Nat.mul_lt_mul_of_pos_right h.2 (show 0 < 4 ^ c by rw [e4]; exact Nat.mul_pos hc hc)
        have := h'.1
        omega
    rw [Nat.succ_mul] at hi
    have h2c : 2 ^ (c + 1) = 2 * 2 ^ c := by rw [Nat.pow_succ, Nat.mul_comm]
    have hle := rst_le (n * 4 ^ c) w'
    have ev : 2 * w' + rst (n * 4 ^ c) w' = w * 2 ^ (c + 1) + (2 * (w' - w * 2 ^ c) + rst (n * 4 ^ c) w') := by
      rw [h2c, Nat.mul_left_comm]; omega
    have hpos : 0 < 2 * (w' - w * 2 ^ c) + rst (n * 4 ^ c) w' := by
      by_cases c0 : w' = w * 2 ^ c
      · have : rst (n * 4 ^ c) w' = 1 := by
          unfold rst
          rw [if_neg]
          rw [c0, sq]
          intro hh
          exact hx (Nat.eq_of_mul_eq_mul_right (show 0 < 4 ^ c by rw [e4]; exact Nat.mul_pos hc hc) hh)
        omega
      · omega
    have hb := rung_between w (c + 1) (2 * (w' - w * 2 ^ c) + rst (n * 4 ^ c) w') q hw hpos (by rw [h2c]; omega)
    rw [r2, ev, ← hb]
    congr 1
    omega

/-- The double's root of a number: its digits, and where they stand. -/
theorem sqrt_eq {a m : Nat} {p : Int} (h : double.read a = .number false m p) (h0 : m ≠ 0) :
    ∃ (n w more : Nat) (q : Int), n = m * 2 ^ more ∧ 2 * q = p - more ∧ IsRt n w ∧ 108 ≤ n.log2 ∧ n.log2 ≤ 109 ∧ double.sqrt a = some (double.nearest false (2 * w + rst n w) (q - 1)) := by
  obtain ⟨h1, h2, h3, h4, _, _⟩ := read_number h
  have hl : m.log2 < 53 := (Nat.log2_lt h0).2 h1
  have hfb : double.fractionBits + 2 = 54 := rfl
  refine ⟨m * 2 ^ (2 * 54 - m.log2 + ((p - ((2 * 54 - m.log2 : Nat) : Int)) % 2).toNat), _, 2 * 54 - m.log2 + ((p - ((2 * 54 - m.log2 : Nat) : Int)) % 2).toNat, (p - ((2 * 54 - m.log2 + ((p - ((2 * 54 - m.log2 : Nat) : Int)) % 2).toNat : Nat) : Int)) / 2, rfl, by omega, root_is _, ?_, ?_, ?_⟩
  · rw [log2_scale _ _ h0]; omega
  · rw [log2_scale _ _ h0]; omega
  · unfold Format.sqrt
    rw [h, hfb]
    unfold Datum.root
    simp only [h0, if_false, Bool.false_eq_true, Option.map_some, Format.write, Nat.shiftLeft_eq]
    congr 3
    unfold rst
    by_cases hc : Datum.rootFrom (m * 2 ^ (2 * 54 - m.log2 + ((p - ((2 * 54 - m.log2 : Nat) : Int)) % 2).toNat)) ((m * 2 ^ (2 * 54 - m.log2 + ((p - ((2 * 54 - m.log2 : Nat) : Int)) % 2).toNat)).log2 / 2 + 1) 0 * Datum.rootFrom (m * 2 ^ (2 * 54 - m.log2 + ((p - ((2 * 54 - m.log2 : Nat) : Int)) % 2).toNat)) ((m * 2 ^ (2 * 54 - m.log2 + ((p - ((2 * 54 - m.log2 : Nat) : Int)) % 2).toNat)).log2 / 2 + 1) 0 = m * 2 ^ (2 * 54 - m.log2 + ((p - ((2 * 54 - m.log2 : Nat) : Int)) % 2).toNat)
    · rw [if_pos hc]; simp [hc]
    · rw [if_neg hc]
      have : (Datum.rootFrom (m * 2 ^ (2 * 54 - m.log2 + ((p - ((2 * 54 - m.log2 : Nat) : Int)) % 2).toNat)) ((m * 2 ^ (2 * 54 - m.log2 + ((p - ((2 * 54 - m.log2 : Nat) : Int)) % 2).toNat)).log2 / 2 + 1) 0 * Datum.rootFrom (m * 2 ^ (2 * 54 - m.log2 + ((p - ((2 * 54 - m.log2 : Nat) : Int)) % 2).toNat)) ((m * 2 ^ (2 * 54 - m.log2 + ((p - ((2 * 54 - m.log2 : Nat) : Int)) % 2).toNat)).log2 / 2 + 1) 0 != m * 2 ^ (2 * 54 - m.log2 + ((p - ((2 * 54 - m.log2 : Nat) : Int)) % 2).toNat)) = true := by simpa using hc
      rw [this]; rfl

end Go.Proofs.Ytlmiobfnkdkkjaa.Fl
