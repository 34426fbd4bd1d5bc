/- Rounding to the nearest double, in a form that does not depend on how the number is scaled. -/
import Ieee.Arith
namespace Go.Proofs.Ytlmiobfnkdkkjaa.Fl
open Ieee

/-- 'n / 2 ^ d' to the nearest whole number, of two the even one. -/
def rne (n d : Nat) : Nat :=
  n / 2 ^ d + if 2 ^ d < 2 * (n % 2 ^ d) ∨ (2 ^ d = 2 * (n % 2 ^ d) ∧ n / 2 ^ d % 2 = 1) then 1 else 0

theorem rne_zero (n : Nat) : rne n 0 = n := by
  unfold rne
  simp [Nat.mod_one]

theorem rne_small {n d : Nat} (h : 2 * n < 2 ^ d) : rne n d = 0 := by
  unfold rne
  have h1 : n < 2 ^ d := by omega
  rw [Nat.div_eq_of_lt h1, Nat.mod_eq_of_lt h1, if_neg (by omega)]

theorem cut_even (neg : Bool) (n d : Nat) : Toward.even.cut neg n d = rne n d := by
  have key : ∀ g, (1 <<< g : Nat) = 2 ^ g := fun g => Nat.one_shiftLeft g
  have core : ∀ g, (n / 2 ^ g + (decide (2 ^ g < 2 * (n % 2 ^ g)) || (2 ^ g == 2 * (n % 2 ^ g) && n / 2 ^ g % 2 == 1)).toNat) = rne n g := by
    intro g
    unfold rne
    congr 1
    by_cases h1 : 2 ^ g < 2 * (n % 2 ^ g)
    · simp [h1]
    · by_cases h2 : 2 ^ g = 2 * (n % 2 ^ g)
      · by_cases h3 : n / 2 ^ g % 2 = 1
        · rw [if_pos (Or.inr ⟨h2, h3⟩)]
          have e2 : (2 ^ g == 2 * (n % 2 ^ g)) = true := by simpa using h2
          have e3 : (n / 2 ^ g % 2 == 1) = true := by simpa using h3
          rw [e2, e3]; simp
        · rw [if_neg (by rintro (h | ⟨_, h⟩); exact h1 h; exact h3 h)]
          have e3 : (n / 2 ^ g % 2 == 1) = false := by simpa using h3
          have e1 : decide (2 ^ g < 2 * (n % 2 ^ g)) = false := by simpa using h1
          rw [e3, e1]; simp
      · rw [if_neg (by rintro (h | ⟨h, _⟩); exact h1 h; exact h2 h)]
        have e1 : decide (2 ^ g < 2 * (n % 2 ^ g)) = false := by simpa using h1
        have e2 : (2 ^ g == 2 * (n % 2 ^ g)) = false := by simpa using h2
        rw [e1, e2]; simp
  unfold Toward.cut
  simp only [key]
  rw [core]
  by_cases h : d ≤ n.log2 + 2
  · rw [Nat.min_eq_left h]
  · have hm : min d (n.log2 + 2) = n.log2 + 2 := by omega
    rw [hm]
    have hn : n < 2 ^ (n.log2 + 1) := Nat.lt_log2_self
    have e2 : 2 ^ (n.log2 + 2) = 2 * 2 ^ (n.log2 + 1) := by rw [Nat.pow_succ, Nat.mul_comm]
    have hd : 2 ^ (n.log2 + 2) ≤ 2 ^ d := Nat.pow_le_pow_right (by omega) (by omega)
    rw [rne_small (by omega), rne_small (by omega)]

theorem rne_scale (n d j : Nat) : rne (n * 2 ^ j) (d + j) = rne n d := by
  unfold rne
  have hj : 0 < 2 ^ j := Nat.two_pow_pos j
  have e : 2 ^ (d + j) = 2 ^ d * 2 ^ j := Nat.pow_add 2 d j
  have e1 : n * 2 ^ j / 2 ^ (d + j) = n / 2 ^ d := by rw [e, Nat.mul_div_mul_right _ _ hj]
  have e2 : n * 2 ^ j % 2 ^ (d + j) = n % 2 ^ d * 2 ^ j := by rw [e, Nat.mul_mod_mul_right]
  rw [e1, e2, e]
  have i1 : 2 ^ d * 2 ^ j < 2 * (n % 2 ^ d * 2 ^ j) ↔ 2 ^ d < 2 * (n % 2 ^ d) := by
    rw [← Nat.mul_assoc]; exact Nat.mul_lt_mul_right hj
  have i2 : 2 ^ d * 2 ^ j = 2 * (n % 2 ^ d * 2 ^ j) ↔ 2 ^ d = 2 * (n % 2 ^ d) := by
    rw [← Nat.mul_assoc]; exact Nat.mul_left_inj (by omega)
  simp only [i1, i2]

/-- What lies strictly between two halves is rounded as the middle of them. -/
theorem rne_between (m k r j : Nat) (h0 : 0 < r) (h1 : r < 2 ^ k) (hj : 1 ≤ j) :
    rne (m * 2 ^ k + r) (k + j) = rne (2 * m + 1) (j + 1) := by
  obtain ⟨i, rfl⟩ : ∃ i, j = i + 1 := ⟨j - 1, by omega⟩
  unfold rne
  have hk : 0 < 2 ^ k := Nat.two_pow_pos k
  have ekj : 2 ^ (k + (i + 1)) = 2 ^ k * 2 ^ (i + 1) := Nat.pow_add ..
  have eh : 2 ^ (i + 1) = 2 * 2 ^ i := by rw [Nat.pow_succ, Nat.mul_comm]
  have eh2 : 2 ^ (i + 1 + 1) = 2 * 2 ^ (i + 1) := by rw [Nat.pow_succ, Nat.mul_comm]
  have d1 : (m * 2 ^ k + r) / 2 ^ k = m := by
    rw [Nat.mul_comm, Nat.mul_add_div hk, Nat.div_eq_of_lt h1, Nat.add_zero]
  have r1 : (m * 2 ^ k + r) % 2 ^ k = r := by
    rw [Nat.mul_comm, Nat.mul_add_mod, Nat.mod_eq_of_lt h1]
  have d2 : (2 * m + 1) / 2 = m := by omega
  have q1 : (m * 2 ^ k + r) / 2 ^ (k + (i + 1)) = m / 2 ^ (i + 1) := by
    rw [ekj, ← Nat.div_div_eq_div_mul, d1]
  have q2 : (2 * m + 1) / 2 ^ (i + 1 + 1) = m / 2 ^ (i + 1) := by
    rw [eh2, ← Nat.div_div_eq_div_mul, d2]
  have m1 : (m * 2 ^ k + r) % 2 ^ (k + (i + 1)) = m % 2 ^ (i + 1) * 2 ^ k + r := by
    rw [ekj, Nat.mod_mul, r1, d1, Nat.mul_comm, Nat.add_comm]
  have m2 : (2 * m + 1) % 2 ^ (i + 1 + 1) = 2 * (m % 2 ^ (i + 1)) + 1 := by
    rw [eh2, Nat.mod_mul, d2]; omega
  rw [q1, q2, m1, m2, ekj, eh2]
  have hq : m % 2 ^ (i + 1) < 2 ^ (i + 1) := Nat.mod_lt _ (Nat.two_pow_pos _)
  generalize m % 2 ^ (i + 1) = q at *
  rw [eh] at hq ⊢
  generalize 2 ^ i = h at *
  have a1 : 2 ^ k * (2 * h) < 2 * (q * 2 ^ k + r) ↔ h ≤ q := by
    have : 2 ^ k * (2 * h) = 2 * (h * 2 ^ k) := by rw [Nat.mul_left_comm, Nat.mul_comm (2 ^ k)]
    rw [this]
    constructor
    · intro hh
      by_cases hc : h ≤ q
      · exact hc
      · have : (q + 1) * 2 ^ k ≤ h * 2 ^ k := Nat.mul_le_mul_right _ (by omega)
        rw [Nat.succ_mul] at this
        omega
    · intro hh
      have : h * 2 ^ k ≤ q * 2 ^ k := Nat.mul_le_mul_right _ hh
      omega
  have a2 : 2 * (2 * h) < 2 * (2 * q + 1) ↔ h ≤ q := by omega
  have a3 : ¬ (2 ^ k * (2 * h) = 2 * (q * 2 ^ k + r)) := by
    have : 2 ^ k * (2 * h) = 2 * (h * 2 ^ k) := by rw [Nat.mul_left_comm, Nat.mul_comm (2 ^ k)]
    rw [this]
    intro hh
    by_cases hc : h ≤ q
    · have : h * 2 ^ k ≤ q * 2 ^ k := Nat.mul_le_mul_right _ hc
      omega
    · have : (q + 1) * 2 ^ k ≤ h * 2 ^ k := Nat.mul_le_mul_right _ (by omega)
      rw [Nat.succ_mul] at this
      omega
  have a4 : ¬ (2 * (2 * h) = 2 * (2 * q + 1)) := by omega
  simp only [a1, a2, a3, a4, false_and, or_false]

/-- The place of the last digit that is kept. -/
def lastP (mag : Nat) (place : Int) : Int := max (place + mag.log2 - 52) (-1074)

/-- The rung of 'mag * 2 ^ place'. -/
def rung (mag : Nat) (place : Int) : Nat :=
  (lastP mag place + 1074).toNat * 2 ^ 52 + rne (mag * 2 ^ (place - lastP mag place).toNat) (lastP mag place - place).toNat

theorem least_double : double.leastPlace = -1074 := by decide
theorem inf_double : double.infRung = 9218868437227405312 := by decide
theorem binade_double : double.binade = 2 ^ 52 := rfl

theorem nearest_eq (neg : Bool) (mag : Nat) (place : Int) (h : mag ≠ 0) :
    double.nearest neg mag place = double.word neg (min (rung mag place) 9218868437227405312) := by
  unfold Format.nearest
  rw [if_neg h]
  simp only [least_double, inf_double, binade_double, cut_even, Nat.shiftLeft_eq]
  unfold rung lastP
  rfl

theorem log2_scale (m k : Nat) (h : m ≠ 0) : (m * 2 ^ k).log2 = m.log2 + k := by
  have hk : 0 < 2 ^ k := Nat.two_pow_pos k
  have h0 : m * 2 ^ k ≠ 0 := Nat.mul_ne_zero h (by omega)
  rw [Nat.log2_eq_iff h0, Nat.add_right_comm, Nat.pow_add, Nat.pow_add _ _ k]
  have a := Nat.log2_self_le h
  have b : m < 2 ^ (m.log2 + 1) := Nat.lt_log2_self
  exact ⟨Nat.mul_le_mul_right _ a, Nat.mul_lt_mul_of_pos_right b hk⟩

theorem rung_scale (m k : Nat) (p : Int) (h : m ≠ 0) : rung (m * 2 ^ k) (p - k) = rung m p := by
  have hl : lastP (m * 2 ^ k) (p - k) = lastP m p := by
    unfold lastP; rw [log2_scale m k h]; congr 1; omega
  unfold rung
  rw [hl]
  generalize lastP m p = L
  congr 1
  by_cases h1 : (k : Int) ≤ p - L
  · have e1 : (L - (p - k)).toNat = 0 := by omega
    have e2 : (L - p).toNat = 0 := by omega
    have e3 : (p - L).toNat = k + (p - k - L).toNat := by omega
    rw [e1, e2, rne_zero, rne_zero, e3, Nat.pow_add, Nat.mul_assoc]
  · by_cases h2 : 0 ≤ p - L
    · have e1 : (p - k - L).toNat = 0 := by omega
      have e2 : (L - p).toNat = 0 := by omega
      have e3 : (L - (p - k)).toNat = k - (p - L).toNat := by omega
      have e4 : 2 ^ k = 2 ^ (p - L).toNat * 2 ^ (k - (p - L).toNat) := by
        rw [← Nat.pow_add]; congr 1; omega
      rw [e1, e2, e3, Nat.pow_zero, Nat.mul_one, e4, ← Nat.mul_assoc]
      have := rne_scale (m * 2 ^ (p - L).toNat) 0 (k - (p - L).toNat)
      rw [Nat.zero_add] at this
      exact this
    · have e1 : (p - k - L).toNat = 0 := by omega
      have e2 : (p - L).toNat = 0 := by omega
      have e3 : (L - (p - k)).toNat = (L - p).toNat + k := by omega
      rw [e1, e2, e3, Nat.pow_zero, Nat.mul_one, Nat.mul_one, rne_scale]

theorem log2_between (m k r : Nat) (h : m ≠ 0) (h1 : r < 2 ^ k) : (m * 2 ^ k + r).log2 = m.log2 + k := by
  have hk : 0 < 2 ^ k := Nat.two_pow_pos k
  have h0 : m * 2 ^ k + r ≠ 0 := by
    have := Nat.mul_ne_zero h (show 2 ^ k ≠ 0 by omega)
    omega
  rw [Nat.log2_eq_iff h0, Nat.add_right_comm, Nat.pow_add, Nat.pow_add _ _ k]
  have a := Nat.log2_self_le h
  have b : m < 2 ^ (m.log2 + 1) := Nat.lt_log2_self
  have a' := Nat.mul_le_mul_right (2 ^ k) a
  have b' : (m + 1) * 2 ^ k ≤ 2 ^ (m.log2 + 1) * 2 ^ k := Nat.mul_le_mul_right _ b
  rw [Nat.succ_mul] at b'
  omega

/-- A number strictly between two neighbours, where the last digit that is kept is greater than the neighbours' step, is rounded as the middle of them. -/
theorem rung_btw (m k r : Nat) (p : Int) (hm : m ≠ 0) (hL : p + 1 ≤ lastP m p) (h0 : 0 < r) (h1 : r < 2 ^ k) :
    rung (m * 2 ^ k + r) (p - k) = rung (2 * m + 1) (p - 1) := by
  have l1 : (m * 2 ^ k + r).log2 = m.log2 + k := log2_between m k r hm h1
  have l2 : (2 * m + 1).log2 = m.log2 + 1 := by
    have := log2_between m 1 1 hm (by omega)
    rw [← this]; congr 1; omega
  have e1 : lastP (m * 2 ^ k + r) (p - k) = lastP m p := by unfold lastP; rw [l1]; congr 1; omega
  have e2 : lastP (2 * m + 1) (p - 1) = lastP m p := by unfold lastP; rw [l2]; congr 1; omega
  unfold rung
  rw [e1, e2]
  generalize lastP m p = L at *
  have t1 : (p - k - L).toNat = 0 := by omega
  have t2 : (p - 1 - L).toNat = 0 := by omega
  have t3 : (L - (p - k)).toNat = k + (L - p).toNat := by omega
  have t4 : (L - (p - 1)).toNat = (L - p).toNat + 1 := by omega
  rw [t1, t2, t3, t4, Nat.pow_zero, Nat.mul_one, Nat.mul_one]
  congr 1
  exact rne_between m k r _ h0 h1 (by omega)

theorem lastP_53 (m : Nat) (p : Int) (h : 2 ^ 53 ≤ m) : p + 1 ≤ lastP m p := by
  have hm : m ≠ 0 := by omega
  have hl : 53 ≤ m.log2 := by rw [Nat.le_log2 hm]; exact h
  unfold lastP; omega

/-- A number strictly between two neighbours of 54 digits or more is rounded as the middle of them. -/
theorem rung_between (m k r : Nat) (p : Int) (h : 2 ^ 53 ≤ m) (h0 : 0 < r) (h1 : r < 2 ^ k) :
    rung (m * 2 ^ k + r) (p - k) = rung (2 * m + 1) (p - 1) :=
  rung_btw m k r p (by omega) (lastP_53 m p h) h0 h1

theorem rung_zero (p : Int) (h : p ≤ -1022) : rung 0 p = 0 := by
  have hl : lastP 0 p = -1074 := by unfold lastP; simp; omega
  unfold rung
  rw [hl]
  simp [rne]

/-- What is told by its whole part, its half and its rest: m, and (h) half of one, and (r) something less. -/
def trio (m : Nat) (h r : Bool) : Nat := 4 * m + 2 * h.toNat + r.toNat

theorem trio_step (m : Nat) (e : Int) (h r : Bool) (hm : m ≠ 0) (hL : e + 1 ≤ lastP m e) :
    rung (trio m h r) (e - 2) = rung (trio (m / 2) (m % 2 == 1) (r || h)) (e + 1 - 2) := by
  have ev : trio (m / 2) (m % 2 == 1) (r || h) = 2 * m + (r || h).toNat := by
    unfold trio
    have : m % 2 = 0 ∨ m % 2 = 1 := by omega
    rcases this with h2 | h2 <;> simp [h2] <;> omega
  rw [ev]
  have ep : e + 1 - 2 = e - 1 := by omega
  rw [ep]
  by_cases hx : h = false ∧ r = false
  · obtain ⟨rfl, rfl⟩ := hx
    have a := rung_scale m 2 e hm
    have b := rung_scale m 1 e hm
    simp only [trio, Bool.toNat_false, Bool.or_self, Nat.mul_zero, Nat.add_zero]
    have e1 : 4 * m = m * 2 ^ 2 := by omega
    have e2 : 2 * m = m * 2 ^ 1 := by omega
    rw [e1, e2]
    exact a.trans b.symm
  · have hr : (r || h) = true := by cases h <;> cases r <;> simp_all
    rw [hr]
    have hb := rung_btw m 2 (2 * h.toNat + r.toNat) e hm hL (by cases h <;> cases r <;> simp_all) (by cases h <;> cases r <;> simp)
    have e1 : trio m h r = m * 2 ^ 2 + (2 * h.toNat + r.toNat) := by unfold trio; omega
    rw [e1]
    exact hb

theorem trio_tiny (m : Nat) (e : Int) (h r : Bool) (hm : m ≤ 1) (he : e ≤ -1076) : rung (trio m h r) (e - 2) = 0 := by
  have hv : trio m h r < 8 := by unfold trio; cases h <;> cases r <;> simp <;> omega
  by_cases h0 : trio m h r = 0
  · rw [h0]; exact rung_zero _ (by omega)
  · have hlog : (trio m h r).log2 < 3 := (Nat.log2_lt h0).2 hv
    have hl : lastP (trio m h r) (e - 2) = -1074 := by unfold lastP; omega
    unfold rung
    rw [hl]
    have t1 : ((-1074 : Int) + 1074).toNat = 0 := by omega
    have t2 : (e - 2 - (-1074)).toNat = 0 := by omega
    rw [t1, t2]
    have hd : 2 ^ 4 ≤ 2 ^ ((-1074 : Int) - (e - 2)).toNat := Nat.pow_le_pow_right (by omega) (by omega)
    rw [rne_small (by omega)]

theorem trio_end (m : Nat) (e : Int) (h r : Bool) (h1 : m < 2 ^ 53) (h2 : -1074 ≤ e) (h3 : 2 ^ 52 ≤ m ∨ e = -1074) :
    rung (trio m h r) (e - 2) = (e + 1074).toNat * 2 ^ 52 + (m + (h && (r || m % 2 == 1)).toNat) := by
  by_cases h0 : trio m h r = 0
  · have hm0 : m = 0 := by unfold trio at h0; omega
    have hh : h = false := by unfold trio at h0; cases h <;> simp_all
    subst hm0
    subst hh
    have he : e = -1074 := by omega
    rw [h0, he, rung_zero _ (by omega)]
    simp
  · have hl : lastP (trio m h r) (e - 2) = e := by
      unfold lastP
      rcases h3 with h3 | h3
      · have hlo : 54 ≤ (trio m h r).log2 := by rw [Nat.le_log2 h0]; unfold trio; omega
        have hhi : (trio m h r).log2 < 55 := (Nat.log2_lt h0).2 (by unfold trio; cases h <;> cases r <;> simp <;> omega)
        omega
      · have hhi : (trio m h r).log2 < 55 := (Nat.log2_lt h0).2 (by unfold trio; cases h <;> cases r <;> simp <;> omega)
        omega
    unfold rung
    rw [hl]
    have t2 : (e - 2 - e).toNat = 0 := by omega
    have t3 : (e - (e - 2)).toNat = 2 := by omega
    rw [t2, t3, Nat.pow_zero, Nat.mul_one]
    congr 1
    unfold rne trio
    have hm : m % 2 = 0 ∨ m % 2 = 1 := by omega
    have d1 : (4 * m + 2 * h.toNat + r.toNat) / 2 ^ 2 = m := by cases h <;> cases r <;> simp <;> omega
    have d2 : (4 * m + 2 * h.toNat + r.toNat) % 2 ^ 2 = 2 * h.toNat + r.toNat := by cases h <;> cases r <;> simp <;> omega
    rw [d1, d2]
    rcases hm with hm | hm <;> cases h <;> cases r <;> simp [hm]

end Go.Proofs.Ytlmiobfnkdkkjaa.Fl
