/- Words are ordered as their numbers are. -/
import Derived.Test.YtlmiobfnkdkkjaaFlC
namespace Go.Proofs.Ytlmiobfnkdkkjaa.Fl
open Ieee
set_option linter.unusedVariables false
set_option linter.unusedSimpArgs false

theorem rne_mono {n n' : Nat} (d : Nat) (h : n ≤ n') : rne n d ≤ rne n' d := by
  unfold rne
  have hp : 0 < 2 ^ d := Nat.two_pow_pos d
  have hq : n / 2 ^ d ≤ n' / 2 ^ d := Nat.div_le_div_right h
  have e1 : n = n / 2 ^ d * 2 ^ d + n % 2 ^ d := (Nat.div_add_mod' n (2 ^ d)).symm
  have e2 : n' = n' / 2 ^ d * 2 ^ d + n' % 2 ^ d := (Nat.div_add_mod' n' (2 ^ d)).symm
  by_cases c : n / 2 ^ d = n' / 2 ^ d
  · rw [c] at e1 ⊢
    have hr : n % 2 ^ d ≤ n' % 2 ^ d := by omega
    generalize n % 2 ^ d = r at *
    generalize n' % 2 ^ d = r' at *
    generalize n' / 2 ^ d = q at *
    generalize 2 ^ d = D at *
    by_cases h1 : D < 2 * r ∨ D = 2 * r ∧ q % 2 = 1
    · have h2 : D < 2 * r' ∨ D = 2 * r' ∧ q % 2 = 1 := by omega
      rw [if_pos h1, if_pos h2]; omega
    · rw [if_neg h1]; omega
  · have : n / 2 ^ d + 1 ≤ n' / 2 ^ d := by omega
    have a : (if 2 ^ d < 2 * (n % 2 ^ d) ∨ 2 ^ d = 2 * (n % 2 ^ d) ∧ n / 2 ^ d % 2 = 1 then 1 else 0) ≤ 1 := by split <;> omega
    omega

theorem log2_mono {m m' : Nat} (h0 : m ≠ 0) (h : m ≤ m') : m.log2 ≤ m'.log2 := by
  rw [Nat.le_log2 (by omega)]
  exact Nat.le_trans (Nat.log2_self_le h0) h

/-- The greater number has the greater rung. -/
theorem rung_mono {m m' : Nat} (p : Int) (h0 : m ≠ 0) (h : m ≤ m') : rung m p ≤ rung m' p := by
  have hl := log2_mono h0 h
  have hL : lastP m p ≤ lastP m' p := by unfold lastP; omega
  by_cases c : lastP m p = lastP m' p
  · unfold rung
    rw [c]
    have := rne_mono (lastP m' p - p).toNat (Nat.mul_le_mul_right (2 ^ (p - lastP m' p).toNat) h)
    omega
  · have h0' : m' ≠ 0 := by omega
    have hLm : -1074 ≤ lastP m p := by unfold lastP; omega
    have hLe : lastP m' p = p + m'.log2 - 52 := by unfold lastP at c hL ⊢; omega
    have hLg : p + m.log2 - 52 ≤ lastP m p := by unfold lastP; omega
    -- the lesser one's digits
    have up : rne (m * 2 ^ (p - lastP m p).toNat) (lastP m p - p).toNat ≤ 2 ^ 53 := by
      generalize lastP m p = L at *
      have hm : m < 2 ^ (m.log2 + 1) := Nat.lt_log2_self
      have hx : m * 2 ^ (p - L).toNat ≤ 2 ^ (53 + (L - p).toNat) := by
        have h1 := Nat.mul_le_mul_right (2 ^ (p - L).toNat) (Nat.le_of_lt hm)
        rw [← Nat.pow_add] at h1
        exact Nat.le_trans h1 (Nat.pow_le_pow_right (by omega) (by omega))
      have h2 := rne_mono (L - p).toNat hx
      have h3 := rne_scale (2 ^ 53) 0 (L - p).toNat
      rw [Nat.zero_add, rne_zero, ← Nat.pow_add] at h3
      omega
    have lo : 2 ^ 52 ≤ rne (m' * 2 ^ (p - lastP m' p).toNat) (lastP m' p - p).toNat := by
      rw [hLe]
      generalize hK : p + (m'.log2 : Int) - 52 = L at *
      have hm : 2 ^ m'.log2 ≤ m' := Nat.log2_self_le h0'
      have hx : 2 ^ (52 + (L - p).toNat) ≤ m' * 2 ^ (p - L).toNat := by
        have h1 := Nat.mul_le_mul_right (2 ^ (p - L).toNat) hm
        rw [← Nat.pow_add] at h1
        exact Nat.le_trans (Nat.pow_le_pow_right (by omega) (by omega)) h1
      have h2 := rne_mono (L - p).toNat hx
      have h3 := rne_scale (2 ^ 52) 0 (L - p).toNat
      rw [Nat.zero_add, rne_zero, ← Nat.pow_add] at h3
      omega
    unfold rung
    omega

/-- What a word has below its sign: its place among the magnitudes. -/
def magW (a : Nat) : Nat := a % 9223372036854775808
def keyW (a : Nat) : Int := if a / 9223372036854775808 % 2 == 1 then -(magW a : Int) else (magW a : Int)

theorem signed_val (s : Bool) (m u : Nat) : signed s m u = (if s then -((m * 2 ^ u : Nat) : Int) else ((m * 2 ^ u : Nat) : Int)) := by
  unfold signed; rw [Nat.shiftLeft_eq]

/-- Magnitudes are ordered as their words. -/
theorem mag_lt {a b : Nat} {s t : Bool} {m n : Nat} {p q base : Int} (ha : double.read a = .number s m p) (hb : double.read b = .number t n q) (h1 : base ≤ p) (h2 : base ≤ q) :
    (magW a < magW b ↔ m * 2 ^ (p - base).toNat < n * 2 ^ (q - base).toNat) := by
  have one : ∀ {a b : Nat} {s t : Bool} {m n : Nat} {p q : Int}, double.read a = .number s m p → double.read b = .number t n q → base ≤ p → base ≤ q → m * 2 ^ (p - base).toNat ≤ n * 2 ^ (q - base).toNat → magW a ≤ magW b := by
    intro a b s t m n p q ha hb h1 h2 h
    by_cases hm : m = 0
    · subst hm
      obtain ⟨g1, g2, g3, g4, g5, g6⟩ := read_number ha
      unfold magW; omega
    · have hn : n ≠ 0 := by
        rintro rfl
        have := Nat.mul_ne_zero hm (show 2 ^ (p - base).toNat ≠ 0 by have := Nat.two_pow_pos (p - base).toNat; omega)
        omega
      have e1 := rung_scale m (p - base).toNat p hm
      have e2 := rung_scale n (q - base).toNat q hn
      have f1 : p - ((p - base).toNat : Int) = base := by omega
      have f2 : q - ((q - base).toNat : Int) = base := by omega
      rw [f1] at e1
      rw [f2] at e2
      have := rung_mono base (Nat.mul_ne_zero hm (show 2 ^ (p - base).toNat ≠ 0 by have := Nat.two_pow_pos (p - base).toNat; omega)) h
      rw [e1, e2] at this
      unfold magW
      rw [read_rung ha hm, read_rung hb hn]
      exact this
  constructor
  · intro h
    by_cases c : m * 2 ^ (p - base).toNat < n * 2 ^ (q - base).toNat
    · exact c
    · have := one hb ha h2 h1 (by omega); omega
  · intro h
    by_cases c : magW a < magW b
    · exact c
    · exfalso
      by_cases ce : magW a = magW b
      · obtain ⟨g1, g2, g3, g4, g5, g6⟩ := read_number ha
        obtain ⟨k1, k2, k3, k4, k5, k6⟩ := read_number hb
        unfold magW at ce
        have hpq : p = q := by omega
        have hmn : m = n := by subst hpq; omega
        subst hpq; subst hmn
        omega
      · have := one ha hb h1 h2 (by omega); omega

theorem read_inf {a : Nat} {s : Bool} (h : double.read a = .infinity s) : magW a = 9218868437227405312 ∧ s = (a / 9223372036854775808 % 2 == 1) := by
  rw [read_eq] at h
  unfold magW
  by_cases c1 : a % 9223372036854775808 < 4503599627370496
  · rw [if_pos c1] at h; cases h
  · rw [if_neg c1] at h
    by_cases c2 : a % 9223372036854775808 < 9218868437227405312
    · rw [if_pos c2] at h; cases h
    · rw [if_neg c2] at h
      by_cases c3 : a % 9223372036854775808 = 9218868437227405312
      · rw [if_pos c3] at h; injection h with h; exact ⟨c3, h.symm⟩
      · rw [if_neg c3] at h; cases h
theorem read_low {a : Nat} {s : Bool} {m : Nat} {p : Int} (h : double.read a = .number s m p) : magW a < 9218868437227405312 := by
  obtain ⟨g1, g2, g3, g4, g5, g6⟩ := read_number h
  unfold magW; omega

/-- How two words that are no NaN's stand to each other. -/
theorem order_key {a b : Nat} (ha : (double.read a).isNaN = false) (hb : (double.read b).isNaN = false) : double.order a b = some (compare (keyW a) (keyW b)) := by
  have cmp : ∀ {x y u v : Int}, (x < y ↔ u < v) → (y < x ↔ v < u) → compare x y = compare u v := by
    intro x y u v h1 h2
    by_cases c1 : x < y
    · rw [Int.compare_eq_lt.2 c1, Int.compare_eq_lt.2 (h1.1 c1)]
    · by_cases c2 : y < x
      · rw [Int.compare_eq_gt.2 c2, Int.compare_eq_gt.2 (h2.1 c2)]
      · have c3 : ¬ u < v := fun h => c1 (h1.2 h)
        have c4 : ¬ v < u := fun h => c2 (h2.2 h)
        rw [Int.compare_eq_eq.2 (by omega), Int.compare_eq_eq.2 (by omega)]
  unfold Format.order
  cases hra : double.read a with
  | nan s f => rw [hra] at ha; cases ha
  | infinity s =>
    obtain ⟨ma, sa⟩ := read_inf hra
    cases hrb : double.read b with
    | nan t f => rw [hrb] at hb; cases hb
    | infinity t =>
      obtain ⟨mb, sb⟩ := read_inf hrb
      unfold keyW
      rw [← sa, ← sb, ma, mb]
      cases s <;> cases t <;> decide
    | number t n q =>
      have lb := read_low hrb
      unfold keyW
      rw [← sa, ma]
      cases s
      · simp only [Datum.order, Bool.false_eq_true, if_false]
        congr 1
        symm
        rw [Int.compare_eq_gt]
        split <;> omega
      · simp only [Datum.order, if_true]
        congr 1
        symm
        rw [Int.compare_eq_lt]
        split <;> omega
  | number s m p =>
    have la := read_low hra
    cases hrb : double.read b with
    | nan t f => rw [hrb] at hb; cases hb
    | infinity t =>
      obtain ⟨mb, sb⟩ := read_inf hrb
      unfold keyW
      rw [← sb, mb]
      cases t
      · simp only [Datum.order, Bool.false_eq_true, if_false]
        congr 1
        symm
        rw [Int.compare_eq_lt]
        split <;> omega
      · simp only [Datum.order, if_true]
        congr 1
        symm
        rw [Int.compare_eq_gt]
        split <;> omega
    | number t n q =>
      obtain ⟨g1, g2, g3, g4, g5, g6⟩ := read_number hra
      obtain ⟨k1, k2, k3, k4, k5, k6⟩ := read_number hrb
      simp only [Datum.order]
      congr 1
      have A := mag_lt (base := min p q) hra hrb (by omega) (by omega)
      have B := mag_lt (base := min p q) hrb hra (by omega) (by omega)
      unfold keyW
      rw [← g5, ← k5, signed_val, signed_val]
      have zero : ∀ {a m : Nat} {p : Int} (u : Nat), (2 ^ 52 ≤ m ∨ p = -1074) → -1074 ≤ p → a % 9223372036854775808 = (p + 1074).toNat * 2 ^ 52 + m → (m * 2 ^ u = 0 ↔ magW a = 0) := by
        intro a m p u h4 h2 h6
        have hu := Nat.two_pow_pos u
        unfold magW
        constructor
        · intro h
          have : m = 0 := by
            rcases Nat.mul_eq_zero.1 h with h | h
            · exact h
            · omega
          omega
        · intro h
          have : m = 0 := by omega
          rw [this, Nat.zero_mul]
      have hM := zero (p - min p q).toNat g4 g2 g6
      have hN := zero (q - min p q).toNat k4 k2 k6
      generalize m * 2 ^ (p - min p q).toNat = M at *
      generalize n * 2 ^ (q - min p q).toNat = N at *
      generalize magW a = X at *
      generalize magW b = Y at *
      cases s <;> cases t <;> simp only [Bool.false_eq_true, if_false, if_true] <;> exact cmp (by omega) (by omega)

end Go.Proofs.Ytlmiobfnkdkkjaa.Fl
