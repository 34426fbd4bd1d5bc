/- Words by their values: each finite double is a whole number of the least steps. -/
import Derived.Test.YtlmiobfnkdkkjaaFlI
import Derived.Laws.BitsAllLaws
import Derived.WalkKit
import Derived.Laws.BitsLemmas
namespace Go.Proofs.Ytlmiobfnkdkkjaa.Fl
open Ieee Go.RowKit
set_option linter.unusedVariables false
set_option linter.unusedSimpArgs false

/-- How many least steps a number is. -/
def stepsOf (m : Nat) (p : Int) : Nat := m * 2 ^ (p + 1074).toNat
/-- The word of so many least steps. -/
def ofV (s : Bool) (N : Nat) : Nat := double.nearest s N (-1074)

theorem nearest_steps (s : Bool) (m : Nat) (p : Int) (hp : -1074 ≤ p) : double.nearest s m p = ofV s (stepsOf m p) := by
  unfold ofV stepsOf
  by_cases h : m = 0
  · subst h; rw [Nat.zero_mul]; unfold Format.nearest; rw [if_pos rfl, if_pos rfl]
  · have hk := Nat.mul_ne_zero h (show 2 ^ (p + 1074).toNat ≠ 0 by have := Nat.two_pow_pos (p + 1074).toNat; omega)
    rw [nearest_eq s m p h, nearest_eq s _ _ hk]
    have := rung_scale m (p + 1074).toNat p h
    have e : p - ((p + 1074).toNat : Int) = -1074 := by omega
    rw [e] at this
    rw [this]

theorem ofV_zero (s : Bool) : ofV s 0 = double.word s 0 := by unfold ofV Format.nearest; rw [if_pos rfl]
theorem read_zero (s : Bool) : double.read (double.word s 0) = .number s 0 (-1074) := by
  have := read_word s (m := 0) (p := -1074) (by omega) (by omega) (Or.inr rfl) (by omega)
  simpa using this

/-- From here on a number is too great. -/
def top : Nat := 2098
/-- So many steps have a word of their own. -/
def Rep (N : Nat) : Prop := ∃ M e, N = M * 2 ^ e ∧ M < 2 ^ 53 ∧ N < 2 ^ top

theorem pow_log {M e L : Nat} (hM : M ≠ 0) (h : (M * 2 ^ e).log2 = L) (h53 : M < 2 ^ 53) (hL : 52 ≤ L) : ∃ M', M * 2 ^ e = M' * 2 ^ (L - 52) ∧ 2 ^ 52 ≤ M' ∧ M' < 2 ^ 53 := by
  have hl : M.log2 < 53 := (Nat.log2_lt hM).2 h53
  have he : M.log2 + e = L := by rw [← h, log2_scale M e hM]
  refine ⟨M * 2 ^ (e - (L - 52)), ?_, ?_, ?_⟩
  · rw [Nat.mul_assoc, ← Nat.pow_add]; congr 2; omega
  · have h0 : M * 2 ^ (e - (L - 52)) ≠ 0 := Nat.mul_ne_zero hM (by have := Nat.two_pow_pos (e - (L - 52)); omega)
    rw [← Nat.le_log2 h0, log2_scale _ _ hM]; omega
  · have h0 : M * 2 ^ (e - (L - 52)) ≠ 0 := Nat.mul_ne_zero hM (by have := Nat.two_pow_pos (e - (L - 52)); omega)
    rw [← Nat.log2_lt h0, log2_scale _ _ hM]; omega

theorem word_mod (s : Bool) {r : Nat} (h : r < 9223372036854775808) : double.word s r % 9223372036854775808 = r := by
  unfold Format.word; rw [sw_dbl]; cases s <;> simp <;> omega

theorem read_ofV_aux (s : Bool) {N M' j : Nat} (h0 : N ≠ 0) (h1 : N = M' * 2 ^ j) (h2 : 2 ^ 52 ≤ M') (h3 : M' < 2 ^ 53) (hjb : j ≤ 2045) : ∃ m p, double.read (ofV s N) = .number s m p ∧ stepsOf m p = N := by
  refine ⟨M', (j : Int) - 1074, ?_, ?_⟩
  · have hr : rung N (-1074) = rung M' ((j : Int) - 1074) := by
      have := rung_scale M' j ((j : Int) - 1074) (by omega)
      rw [← this, ← h1]
      congr 1
      omega
    have hP : ((j : Int) - 1074 + 1074).toNat = j := by omega
    unfold ofV
    rw [nearest_eq s N _ h0, hr, rung_own (by omega) h3 (by omega) (Or.inl h2)]
    clear hr h1 h0
    have hm : min (((j : Int) - 1074 + 1074).toNat * 2 ^ 52 + M') 9218868437227405312 = ((j : Int) - 1074 + 1074).toNat * 2 ^ 52 + M' := by
      rw [hP]; omega
    rw [hm]
    exact read_word s h3 (by omega) (Or.inl h2) (by omega)
  · unfold stepsOf
    have hP : ((j : Int) - 1074 + 1074).toNat = j := by omega
    rw [hP, ← h1]

theorem read_ofV (s : Bool) {N : Nat} (h : Rep N) : ∃ m p, double.read (ofV s N) = .number s m p ∧ stepsOf m p = N := by
  obtain ⟨M, e, hN, hM, hlt⟩ := h
  have hL2 : N ≠ 0 → N.log2 < top := fun h0 => (Nat.log2_lt h0).2 hlt
  unfold top at hL2
  clear hlt
  by_cases h0 : N = 0
  · subst h0
    rw [ofV_zero, read_zero]
    exact ⟨0, -1074, rfl, by unfold stepsOf; simp⟩
  · have hM0 : M ≠ 0 := by rintro rfl; rw [Nat.zero_mul] at hN; exact h0 hN
    by_cases c : N < 2 ^ 53
    · refine ⟨N, -1074, ?_, by unfold stepsOf; simp⟩
      unfold ofV
      rw [nearest_eq s N _ h0, rung_own h0 c (by omega) (Or.inr rfl)]
      have hm : min (((-1074 : Int) + 1074).toNat * 2 ^ 52 + N) 9218868437227405312 = ((-1074 : Int) + 1074).toNat * 2 ^ 52 + N := by omega
      rw [hm]
      exact read_word s c (by omega) (Or.inr rfl) (by omega)
    · have hL : 53 ≤ N.log2 := by rw [Nat.le_log2 h0]; omega
      have hL2 := hL2 h0
      obtain ⟨M', h1, h2, h3⟩ := pow_log (e := e) (L := N.log2) hM0 (by rw [← hN]) hM (by omega)
      rw [← hN] at h1
      obtain ⟨j, hj⟩ : ∃ j, j = N.log2 - 52 := ⟨_, rfl⟩
      have hjb : j ≤ 2045 := by omega
      rw [← hj] at h1
      clear hN hM hM0 hL hL2 c hj
      exact read_ofV_aux s h0 h1 h2 h3 hjb

theorem rep_read {a : Nat} {s : Bool} {m : Nat} {p : Int} (h : double.read a = .number s m p) : Rep (stepsOf m p) := by
  obtain ⟨h1, h2, h3, h4, h5, h6⟩ := read_number h
  refine ⟨m, (p + 1074).toNat, rfl, h1, ?_⟩
  unfold stepsOf
  have e : ∀ j : Nat, j ≤ 2045 → m * 2 ^ j < 2 ^ top := by
    intro j hj
    have h8 : m * 2 ^ j < 2 ^ 53 * 2 ^ j := Nat.mul_lt_mul_of_pos_right h1 (Nat.two_pow_pos _)
    have h9 : 2 ^ 53 * 2 ^ j ≤ 2 ^ top := by rw [← Nat.pow_add]; exact Nat.pow_le_pow_right (by decide) (by unfold top; omega)
    exact Nat.lt_of_lt_of_le h8 h9
  exact e _ (by omega)

/-- A finite word is the word of its steps. -/
theorem ofV_read {a : Nat} {s : Bool} {m : Nat} {p : Int} (h : double.read a = .number s m p) (ha : a < 2 ^ 64) : ofV s (stepsOf m p) = a := by
  obtain ⟨h1, h2, h3, h4, h5, h6⟩ := read_number h
  rw [← nearest_steps s m p h2]
  have hr : a % 9223372036854775808 < 9218868437227405312 := read_low h
  have hw : double.word s (a % 9223372036854775808) = a := by
    unfold Format.word
    rw [sw_dbl, h5]
    by_cases c : a < 9223372036854775808
    · have : a / 9223372036854775808 % 2 = 0 := by omega
      rw [this]; simp; omega
    · have : a / 9223372036854775808 % 2 = 1 := by omega
      rw [this]; simp; omega
  by_cases h0 : m = 0
  · subst h0
    unfold Format.nearest
    rw [if_pos rfl]
    have : a % 9223372036854775808 = 0 := by omega
    rw [← hw, this]
  · rw [nearest_eq s m p h0, ← read_rung h h0]
    have : min (a % 9223372036854775808) 9218868437227405312 = a % 9223372036854775808 := by omega
    rw [this, hw]

/-- Words not below 0 stand as their steps do. -/
theorem order_steps {a b : Nat} {m n : Nat} {p q : Int} (ha : double.read a = .number false m p) (hb : double.read b = .number false n q) :
    double.order a b = some (compare (stepsOf m p) (stepsOf n q)) := by
  obtain ⟨h1, h2, h3, h4, h5, h6⟩ := read_number ha
  obtain ⟨k1, k2, k3, k4, k5, k6⟩ := read_number hb
  have A := mag_lt (base := -1074) ha hb (by omega) (by omega)
  have B := mag_lt (base := -1074) hb ha (by omega) (by omega)
  have e1 : ∀ x : Int, (x - -1074).toNat = (x + 1074).toNat := fun x => by rw [Int.sub_neg]
  rw [e1, e1] at A B
  rw [order_key (by rw [ha]; rfl) (by rw [hb]; rfl)]
  have ka : keyW a = (magW a : Int) := by unfold keyW; rw [← h5]; rfl
  have kb : keyW b = (magW b : Int) := by unfold keyW; rw [← k5]; rfl
  rw [ka, kb]
  congr 1
  unfold stepsOf
  generalize m * 2 ^ (p + 1074).toNat = X at *
  generalize n * 2 ^ (q + 1074).toNat = Y at *
  by_cases c1 : magW a < magW b
  · rw [Int.compare_eq_lt.2 (by omega), Nat.compare_eq_lt.2 (A.1 c1)]
  · by_cases c2 : magW b < magW a
    · rw [Int.compare_eq_gt.2 (by omega), Nat.compare_eq_gt.2 (B.1 c2)]
    · have c3 : ¬ X < Y := fun h => c1 (A.2 h)
      have c4 : ¬ Y < X := fun h => c2 (B.2 h)
      rw [Int.compare_eq_eq.2 (by omega), Nat.compare_eq_eq.2 (by omega)]

/-- A difference that isn't below 0, by steps. -/
theorem sub_steps {a b : Nat} {m n : Nat} {p q : Int} (ha : double.read a = .number false m p) (hb : double.read b = .number false n q) (h : stepsOf n q ≤ stepsOf m p) :
    double.sub a b = some (ofV false (stepsOf m p - stepsOf n q)) := by
  obtain ⟨h1, h2, h3, h4, h5, h6⟩ := read_number ha
  obtain ⟨k1, k2, k3, k4, k5, k6⟩ := read_number hb
  unfold Format.sub
  rw [ha, hb]
  simp only [Datum.opposite, Datum.sum, Option.map_some, Format.write]
  obtain ⟨base, hbase⟩ : ∃ base, base = min p q := ⟨_, rfl⟩
  rw [← hbase]
  have sc : ∀ (m : Nat) (p : Int), base ≤ p → -1074 ≤ base → stepsOf m p = (m * 2 ^ (p - base).toNat) * 2 ^ (base + 1074).toNat := by
    intro m p h1 h2
    unfold stepsOf
    rw [Nat.mul_assoc, ← Nat.pow_add]
    congr 2
    omega
  rw [sc m p (by omega) (by omega), sc n q (by omega) (by omega)] at h ⊢
  have hp := Nat.two_pow_pos (base + 1074).toNat
  have hle : n * 2 ^ (q - base).toNat ≤ m * 2 ^ (p - base).toNat := Nat.le_of_mul_le_mul_right h hp
  rw [signed_val, signed_val]
  simp only [Bool.false_eq_true, if_false, Bool.not_false, if_true, Bool.false_and]
  generalize m * 2 ^ (p - base).toNat = X at *
  generalize n * 2 ^ (q - base).toNat = Y at *
  have hs : (if ((X : Int) + -(Y : Int)) = 0 then false else decide (((X : Int) + -(Y : Int)) < 0)) = false := by
    split
    · rfl
    · simp; omega
  rw [hs]
  have hn : ((X : Int) + -(Y : Int)).natAbs = X - Y := by omega
  rw [hn, nearest_steps _ _ _ (by omega)]
  congr 2
  unfold stepsOf
  rw [Nat.sub_mul]

/-! ### Bits -/
theorem bits_abs (x : Nat) (h : x < 2 ^ 64) : Go.bits .andNot .u64 (x : Int) 9223372036854775808 = ((x % 9223372036854775808 : Nat) : Int) := by
  have := u64_andNot_nat x 9223372036854775808 h (by omega)
  have e : ((9223372036854775808 : Nat) : Int) = 9223372036854775808 := rfl
  rw [e] at this
  rw [this]
  have e2 : (18446744073709551615 - 9223372036854775808 : Nat) = 2 ^ 63 - 1 := by decide
  rw [e2, Nat.and_two_pow_sub_one_eq_mod]
theorem bits_frac (x E : Nat) (h : x < 2 ^ 63) (hE : E < 2048) (C : Int) (hC : C = ((E * 4503599627370496 : Nat) : Int)) :
    Go.bits .or .u64 (Go.bits .andNot .u64 (x : Int) 9218868437227405312) C = ((E * 4503599627370496 + x % 4503599627370496 : Nat) : Int) := by
  have a := u64_andNot_nat x 9218868437227405312 (by omega) (by omega)
  have e : ((9218868437227405312 : Nat) : Int) = 9218868437227405312 := rfl
  rw [e] at a
  have hx : x &&& (18446744073709551615 - 9218868437227405312) = x % 4503599627370496 := by
    have e2 : (18446744073709551615 - 9218868437227405312 : Nat) = 2 ^ 63 ||| (2 ^ 52 - 1) := by decide
    rw [e2, Nat.and_or_distrib_left, Nat.and_two_pow_sub_one_eq_mod]
    have : x &&& 2 ^ 63 = 0 := by
      apply Nat.eq_of_testBit_eq
      intro i
      rw [Nat.testBit_and, Nat.testBit_two_pow]
      by_cases c : 63 = i
      · subst c
        rw [Nat.testBit_lt_two_pow h]; simp
      · simp [c]
    rw [this, Nat.zero_or]
  rw [a, hx, hC]
  rw [u64_or_nat _ _ (by omega) (by omega)]
  congr 1
  rw [Nat.or_comm, nat_join 52 (E * 4503599627370496) (x % 4503599627370496) (by omega) (by omega)]
theorem bits_field (x : Nat) (h : x < 2 ^ 63) : Go.bits .and .u64 (((x : Nat) : Int) / 4503599627370496) 2047 = ((x / 4503599627370496 : Nat) : Int) := by
  have e0 : ((x : Nat) : Int) / 4503599627370496 = ((x / 4503599627370496 : Nat) : Int) := by omega
  have a := u64_and_nat (x / 4503599627370496) 2047 (by omega) (by omega)
  have e : ((2047 : Nat) : Int) = 2047 := rfl
  rw [e] at a
  rw [e0, a]
  have e2 : (2047 : Nat) = 2 ^ 11 - 1 := by decide
  rw [e2, Nat.and_two_pow_sub_one_eq_mod]
  congr 1
  omega
theorem ofInt_i64 (a : Nat) (ha : a < 9223372036854775808) : (BitVec.ofInt 64 (a : Int)).toNat = a := by
  rw [BitVec.ofInt_natCast, BitVec.toNat_ofNat]; exact Nat.mod_eq_of_lt (by omega)
theorem bits_field' (x : Nat) (h : x < 2 ^ 63) : Go.bits .and .i64 (wrap64 (((x : Nat) : Int) / 4503599627370496)) 2047 = ((x / 4503599627370496 : Nat) : Int) := by
  have e0 : wrap64 (((x : Nat) : Int) / 4503599627370496) = ((x / 4503599627370496 : Nat) : Int) := by unfold wrap64; omega
  rw [e0]
  show IntKind.i64.wrap ((BitVec.ofInt 64 ((x / 4503599627370496 : Nat) : Int) &&& BitVec.ofInt 64 ((2047 : Nat) : Int)).toNat : Int) = _
  rw [BitVec.toNat_and, ofInt_i64 _ (by omega), ofInt_i64 _ (by omega)]
  have e2 : (2047 : Nat) = 2 ^ 11 - 1 := by decide
  rw [e2, Nat.and_two_pow_sub_one_eq_mod, IntKind.wrap_i64]
  omega
theorem neg_word (s : Bool) {r : Nat} (h : r < 9223372036854775808) : Op.negFloat .f64 (double.word s r) = double.word (!s) r := by
  unfold Op.negFloat
  have e : FloatKind.f64.format.exponentBits + FloatKind.f64.format.fractionBits = 63 := rfl
  rw [e]
  unfold Format.word
  rw [sw_dbl]
  have hx : ∀ r : Nat, r < 9223372036854775808 → r ^^^ 2 ^ 63 = 9223372036854775808 + r := by
    intro r h
    have h1 : 2 ^ 63 ||| r = 2 ^ 63 + r := nat_join 63 (2 ^ 63) r (by decide) h
    have h2 : r ^^^ 2 ^ 63 = 2 ^ 63 ||| r := by
      apply Nat.eq_of_testBit_eq
      intro i
      rw [Nat.testBit_xor, Nat.testBit_or, Nat.testBit_two_pow]
      by_cases c : 63 = i
      · subst c
        rw [Nat.testBit_lt_two_pow h]; simp
      · simp [c]
    rw [h2, h1]
  cases s
  · simp only [Bool.false_eq_true, if_false, Bool.not_false, if_true]
    exact hx r h
  · simp only [if_true, Bool.not_true, Bool.false_eq_true, if_false]
    rw [← hx r h, Nat.xor_assoc, Nat.xor_self, Nat.xor_zero]

end Go.Proofs.Ytlmiobfnkdkkjaa.Fl
