/- Go's Mod of doubles: what it comes to. -/
import Derived.Test.YtlmiobfnkdkkjaaFlPFnQuotients
import Derived.Test.YtlmiobfnkdkkjaaFlL
namespace Go.Proofs.Ytlmiobfnkdkkjaa.FFnQuotients
open Go.RowKit Go.Proofs.Ytlmiobfnkdkkjaa.QFnQuotients Go.Proofs.YtlmiobfnkdkkjaaW.PrintWords Go.Proofs.YtlmiobfnkdkkjaaW.PrintLast Go.Proofs.Ytlmiobfnkdkkjaa.Fl Ieee
set_option linter.unusedVariables false
set_option linter.unusedSimpArgs false

def nn (a : Nat) : Prop := (double.read a).isNaN = false
theorem nn_num {a : Nat} {s : Bool} {m : Nat} {p : Int} (h : double.read a = .number s m p) : nn a := by unfold nn; rw [h]; rfl
theorem nn_low {a : Nat} (h : magW a ≤ 9218868437227405312) : nn a := by
  unfold nn
  unfold magW at h
  have key := read_eq a
  by_cases c1 : a % 9223372036854775808 < 4503599627370496
  · rw [if_pos c1] at key; rw [key]; rfl
  · rw [if_neg c1] at key
    by_cases c2 : a % 9223372036854775808 < 9218868437227405312
    · rw [if_pos c2] at key; rw [key]; rfl
    · rw [if_neg c2, if_pos (by omega)] at key; rw [key]; rfl
theorem f64d : FloatKind.f64.format = double := rfl
theorem ord_lt {a b : Nat} (ha : nn a) (hb : nn b) : (FloatKind.f64.format.order a b == some .lt) = decide (keyW a < keyW b) := by
  rw [f64d, order_key ha hb]
  by_cases c : keyW a < keyW b
  · rw [Int.compare_eq_lt.2 c]; simp [c]
  · have : compare (keyW a) (keyW b) ≠ .lt := fun h => c (Int.compare_eq_lt.1 h)
    cases hh : compare (keyW a) (keyW b) <;> simp_all
theorem ord_gt {a b : Nat} (ha : nn a) (hb : nn b) : (FloatKind.f64.format.order a b == some .gt) = decide (keyW b < keyW a) := by
  rw [f64d, order_key ha hb]
  by_cases c : keyW b < keyW a
  · rw [Int.compare_eq_gt.2 c]; simp [c]
  · have : compare (keyW a) (keyW b) ≠ .gt := fun h => c (Int.compare_eq_gt.1 h)
    cases hh : compare (keyW a) (keyW b) <;> simp_all
theorem ord_eq {a b : Nat} (ha : nn a) (hb : nn b) : (FloatKind.f64.format.order a b == some .eq) = decide (keyW a = keyW b) := by
  rw [f64d, order_key ha hb]
  by_cases c : keyW a = keyW b
  · rw [Int.compare_eq_eq.2 c]; simp [c]
  · have : compare (keyW a) (keyW b) ≠ .eq := fun h => c (Int.compare_eq_eq.1 h)
    cases hh : compare (keyW a) (keyW b) <;> simp_all
theorem ord_nan {a b : Nat} (h : ¬ nn a ∨ ¬ nn b) : FloatKind.f64.format.order a b = none := by
  rw [f64d]
  unfold Format.order
  rcases h with h | h
  · cases ha : double.read a with
    | nan s f => cases double.read b <;> rfl
    | infinity s => exact absurd (show nn a by unfold nn; rw [ha]; rfl) h
    | number s m p => exact absurd (nn_num ha) h
  · cases hb : double.read b with
    | nan s f => cases double.read a <;> rfl
    | infinity s => exact absurd (show nn b by unfold nn; rw [hb]; rfl) h
    | number s m p => exact absurd (nn_num hb) h
theorem key_pos {a : Nat} (h : a < 9223372036854775808) : keyW a = a := by
  unfold keyW magW
  have h1 : a / 9223372036854775808 % 2 = 0 := by omega
  have h2 : a % 9223372036854775808 = a := by omega
  rw [h1, h2]; rfl
theorem nn_small {a : Nat} (h : a ≤ 9218868437227405312) : nn a := nn_low (by unfold magW; omega)

theorem abs_f (x : Nat) (h : x < 2 ^ 64) : math_Abs.f x = some (x % 9223372036854775808) := by
  unfold math_Abs.f
  rw [bits_abs x h]
  rfl
theorem isInf_f (x : Nat) (h : x < 2 ^ 64) : math_IsInf.f x 0 = some (decide (magW x = 9218868437227405312)) := by
  unfold math_IsInf.f
  rw [if_pos rfl, abs_f x h]
  simp only [Option.bind_some]
  congr 1
  have hb : nn 9218868437227405311 := nn_small (by omega)
  have kb : keyW 9218868437227405311 = 9218868437227405311 := key_pos (by omega)
  by_cases c : x % 9223372036854775808 ≤ 9218868437227405312
  · have ha : nn (x % 9223372036854775808) := nn_small c
    rw [ord_gt ha hb, kb, key_pos (by omega)]
    unfold magW
    rw [decide_eq_decide]
    omega
  · have ha : ¬ nn (x % 9223372036854775808) := by
      unfold nn
      rw [read_eq, if_neg (by omega), if_neg (by omega), if_neg (by omega)]
      simp [Datum.isNaN]
    rw [ord_nan (Or.inl ha)]
    unfold magW
    symm
    rw [show (none == some Ordering.gt) = false from rfl, decide_eq_false_iff_not]
    omega
theorem isNaN_f (x : Nat) : math_IsNaN.f x = some (double.read x).isNaN := by
  unfold math_IsNaN.f
  congr 1
  by_cases c : nn x
  · have := ord_eq c c
    rw [decide_eq_true rfl] at this
    have e : (FloatKind.f64.format.order x x != some .eq) = !(FloatKind.f64.format.order x x == some .eq) := rfl
    rw [e, this, c]; rfl
  · rw [ord_nan (Or.inl c)]
    have : (double.read x).isNaN = true := by
      unfold nn at c
      cases h : (double.read x).isNaN
      · exact absurd h c
      · rfl
    rw [this]; rfl

theorem steps_log {m : Nat} {p : Int} (h0 : m ≠ 0) : (stepsOf m p).log2 = m.log2 + (p + 1074).toNat := by
  unfold stepsOf; exact log2_scale m _ h0
theorem steps_pos {m : Nat} {p : Int} (h0 : m ≠ 0) : stepsOf m p ≠ 0 := by
  unfold stepsOf
  exact Nat.mul_ne_zero h0 (by have := Nat.two_pow_pos (p + 1074).toNat; omega)
theorem pos_lt {a : Nat} {m : Nat} {p : Int} (h : double.read a = .number false m p) (ha : a < 2 ^ 64) : a < 9218868437227405312 := by
  obtain ⟨h1, h2, h3, h4, h5, h6⟩ := read_number h
  have h7 := read_low h
  unfold magW at h7
  have h8 : ¬ (a / 9223372036854775808 % 2 = 1) := by
    intro hh
    rw [hh] at h5
    exact absurd h5 (by decide)
  omega

/-- What normalize gives, of a number above 0: a word whose digits are the number's, and where they stand. -/
theorem normalize_f {a m : Nat} {p : Int} (h : double.read a = .number false m p) (ha : a < 2 ^ 64) (h0 : m ≠ 0) :
    ∃ (z M : Nat) (e : Int), math_normalize.f a = some (z, e) ∧ z < 2 ^ 63 ∧ 2 ^ 52 ≤ M ∧ M < 2 ^ 53 ∧ z % 4503599627370496 = M - 4503599627370496 ∧
      ((z / 4503599627370496 : Nat) : Int) = (stepsOf m p).log2 - 51 - e ∧ M * 2 ^ (stepsOf m p).log2 = stepsOf m p * 2 ^ 52 ∧ z / 4503599627370496 < 2047 ∧ (e = 0 ∨ e = -52) := by
  obtain ⟨h1, h2, h3, h4, h5, h6⟩ := read_number h
  have hlt := pos_lt h ha
  have hlog : m.log2 < 53 := (Nat.log2_lt h0).2 h1
  unfold math_normalize.f
  rw [abs_f a ha]
  simp only [Option.bind_some]
  have hmod : a % 9223372036854775808 = a := by omega
  rw [hmod, ord_lt (nn_num h) (nn_small (by omega)), key_pos (by omega), key_pos (by omega)]
  by_cases c : a < 4503599627370496
  · have hc : decide ((a : Int) < ((4503599627370496 : Nat) : Int)) = true := decide_eq_true (by omega)
    rw [hc]
    simp only [if_true]
    have hp : p = -1074 := by omega
    subst hp
    have hN : stepsOf m (-1074) = m := by unfold stepsOf; simp
    have hc52 : double.read 4841369599423283200 = .number false 4503599627370496 0 := by decide
    have e52 : (4503599627370496 : Nat) = 2 ^ 52 := by decide
    have hpr : ((Datum.number false m (-1074)).product (Datum.number false 4503599627370496 0)).map double.write = some (double.nearest false (m * 4503599627370496) (-1074)) := rfl
    have hmul : floatBits .mul .f64 a 4841369599423283200 = some (ofV false (m * 2 ^ 52)) := by
      show double.mul a 4841369599423283200 = _
      unfold Format.mul ofV
      rw [h, hc52, hpr, e52]
    obtain ⟨M, P, hr, hs⟩ := read_ofV false (N := m * 2 ^ 52) ⟨m, 52, rfl, h1, by
      have : m * 2 ^ 52 < 2 ^ 53 * 2 ^ 52 := Nat.mul_lt_mul_of_pos_right h1 (by decide)
      rw [← Nat.pow_add] at this
      exact Nat.lt_of_lt_of_le this (Nat.pow_le_pow_right (by decide) (by unfold top; omega))⟩
    obtain ⟨g1, g2, g3, g4, g5, g6⟩ := read_number hr
    have hzu : ofV false (m * 2 ^ 52) < 2 ^ 64 := double.nearest_lt _ _ _
    have hzl := pos_lt hr hzu
    have hMlo : 2 ^ 52 ≤ M := by
      rcases g4 with g4 | g4
      · exact g4
      · subst g4
        unfold stepsOf at hs
        simp at hs
        omega
    have hM0 : M ≠ 0 := by omega
    have hlogM : M.log2 = 52 := by
      have a1 : 52 ≤ M.log2 := by rw [Nat.le_log2 hM0]; exact hMlo
      have a2 : M.log2 < 53 := (Nat.log2_lt hM0).2 g1
      omega
    have hls : (stepsOf M P).log2 = 52 + (P + 1074).toNat := by rw [steps_log hM0, hlogM]
    have hlm : (m * 2 ^ 52).log2 = m.log2 + 52 := log2_scale m 52 h0
    rw [hs, hlm] at hls
    rw [hmul]
    simp only [Option.isSome_some, if_true]
    have hv : fvw .mul a 4841369599423283200 = ofV false (m * 2 ^ 52) := by unfold fvw; rw [hmul, Option.getD_some]
    refine ⟨ofV false (m * 2 ^ 52), M, -52, by rw [hv], by omega, hMlo, g1, by omega, ?_, ?_, by omega, Or.inr rfl⟩
    · rw [hN]; omega
    · rw [hN]
      have : (P + 1074).toNat = m.log2 := by omega
      rw [← hs, ← this]
      unfold stepsOf
      rfl
  · have hc : decide ((a : Int) < ((4503599627370496 : Nat) : Int)) = false := decide_eq_false (by omega)
    rw [hc]
    simp only [Bool.false_eq_true, if_false]
    have hMlo : 2 ^ 52 ≤ m := by omega
    have hlogM : m.log2 = 52 := by
      have a1 : 52 ≤ m.log2 := by rw [Nat.le_log2 h0]; exact hMlo
      omega
    have hls : (stepsOf m p).log2 = 52 + (p + 1074).toNat := by rw [steps_log h0, hlogM]
    refine ⟨a, m, 0, rfl, by omega, hMlo, h1, by omega, by omega, ?_, by omega, Or.inl rfl⟩
    rw [hls, Nat.pow_add, Nat.mul_comm (2 ^ 52), ← Nat.mul_assoc]
    unfold stepsOf
    rfl

/-- Frexp, of a number above 0. -/
theorem frexp_ev {a m : Nat} {p : Int} (h : double.read a = .number false m p) (ha : a < 2 ^ 64) (h0 : m ≠ 0) :
    ∃ M : Nat, 2 ^ 52 ≤ M ∧ M < 2 ^ 53 ∧ M * 2 ^ (stepsOf m p).log2 = stepsOf m p * 2 ^ 52 ∧ Ev (fun k => math_Frexp.f k a) (1021 * 4503599627370496 + M, ((stepsOf m p).log2 : Int) - 1073) := by
  obtain ⟨z, M, e, hf, hz, hM1, hM2, hfr, hE, hMM, hz2, he⟩ := normalize_f h ha h0
  refine ⟨M, hM1, hM2, hMM, ?_⟩
  have hlt := pos_lt h ha
  obtain ⟨h1, h2, h3, h4, h5, h6⟩ := read_number h
  unfold math_Frexp.f
  refine ev_then (a := (1021 * 4503599627370496 + M, ((stepsOf m p).log2 : Int) - 1073)) ?_ rfl
  unfold math_frexp.f
  rw [ord_eq (nn_num h) (nn_small (a := 0) (by omega)), key_pos (by omega), key_pos (by omega)]
  have hne : decide ((a : Int) = ((0 : Nat) : Int)) = false := decide_eq_false (by omega)
  rw [hne, isInf_f a ha, isNaN_f]
  have hni : decide (magW a = 9218868437227405312) = false := decide_eq_false (by unfold magW; omega)
  rw [hni, h]
  simp only [Bool.false_eq_true, if_false, Option.bind_some, Datum.isNaN]
  refine ev_succ (fun k => by rw [math_frexp.j0]) ?_
  simp only [Bool.false_eq_true, if_false, hf, Option.bind_some]
  have b1 := bits_frac z 1022 hz (by omega) 4602678819172646912 rfl
  have b2 := bits_field z hz
  rw [b1, b2, hE]
  have w1 : wrap64 (((stepsOf m p).log2 : Int) - 51 - e) = ((stepsOf m p).log2 : Int) - 51 - e := w64_id (by omega) (by omega)
  have w2 : wrap64 (((stepsOf m p).log2 : Int) - 51 - e - 1023) = ((stepsOf m p).log2 : Int) - 51 - e - 1023 := w64_id (by omega) (by omega)
  have w3 : wrap64 (((stepsOf m p).log2 : Int) - 51 - e - 1023 + 1) = ((stepsOf m p).log2 : Int) - 51 - e - 1023 + 1 := w64_id (by omega) (by omega)
  have w4 : wrap64 (e + (((stepsOf m p).log2 : Int) - 51 - e - 1023 + 1)) = ((stepsOf m p).log2 : Int) - 1073 := by rw [w64_id (by omega) (by omega)]; omega
  rw [w1, w2, w3, w4]
  have e1 : Int.toNat ((1022 * 4503599627370496 + z % 4503599627370496 : Nat) : Int) = 1021 * 4503599627370496 + M := by rw [Int.toNat_natCast]; omega
  rw [e1]
  exact Ev.now _

/-- Ldexp, of a number above 0, upwards, where it is not too great. -/
theorem ldexp_f {a m : Nat} {p : Int} (h : double.read a = .number false m p) (ha : a < 2 ^ 64) (h0 : m ≠ 0) (j : Nat) (hj : (stepsOf m p).log2 + j ≤ 2097) :
    math_Ldexp.f a (j : Int) = some (ofV false (stepsOf m p * 2 ^ j)) := by
  obtain ⟨z, M, e, hf, hz, hM1, hM2, hfr, hE, hMM, hz2, he⟩ := normalize_f h ha h0
  have hlt := pos_lt h ha
  obtain ⟨h1, h2, h3, h4, h5, h6⟩ := read_number h
  unfold math_Ldexp.f math_ldexp.f
  rw [ord_eq (nn_num h) (nn_small (a := 0) (by omega)), key_pos (by omega), key_pos (by omega)]
  have hne : decide ((a : Int) = ((0 : Nat) : Int)) = false := decide_eq_false (by omega)
  rw [hne, isInf_f a ha, isNaN_f]
  have hni : decide (magW a = 9218868437227405312) = false := decide_eq_false (by unfold magW; omega)
  rw [hni, h, hf]
  simp only [Bool.false_eq_true, if_false, Option.bind_some, Datum.isNaN]
  have b2 := bits_field' z hz
  rw [b2, hE]
  obtain ⟨N, hN⟩ : ∃ N, N = stepsOf m p := ⟨_, rfl⟩
  rw [← hN] at hE hMM hj ⊢
  have hN0 : N ≠ 0 := by rw [hN]; exact steps_pos h0
  obtain ⟨L, hL⟩ : ∃ L, L = N.log2 := ⟨_, rfl⟩
  rw [← hL] at hE hMM hj ⊢
  have w1 : wrap64 ((L : Int) - 51 - e - 1023) = (L : Int) - 51 - e - 1023 := w64_id (by omega) (by omega)
  have w2 : wrap64 ((j : Int) + e) = (j : Int) + e := w64_id (by omega) (by omega)
  have w3 : wrap64 ((j : Int) + e + ((L : Int) - 51 - e - 1023)) = (j : Int) + L - 1074 := by rw [w64_id (by omega) (by omega)]; omega
  rw [w1, w2, w3]
  rw [if_neg (by omega), if_neg (by omega)]
  have hM0 : M ≠ 0 := by omega
  -- M in the place that is meant is N * 2 ^ j
  have fin : double.nearest false M ((j : Int) + L - 1074 - 52) = ofV false (N * 2 ^ j) := by
    unfold ofV
    have hk : N * 2 ^ j * 2 ^ 52 = M * 2 ^ (L + j) := by
      rw [Nat.pow_add, ← Nat.mul_assoc, hMM, Nat.mul_right_comm]
    have n0 : N * 2 ^ j ≠ 0 := Nat.mul_ne_zero hN0 (by have := Nat.two_pow_pos j; omega)
    have r1 := rung_scale (N * 2 ^ j) 52 (-1074) n0
    have r2 := rung_scale M (L + j) ((j : Int) + L - 1074 - 52) hM0
    rw [hk] at r1
    have e1 : (-1074 : Int) - ((52 : Nat) : Int) = (j : Int) + L - 1074 - 52 - ((L + j : Nat) : Int) := by omega
    rw [e1, r2] at r1
    rw [nearest_eq _ _ _ hM0, nearest_eq _ _ _ n0, r1]
  by_cases c : (j : Int) + L - 1074 < -1022
  · rw [if_pos c]
    obtain ⟨E, hEE⟩ : ∃ E : Nat, (E : Int) = (j : Int) + L - 1074 + 53 + 1023 := ⟨((j : Int) + L - 1074 + 53 + 1023).toNat, by omega⟩
    have v1 : wrap64 ((j : Int) + L - 1074 + 53) = (j : Int) + L - 1074 + 53 := w64_id (by omega) (by omega)
    have v2 : wrap64 ((j : Int) + L - 1074 + 53 + 1023) = (E : Int) := by rw [hEE]; exact w64_id (by omega) (by omega)
    have v3 : IntKind.u64.wrap (E : Int) = (E : Int) := u64_id (by omega) (by omega)
    have v4 : IntKind.u64.wrap ((E : Int) * 4503599627370496) = ((E * 4503599627370496 : Nat) : Int) := by rw [u64_id (by omega) (by omega)]; omega
    rw [v1, v2, v3, v4, bits_frac z E hz (by omega) _ rfl, Int.toNat_natCast]
    have hw : double.read (E * 4503599627370496 + z % 4503599627370496) = .number false M ((E : Int) - 1075) := by
      have := read_word false (m := M) (p := (E : Int) - 1075) hM2 (by omega) (Or.inl hM1) (by omega)
      have e2 : double.word false (((E : Int) - 1075 + 1074).toNat * 2 ^ 52 + M) = E * 4503599627370496 + z % 4503599627370496 := by
        unfold Format.word
        rw [if_neg (by simp)]
        omega
      rw [e2] at this
      exact this
    have hc53 : double.read 4368491638549381120 = .number false 4503599627370496 (-105) := by decide
    have hmul : floatBits .mul .f64 4368491638549381120 (E * 4503599627370496 + z % 4503599627370496) = some (ofV false (N * 2 ^ j)) := by
      show double.mul 4368491638549381120 _ = _
      unfold Format.mul
      rw [hw, hc53]
      simp only [Datum.product, Option.map_some, Format.write]
      rw [← fin]
      have r := nearest_scale false M 52 ((j : Int) + L - 1074 - 52) hM0
      rw [← r]
      congr 2
      · rw [Nat.mul_comm]
      · omega
    rw [hmul]
    simp only [Option.isSome_some, if_true]
    unfold fvw; rw [hmul, Option.getD_some, Option.bind_some]
  · rw [if_neg c]
    obtain ⟨E, hEE⟩ : ∃ E : Nat, (E : Int) = (j : Int) + L - 1074 + 1023 := ⟨((j : Int) + L - 1074 + 1023).toNat, by omega⟩
    have v2 : wrap64 ((j : Int) + L - 1074 + 1023) = (E : Int) := by rw [hEE]; exact w64_id (by omega) (by omega)
    have v3 : IntKind.u64.wrap (E : Int) = (E : Int) := u64_id (by omega) (by omega)
    have v4 : IntKind.u64.wrap ((E : Int) * 4503599627370496) = ((E * 4503599627370496 : Nat) : Int) := by rw [u64_id (by omega) (by omega)]; omega
    rw [v2, v3, v4, bits_frac z E hz (by omega) _ rfl, Int.toNat_natCast]
    have hw : double.read (E * 4503599627370496 + z % 4503599627370496) = .number false M ((E : Int) - 1075) := by
      have := read_word false (m := M) (p := (E : Int) - 1075) hM2 (by omega) (Or.inl hM1) (by omega)
      have e2 : double.word false (((E : Int) - 1075 + 1074).toNat * 2 ^ 52 + M) = E * 4503599627370496 + z % 4503599627370496 := by
        unfold Format.word
        rw [if_neg (by simp)]
        omega
      rw [e2] at this
      exact this
    have hc1 : double.read 4607182418800017408 = .number false 4503599627370496 (-52) := by decide
    have hmul : floatBits .mul .f64 4607182418800017408 (E * 4503599627370496 + z % 4503599627370496) = some (ofV false (N * 2 ^ j)) := by
      show double.mul 4607182418800017408 _ = _
      unfold Format.mul
      rw [hw, hc1]
      simp only [Datum.product, Option.map_some, Format.write]
      rw [← fin]
      have r := nearest_scale false M 52 ((j : Int) + L - 1074 - 52) hM0
      rw [← r]
      congr 2
      · rw [Nat.mul_comm]
      · omega
    rw [hmul]
    simp only [Option.isSome_some, if_true]
    unfold fvw; rw [hmul, Option.getD_some, Option.bind_some]

end Go.Proofs.Ytlmiobfnkdkkjaa.FFnQuotients
