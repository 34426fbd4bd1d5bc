/- The rest of doubles: the program's is exact. -/
import Derived.Test.YtlmiobfnkdkkjaaFlMFnQuotients
namespace Go.Proofs.Ytlmiobfnkdkkjaa.FFnQuotients
open Go.RowKit Go.Proofs.Ytlmiobfnkdkkjaa.QFnQuotients Go.Proofs.YtlmiobfnkdkkjaaW.PrintWords Go.Proofs.YtlmiobfnkdkkjaaW.PrintLast Go.Proofs.Ytlmiobfnkdkkjaa.Fl Ieee
set_option linter.unusedVariables false
set_option linter.unusedSimpArgs false

/-- What is left when a number that has its own word loses one below it that has, too. -/
theorem rep_sub {m n : Nat} {p q : Int} {j : Nat} (hm : m < 2 ^ 53) (hn : n < 2 ^ 53) (ht : stepsOf m p < 2 ^ top) (h1 : stepsOf n q * 2 ^ j ≤ stepsOf m p) (h2 : stepsOf m p < 2 * (stepsOf n q * 2 ^ j)) :
    Rep (stepsOf m p - stepsOf n q * 2 ^ j) := by
  have hle : stepsOf m p - stepsOf n q * 2 ^ j < 2 ^ top := by
    generalize 2 ^ top = T at *
    omega
  have e2 : stepsOf n q * 2 ^ j = n * 2 ^ ((q + 1074).toNat + j) := by unfold stepsOf; rw [Nat.mul_assoc, ← Nat.pow_add]
  have e1 : stepsOf m p = m * 2 ^ (p + 1074).toNat := rfl
  rw [e2] at h1 h2 hle ⊢
  rw [e1] at h1 h2 hle ⊢
  generalize (p + 1074).toNat = u at *
  generalize (q + 1074).toNat + j = v at *
  by_cases c : u ≤ v
  · -- all in steps of u
    have e3 : n * 2 ^ v = n * 2 ^ (v - u) * 2 ^ u := by rw [Nat.mul_assoc, ← Nat.pow_add]; congr 2; omega
    rw [e3] at h1 h2 hle ⊢
    rw [← Nat.sub_mul] at hle ⊢
    refine ⟨m - n * 2 ^ (v - u), u, rfl, by omega, hle⟩
  · have e3 : m * 2 ^ u = m * 2 ^ (u - v) * 2 ^ v := by rw [Nat.mul_assoc, ← Nat.pow_add]; congr 2; omega
    rw [e3] at h1 h2 hle ⊢
    rw [← Nat.sub_mul] at hle ⊢
    refine ⟨m * 2 ^ (u - v) - n, v, rfl, ?_, hle⟩
    have hp := Nat.two_pow_pos v
    rw [← Nat.mul_assoc] at h2
    have := Nat.lt_of_mul_lt_mul_right h2
    omega

/-- What is left of a number has a word of its own. -/
theorem rep_mod {m n : Nat} {p q : Int} (hm : m < 2 ^ 53) (hn : n < 2 ^ 53) (ht : stepsOf m p < 2 ^ top) : Rep (stepsOf m p % stepsOf n q) := by
  have hle : stepsOf m p % stepsOf n q < 2 ^ top := Nat.lt_of_le_of_lt (Nat.mod_le _ _) ht
  have e1 : stepsOf m p = m * 2 ^ (p + 1074).toNat := rfl
  have e2 : stepsOf n q = n * 2 ^ (q + 1074).toNat := rfl
  rw [e1, e2] at hle ⊢
  generalize (p + 1074).toNat = u at *
  generalize (q + 1074).toNat = v at *
  by_cases c : u ≤ v
  · have e3 : n * 2 ^ v = n * 2 ^ (v - u) * 2 ^ u := by rw [Nat.mul_assoc, ← Nat.pow_add]; congr 2; omega
    rw [e3, Nat.mul_mod_mul_right] at hle ⊢
    exact ⟨_, u, rfl, Nat.lt_of_le_of_lt (Nat.mod_le _ _) hm, hle⟩
  · have e3 : m * 2 ^ u = m * 2 ^ (u - v) * 2 ^ v := by rw [Nat.mul_assoc, ← Nat.pow_add]; congr 2; omega
    rw [e3, Nat.mul_mod_mul_right] at hle ⊢
    by_cases h0 : n = 0
    · subst h0
      rw [Nat.mod_zero, ← e3] at hle ⊢
      exact ⟨m, u, rfl, hm, hle⟩
    · exact ⟨_, v, rfl, Nat.lt_of_lt_of_le (Nat.mod_lt _ (by omega)) (by omega), hle⟩

/-- A sign, as Mod gives it back. -/
def back (neg : Bool) (r : Nat) : Nat := if neg then Op.negFloat .f64 r else r

theorem mod_loop (x y n : Nat) (q : Int) (My : Nat) (hy : double.read y = .number false n q) (hyu : y < 2 ^ 64) (hn0 : n ≠ 0)
    (hMy2 : My < 2 ^ 53) (hMy1 : 2 ^ 52 ≤ My) (hMy : My * 2 ^ (stepsOf n q).log2 = stepsOf n q * 2 ^ 52) :
    ∀ (V r m : Nat) (p : Int), V = stepsOf m p → double.read r = .number false m p → r < 2 ^ 64 →
      Ev (fun k => math_mod.l0 k x y (1021 * 4503599627370496 + My) (((stepsOf n q).log2 : Int) - 1073) r) (back (FloatKind.f64.format.order x 0 == some .lt) (ofV false (V % stepsOf n q))) := by
  obtain ⟨k1, k2, k3, k4, k5, k6⟩ := read_number hy
  have hyl := pos_lt hy hyu
  obtain ⟨Y, hY⟩ : ∃ Y, Y = stepsOf n q := ⟨_, rfl⟩
  have hY0 : Y ≠ 0 := by rw [hY]; exact steps_pos hn0
  have hLy2 : Y.log2 ≤ 2097 := by
    rw [hY, steps_log hn0]
    have : n.log2 < 53 := (Nat.log2_lt hn0).2 k1
    omega
  intro V
  induction V using Nat.strongRecOn with
  | _ V ih =>
  intro r m p hV hr hru
  obtain ⟨h1, h2, h3, h4, h5, h6⟩ := read_number hr
  have hrl := pos_lt hr hru
  have hos := order_steps hr hy
  refine ev_succ (fun k => by rw [math_mod.l0]) ?_
  rw [f64d, hos, ← hV, ← hY]
  by_cases c : Y ≤ V
  · have hge : ((some (compare V Y) == some Ordering.gt) || (some (compare V Y) == some Ordering.eq)) = true := by
      by_cases ce : V = Y
      · rw [Nat.compare_eq_eq.2 ce]; rfl
      · rw [Nat.compare_eq_gt.2 (by omega)]; rfl
    rw [hge]
    simp only [if_true]
    have hm0 : m ≠ 0 := by
      rintro rfl
      rw [hV] at c
      unfold stepsOf at c
      rw [Nat.zero_mul] at c
      omega
    have hV0 : V ≠ 0 := by omega
    have hLv2 : V.log2 ≤ 2097 := by
      rw [hV, steps_log hm0]
      have : m.log2 < 53 := (Nat.log2_lt hm0).2 h1
      omega
    obtain ⟨Mr, hMr1, hMr2, hMr, hfr⟩ := frexp_ev hr hru hm0
    rw [← hV] at hMr hfr
    rw [← hY] at hMy
    refine Ev.bind hfr ?_
    have hll : Y.log2 ≤ V.log2 := log2_mono hY0 c
    -- the two digits' order
    have hfw : ∀ M : Nat, M < 2 ^ 53 → 2 ^ 52 ≤ M → nn (1021 * 4503599627370496 + M) ∧ keyW (1021 * 4503599627370496 + M) = ((1021 * 4503599627370496 + M : Nat) : Int) := fun M h1 h2 => ⟨nn_small (by omega), key_pos (by omega)⟩
    obtain ⟨nr, kr⟩ := hfw Mr hMr2 hMr1
    obtain ⟨ny, ky⟩ := hfw My hMy2 hMy1
    have hcmp := ord_lt nr ny
    rw [f64d, kr, ky] at hcmp
    rw [hcmp]
    -- the number taken off
    have step : ∀ j : Nat, Y * 2 ^ j ≤ V → V < 2 * (Y * 2 ^ j) → Ev (fun k => (math_Ldexp.f y (j : Int)).bind fun t172 => (if (floatBits .sub .f64 r t172).isSome = true then (math_mod.l0 k x y (1021 * 4503599627370496 + My) ((Y.log2 : Int) - 1073) (fvw .sub r t172)) else (none))) (back (double.order x 0 == some .lt) (ofV false (V % Y))) := by
      intro j hj1 hj2
      have hlj : Y.log2 + j ≤ 2097 := by
        have := log2_mono (Nat.mul_ne_zero hY0 (by have := Nat.two_pow_pos j; omega)) hj1
        rw [log2_scale Y j hY0] at this
        omega
      have hld := ldexp_f hy hyu hn0 j (by rw [← hY]; exact hlj)
      rw [← hY] at hld
      rw [hld]
      simp only [Option.bind_some]
      -- Y * 2 ^ j has a word
      have htop : V < 2 ^ top := by rw [hV]; obtain ⟨_, _, _, _, ht⟩ := rep_read hr; exact ht
      have hrepY : Rep (Y * 2 ^ j) := by
        refine ⟨n, (q + 1074).toNat + j, ?_, k1, Nat.lt_of_le_of_lt hj1 htop⟩
        rw [hY]; unfold stepsOf; rw [Nat.mul_assoc, ← Nat.pow_add]
      obtain ⟨ty, qy, hrt, hst⟩ := read_ofV false hrepY
      have hsub := sub_steps hr hrt (by rw [hst, ← hV]; exact hj1)
      rw [hst, ← hV] at hsub
      have hfb : floatBits .sub .f64 r (ofV false (Y * 2 ^ j)) = some (ofV false (V - Y * 2 ^ j)) := hsub
      have hfv : fvw .sub r (ofV false (Y * 2 ^ j)) = ofV false (V - Y * 2 ^ j) := by unfold fvw; rw [hfb, Option.getD_some]
      have hrep : Rep (V - Y * 2 ^ j) := by
        rw [hV, hY]
        exact rep_sub h1 k1 (by rw [← hV]; exact htop) (by rw [← hV, ← hY]; exact hj1) (by rw [← hV, ← hY]; exact hj2)
      obtain ⟨m', p', hr', hs'⟩ := read_ofV false hrep
      have hpos := Nat.two_pow_pos j
      have hYj : 0 < Y * 2 ^ j := Nat.mul_pos (by omega) hpos
      have hih := ih (V - Y * 2 ^ j) (by omega) (ofV false (V - Y * 2 ^ j)) m' p' hs'.symm hr' (double.nearest_lt _ _ _)
      rw [← hY, f64d] at hih
      have hmod : (V - Y * 2 ^ j) % Y = V % Y := by
        have e : V = (V - Y * 2 ^ j) + Y * 2 ^ j := by omega
        conv => rhs; rw [e]
        rw [Nat.add_mul_mod_self_left]
      rw [hmod] at hih
      simp only [hfb, hfv, Option.isSome_some, if_true]
      exact hih
    by_cases cm : Mr < My
    · have hc : decide (((1021 * 4503599627370496 + Mr : Nat) : Int) < ((1021 * 4503599627370496 + My : Nat) : Int)) = true := decide_eq_true (by omega)
      rw [hc]
      simp only [if_true]
      -- V < Y * 2 ^ (difference)
      have hlt : V < Y * 2 ^ (V.log2 - Y.log2) := by
        have a1 : V * 2 ^ 52 < Y * 2 ^ (V.log2 - Y.log2) * 2 ^ 52 := by
          rw [← hMr, Nat.mul_right_comm, ← hMy, Nat.mul_assoc, ← Nat.pow_add]
          have : Y.log2 + (V.log2 - Y.log2) = V.log2 := by omega
          rw [this]
          exact Nat.mul_lt_mul_of_pos_right cm (Nat.two_pow_pos _)
        exact Nat.lt_of_mul_lt_mul_right a1
      have hd : 1 ≤ V.log2 - Y.log2 := by
        by_cases cc : 1 ≤ V.log2 - Y.log2
        · exact cc
        · have : V.log2 - Y.log2 = 0 := by omega
          rw [this, Nat.pow_zero, Nat.mul_one] at hlt
          omega
      have ej : wrap64 (wrap64 ((V.log2 : Int) - 1073 - 1) - ((Y.log2 : Int) - 1073)) = ((V.log2 - Y.log2 - 1 : Nat) : Int) := by
        have z1 : wrap64 ((V.log2 : Int) - 1073 - 1) = (V.log2 : Int) - 1073 - 1 := w64_id (by omega) (by omega)
        rw [z1, w64_id (by omega) (by omega)]
        omega
      rw [ej]
      refine step (V.log2 - Y.log2 - 1) ?_ ?_
      · have b1 : Y < 2 ^ (Y.log2 + 1) := Nat.lt_log2_self
        have b2 : 2 ^ V.log2 ≤ V := Nat.log2_self_le hV0
        have b3 : Y * 2 ^ (V.log2 - Y.log2 - 1) ≤ 2 ^ (Y.log2 + 1) * 2 ^ (V.log2 - Y.log2 - 1) := Nat.mul_le_mul_right _ (Nat.le_of_lt b1)
        rw [← Nat.pow_add] at b3
        have : Y.log2 + 1 + (V.log2 - Y.log2 - 1) = V.log2 := by omega
        rw [this] at b3
        omega
      · have : 2 * (Y * 2 ^ (V.log2 - Y.log2 - 1)) = Y * 2 ^ (V.log2 - Y.log2) := by
          rw [Nat.mul_left_comm]
          congr 1
          have e : V.log2 - Y.log2 = (V.log2 - Y.log2 - 1) + 1 := by omega
          conv => rhs; rw [e]
          rw [Nat.pow_succ, Nat.mul_comm]
        omega
    · have hc : decide (((1021 * 4503599627370496 + Mr : Nat) : Int) < ((1021 * 4503599627370496 + My : Nat) : Int)) = false := decide_eq_false (by omega)
      rw [hc]
      simp only [Bool.false_eq_true, if_false]
      have hle : Y * 2 ^ (V.log2 - Y.log2) ≤ V := by
        have a1 : Y * 2 ^ (V.log2 - Y.log2) * 2 ^ 52 ≤ V * 2 ^ 52 := by
          rw [← hMr, Nat.mul_right_comm, ← hMy, Nat.mul_assoc, ← Nat.pow_add]
          have : Y.log2 + (V.log2 - Y.log2) = V.log2 := by omega
          rw [this]
          exact Nat.mul_le_mul_right _ (by omega)
        exact Nat.le_of_mul_le_mul_right a1 (by omega)
      have ej : wrap64 ((V.log2 : Int) - 1073 - ((Y.log2 : Int) - 1073)) = ((V.log2 - Y.log2 : Nat) : Int) := by
        rw [w64_id (by omega) (by omega)]
        omega
      rw [ej]
      refine step (V.log2 - Y.log2) hle ?_
      have b1 : V < 2 ^ (V.log2 + 1) := Nat.lt_log2_self
      have b2 : 2 ^ Y.log2 ≤ Y := Nat.log2_self_le hY0
      have b3 : 2 ^ Y.log2 * 2 ^ (V.log2 - Y.log2) ≤ Y * 2 ^ (V.log2 - Y.log2) := Nat.mul_le_mul_right _ b2
      rw [← Nat.pow_add] at b3
      have e : Y.log2 + (V.log2 - Y.log2) = V.log2 := by omega
      rw [e] at b3
      rw [Nat.pow_succ] at b1
      omega
  · have hge : ((some (compare V Y) == some Ordering.gt) || (some (compare V Y) == some Ordering.eq)) = false := by
      rw [Nat.compare_eq_lt.2 (by omega)]; rfl
    rw [hge]
    simp only [Bool.false_eq_true, if_false]
    have hmod : V % Y = V := Nat.mod_eq_of_lt (by omega)
    have hw : ofV false V = r := by rw [hV]; exact ofV_read hr hru
    rw [hmod, hw]
    unfold back
    cases (double.order x 0 == some Ordering.lt)
    · simp only [Bool.false_eq_true, if_false]; exact Ev.now _
    · simp only [if_true]; exact Ev.now _

/-- What Rem comes to. -/
def remD (a b : Nat) : Datum → Datum → Int
  | .nan _ _, _ | _, .nan _ _ | .infinity _, _ => 9221120237041090560
  | .number s m p, .infinity _ => (a : Int)
  | .number s m p, .number t n q => if n = 0 then 9221120237041090560 else (ofV s (stepsOf m p % stepsOf n q) : Int)

theorem magW_abs {a : Nat} (ha : a < 2 ^ 64) : a % 9223372036854775808 = magW a := rfl
theorem read_abs {a : Nat} {s : Bool} {m : Nat} {p : Int} (h : double.read a = .number s m p) : double.read (a % 9223372036854775808) = .number false m p := by
  obtain ⟨h1, h2, h3, h4, h5, h6⟩ := read_number h
  have := read_word false (m := m) (p := p) h1 h2 h4 h3
  have e : double.word false ((p + 1074).toNat * 2 ^ 52 + m) = a % 9223372036854775808 := by
    unfold Format.word
    rw [if_neg (by simp)]
    omega
  rw [e] at this
  exact this

theorem key_zero {a : Nat} (ha : nn a) : (FloatKind.f64.format.order a 0 == some .eq) = decide (magW a = 0) := by
  rw [ord_eq ha (nn_small (a := 0) (by omega)), key_pos (a := 0) (by omega), decide_eq_decide]
  unfold keyW
  by_cases c : (a / 9223372036854775808 % 2 == 1) = true
  · rw [if_pos c]; omega
  · rw [if_neg c]; omega
theorem key_neg {a : Nat} (ha : nn a) : (FloatKind.f64.format.order a 0 == some .lt) = (decide (magW a ≠ 0) && (a / 9223372036854775808 % 2 == 1)) := by
  rw [ord_lt ha (nn_small (a := 0) (by omega)), key_pos (a := 0) (by omega)]
  unfold keyW
  cases c : (a / 9223372036854775808 % 2 == 1)
  · rw [if_neg (by simp), Bool.and_false, decide_eq_false_iff_not]; omega
  · rw [if_pos rfl, Bool.and_true, decide_eq_decide]; omega

theorem sign_word {a : Nat} {s : Bool} {m : Nat} {p : Int} (h : double.read a = .number s m p) (ha : a < 2 ^ 64) : a = double.word s (magW a) := by
  obtain ⟨h1, h2, h3, h4, h5, h6⟩ := read_number h
  unfold Format.word magW
  rw [sw_dbl]
  by_cases c : a < 9223372036854775808
  · have : a / 9223372036854775808 % 2 = 0 := by omega
    rw [h5, this]; simp; omega
  · have : a / 9223372036854775808 % 2 = 1 := by omega
    rw [h5, this]; simp; omega
theorem neg_ofV {N : Nat} (h : Rep N) : Op.negFloat .f64 (ofV false N) = ofV true N := by
  obtain ⟨m, p, hr, hs⟩ := read_ofV false h
  obtain ⟨m', p', hr', hs'⟩ := read_ofV true h
  have h1 := read_low hr
  have e : ∀ s : Bool, ofV s N = double.word s (if N = 0 then 0 else min (rung N (-1074)) 9218868437227405312) := by
    intro s
    unfold ofV
    by_cases c : N = 0
    · rw [if_pos c, c]; unfold Format.nearest; rw [if_pos rfl]
    · rw [if_neg c, nearest_eq s N _ c]
  rw [e, e, neg_word false (by split <;> omega)]
  rfl

/-- Rem: what the program's comes to. -/
theorem rem_impl (a b : Nat) (ha : a < 2 ^ 64) (hb : b < 2 ^ 64) : Ev (fun k => impl_Rem.f k (a : Int) (b : Int)) (remD a b (double.read a) (double.read b)) := by
  unfold impl_Rem.f impl_real64.f
  simp only [Option.bind_some, Int.toNat_natCast]
  unfold math_Mod.f
  have none_ : Ev (fun k => math_mod.j0 k a b true) 9221120237041090561 := by
    refine ev_succ (fun k => by rw [math_mod.j0]) ?_
    simp only [if_true]
    unfold math_NaN.f
    exact Ev.now _
  have nanw : canonW 9221120237041090561 = 9221120237041090560 := by decide
  -- the modulus' own end
  have wrapped : ∀ (r : Nat) (v : Int), Ev (fun k => math_mod.f k a b) r → canonW r = v → Ev (fun k => ((math_mod.f k a b).bind fun t174 => some t174).bind fun t177 => (impl_word.f t177).bind fun t178 => some t178) v := by
    intro r v hr hv
    refine ev_then (ev_idb hr) ?_
    unfold impl_word.f
    rw [hv]; rfl
  by_cases cyn : nn b
  · by_cases cxn : nn a
    · -- no NaN
      have hyz := key_zero cyn
      by_cases cz : magW b = 0
      · refine wrapped 9221120237041090561 _ ?_ ?_
        · unfold math_mod.f
          rw [hyz, decide_eq_true cz]
          simp only [if_true]
          exact none_
        · rw [nanw]
          cases hra : double.read a with
          | nan s f => rfl
          | infinity s => cases double.read b <;> rfl
          | number s m p =>
            cases hrb : double.read b with
            | nan t f => rfl
            | infinity t => have := (read_inf hrb).1; omega
            | number t n q =>
              obtain ⟨k1, k2, k3, k4, k5, k6⟩ := read_number hrb
              have : n = 0 := by unfold magW at cz; omega
              simp [remD, this]
      · cases hra : double.read a with
        | nan s f => exact absurd cxn (by unfold nn; rw [hra]; simp [Datum.isNaN])
        | infinity s =>
          have hm := (read_inf hra).1
          refine wrapped 9221120237041090561 _ ?_ (by rw [nanw]; cases double.read b <;> rfl)
          unfold math_mod.f
          rw [hyz, decide_eq_false cz, isInf_f a ha, decide_eq_true hm]
          simp only [Bool.false_eq_true, if_false, Option.bind_some, if_true]
          exact none_
        | number s m p =>
          obtain ⟨h1, h2, h3, h4, h5, h6⟩ := read_number hra
          have hml := read_low hra
          have head : ∀ v : Nat, Ev (fun k => math_mod.j0 k a b false) v → Ev (fun k => math_mod.f k a b) v := by
            intro v hv
            unfold math_mod.f
            rw [hyz, decide_eq_false cz, isInf_f a ha, decide_eq_false (show ¬ magW a = 9218868437227405312 by omega), isNaN_f, isNaN_f]
            have e1 : (double.read a).isNaN = false := cxn
            have e2 : (double.read b).isNaN = false := cyn
            rw [e1, e2]
            simp only [Bool.false_eq_true, if_false, Option.bind_some]
            exact hv
          have hneg := key_neg cxn
          have hsx : (a / 9223372036854775808 % 2 == 1) = s := h5.symm
          rw [hsx] at hneg
          have hmod0 : b % 9223372036854775808 < 2 ^ 64 := by omega
          -- the two ways of a sign
          cases hrb : double.read b with
          | nan t f => exact absurd cyn (by unfold nn; rw [hrb]; simp [Datum.isNaN])
          | infinity t =>
            have hmb := (read_inf hrb).1
            refine wrapped a _ (head a ?_) (canon_number hra)
            refine ev_succ (fun k => by rw [math_mod.j0]) ?_
            simp only [Bool.false_eq_true, if_false, abs_f b hb, Option.bind_some]
            have habs : b % 9223372036854775808 = 9218868437227405312 := hmb
            rw [habs]
            have hfi : Ev (fun k => math_Frexp.f k 9218868437227405312) (9218868437227405312, 0) := by
              unfold math_Frexp.f
              refine ev_then (a := (9218868437227405312, 0)) ?_ rfl
              unfold math_frexp.f
              have i1 : (FloatKind.f64.format.order 9218868437227405312 0 == some Ordering.eq) = false := by decide
              have i2 : math_IsInf.f 9218868437227405312 0 = some true := by rw [isInf_f _ (by omega)]; rfl
              rw [i1, i2]
              simp only [Bool.false_eq_true, if_false, Option.bind_some, if_true]
              refine ev_succ (fun k => by rw [math_frexp.j0]) ?_
              simp only [if_true]
              exact Ev.now _
            refine Ev.bind hfi ?_
            -- a number's magnitude is less than what is infinite
            have lt_inf : ∀ r : Nat, nn r → keyW r < 9218868437227405312 → ∀ (z : Nat) (v : Nat), v = back (FloatKind.f64.format.order a 0 == some .lt) r → Ev (fun k => math_mod.l0 k a 9218868437227405312 9218868437227405312 0 r) v := by
              intro r hr hk z v hv
              refine ev_succ (fun k => by rw [math_mod.l0]) ?_
              have ni : nn 9218868437227405312 := nn_small (by omega)
              rw [ord_gt hr ni, ord_eq hr ni, key_pos (a := 9218868437227405312) (by omega)]
              rw [decide_eq_false (show ¬ (((9218868437227405312 : Nat) : Int) < keyW r) by omega), decide_eq_false (show ¬ (keyW r = ((9218868437227405312 : Nat) : Int)) by omega)]
              simp only [Bool.or_self, Bool.false_eq_true, if_false]
              rw [hv]
              unfold back
              cases (FloatKind.f64.format.order a 0 == some Ordering.lt)
              · simp only [Bool.false_eq_true, if_false]; exact Ev.now _
              · simp only [if_true]; exact Ev.now _
            rw [hneg]
            have haw := sign_word hra ha
            have hm63 : magW a < 9223372036854775808 := by omega
            cases hb2 : (decide (magW a ≠ 0) && s)
            · simp only [Bool.false_eq_true, if_false]
              refine ev_succ (fun k => by rw [math_mod.j1]) ?_
              refine lt_inf a cxn ?_ 0 a (by rw [hneg, hb2]; rfl)
              unfold keyW
              split <;> omega
            · simp only [if_true]
              have hs1 : s = true := by
                cases s
                · rw [Bool.and_false] at hb2; exact absurd hb2 (by simp)
                · rfl
              subst hs1
              refine ev_succ (fun k => by rw [math_mod.j1]) ?_
              have hnw : Op.negFloat .f64 a = double.word false (magW a) := by
                conv => lhs; rw [haw]
                rw [neg_word true hm63]; rfl
              have hw0 : double.word false (magW a) = magW a := by unfold Format.word; rw [if_neg (by simp)]
              rw [hnw, hw0]
              refine lt_inf (magW a) (nn_small (by omega)) (by rw [key_pos hm63]; omega) 0 a ?_
              rw [hneg, hb2]
              unfold back
              rw [if_pos rfl]
              have := neg_word false hm63
              rw [hw0] at this
              rw [this]
              exact haw
          | number t n q =>
            obtain ⟨k1, k2, k3, k4, k5, k6⟩ := read_number hrb
            have hn0 : n ≠ 0 := by
              rintro rfl
              unfold magW at cz
              omega
            have hab := read_abs hrb
            have hrem : remD a b (.number s m p) (.number t n q) = (ofV s (stepsOf m p % stepsOf n q) : Int) := by simp [remD, hn0]
            rw [hrem]
            obtain ⟨My, hM1, hM2, hMM, hfx⟩ := frexp_ev hab (by omega) hn0
            have hrep : Rep (stepsOf m p % stepsOf n q) := rep_mod h1 k1 (by obtain ⟨_, _, _, _, ht⟩ := rep_read hra; exact ht)
            have fin : ∀ v : Nat, v = ofV s (stepsOf m p % stepsOf n q) → Ev (fun k => math_mod.j0 k a b false) v → Ev (fun k => ((math_mod.f k a b).bind fun t174 => some t174).bind fun t177 => (impl_word.f t177).bind fun t178 => some t178) (ofV s (stepsOf m p % stepsOf n q) : Int) := by
              intro v hv hev
              refine wrapped v _ (head v hev) ?_
              rw [hv]
              exact canon_nearest _ _ _
            refine fin _ rfl ?_
            refine ev_succ (fun k => by rw [math_mod.j0]) ?_
            simp only [Bool.false_eq_true, if_false, abs_f b hb, Option.bind_some]
            refine Ev.bind hfx ?_
            have hbu : b % 9223372036854775808 < 2 ^ 64 := hmod0
            have ML := mod_loop a (b % 9223372036854775808) n q My hab hbu hn0 hM2 hM1 hMM
            have haw := sign_word hra ha
            have hm63 : magW a < 9223372036854775808 := by omega
            cases hb2 : (decide (magW a ≠ 0) && s)
            · rw [hb2] at hneg
              rw [hneg]
              simp only [Bool.false_eq_true, if_false]
              refine ev_succ (fun k => by rw [math_mod.j1]) ?_
              cases hs : s
              · subst hs
                have := ML _ a m p rfl hra ha
                rw [hneg] at this
                unfold back at this
                rw [if_neg (by simp)] at this
                exact this
              · subst hs
                have hz : magW a = 0 := by
                  rw [Bool.and_true] at hb2
                  have := of_decide_eq_false hb2
                  omega
                have hm0 : m = 0 := by unfold magW at hz; omega
                subst hm0
                have hst : stepsOf 0 p = 0 := by unfold stepsOf; rw [Nat.zero_mul]
                rw [hst, Nat.zero_mod, ofV_zero]
                rw [hz] at haw
                rw [← haw]
                refine ev_succ (fun k => by rw [math_mod.l0]) ?_
                have hyn : nn (b % 9223372036854775808) := nn_num hab
                have hyp := pos_lt hab hbu
                have hka : keyW a = 0 := by unfold keyW; rw [hz]; split <;> rfl
                have hkb : keyW (b % 9223372036854775808) = ((b % 9223372036854775808 : Nat) : Int) := key_pos (by omega)
                have hb0 : b % 9223372036854775808 ≠ 0 := by unfold magW at cz; exact cz
                rw [ord_gt cxn hyn, ord_eq cxn hyn, hka, hkb]
                rw [decide_eq_false (show ¬ (((b % 9223372036854775808 : Nat) : Int) < 0) by omega), decide_eq_false (show ¬ ((0 : Int) = ((b % 9223372036854775808 : Nat) : Int)) by omega), hneg]
                simp only [Bool.or_self, Bool.false_eq_true, if_false]
                exact Ev.now _
            · have hs1 : s = true := by
                cases s
                · rw [Bool.and_false] at hb2; exact absurd hb2 (by simp)
                · rfl
              subst hs1
              rw [hb2] at hneg
              rw [hneg]
              simp only [if_true]
              refine ev_succ (fun k => by rw [math_mod.j1]) ?_
              have hnw : Op.negFloat .f64 a = a % 9223372036854775808 := by
                conv => lhs; rw [haw]
                rw [neg_word true hm63]
                unfold Format.word
                rw [if_neg (by simp)]
                rfl
              rw [hnw]
              have := ML _ (a % 9223372036854775808) m p rfl (read_abs hra) (by omega)
              rw [hneg] at this
              unfold back at this
              rw [if_pos rfl, neg_ofV hrep] at this
              exact this
    · -- x is NaN
      have e1 : (double.read a).isNaN = true := by
        unfold nn at cxn
        cases h : (double.read a).isNaN
        · exact absurd h cxn
        · rfl
      have hr : remD a b (double.read a) (double.read b) = 9221120237041090560 := by
        cases hra : double.read a with
        | nan s f => rfl
        | infinity s => rw [hra] at e1; cases e1
        | number s m p => rw [hra] at e1; cases e1
      rw [hr]
      refine wrapped 9221120237041090561 _ ?_ nanw
      unfold math_mod.f
      rw [isInf_f a ha, isNaN_f, e1]
      cases (FloatKind.f64.format.order b 0 == some Ordering.eq)
      · simp only [Bool.false_eq_true, if_false, Option.bind_some, if_true]
        cases (decide (magW a = 9218868437227405312))
        · simp only [Bool.false_eq_true, if_false]; exact none_
        · simp only [if_true]; exact none_
      · simp only [if_true]; exact none_
  · -- y is NaN
    have e2 : (double.read b).isNaN = true := by
      unfold nn at cyn
      cases h : (double.read b).isNaN
      · exact absurd h cyn
      · rfl
    have hr : remD a b (double.read a) (double.read b) = 9221120237041090560 := by
      cases hrb : double.read b with
      | nan s f => cases double.read a <;> rfl
      | infinity s => rw [hrb] at e2; cases e2
      | number s m p => rw [hrb] at e2; cases e2
    rw [hr]
    refine wrapped 9221120237041090561 _ ?_ nanw
    unfold math_mod.f
    rw [isInf_f a ha, isNaN_f, isNaN_f, e2]
    cases (FloatKind.f64.format.order b 0 == some Ordering.eq)
    · simp only [Bool.false_eq_true, if_false, Option.bind_some, if_true]
      cases (decide (magW a = 9218868437227405312))
      · simp only [Bool.false_eq_true, if_false]
        cases (double.read a).isNaN
        · simp only [Bool.false_eq_true, if_false]; exact none_
        · simp only [if_true]; exact none_
      · simp only [if_true]; exact none_
    · simp only [if_true]; exact none_

end Go.Proofs.Ytlmiobfnkdkkjaa.FFnQuotients
