/- The reference's product is the double's product. -/
import Derived.Test.YtlmiobfnkdkkjaaFlDFnRoots
import Derived.Laws.FloatBits
namespace Go.Proofs.Ytlmiobfnkdkkjaa.FFnRoots
open Go.RowKit Go.Proofs.Ytlmiobfnkdkkjaa.QFnRoots Go.Proofs.YtlmiobfnkdkkjaaW.PrintWords Go.Proofs.YtlmiobfnkdkkjaaW.PrintLast Go.Proofs.Ytlmiobfnkdkkjaa.Fl Ieee
set_option linter.unusedVariables false
set_option linter.unusedSimpArgs false

theorem wide_ev (a b : Nat) (ha : a < 2 ^ 64) (hb : b < 2 ^ 64) : spec_Wide.f (a : Int) (b : Int) = some (((a * b / 18446744073709551616 : Nat) : Int), ((a * b % 18446744073709551616 : Nat) : Int)) := by
  unfold spec_Wide.f
  have d1 : Int.tdiv (a : Int) 4294967296 = ((a / 4294967296 : Nat) : Int) := tdivN a 4294967296
  have d2 : Int.tdiv (b : Int) 4294967296 = ((b / 4294967296 : Nat) : Int) := tdivN b 4294967296
  have d3 : Int.tmod (a : Int) 4294967296 = ((a % 4294967296 : Nat) : Int) := tmodN a 4294967296
  have d4 : Int.tmod (b : Int) 4294967296 = ((b % 4294967296 : Nat) : Int) := tmodN b 4294967296
  have e1 : IntKind.u64.wrap ((a / 4294967296 : Nat) : Int) = ((a / 4294967296 : Nat) : Int) := u64_id (by omega) (by omega)
  have e2 : IntKind.u64.wrap ((b / 4294967296 : Nat) : Int) = ((b / 4294967296 : Nat) : Int) := u64_id (by omega) (by omega)
  rw [d1, d2, d3, d4, e1, e2]
  have hab : a * b = (a / 4294967296 * 4294967296 + a % 4294967296) * (b / 4294967296 * 4294967296 + b % 4294967296) := by
    rw [Nat.div_add_mod', Nat.div_add_mod']
  have ha1 : a / 4294967296 ≤ 4294967295 := by omega
  have hb1 : b / 4294967296 ≤ 4294967295 := by omega
  have ha0 : a % 4294967296 ≤ 4294967295 := by omega
  have hb0 : b % 4294967296 ≤ 4294967295 := by omega
  rw [hab]
  generalize a / 4294967296 = a1 at *
  generalize b / 4294967296 = b1 at *
  generalize a % 4294967296 = a0 at *
  generalize b % 4294967296 = b0 at *
  clear d1 d2 d3 d4 e1 e2 hab ha hb a b
  have hx : (a1 * 4294967296 + a0) * (b1 * 4294967296 + b0) = a1 * b1 * 18446744073709551616 + (a1 * b0 + a0 * b1) * 4294967296 + a0 * b0 := by
    have t1 : a1 * 4294967296 * (b1 * 4294967296) = a1 * b1 * 18446744073709551616 := by rw [Nat.mul_mul_mul_comm]
    have t2 : a1 * 4294967296 * b0 = a1 * b0 * 4294967296 := by rw [Nat.mul_right_comm]
    have t3 : a0 * (b1 * 4294967296) = a0 * b1 * 4294967296 := by rw [Nat.mul_assoc]
    rw [Nat.add_mul, Nat.mul_add, Nat.mul_add, t1, t2, t3]
    omega
  rw [hx]
  have hP := Nat.mul_le_mul ha1 hb1
  have hQ := Nat.mul_le_mul ha1 hb0
  have hR := Nat.mul_le_mul ha0 hb1
  have hS := Nat.mul_le_mul ha0 hb0
  have c1 : ((a1 : Int) * (b1 : Int)) = ((a1 * b1 : Nat) : Int) := by push_cast; rfl
  have c2 : ((a1 : Int) * (b0 : Int)) = ((a1 * b0 : Nat) : Int) := by push_cast; rfl
  have c3 : ((a0 : Int) * (b1 : Int)) = ((a0 * b1 : Nat) : Int) := by push_cast; rfl
  have c4 : ((a0 : Int) * (b0 : Int)) = ((a0 * b0 : Nat) : Int) := by push_cast; rfl
  rw [c1, c2, c3, c4]
  generalize a1 * b1 = P at *
  generalize a1 * b0 = Q at *
  generalize a0 * b1 = R at *
  generalize a0 * b0 = S at *
  clear hx c1 c2 c3 c4 ha1 hb1 ha0 hb0
  have w1 : IntKind.u64.wrap (P : Int) = (P : Int) := u64_id (by omega) (by omega)
  have w2 : IntKind.u64.wrap (Q : Int) = (Q : Int) := u64_id (by omega) (by omega)
  have w3 : IntKind.u64.wrap (R : Int) = (R : Int) := u64_id (by omega) (by omega)
  have w4 : IntKind.u64.wrap (S : Int) = (S : Int) := u64_id (by omega) (by omega)
  rw [w1, w2, w3, w4]
  have f1 : Int.tdiv (S : Int) 4294967296 = ((S / 4294967296 : Nat) : Int) := tdivN S 4294967296
  have f2 : Int.tmod (S : Int) 4294967296 = ((S % 4294967296 : Nat) : Int) := tmodN S 4294967296
  have w5 : IntKind.u64.wrap ((S / 4294967296 : Nat) : Int) = ((S / 4294967296 : Nat) : Int) := u64_id (by omega) (by omega)
  have w6 : IntKind.u64.wrap ((Q : Int) + ((S / 4294967296 : Nat) : Int)) = ((Q + S / 4294967296 : Nat) : Int) := by rw [u64_id (by omega) (by omega)]; omega
  rw [f1, f2, w5, w6]
  have hM : Q + S / 4294967296 ≤ 18446744069414584320 := by omega
  generalize hm : Q + S / 4294967296 = M at *
  have f3 : Int.tdiv (M : Int) 4294967296 = ((M / 4294967296 : Nat) : Int) := tdivN M 4294967296
  have f4 : Int.tmod (M : Int) 4294967296 = ((M % 4294967296 : Nat) : Int) := tmodN M 4294967296
  have w7 : IntKind.u64.wrap ((M / 4294967296 : Nat) : Int) = ((M / 4294967296 : Nat) : Int) := u64_id (by omega) (by omega)
  have w8 : IntKind.u64.wrap ((R : Int) + ((M % 4294967296 : Nat) : Int)) = ((R + M % 4294967296 : Nat) : Int) := by rw [u64_id (by omega) (by omega)]; omega
  rw [f3, f4, w7, w8]
  have hO : R + M % 4294967296 ≤ 18446744069414584320 := by omega
  generalize ho : R + M % 4294967296 = O at *
  have f5 : Int.tdiv (O : Int) 4294967296 = ((O / 4294967296 : Nat) : Int) := tdivN O 4294967296
  have w9 : IntKind.u64.wrap ((O / 4294967296 : Nat) : Int) = ((O / 4294967296 : Nat) : Int) := u64_id (by omega) (by omega)
  have w10 : IntKind.u64.wrap ((P : Int) + ((M / 4294967296 : Nat) : Int)) = (P : Int) + ((M / 4294967296 : Nat) : Int) := u64_id (by omega) (by omega)
  rw [f5, w9, w10]
  have w11 : IntKind.u64.wrap ((O : Int) * 4294967296) = (((O % 4294967296) * 4294967296 : Nat) : Int) := by rw [IntKind.wrap_u64]; omega
  rw [w11]
  have w12 : IntKind.u64.wrap ((((O % 4294967296) * 4294967296 : Nat) : Int) + ((S % 4294967296 : Nat) : Int)) = (((O % 4294967296) * 4294967296 + S % 4294967296 : Nat) : Int) := by rw [u64_id (by omega) (by omega)]; omega
  have w13 : IntKind.u64.wrap ((P : Int) + ((M / 4294967296 : Nat) : Int) + ((O / 4294967296 : Nat) : Int)) = ((P + M / 4294967296 + O / 4294967296 : Nat) : Int) := by rw [u64_id (by omega) (by omega)]; omega
  rw [w12, w13]
  have g1 : P + M / 4294967296 + O / 4294967296 = (P * 18446744073709551616 + (Q + R) * 4294967296 + S) / 18446744073709551616 := by omega
  have g2 : (O % 4294967296) * 4294967296 + S % 4294967296 = (P * 18446744073709551616 + (Q + R) * 4294967296 + S) % 18446744073709551616 := by omega
  rw [g1, g2]

/-- A number that is cut, and what was cut off as a rest: it is rounded as it was. -/
theorem rt_cut (b : Bool) (X t : Nat) (e : Int) (hX : X ≠ 0) (h : X % 2 ^ t ≠ 0 → 2 ^ 53 ≤ X / 2 ^ t) :
    rt b (X / 2 ^ t) (e + t) (decide (X % 2 ^ t ≠ 0)) = ((double.nearest b X e : Nat) : Int) := by
  have hp : 0 < 2 ^ t := Nat.two_pow_pos t
  have hdm : X = X / 2 ^ t * 2 ^ t + X % 2 ^ t := (Nat.div_add_mod' X (2 ^ t)).symm
  unfold rt
  by_cases c : X % 2 ^ t = 0
  · simp only [c, ne_eq, not_true_eq_false, decide_false, Bool.false_eq_true, if_false]
    have hq : X / 2 ^ t ≠ 0 := by intro hh; rw [hh, c] at hdm; omega
    have := nearest_scale b (X / 2 ^ t) t (e + t) hq
    rw [← this]
    congr 2
    · rw [c] at hdm; omega
    · omega
  · simp only [c, ne_eq, not_false_eq_true, decide_true, if_true]
    have h53 := h c
    rw [nearest_sgn _ _ _ (by omega), nearest_sgn _ _ _ hX]
    have hb := rung_between (X / 2 ^ t) t (X % 2 ^ t) (e + t) h53 (by omega) (Nat.mod_lt _ hp)
    rw [← hdm] at hb
    have e1 : e + (t : Int) - (t : Int) = e := by omega
    rw [e1] at hb
    rw [hb]

theorem mul_loop (b : Bool) (X : Nat) (e : Int) (hX : X ≠ 0) (hXb : X < 2 ^ 107) (he1 : -4000 ≤ e) (he2 : e ≤ 4000) :
    ∀ d t : Nat, t ≤ 43 → (X / 2 ^ t) / 18446744073709551616 < 2 ^ d → d + t ≤ 43 → (t ≠ 0 → 2 ^ 63 ≤ X / 2 ^ t) →
    Ev (fun k => spec_Mul.l0 k b ((X / 2 ^ t / 18446744073709551616 : Nat) : Int) ((X / 2 ^ t % 18446744073709551616 : Nat) : Int) (e + t) (decide (X % 2 ^ t ≠ 0))) ((double.nearest b X e : Nat) : Int) := by
  have base : ∀ t : Nat, t ≤ 43 → X / 2 ^ t / 18446744073709551616 = 0 → (t ≠ 0 → 2 ^ 63 ≤ X / 2 ^ t) →
      Ev (fun k => spec_Mul.l0 k b ((X / 2 ^ t / 18446744073709551616 : Nat) : Int) ((X / 2 ^ t % 18446744073709551616 : Nat) : Int) (e + t) (decide (X % 2 ^ t ≠ 0))) ((double.nearest b X e : Nat) : Int) := by
    intro t ht h0 hbig
    have hmodX : ∀ Z, Z = X / 2 ^ t → rt b Z (e + t) (decide (X % 2 ^ t ≠ 0)) = rt b (X / 2 ^ t) (e + t) (decide (X % 2 ^ t ≠ 0)) := fun Z hZ => by rw [hZ]
    have hcut : (t ≠ 0 → 2 ^ 63 ≤ X / 2 ^ t) → rt b (X / 2 ^ t) (e + t) (decide (X % 2 ^ t ≠ 0)) = ((double.nearest b X e : Nat) : Int) := fun hbig => rt_cut b X t e hX (fun c => by
      have ht0 : t ≠ 0 := by rintro rfl; rw [Nat.pow_zero, Nat.mod_one] at c; exact c rfl
      have := hbig ht0; omega)
    have hcut := hcut hbig
    clear hmodX
    generalize X / 2 ^ t = Y at *
    refine ev_succ (fun k => by rw [spec_Mul.l0]) ?_
    simp only [h0, Int.natCast_zero, show ¬ ((0 : Int) > 0) from by omega, if_false]
    refine ev_idb ?_
    have hlt : Y % 18446744073709551616 = Y := by omega
    rw [hlt]
    have hr := round_ev b Y (e + t) (decide (X % 2 ^ t ≠ 0)) (by omega) (by omega) (by omega)
    have hs : (decide (X % 2 ^ t ≠ 0) && decide (2 ^ 56 ≤ Y)) = decide (X % 2 ^ t ≠ 0) := by
      by_cases c : X % 2 ^ t ≠ 0
      · have ht0 : t ≠ 0 := by rintro rfl; rw [Nat.pow_zero, Nat.mod_one] at c; exact c rfl
        have := hbig ht0
        have h56 : decide (2 ^ 56 ≤ Y) = true := by simp; omega
        rw [h56, Bool.and_true]
      · have : decide (X % 2 ^ t ≠ 0) = false := by simpa using c
        rw [this, Bool.false_and]
    rw [hs, hcut] at hr
    exact hr
  intro d
  induction d with
  | zero =>
    intro t ht h0 hdt hbig
    exact base t ht (Nat.lt_one_iff.mp h0) hbig
  | succ d ih =>
    intro t ht h0 hdt hbig
    by_cases c0 : X / 2 ^ t / 18446744073709551616 = 0
    · exact base t ht c0 hbig
    · obtain ⟨Y, hY⟩ : ∃ Y, Y = X / 2 ^ t := ⟨_, rfl⟩
      have hYb : Y < 2 ^ 107 := by have := Nat.div_le_self X (2 ^ t); omega
      have hdiv : X / 2 ^ (t + 1) = Y / 2 := by rw [Nat.pow_succ, ← Nat.div_div_eq_div_mul, hY]
      have hmod : decide (X % 2 ^ (t + 1) ≠ 0) = (decide (X % 2 ^ t ≠ 0) || (Y % 2 == 1)) := by
        rw [Nat.pow_succ, Nat.mod_mul, ← hY]
        have hp : 0 < 2 ^ t := Nat.two_pow_pos t
        have h2 : Y % 2 = 0 ∨ Y % 2 = 1 := by omega
        rcases h2 with h2 | h2
        · simp [h2]
        · have : X % 2 ^ t + 2 ^ t * 1 ≠ 0 := by omega
          simp [h2]
      have hnext := ih (t + 1) (by omega) (by rw [hdiv]; rw [← hY, Nat.pow_succ] at h0; omega) (by omega) (fun _ => by rw [hdiv]; omega)
      rw [hdiv, hmod] at hnext
      rw [← hY] at c0 ⊢
      refine ev_succ (fun k => by rw [spec_Mul.l0]) ?_
      simp only [show (((Y / 18446744073709551616 : Nat) : Int) > 0) from by omega, if_true]
      have q1 : Int.tdiv ((Y / 18446744073709551616 : Nat) : Int) 2 = ((Y / 18446744073709551616 / 2 : Nat) : Int) := tdivN _ 2
      have q2 : IntKind.u64.wrap ((Y / 18446744073709551616 / 2 : Nat) : Int) = ((Y / 18446744073709551616 / 2 : Nat) : Int) := u64_id (by omega) (by omega)
      have q3 : Int.tdiv ((Y % 18446744073709551616 : Nat) : Int) 2 = ((Y % 18446744073709551616 / 2 : Nat) : Int) := tdivN _ 2
      have q4 : IntKind.u64.wrap ((Y % 18446744073709551616 / 2 : Nat) : Int) = ((Y % 18446744073709551616 / 2 : Nat) : Int) := u64_id (by omega) (by omega)
      have q5 : Int.tmod ((Y / 18446744073709551616 : Nat) : Int) 2 = ((Y / 18446744073709551616 % 2 : Nat) : Int) := tmodN _ 2
      have q6 : IntKind.u64.wrap (((Y / 18446744073709551616 % 2 : Nat) : Int) * 9223372036854775808) = ((Y / 18446744073709551616 % 2 : Nat) : Int) * 9223372036854775808 := u64_id (by omega) (by omega)
      have q7 : IntKind.u64.wrap (((Y % 18446744073709551616 / 2 : Nat) : Int) + ((Y / 18446744073709551616 % 2 : Nat) : Int) * 9223372036854775808) = ((Y / 2 % 18446744073709551616 : Nat) : Int) := by
        rw [u64_id (by omega) (by omega)]; omega
      have q8 : Int.tmod ((Y % 18446744073709551616 : Nat) : Int) 2 = ((Y % 18446744073709551616 % 2 : Nat) : Int) := tmodN _ 2
      have q9 : (((Y % 18446744073709551616 % 2 : Nat) : Int) == 1) = (Y % 2 == 1) := by
        rw [beq2]; congr 1; omega
      have q10 : wrap64 (e + (t : Int) + 1) = e + ((t + 1 : Nat) : Int) := by rw [w64_id (by omega) (by omega)]; omega
      have q11 : Y / 18446744073709551616 / 2 = Y / 2 / 18446744073709551616 := by omega
      simp only [q1, q2, q3, q4, q5]
      rw [q8, q9, q10, q11]
      by_cases cm : X % 2 ^ t ≠ 0
      · have : decide (X % 2 ^ t ≠ 0) = true := by simpa using cm
        rw [this] at hnext ⊢
        simp only [if_true, Bool.true_or] at hnext ⊢
        refine Ev.bind pow63 ?_
        rw [q6, q7]
        exact hnext
      · have : decide (X % 2 ^ t ≠ 0) = false := by simpa using cm
        rw [this] at hnext ⊢
        simp only [Bool.false_eq_true, if_false, Bool.false_or] at hnext ⊢
        refine Ev.bind pow63 ?_
        rw [q6, q7]
        exact hnext

theorem mul_number (b : Bool) (m n : Nat) (p q : Int) (hm : m < 2 ^ 53) (hn : n < 2 ^ 53) (hm0 : m ≠ 0) (hn0 : n ≠ 0) (hp : -1074 ≤ p ∧ p ≤ 971) (hq : -1074 ≤ q ∧ q ≤ 971) :
    Ev (fun k => (spec_Wide.f (m : Int) (n : Int)).bind fun bt243 => (spec_Mul.l0 k b bt243.1 bt243.2 (wrap64 (p + q)) false)) ((double.nearest b (m * n) (p + q) : Nat) : Int) := by
  rw [wide_ev m n (by omega) (by omega)]
  simp only [Option.bind_some]
  have hX : m * n ≠ 0 := Nat.mul_ne_zero hm0 hn0
  have hXb : m * n < 2 ^ 107 := by
    have := Nat.mul_le_mul (show m ≤ 2 ^ 53 by omega) (show n ≤ 2 ^ 53 by omega)
    omega
  have h := mul_loop b (m * n) (p + q) hX hXb (by omega) (by omega) 43 0 (by omega) (by rw [Nat.pow_zero, Nat.div_one]; omega) (by omega) (by simp)
  simp only [Nat.pow_zero, Nat.div_one, Nat.mod_one, ne_eq, not_true_eq_false, decide_false, Int.natCast_zero, Int.add_zero] at h
  rw [w64_id (by omega) (by omega)]
  exact h

theorem inf_word (b : Bool) : ((double.word b double.infRung : Nat) : Int) = sgn b 9218868437227405312 := by rw [word_sgn, inf_double]
theorem canon_word_inf (b : Bool) : canonW (double.word b double.infRung) = sgn b 9218868437227405312 := by
  rw [canon_le, inf_word]
  rw [inf_double]
  unfold Format.word
  rw [sw_dbl]
  cases b <;> simp

theorem bne_xor (s t : Bool) : (s != t) = (s ^^ t) := by cases s <;> cases t <;> rfl

/-- Product: the program's is the reference's. -/
theorem mul_ev (a b : Nat) (ha : a < 2 ^ 64) (hb : b < 2 ^ 64) : Ev (fun k => spec_Mul.f k (a : Int) (b : Int)) (canonO (double.mul a b)) := by
  unfold spec_Mul.f
  refine Ev.bind (parts_ev a ha) (Ev.bind (parts_ev b hb) ?_)
  have hmul : double.mul a b = ((double.read a).product (double.read b)).map double.write := rfl
  rw [hmul]
  have nanw : ∀ (x7 : Bool) (a1 : Int) (a2 : Bool) (a3 a4 b1 : Int) (b2 : Bool) (b3 b4 : Int), Ev (fun k => spec_Mul.j0 k x7 true a1 a2 a3 a4 b1 b2 b3 b4) 9221120237041090560 := fun x7 a1 a2 a3 a4 b1 b2 b3 b4 => by
    refine ev_succ (fun k => by rw [spec_Mul.j0]) ?_
    simp only [if_true]
    exact Ev.now _
  cases hra : double.read a with
  | nan s1 f1 =>
    cases hrb : double.read b <;> simp only [partsD, if_true, Datum.product, Option.map_none] <;> exact nanw _ _ _ _ _ _ _ _ _
  | infinity s1 =>
    cases hrb : double.read b with
    | nan s2 f2 =>
      simp only [partsD, if_true, Datum.product, Option.map_none, show ¬ ((2 : Int) = 1) from by omega, if_false]
      exact nanw _ _ _ _ _ _ _ _ _
    | infinity s2 =>
      simp only [partsD, Datum.product, Option.map_some, Format.write, show ¬ ((2 : Int) = 1) from by omega, show ¬ ((2 : Int) = 3) from by omega, if_false, if_true]
      refine ev_succ (fun k => by rw [spec_Mul.j0]) ?_
      simp only [Bool.false_eq_true, if_false, if_true]
      refine ev_succ (fun k => by rw [spec_Mul.j1]) ?_
      simp only [if_true]
      rw [bne_xor]
      show Ev _ (canonW _)
      rw [canon_word_inf]
      exact ev_idb (sign_ev 9218868437227405312 _ (by omega))
    | number s2 n q =>
      by_cases hn0 : n = 0
      · subst hn0
        simp only [partsD, if_true, Datum.product, Option.map_none, show ¬ ((2 : Int) = 1) from by omega, show ¬ ((3 : Int) = 1) from by omega, if_false]
        exact nanw _ _ _ _ _ _ _ _ _
      · simp only [partsD, hn0, Datum.product, Option.map_some, Format.write, show ¬ ((2 : Int) = 1) from by omega, show ¬ ((4 : Int) = 1) from by omega, show ¬ ((4 : Int) = 3) from by omega, show ¬ ((2 : Int) = 3) from by omega, if_false, if_true]
        refine ev_succ (fun k => by rw [spec_Mul.j0]) ?_
        simp only [Bool.false_eq_true, if_false, if_true]
        refine ev_succ (fun k => by rw [spec_Mul.j1]) ?_
        simp only [if_true]
        rw [bne_xor]
        show Ev _ (canonW _)
        rw [canon_word_inf]
        exact ev_idb (sign_ev 9218868437227405312 _ (by omega))
  | number s1 m p =>
    obtain ⟨a1, a2, a3, a4, a5, a6⟩ := read_number hra
    cases hrb : double.read b with
    | nan s2 f2 =>
      by_cases hm0 : m = 0 <;> simp only [partsD, hm0, if_true, if_false, Datum.product, Option.map_none, show ¬ ((3 : Int) = 1) from by omega, show ¬ ((4 : Int) = 1) from by omega] <;> exact nanw _ _ _ _ _ _ _ _ _
    | infinity s2 =>
      by_cases hm0 : m = 0
      · subst hm0
        simp only [partsD, if_true, Datum.product, Option.map_none, show ¬ ((3 : Int) = 1) from by omega, show ¬ ((2 : Int) = 1) from by omega, show ¬ ((3 : Int) = 2) from by omega, if_false, show ((2 : Int) == 2) = true from rfl]
        exact nanw _ _ _ _ _ _ _ _ _
      · simp only [partsD, hm0, Datum.product, Option.map_some, Format.write, show ¬ ((2 : Int) = 1) from by omega, show ¬ ((4 : Int) = 1) from by omega, show ¬ ((4 : Int) = 3) from by omega, show ¬ ((4 : Int) = 2) from by omega, if_false, if_true]
        refine ev_succ (fun k => by rw [spec_Mul.j0]) ?_
        simp only [Bool.false_eq_true, if_false, show ¬ ((4 : Int) = 2) from by omega, show ((2 : Int) == 2) = true from rfl]
        refine ev_succ (fun k => by rw [spec_Mul.j1]) ?_
        simp only [if_true]
        rw [bne_xor]
        show Ev _ (canonW _)
        rw [canon_word_inf, Bool.xor_comm]
        exact ev_idb (sign_ev 9218868437227405312 _ (by omega))
    | number s2 n q =>
      obtain ⟨b1, b2, b3, b4, b5, b6⟩ := read_number hrb
      have zero : ∀ x7 : Bool, Ev (fun k => (spec_l03Sign.f k 0 x7).bind fun t242 => (some t242)) (canonW (double.nearest x7 0 (p + q))) := fun x7 => by
        rw [canon_nearest, nearest_zero]
        exact ev_idb (sign_ev 0 x7 (by omega))
      simp only [Datum.product, Option.map_some, Format.write]
      show Ev _ (canonW _)
      by_cases hm0 : m = 0
      · subst hm0
        simp only [partsD, if_true, show ¬ ((3 : Int) = 1) from by omega, show ¬ ((3 : Int) = 2) from by omega, if_false]
        by_cases hn0 : n = 0
        · subst hn0
          simp only [if_true, show ¬ ((3 : Int) = 1) from by omega, if_false, show ((3 : Int) == 2) = false from rfl]
          refine ev_succ (fun k => by rw [spec_Mul.j0]) ?_
          simp only [Bool.false_eq_true, if_false, show ¬ ((3 : Int) = 2) from by omega, show ((3 : Int) == 2) = false from rfl]
          refine ev_succ (fun k => by rw [spec_Mul.j1]) ?_
          simp only [Bool.false_eq_true, if_false, if_true]
          refine ev_succ (fun k => by rw [spec_Mul.j2]) ?_
          simp only [if_true]
          rw [bne_xor]
          exact zero _
        · simp only [hn0, if_false, show ¬ ((4 : Int) = 1) from by omega, show ((4 : Int) == 2) = false from rfl]
          refine ev_succ (fun k => by rw [spec_Mul.j0]) ?_
          simp only [Bool.false_eq_true, if_false, show ¬ ((3 : Int) = 2) from by omega, show ((4 : Int) == 2) = false from rfl]
          refine ev_succ (fun k => by rw [spec_Mul.j1]) ?_
          simp only [Bool.false_eq_true, if_false, if_true]
          refine ev_succ (fun k => by rw [spec_Mul.j2]) ?_
          simp only [if_true]
          rw [bne_xor, Nat.zero_mul]
          exact zero _
      · simp only [partsD, hm0, if_false, show ¬ ((4 : Int) = 1) from by omega, show ¬ ((4 : Int) = 2) from by omega, show ¬ ((4 : Int) = 3) from by omega]
        by_cases hn0 : n = 0
        · subst hn0
          simp only [if_true, show ¬ ((3 : Int) = 1) from by omega, if_false]
          refine ev_succ (fun k => by rw [spec_Mul.j0]) ?_
          simp only [Bool.false_eq_true, if_false, show ¬ ((4 : Int) = 2) from by omega, show ((3 : Int) == 2) = false from rfl]
          refine ev_succ (fun k => by rw [spec_Mul.j1]) ?_
          simp only [Bool.false_eq_true, if_false, show ¬ ((4 : Int) = 3) from by omega, show ((3 : Int) == 3) = true from rfl]
          refine ev_succ (fun k => by rw [spec_Mul.j2]) ?_
          simp only [if_true]
          rw [bne_xor, Nat.mul_zero]
          exact zero _
        · simp only [hn0, if_false, show ¬ ((4 : Int) = 1) from by omega]
          refine ev_succ (fun k => by rw [spec_Mul.j0]) ?_
          simp only [Bool.false_eq_true, if_false, show ¬ ((4 : Int) = 2) from by omega, show ((4 : Int) == 2) = false from rfl]
          refine ev_succ (fun k => by rw [spec_Mul.j1]) ?_
          simp only [Bool.false_eq_true, if_false, show ¬ ((4 : Int) = 3) from by omega, show ((4 : Int) == 3) = false from rfl]
          refine ev_succ (fun k => by rw [spec_Mul.j2]) ?_
          simp only [Bool.false_eq_true, if_false]
          rw [bne_xor, canon_nearest]
          exact mul_number _ m n p q a1 b1 hm0 hn0 ⟨a2, a3⟩ ⟨b2, b3⟩

end Go.Proofs.Ytlmiobfnkdkkjaa.FFnRoots
