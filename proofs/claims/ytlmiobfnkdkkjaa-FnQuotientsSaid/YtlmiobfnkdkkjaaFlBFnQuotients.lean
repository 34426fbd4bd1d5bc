/- What the reference's functions on numbers in bits compute, against the model's floats. -/
import Derived.Test.YtlmiobfnkdkkjaaFlA
import Derived.Test.YtlmiobfnkdkkjaaQFnQuotientsx
namespace Go.Proofs.Ytlmiobfnkdkkjaa.FFnQuotients
open Go.RowKit Go.Proofs.Ytlmiobfnkdkkjaa.QFnQuotients Go.Proofs.YtlmiobfnkdkkjaaW.PrintWords Go.Proofs.YtlmiobfnkdkkjaaW.PrintLast Go.Proofs.Ytlmiobfnkdkkjaa.Fl Ieee
set_option linter.unusedVariables false
set_option linter.unusedSimpArgs false

theorem u64_id {x : Int} (h0 : 0 ≤ x) (h1 : x < 18446744073709551616) : IntKind.u64.wrap x = x := by
  rw [IntKind.wrap_u64]; omega
theorem w64_id {x : Int} (h0 : -9223372036854775808 ≤ x) (h1 : x ≤ 9223372036854775807) : wrap64 x = x := by
  unfold wrap64; omega

theorem pow_loop (n : Nat) (hn : n ≤ 63) : ∀ d i : Nat, i + d = n → ∀ k, d < k → spec_l03Pow.l0 k n ((2 ^ i : Nat) : Int) i = some ((2 ^ n : Nat) : Int) := by
  intro d
  induction d with
  | zero =>
    intro i hi k hk
    obtain ⟨k, rfl⟩ : ∃ m, k = m + 1 := ⟨k - 1, by omega⟩
    simp only [spec_l03Pow.l0]
    rw [if_neg (by omega)]
    have : i = n := by omega
    subst this; rfl
  | succ d ih =>
    intro i hi k hk
    obtain ⟨k, rfl⟩ : ∃ m, k = m + 1 := ⟨k - 1, by omega⟩
    simp only [spec_l03Pow.l0]
    rw [if_pos (by omega)]
    have hp : 2 ^ (i + 1) ≤ 2 ^ 63 := Nat.pow_le_pow_right (by omega) (by omega)
    have e1 : IntKind.u64.wrap (((2 ^ i : Nat) : Int) * 2) = ((2 ^ (i + 1) : Nat) : Int) := by
      rw [Nat.pow_succ] at hp ⊢
      rw [u64_id (by omega) (by omega)]; omega
    have e2 : wrap64 ((i : Int) + 1) = ((i + 1 : Nat) : Int) := by rw [w64_id (by omega) (by omega)]; omega
    rw [e1, e2]
    exact ih (i + 1) (by omega) k (by omega)

theorem pow_ev (n : Nat) (hn : n ≤ 63) : Ev (fun k => spec_l03Pow.f k (n : Int)) ((2 ^ n : Nat) : Int) :=
  ⟨n + 1, fun k hk => pow_loop n hn n 0 (by omega) k (by omega)⟩
theorem pow63 : Ev (fun k => spec_l03Pow.f k 63) 9223372036854775808 := pow_ev 63 (by omega)
theorem pow56 : Ev (fun k => spec_l03Pow.f k 56) 72057594037927936 := pow_ev 56 (by omega)

/-- A word of a sign and what stands below it. -/
def sgn (b : Bool) (a : Nat) : Int := if b then (a : Int) + 9223372036854775808 else a
theorem sign_ev (a : Nat) (b : Bool) (h : a < 9223372036854775808) : Ev (fun k => spec_l03Sign.f k (a : Int) b) (sgn b a) := by
  unfold spec_l03Sign.f sgn
  cases b
  · simp only [Bool.false_eq_true, if_false]; exact Ev.now _
  · simp only [if_true]
    refine Ev.bind pow63 ?_
    rw [u64_id (by omega) (by omega)]
    exact Ev.now _
theorem word_sgn (b : Bool) (a : Nat) : ((double.word b a : Nat) : Int) = sgn b a := by
  have e : double.signWeight = 9223372036854775808 := by decide
  unfold Format.word sgn
  rw [e]
  cases b <;> simp; omega

theorem ev_then {α β : Type} {g : Nat → Option α} {f : α → Option β} {a : α} {r : β} (h : Ev g a) (k : f a = some r) : Ev (fun n => (g n).bind f) r :=
  Ev.bind (f := fun _ => f) h ⟨0, fun _ _ => k⟩
theorem ev_idb {α : Type} {g : Nat → Option α} {a : α} (h : Ev g a) : Ev (fun n => (g n).bind fun t => some t) a := ev_then h rfl
/-- One round on: what is asked with k + 1 rounds is asked with k. -/
theorem ev_succ {α : Type} {g f : Nat → Option α} {r : α} (h : ∀ k, g (k + 1) = f k) (k : Ev f r) : Ev g r := Ev.step h k

theorem j9_ev (b : Bool) (m : Nat) (e : Int) (h1 : m < 2 ^ 53) (h2 : -1074 ≤ e) (h3 : 2 ^ 52 ≤ m ∨ e = -1074) (h4 : e ≤ 6000) :
    Ev (fun k => spec_RoundTo.j9 k b (m : Int) e) (sgn b (min ((e + 1074).toNat * 2 ^ 52 + m) 9218868437227405312)) := by
  refine ev_succ (fun k => by rw [spec_RoundTo.j9]) ?_
  by_cases c1 : m < 2 ^ 52
  · have he : e = -1074 := by omega
    subst he
    simp only [show ((m : Int) < 4503599627370496) from by omega, if_true]
    have : min (((-1074 : Int) + 1074).toNat * 2 ^ 52 + m) 9218868437227405312 = m := by omega
    rw [this]
    exact ev_idb (sign_ev m b (by omega))
  · simp only [show ¬ ((m : Int) < 4503599627370496) from by omega, if_false]
    by_cases c2 : e > 971
    · simp only [c2, if_true]
      have : min ((e + 1074).toNat * 2 ^ 52 + m) 9218868437227405312 = 9218868437227405312 := by omega
      rw [this]
      exact ev_idb (sign_ev 9218868437227405312 b (by omega))
    · simp only [c2, if_false]
      obtain ⟨E, hE⟩ : ∃ E : Nat, (e + 1074) = E := ⟨(e + 1074).toNat, by omega⟩
      have hm : min ((e + 1074).toNat * 2 ^ 52 + m) 9218868437227405312 = E * 2 ^ 52 + m := by omega
      rw [hm, w64_id (by omega) (by omega)]
      have e1 : e + 1075 = ((E + 1 : Nat) : Int) := by omega
      rw [e1]
      have e2 : IntKind.u64.wrap ((E + 1 : Nat) : Int) = ((E + 1 : Nat) : Int) := u64_id (by omega) (by omega)
      have e3 : IntKind.u64.wrap (((E + 1 : Nat) : Int) * 4503599627370496) = ((E + 1 : Nat) : Int) * 4503599627370496 := u64_id (by omega) (by omega)
      have e4 : IntKind.u64.wrap ((m : Int) - 4503599627370496) = (m : Int) - 4503599627370496 := u64_id (by omega) (by omega)
      have e5 : IntKind.u64.wrap ((m : Int) - 4503599627370496 + ((E + 1 : Nat) : Int) * 4503599627370496) = ((E * 2 ^ 52 + m : Nat) : Int) := by
        rw [u64_id (by omega) (by omega)]; omega
      rw [e2, e3, e4, e5]
      exact ev_idb (sign_ev (E * 2 ^ 52 + m) b (by omega))

theorem j8_ev (b : Bool) (m : Nat) (e : Int) (h1 : m ≤ 2 ^ 53) (h2 : -1074 ≤ e) (h3 : 2 ^ 52 ≤ m ∨ e = -1074) (h4 : e ≤ 5999) :
    Ev (fun k => spec_RoundTo.j8 k b (m : Int) e) (sgn b (min ((e + 1074).toNat * 2 ^ 52 + m) 9218868437227405312)) := by
  refine ev_succ (fun k => by rw [spec_RoundTo.j8]) ?_
  by_cases c1 : m = 2 ^ 53
  · subst c1
    simp only [show ((2 ^ 53 : Nat) : Int) = 9007199254740992 from by decide, if_true]
    rw [w64_id (by omega) (by omega)]
    have := j9_ev b (2 ^ 52) (e + 1) (by omega) (by omega) (by omega) (by omega)
    have hm : (e + 1 + 1074).toNat * 2 ^ 52 + 2 ^ 52 = (e + 1074).toNat * 2 ^ 52 + 2 ^ 53 := by omega
    rw [hm] at this
    exact this
  · simp only [show ¬ ((m : Int) = 9007199254740992) from by omega, if_false]
    exact j9_ev b m e (by omega) h2 h3 (by omega)

theorem j7_ev (b : Bool) (m : Nat) (e : Int) (u : Bool) (h1 : m < 2 ^ 53) (h2 : -1074 ≤ e) (h3 : 2 ^ 52 ≤ m ∨ e = -1074) (h4 : e ≤ 5999) :
    Ev (fun k => spec_RoundTo.j7 k b (m : Int) e u) (sgn b (min ((e + 1074).toNat * 2 ^ 52 + (m + u.toNat)) 9218868437227405312)) := by
  refine ev_succ (fun k => by rw [spec_RoundTo.j7]) ?_
  cases u
  · simp only [Bool.false_eq_true, if_false, Bool.toNat_false, Nat.add_zero]
    exact j8_ev b m e (by omega) h2 h3 h4
  · simp only [if_true, Bool.toNat_true]
    have e1 : IntKind.u64.wrap ((m : Int) + 1) = ((m + 1 : Nat) : Int) := by rw [u64_id (by omega) (by omega)]; omega
    rw [e1]
    exact j8_ev b (m + 1) e (by omega) h2 (by omega) h4

theorem tdiv2 (m : Nat) : Int.tdiv (m : Int) 2 = ((m / 2 : Nat) : Int) := by
  rw [Int.tdiv_eq_ediv_of_nonneg (by omega)]; omega
theorem tmod2 (m : Nat) : Int.tmod (m : Int) 2 = ((m % 2 : Nat) : Int) := by
  rw [Int.tmod_eq_emod_of_nonneg (by omega)]; omega
theorem beq2 (m : Nat) : ((((m % 2 : Nat) : Int)) == 1) = (m % 2 == 1) := by
  have : m % 2 = 0 ∨ m % 2 = 1 := by omega
  rcases this with h | h <;> simp [h]

/-- The loop that brings a number down: what it comes to is the rung of what it has. -/
theorem l1_ev (b : Bool) : ∀ (d m : Nat) (e : Int) (h r : Bool), m < 2 ^ 64 → -7000 ≤ e → e ≤ 5900 + (64 - m.log2 : Nat) → (2 ^ 52 ≤ m ∨ e ≤ -1074) → m.log2 + (-1074 - e).toNat ≤ d → (m ≠ 0 ∨ e = -1074) →
    Ev (fun k => spec_RoundTo.l1 k b (m : Int) e h r) (sgn b (min (rung (trio m h r) (e - 2)) 9218868437227405312)) := by
  intro d
  induction d using Nat.strongRecOn with
  | _ d ih =>
  intro m e h r hm hlow he h3 hd hz
  refine ev_succ (fun k => by rw [spec_RoundTo.l1]) ?_
  by_cases hgo : 2 ^ 53 ≤ m ∨ e < -1074
  · -- one round
    have hm0 : m ≠ 0 := by omega
    have goal6 : Ev (fun k => spec_RoundTo.j6 k b (m : Int) e h r true) (sgn b (min (rung (trio m h r) (e - 2)) 9218868437227405312)) := by
      refine ev_succ (fun k => by rw [spec_RoundTo.j6]) ?_
      simp only [if_true]
      have u1 : IntKind.u64.wrap (Int.tdiv (m : Int) 2) = ((m / 2 : Nat) : Int) := by rw [tdiv2, u64_id (by omega) (by omega)]
      have w1 : wrap64 (e + 1) = e + 1 := w64_id (by omega) (by omega)
      have hb : (Int.tmod (m : Int) 2 == 1) = (m % 2 == 1) := by rw [tmod2, beq2]
      have hL : e + 1 ≤ lastP m e := by
        rcases hgo with hgo | hgo
        · exact lastP_53 m e hgo
        · unfold lastP; omega
      have hlogm : m.log2 < 64 := (Nat.log2_lt hm0).2 hm
      rw [u1, w1, hb]
      -- the round that goes on
      have go : ¬ (m / 2 = 0 ∧ e + 1 < -1074) → Ev (fun k => spec_RoundTo.l1 k b ((m / 2 : Nat) : Int) (e + 1) (m % 2 == 1) (r || h)) (sgn b (min (rung (trio m h r) (e - 2)) 9218868437227405312)) := by
        intro hn
        rw [trio_step m e h r hm0 hL]
        by_cases hq : m / 2 = 0
        · have hm1 : m = 1 := by omega
          have he1 : e + 1 = -1074 := by omega
          refine ih (d - 1) (by omega) (m / 2) (e + 1) _ _ (by omega) (by omega) (by rw [hq]; simp; omega) (by omega) ?_ (by omega)
          rw [hq]; simp; omega
        · have hl2 : (m / 2).log2 + 1 = m.log2 := by
            rw [Nat.log2_def m]; simp [show m ≥ 2 by omega]
          refine ih (d - 1) (by omega) (m / 2) (e + 1) _ _ (by omega) (by omega) (by omega) (by omega) ?_ (by omega)
          omega
      have tiny : m / 2 = 0 → e + 1 < -1074 → ∀ q, Ev (fun k => spec_RoundTo.l1 k b ((m / 2 : Nat) : Int) (-1074) false q) (sgn b (min (rung (trio m h r) (e - 2)) 9218868437227405312)) := by
        intro hq hn q
        rw [trio_tiny m e h r (by omega) (by omega), hq]
        have := ih 0 (by omega) 0 (-1074) false q (by omega) (by omega) (by simp) (by omega) (by simp) (by omega)
        rw [trio_end 0 (-1074) false q (by omega) (by omega) (by omega)] at this
        exact this
      by_cases hq : m / 2 = 0
      · simp only [show ((m / 2 : Nat) : Int) = 0 from by omega, if_true]
        by_cases hn : e + 1 < -1074
        · have t0 := tiny hq hn
          simp only [show ((m / 2 : Nat) : Int) = 0 from by omega] at t0
          simp only [hn, if_true]
          cases r
          · cases h
            · simp only [Bool.false_eq_true, if_false]; exact t0 _
            · simp only [if_true, Bool.false_eq_true, if_false]; exact t0 _
          · simp only [if_true]; exact t0 _
        · have t0 := go (by omega)
          simp only [show ((m / 2 : Nat) : Int) = 0 from by omega] at t0
          simp only [hn, if_false]
          cases r
          · simp only [Bool.false_eq_true, if_false]; simpa using t0
          · simp only [if_true]; simpa using t0
      · have t0 := go (by omega)
        simp only [show ¬ (((m / 2 : Nat) : Int) = 0) from by omega, if_false]
        cases r
        · simp only [Bool.false_eq_true, if_false]; simpa using t0
        · simp only [if_true]; simpa using t0
    by_cases c : 2 ^ 53 ≤ m
    · simp only [show ((m : Int) ≥ 9007199254740992) from by omega, if_true]
      exact goal6
    · simp only [show ¬ ((m : Int) ≥ 9007199254740992) from by omega, if_false, show decide (e < (-1074)) = true from by simp; omega]
      exact goal6
  · have c1 : ¬ ((m : Int) ≥ 9007199254740992) := by omega
    simp only [c1, if_false, show decide (e < (-1074)) = false from by simp; omega]
    refine ev_succ (fun k => by rw [spec_RoundTo.j6]) ?_
    simp only [Bool.false_eq_true, if_false]
    rw [trio_end m e h r (by omega) (by omega) (by omega)]
    have hj := fun u => j7_ev b m e u (by omega) (by omega) (by omega) (by omega)
    cases h
    · simp only [Bool.false_eq_true, if_false, Bool.false_and, Bool.toNat_false]
      exact hj false
    · cases r
      · simp only [if_true, Bool.false_eq_true, if_false, Bool.true_and, Bool.false_or]
        rw [tmod2, beq2]
        exact hj _
      · simp only [if_true, Bool.true_and, Bool.true_or, Bool.toNat_true]
        exact hj true

theorem j4_ev (b : Bool) (m : Nat) (e : Int) (r : Bool) (hm : m < 2 ^ 64) (h0 : m ≠ 0) (hlow : -7000 ≤ e) (he : e ≤ 5900) (h3 : 2 ^ 52 ≤ m ∨ e ≤ -1074) :
    Ev (fun k => spec_RoundTo.j4 k b (m : Int) e r) (sgn b (min (rung (trio m false r) (e - 2)) 9218868437227405312)) := by
  refine ev_succ (fun k => by rw [spec_RoundTo.j4]) ?_
  exact l1_ev b _ m e false r hm hlow (by omega) h3 (Nat.le_refl _) (Or.inl h0)

theorem trio_plain (m : Nat) (e : Int) (h0 : m ≠ 0) : rung (trio m false false) (e - 2) = rung m e := by
  have a := rung_scale m 2 e h0
  have e1 : trio m false false = m * 2 ^ 2 := by unfold trio; simp; omega
  rw [e1]; exact a
theorem trio_more (m : Nat) (e : Int) (h0 : 2 ^ 53 ≤ m) : rung (trio m false true) (e - 2) = rung (2 * m + 1) (e - 1) := by
  have a := rung_between m 2 1 e h0 (by omega) (by omega)
  have e1 : trio m false true = m * 2 ^ 2 + 1 := by unfold trio; simp; omega
  rw [e1]; exact a

theorem l0_ev (b : Bool) : ∀ (d m : Nat) (e : Int), m < 2 ^ 64 → m ≠ 0 → -7000 ≤ e → e ≤ 5900 → 52 - m.log2 ≤ d →
    Ev (fun k => spec_RoundTo.l0 k b (m : Int) e false) (sgn b (min (rung m e) 9218868437227405312)) := by
  intro d
  induction d with
  | zero =>
    intro m e hm h0 hlow he hd
    have h52 : 2 ^ 52 ≤ m := by rw [← Nat.le_log2 h0]; omega
    refine ev_succ (fun k => by rw [spec_RoundTo.l0]) ?_
    simp only [show ¬ ((m : Int) < 4503599627370496) from by omega, if_false]
    rw [← trio_plain m e h0]
    exact j4_ev b m e false hm h0 hlow he (Or.inl h52)
  | succ d ih =>
    intro m e hm h0 hlow he hd
    refine ev_succ (fun k => by rw [spec_RoundTo.l0]) ?_
    by_cases c : m < 2 ^ 52
    · simp only [show ((m : Int) < 4503599627370496) from by omega, if_true]
      by_cases c2 : e > -1074
      · simp only [show (e > (-1074)) from by omega, if_true]
        have e1 : IntKind.u64.wrap ((m : Int) * 2) = ((m * 2 ^ 1 : Nat) : Int) := by rw [u64_id (by omega) (by omega)]; omega
        rw [e1, w64_id (by omega) (by omega)]
        have e2 := rung_scale m 1 e h0
        have e3 : e - 1 = e - ((1 : Nat) : Int) := by omega
        rw [← e2, e3]
        exact ih (m * 2 ^ 1) (e - ((1 : Nat) : Int)) (by omega) (by omega) (by omega) (by omega) (by rw [log2_scale m 1 h0]; omega)
      · simp only [show ¬ (e > (-1074)) from by omega, if_false]
        rw [← trio_plain m e h0]
        exact j4_ev b m e false hm h0 hlow he (Or.inr (by omega))
    · simp only [show ¬ ((m : Int) < 4503599627370496) from by omega, if_false]
      rw [← trio_plain m e h0]
      exact j4_ev b m e false hm h0 hlow he (Or.inl (by omega))

/-- What RoundTo gives: the word nearest to m * 2 ^ e, or (s) to something just above it. -/
def rt (b : Bool) (m : Nat) (e : Int) (s : Bool) : Int := ((double.nearest b (if s then 2 * m + 1 else m) (if s then e - 1 else e) : Nat) : Int)
theorem nearest_sgn (b : Bool) (m : Nat) (e : Int) (h : m ≠ 0) : ((double.nearest b m e : Nat) : Int) = sgn b (min (rung m e) 9218868437227405312) := by
  rw [nearest_eq b m e h, word_sgn]
theorem nearest_zero (b : Bool) (e : Int) : ((double.nearest b 0 e : Nat) : Int) = sgn b 0 := by
  unfold Format.nearest; rw [if_pos rfl, word_sgn]

theorem j2_ev (b : Bool) (m : Nat) (e : Int) (s : Bool) (hm : m < 2 ^ 64) (hs : s = true → 2 ^ 56 ≤ m) (hlow : -7000 ≤ e) (he : e ≤ 5900) :
    Ev (fun k => spec_RoundTo.j2 k b (m : Int) e s) (rt b m e s) := by
  refine ev_succ (fun k => by rw [spec_RoundTo.j2]) ?_
  by_cases h0 : m = 0
  · subst h0
    have hs0 : s = false := by cases s <;> simp_all
    subst hs0
    simp only [Int.natCast_zero, if_true]
    unfold rt
    simp only [Bool.false_eq_true, if_false]
    rw [nearest_zero]
    exact ev_idb (sign_ev 0 b (by omega))
  · simp only [show ¬ ((m : Int) = 0) from by omega, if_false]
    unfold rt
    cases s
    · simp only [Bool.false_eq_true, if_false]
      rw [nearest_sgn b m e h0]
      exact l0_ev b _ m e hm h0 hlow he (Nat.le_refl _)
    · have h56 := hs rfl
      simp only [if_true]
      rw [nearest_sgn b (2 * m + 1) (e - 1) (by omega), ← trio_more m e (by omega)]
      refine ev_succ (fun k => by rw [spec_RoundTo.l0]) ?_
      simp only [show ¬ ((m : Int) < 4503599627370496) from by omega, if_false]
      exact j4_ev b m e true hm h0 hlow he (Or.inl (by omega))

theorem round_ev (b : Bool) (m : Nat) (e : Int) (more : Bool) (hm : m < 2 ^ 64) (hlow : -5000 ≤ e) (he : e ≤ 5000) :
    Ev (fun k => spec_RoundTo.f k b (m : Int) e more) (rt b m e (more && decide (2 ^ 56 ≤ m))) := by
  unfold spec_RoundTo.f
  simp only [show ¬ (e > 5000) from by omega, if_false]
  refine ev_succ (fun k => by rw [spec_RoundTo.j0]) ?_
  simp only [show ¬ (e < (-5000)) from by omega, if_false]
  refine ev_succ (fun k => by rw [spec_RoundTo.j1]) ?_
  cases more
  · simp only [Bool.false_eq_true, if_false, Bool.false_and]
    exact j2_ev b m e false hm (by simp) (by omega) (by omega)
  · simp only [if_true, Bool.true_and]
    refine Ev.bind pow56 ?_
    have : decide ((m : Int) ≥ 72057594037927936) = decide (2 ^ 56 ≤ m) := by
      rw [decide_eq_decide]; omega
    rw [this]
    exact j2_ev b m e _ hm (by simp) (by omega) (by omega)

theorem rt_plain (b : Bool) (m : Nat) (e : Int) : rt b m e false = ((double.nearest b m e : Nat) : Int) := by simp [rt]

/-- FromInt: the word nearest to a whole number. -/
theorem fromInt_ev (n : Int) (h0 : -9223372036854775808 ≤ n) (h1 : n ≤ 9223372036854775807) :
    Ev (fun k => spec_FromInt.f k n) ((double.nearest (decide (n < 0)) n.natAbs 0 : Nat) : Int) := by
  unfold spec_FromInt.f
  by_cases c0 : n = -9223372036854775808
  · simp only [c0, if_true]
    refine Ev.bind pow63 (ev_idb ?_)
    have := round_ev true 9223372036854775808 0 false (by omega) (by omega) (by omega)
    rw [Bool.false_and, rt_plain] at this
    exact this
  · simp only [c0, if_false]
    by_cases c1 : n < 0
    · simp only [c1, if_true, decide_true]
      refine ev_idb ?_
      have e1 : IntKind.u64.wrap (wrap64 (-n)) = (n.natAbs : Int) := by rw [w64_id (by omega) (by omega), u64_id (by omega) (by omega)]; omega
      rw [e1]
      have := round_ev true n.natAbs 0 false (by omega) (by omega) (by omega)
      rw [Bool.false_and, rt_plain] at this
      exact this
    · simp only [c1, if_false, decide_false]
      refine ev_idb ?_
      have e1 : IntKind.u64.wrap n = (n.natAbs : Int) := by rw [u64_id (by omega) (by omega)]; omega
      rw [e1]
      have := round_ev false n.natAbs 0 false (by omega) (by omega) (by omega)
      rw [Bool.false_and, rt_plain] at this
      exact this

/-- PartsOfNumber: what a word stands for. -/
def partsD : Datum → Int × Bool × Int × Int
  | .nan _ _ => (1, false, 0, 0)
  | .infinity s => (2, s, 0, 0)
  | .number s m p => if m = 0 then (3, s, 0, 0) else (4, s, (m : Int), p)

theorem tdivN (m n : Nat) : Int.tdiv (m : Int) (n : Int) = ((m / n : Nat) : Int) := by
  rw [Int.tdiv_eq_ediv_of_nonneg (by omega), Int.natCast_ediv]
theorem tmodN (m n : Nat) : Int.tmod (m : Int) (n : Int) = ((m % n : Nat) : Int) := by
  rw [Int.tmod_eq_emod_of_nonneg (by omega), Int.natCast_emod]

theorem sw_double : double.signWeight = 9223372036854775808 := by decide
theorem bn_double : double.binade = 4503599627370496 := by decide

theorem parts_ev (a : Nat) (h : a < 2 ^ 64) : Ev (fun k => spec_PartsOfNumber.f k (a : Int)) (partsD (double.read a)) := by
  unfold spec_PartsOfNumber.f
  refine Ev.bind pow63 ?_
  simp only [show ¬ ((9223372036854775808 : Int) = 0) from by omega, if_false]
  have t1 : Int.tdiv (a : Int) 4503599627370496 = ((a / 4503599627370496 : Nat) : Int) := tdivN a 4503599627370496
  have t2 : Int.tmod ((a / 4503599627370496 : Nat) : Int) 2048 = ((a / 4503599627370496 % 2048 : Nat) : Int) := tmodN (a / 4503599627370496) 2048
  have t3 : Int.tmod (a : Int) 4503599627370496 = ((a % 4503599627370496 : Nat) : Int) := tmodN a 4503599627370496
  have t4 : Int.tdiv (a : Int) 9223372036854775808 = ((a / 9223372036854775808 : Nat) : Int) := tdivN a 9223372036854775808
  have x1 : IntKind.u64.wrap ((a / 4503599627370496 : Nat) : Int) = ((a / 4503599627370496 : Nat) : Int) := u64_id (by omega) (by omega)
  have x2 : wrap64 ((a / 4503599627370496 % 2048 : Nat) : Int) = ((a / 4503599627370496 % 2048 : Nat) : Int) := w64_id (by omega) (by omega)
  have x3 : IntKind.u64.wrap ((a / 9223372036854775808 : Nat) : Int) = ((a / 9223372036854775808 : Nat) : Int) := u64_id (by omega) (by omega)
  rw [t1, x1, t2, x2, t3, t4, x3]
  have hs : (((a / 9223372036854775808 : Nat) : Int) == 1) = (a / 9223372036854775808 % 2 == 1) := by
    have : a / 9223372036854775808 = 0 ∨ a / 9223372036854775808 = 1 := by omega
    rcases this with hh | hh <;> rw [hh] <;> rfl
  rw [hs]
  have key : double.read a = (if a % 9223372036854775808 < 4503599627370496 then Datum.number (a / 9223372036854775808 % 2 == 1) (a % 9223372036854775808) (-1074)
      else if a % 9223372036854775808 < 9218868437227405312 then Datum.number (a / 9223372036854775808 % 2 == 1) (4503599627370496 + a % 9223372036854775808 % 4503599627370496) ((-1074) + ((a % 9223372036854775808 / 4503599627370496 - 1 : Nat) : Int))
      else if a % 9223372036854775808 = 9218868437227405312 then Datum.infinity (a / 9223372036854775808 % 2 == 1) else Datum.nan (a / 9223372036854775808 % 2 == 1) (a % 9223372036854775808 - 9218868437227405312)) := by
    unfold Format.read
    simp only [sw_double, bn_double, inf_double, least_double]
  rw [key]
  generalize (a / 9223372036854775808 % 2 == 1) = s
  have f1 : a % 9223372036854775808 % 4503599627370496 = a % 4503599627370496 := by omega
  have f2 : a % 9223372036854775808 / 4503599627370496 = a / 4503599627370496 % 2048 := by omega
  have f3 : a % 9223372036854775808 = (a / 4503599627370496 % 2048) * 4503599627370496 + a % 4503599627370496 := by omega
  rw [f1, f2, f3]
  have hf : a % 4503599627370496 < 4503599627370496 := by omega
  have he : a / 4503599627370496 % 2048 < 2048 := by omega
  generalize a % 4503599627370496 = f at *
  generalize a / 4503599627370496 % 2048 = E at *
  clear t1 t2 t3 t4 x1 x2 x3 hs key f1 f2 f3
  generalize hD : partsD _ = D
  by_cases c1 : E = 2047
  · subst c1
    simp only [show (((2047 : Nat) : Int) = 2047) from rfl, if_true]
    rw [if_neg (by omega), if_neg (by omega)] at hD
    refine ev_succ (fun k => by rw [spec_PartsOfNumber.j0]) ?_
    by_cases c2 : f = 0
    · subst c2
      rw [if_pos (by omega)] at hD
      subst hD
      simp only [Int.natCast_zero, bne_self_eq_false, Bool.false_eq_true, if_false]
      exact Ev.now _
    · rw [if_neg (by omega)] at hD
      subst hD
      have : (((f : Nat) : Int) != 0) = true := by simp; omega
      simp only [this, if_true]
      exact Ev.now _
  · simp only [show ¬ ((E : Int) = 2047) from by omega, if_false]
    refine ev_succ (fun k => by rw [spec_PartsOfNumber.j0]) ?_
    simp only [Bool.false_eq_true, if_false, show ¬ ((E : Int) = 2047) from by omega]
    by_cases c2 : E = 0
    · subst c2
      rw [if_pos (by omega)] at hD
      simp only [Nat.zero_mul, Nat.zero_add, partsD] at hD
      simp only [Int.natCast_zero, if_true]
      refine ev_succ (fun k => by rw [spec_PartsOfNumber.j1]) ?_
      by_cases c3 : f = 0
      · rw [if_pos c3] at hD
        subst c3
        subst hD
        simp only [Int.natCast_zero, beq_self_eq_true, if_true]
        exact Ev.now _
      · rw [if_neg c3] at hD
        subst hD
        have : (((f : Nat) : Int) == 0) = false := by simp; omega
        simp only [this, Bool.false_eq_true, if_false, if_true]
        exact Ev.now _
    · rw [if_neg (by omega), if_pos (by omega)] at hD
      simp only [partsD] at hD
      rw [if_neg (by omega)] at hD
      subst hD
      simp only [show ¬ ((E : Int) = 0) from by omega, if_false]
      refine ev_succ (fun k => by rw [spec_PartsOfNumber.j1]) ?_
      have e1 : IntKind.u64.wrap ((f : Int) + 4503599627370496) = ((4503599627370496 + f : Nat) : Int) := by rw [u64_id (by omega) (by omega)]; omega
      have e2 : wrap64 ((E : Int) - 1075) = -1074 + ((E - 1 : Nat) : Int) := by rw [w64_id (by omega) (by omega)]; omega
      simp only [Bool.false_eq_true, if_false, show ¬ ((E : Int) = 0) from by omega, e1, e2]
      exact Ev.now _

end Go.Proofs.Ytlmiobfnkdkkjaa.FFnQuotients
