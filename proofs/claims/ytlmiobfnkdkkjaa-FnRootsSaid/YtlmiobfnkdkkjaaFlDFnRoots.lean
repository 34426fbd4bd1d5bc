/- The reference's root is the double's root. -/
import Derived.Test.YtlmiobfnkdkkjaaFlBFnRoots
import Derived.Test.YtlmiobfnkdkkjaaFlC
namespace Go.Proofs.Ytlmiobfnkdkkjaa.FFnRoots
open Go.RowKit Go.Proofs.Ytlmiobfnkdkkjaa.QFnRoots Go.Proofs.YtlmiobfnkdkkjaaW.PrintWords Go.Proofs.YtlmiobfnkdkkjaaW.PrintLast Go.Proofs.Ytlmiobfnkdkkjaa.Fl Ieee
set_option linter.unusedVariables false
set_option linter.unusedSimpArgs false

theorem up_loop (kd : Int) (b : Bool) (m : Nat) (e : Int) (h0 : m ≠ 0) (h1 : m < 2 ^ 53) (he : -2000 ≤ e) (he' : e ≤ 2000) :
    ∀ d i : Nat, i + d = 52 - m.log2 → Ev (fun k => spec_l05Up.l0 k kd b ((m * 2 ^ i : Nat) : Int) (e - i)) (kd, b, ((m * 2 ^ (52 - m.log2) : Nat) : Int), e - ((52 - m.log2 : Nat) : Int)) := by
  have hl : m.log2 < 53 := (Nat.log2_lt h0).2 h1
  intro d
  induction d with
  | zero =>
    intro i hi
    have hi' : i = 52 - m.log2 := by omega
    subst hi'
    refine ev_succ (fun k => by rw [spec_l05Up.l0]) ?_
    have hk0 : m * 2 ^ (52 - m.log2) ≠ 0 := Nat.mul_ne_zero h0 (by have := Nat.two_pow_pos (52 - m.log2); omega)
    have : 2 ^ 52 ≤ m * 2 ^ (52 - m.log2) := by rw [← Nat.le_log2 hk0, log2_scale _ _ h0]; omega
    simp only [show ¬ (((m * 2 ^ (52 - m.log2) : Nat) : Int) < 4503599627370496) from by omega, if_false]
    exact Ev.now _
  | succ d ih =>
    intro i hi
    refine ev_succ (fun k => by rw [spec_l05Up.l0]) ?_
    have hk0 : m * 2 ^ i ≠ 0 := Nat.mul_ne_zero h0 (by have := Nat.two_pow_pos i; omega)
    have hlt : m * 2 ^ i < 2 ^ 52 := by rw [← Nat.log2_lt hk0, log2_scale _ _ h0]; omega
    simp only [show (((m * 2 ^ i : Nat) : Int) < 4503599627370496) from by omega, if_true]
    have e1 : IntKind.u64.wrap (((m * 2 ^ i : Nat) : Int) * 2) = ((m * 2 ^ (i + 1) : Nat) : Int) := by
      rw [u64_id (by omega) (by omega), Nat.pow_succ, ← Nat.mul_assoc]; omega
    have e2 : wrap64 (e - (i : Int) - 1) = e - ((i + 1 : Nat) : Int) := by rw [w64_id (by omega) (by omega)]; omega
    rw [e1, e2]
    exact ih (i + 1) (by omega)
theorem up_ev (kd : Int) (b : Bool) (m : Nat) (e : Int) (h0 : m ≠ 0) (h1 : m < 2 ^ 53) (he : -2000 ≤ e) (he' : e ≤ 2000) :
    Ev (fun k => spec_l05Up.f k kd b (m : Int) e) (kd, b, ((m * 2 ^ (52 - m.log2) : Nat) : Int), e - ((52 - m.log2 : Nat) : Int)) := by
  have := up_loop kd b m e h0 h1 he he' (52 - m.log2) 0 (by omega)
  simp only [Nat.pow_zero, Nat.mul_one, Int.natCast_zero, Int.sub_zero] at this
  exact this

theorem nearest_scale (s : Bool) (m k : Nat) (p : Int) (h : m ≠ 0) : double.nearest s (m * 2 ^ k) (p - k) = double.nearest s m p := by
  rw [nearest_eq s _ _ (Nat.mul_ne_zero h (by have := Nat.two_pow_pos k; omega)), nearest_eq s _ _ h, rung_scale m k p h]

theorem sq_lt {r D : Nat} (h : r * r ≤ D) (hD : D < 2 ^ 116) : r < 2 ^ 58 := by
  by_cases c : r < 2 ^ 58
  · exact c
  · have := Nat.mul_le_mul (show 2 ^ 58 ≤ r by omega) (show 2 ^ 58 ≤ r by omega)
    omega

/-- The root's loop, digit by digit. -/
theorem sqrt_loop (M : Nat) (e : Int) (hM0 : 2 ^ 52 ≤ M) (hM : M < 2 ^ 54) (he : e % 2 = 0) (hlo : -2000 ≤ e) (hhi : e ≤ 2000) :
    ∀ u root left : Nat, u ≤ 59 → root * root + left = M * 4 ^ 31 / 4 ^ u → left ≤ 2 * root →
    ∃ w, IsRt (M * 4 ^ 31) w ∧ Ev (fun k => spec_Sqrt.l0 k (M : Int) e (root : Int) (left : Int) ((u : Int) - 32)) ((double.nearest false (2 * w + rst (M * 4 ^ 31) w) (e / 2 - 31 - 1) : Nat) : Int) := by
  intro u
  induction u with
  | zero =>
    intro root left hu h hl
    rw [Nat.pow_zero, Nat.div_one] at h
    have hrt : IsRt (M * 4 ^ 31) root := by
      refine ⟨by omega, ?_⟩
      rw [Nat.add_mul, Nat.mul_add]; omega
    refine ⟨root, hrt, ?_⟩
    refine ev_succ (fun k => by rw [spec_Sqrt.l0]) ?_
    simp only [Int.natCast_zero, show ¬ ((0 : Int) - 32 ≥ (-31)) from by omega, if_false]
    refine ev_idb ?_
    have hroot : root < 2 ^ 58 := sq_lt (D := M * 4 ^ 31) (by omega) (by omega)
    have hbig : 2 ^ 56 ≤ root := by
      by_cases c : 2 ^ 56 ≤ root
      · exact c
      · have := Nat.mul_le_mul (show root + 1 ≤ 2 ^ 56 by omega) (show root + 1 ≤ 2 ^ 56 by omega)
        have := hrt.2
        omega
    have e1 : Int.tdiv e 2 = e / 2 := by
      have he2 : e = 2 * (e / 2) := by omega
      rw [he2, Int.mul_tdiv_cancel_left _ (by omega)]; omega
    have a1 : wrap64 (e / 2) = e / 2 := w64_id (by omega) (by omega)
    have a2 : wrap64 (e / 2 - 31) = e / 2 - 31 := w64_id (by omega) (by omega)
    rw [e1, a1, a2]
    have hr := round_ev false root (e / 2 - 31) (decide ((left : Int) > 0)) (by omega) (by omega) (by omega)
    have : rt false root (e / 2 - 31) (decide ((left : Int) > 0) && decide (2 ^ 56 ≤ root)) = ((double.nearest false (2 * root + rst (M * 4 ^ 31) root) (e / 2 - 31 - 1) : Nat) : Int) := by
      unfold rt rst
      by_cases c : root * root = M * 4 ^ 31
      · have hl0 : left = 0 := by omega
        subst hl0
        have hs := nearest_scale false root 1 (e / 2 - 31) (by omega)
        rw [if_pos c, Nat.add_zero]
        simp only [Int.natCast_zero, show ¬ ((0 : Int) > 0) from by omega, decide_false, Bool.false_and, Bool.false_eq_true, if_false]
        rw [← hs]
        congr 2
        omega
      · have hl0 : (left : Int) > 0 := by omega
        rw [if_neg c]
        simp only [hl0, hbig, decide_true, Bool.and_true, if_true]
    rw [← this]
    exact hr
  | succ v ih =>
    intro root left hu h hl
    have hD : M * 4 ^ 31 < 2 ^ 116 := by omega
    have hroot : root < 2 ^ 58 := sq_lt (D := M * 4 ^ 31) (by have := Nat.div_le_self (M * 4 ^ 31) (4 ^ (v + 1)); omega) hD
    -- the next two bits
    obtain ⟨two, h2⟩ : ∃ t, t = M * 4 ^ 31 / 4 ^ v % 4 := ⟨_, rfl⟩
    have hdv : M * 4 ^ 31 / 4 ^ v = 4 * (M * 4 ^ 31 / 4 ^ (v + 1)) + two := by
      have hp4 : 4 ^ (v + 1) = 4 ^ v * 4 := Nat.pow_succ ..
      rw [hp4, ← Nat.div_div_eq_div_mul, h2]; omega
    have htwo : two < 4 := by omega
    have hi : ((v + 1 : Nat) : Int) - 32 = (v : Int) - 31 := by omega
    rw [hi]
    have w4 : IntKind.u64.wrap ((left : Int) * 4) = (left : Int) * 4 := u64_id (by omega) (by omega)
    have w5 : IntKind.u64.wrap ((left : Int) * 4 + (two : Int)) = ((4 * left + two : Nat) : Int) := by rw [u64_id (by omega) (by omega)]; omega
    have w6 : IntKind.u64.wrap ((root : Int) * 4) = (root : Int) * 4 := u64_id (by omega) (by omega)
    have w7 : IntKind.u64.wrap ((root : Int) * 4 + 1) = ((4 * root + 1 : Nat) : Int) := by rw [u64_id (by omega) (by omega)]; omega
    have w8 : IntKind.u64.wrap ((root : Int) * 2) = ((2 * root : Nat) : Int) := by rw [u64_id (by omega) (by omega)]; omega
    have w9 : IntKind.u64.wrap (((2 * root : Nat) : Int) + 1) = ((2 * root + 1 : Nat) : Int) := by rw [u64_id (by omega) (by omega)]; omega
    have w10 : wrap64 ((v : Int) - 31 - 1) = (v : Int) - 32 := by rw [w64_id (by omega) (by omega)]; omega
    -- what one round does
    have next : ∃ w, IsRt (M * 4 ^ 31) w ∧ Ev (fun k => if ((4 * left + two : Nat) : Int) ≥ ((4 * root + 1 : Nat) : Int) then spec_Sqrt.l0 k (M : Int) e ((2 * root + 1 : Nat) : Int) (IntKind.u64.wrap (((4 * left + two : Nat) : Int) - ((4 * root + 1 : Nat) : Int))) ((v : Int) - 32) else spec_Sqrt.l0 k (M : Int) e ((2 * root : Nat) : Int) ((4 * left + two : Nat) : Int) ((v : Int) - 32)) ((double.nearest false (2 * w + rst (M * 4 ^ 31) w) (e / 2 - 31 - 1) : Nat) : Int) := by
      by_cases c : 4 * root + 1 ≤ 4 * left + two
      · simp only [show (((4 * left + two : Nat) : Int) ≥ ((4 * root + 1 : Nat) : Int)) from by omega, if_true]
        have w11 : IntKind.u64.wrap (((4 * left + two : Nat) : Int) - ((4 * root + 1 : Nat) : Int)) = ((4 * left + two - (4 * root + 1) : Nat) : Int) := by rw [u64_id (by omega) (by omega)]; omega
        rw [w11]
        refine ih (2 * root + 1) (4 * left + two - (4 * root + 1)) (by omega) ?_ (by omega)
        rw [hdv, ← h]
        have : (2 * root + 1) * (2 * root + 1) = 4 * (root * root) + 4 * root + 1 := by
          rw [Nat.add_mul, Nat.mul_add, Nat.mul_mul_mul_comm]; omega
        omega
      · simp only [show ¬ (((4 * left + two : Nat) : Int) ≥ ((4 * root + 1 : Nat) : Int)) from by omega, if_false]
        refine ih (2 * root) (4 * left + two) (by omega) ?_ (by omega)
        rw [hdv, ← h, Nat.mul_mul_mul_comm]; omega
    obtain ⟨w, hw, hev⟩ := next
    refine ⟨w, hw, ?_⟩
    refine ev_succ (fun k => by rw [spec_Sqrt.l0]) ?_
    simp only [show ((v : Int) - 31 ≥ (-31)) from by omega, if_true]
    by_cases c31 : 31 ≤ v
    · simp only [show ((v : Int) - 31 ≥ 0) from by omega, if_true]
      have e1 : wrap64 (2 * ((v : Int) - 31)) = ((2 * (v - 31) : Nat) : Int) := by rw [w64_id (by omega) (by omega)]; omega
      rw [e1]
      refine Ev.bind (pow_ev (2 * (v - 31)) (by omega)) ?_
      have hp := Nat.two_pow_pos (2 * (v - 31))
      simp only [show ¬ (((2 ^ (2 * (v - 31)) : Nat) : Int) = 0) from by omega, if_false]
      have e3 : IntKind.u64.wrap (Int.tdiv (M : Int) ((2 ^ (2 * (v - 31)) : Nat) : Int)) = ((M / 2 ^ (2 * (v - 31)) : Nat) : Int) := by
        rw [tdivN]
        have := Nat.div_le_self M (2 ^ (2 * (v - 31)))
        generalize M / 2 ^ (2 * (v - 31)) = Q at *
        exact u64_id (by omega) (by omega)
      have e4 : Int.tmod ((M / 2 ^ (2 * (v - 31)) : Nat) : Int) 4 = (two : Int) := by
        have a : Int.tmod ((M / 2 ^ (2 * (v - 31)) : Nat) : Int) 4 = ((M / 2 ^ (2 * (v - 31)) % 4 : Nat) : Int) := tmodN _ 4
        rw [a, h2]
        congr 2
        have : 4 ^ v = 4 ^ (v - 31) * 4 ^ 31 := by rw [← Nat.pow_add]; congr 1; omega
        rw [this, Nat.mul_div_mul_right _ _ (by omega), Nat.pow_mul]
      simp only [w10, w8, w9, w4, w6, w7, e3, e4, w5]
      exact hev
    · simp only [show ¬ ((v : Int) - 31 ≥ 0) from by omega, if_false]
      have h20 : two = 0 := by
        rw [h2]
        have : 4 ^ 31 = 4 ^ (31 - v - 1) * 4 * 4 ^ v := by rw [← Nat.pow_succ, ← Nat.pow_add]; congr 1; omega
        rw [this, ← Nat.mul_assoc, Nat.mul_div_cancel _ (Nat.pow_pos (by omega)), ← Nat.mul_assoc, Nat.mul_mod_left]
      subst h20
      simp only [Int.natCast_zero, Int.add_zero] at w5
      have w12 : IntKind.u64.wrap ((left : Int) * 4) = ((4 * left + 0 : Nat) : Int) := by rw [w4]; omega
      have w13 : IntKind.u64.wrap ((4 * left + 0 : Nat) : Int) = ((4 * left + 0 : Nat) : Int) := u64_id (by omega) (by omega)
      simp only [w10, w8, w9, w6, w7, w12, w13]
      exact hev

/-- No word that is written of a number or an infinity is a NaN's. -/
theorem canon_number {a : Nat} {s : Bool} {m : Nat} {p : Int} (h : double.read a = .number s m p) : canonW a = (a : Int) := by
  unfold canonW isNanW
  have : FloatKind.f64.format.order a a = some .eq := by
    show ((double.read a).order (double.read a)) = some .eq
    rw [h]
    simp [Datum.order]
  rw [this]; rfl
theorem canon_inf {a : Nat} {s : Bool} (h : double.read a = .infinity s) : canonW a = (a : Int) := by
  unfold canonW isNanW
  have : FloatKind.f64.format.order a a = some .eq := by
    show ((double.read a).order (double.read a)) = some .eq
    rw [h]
    simp [Datum.order]
  rw [this]; rfl
theorem canon_le {a : Nat} (h : a % 9223372036854775808 ≤ 9218868437227405312) : canonW a = (a : Int) := by
  have key := read_eq a
  by_cases c1 : a % 9223372036854775808 < 4503599627370496
  · rw [if_pos c1] at key; exact canon_number key
  · rw [if_neg c1] at key
    by_cases c2 : a % 9223372036854775808 < 9218868437227405312
    · rw [if_pos c2] at key; exact canon_number key
    · rw [if_neg c2, if_pos (by omega)] at key; exact canon_inf key
theorem nearest_low (s : Bool) (m : Nat) (p : Int) : double.nearest s m p % 9223372036854775808 ≤ 9218868437227405312 := by
  by_cases h : m = 0
  · subst h
    unfold Format.nearest Format.word
    rw [if_pos rfl, sw_dbl]
    cases s <;> simp
  · rw [nearest_eq s m p h]
    unfold Format.word
    rw [sw_dbl]
    cases s <;> simp <;> omega
theorem canon_nearest (s : Bool) (m : Nat) (p : Int) : canonW (double.nearest s m p) = ((double.nearest s m p : Nat) : Int) := canon_le (nearest_low s m p)

/-- Root: the program's is the reference's, of all that isn't below 0. -/
theorem sqrt_ev (a : Nat) (ha : a < 2 ^ 63) : Ev (fun k => spec_Sqrt.f k (a : Int)) (canonO (double.sqrt a)) := by
  unfold spec_Sqrt.f
  refine Ev.bind (parts_ev a (by omega)) ?_
  cases hr : double.read a with
  | nan s t =>
    have : double.sqrt a = none := by unfold Format.sqrt; rw [hr]; rfl
    rw [this]
    simp only [partsD, show ¬ ((1 : Int) = 3) from by omega, show ¬ ((1 : Int) = 2) from by omega, if_false]
    refine ev_succ (fun k => by rw [spec_Sqrt.j0]) ?_
    simp only [Bool.false_eq_true, if_false, show ¬ ((1 : Int) = 4) from by omega]
    refine ev_succ (fun k => by rw [spec_Sqrt.j1]) ?_
    exact Ev.now _
  | infinity s =>
    have key := read_eq a
    rw [hr] at key
    have hs : s = false ∧ a = 9218868437227405312 := by
      by_cases c1 : a % 9223372036854775808 < 4503599627370496
      · rw [if_pos c1] at key; cases key
      · rw [if_neg c1] at key
        by_cases c2 : a % 9223372036854775808 < 9218868437227405312
        · rw [if_pos c2] at key; cases key
        · rw [if_neg c2] at key
          by_cases c3 : a % 9223372036854775808 = 9218868437227405312
          · rw [if_pos c3] at key
            injection key with key
            refine ⟨?_, by omega⟩
            rw [key]
            have : a / 9223372036854775808 % 2 = 0 := by omega
            rw [this]; rfl
          · rw [if_neg c3] at key; cases key
    obtain ⟨rfl, h2⟩ := hs
    have : double.sqrt a = some a := by
      unfold Format.sqrt; rw [hr]
      simp only [Datum.root, Bool.false_eq_true, if_false, Option.map_some, Format.write, inf_double]
      rw [h2]; rfl
    rw [this]
    show Ev _ (canonW a)
    rw [canon_inf hr]
    simp only [partsD, show ¬ ((2 : Int) = 3) from by omega, if_false, if_true]
    refine ev_succ (fun k => by rw [spec_Sqrt.j0]) ?_
    exact Ev.now _
  | number s m p =>
    obtain ⟨h1, h2, h3, h4, h5, h6⟩ := read_number hr
    have hs : s = false := by
      rw [h5]
      have : a / 9223372036854775808 % 2 = 0 := by omega
      rw [this]; rfl
    subst hs
    by_cases h0 : m = 0
    · subst h0
      have ha0 : a = 0 := by omega
      have : double.sqrt a = some a := by
        unfold Format.sqrt; rw [hr]
        simp only [Datum.root, if_true, Option.map_some, Format.write]
        unfold Format.nearest
        rw [if_pos rfl, ha0]; rfl
      rw [this]
      show Ev _ (canonW a)
      rw [canon_number hr]
      simp only [partsD, if_true]
      refine ev_succ (fun k => by rw [spec_Sqrt.j0]) ?_
      exact Ev.now _
    · obtain ⟨n, w, more, q, hn, hq, hw, hl1, hl2, hsq⟩ := sqrt_eq hr h0
      rw [hsq]
      show Ev _ (canonW _)
      rw [canon_nearest]
      simp only [partsD, h0, if_false, show ¬ ((4 : Int) = 3) from by omega, show ¬ ((4 : Int) = 2) from by omega]
      refine ev_succ (fun k => by rw [spec_Sqrt.j0]) ?_
      simp only [Bool.false_eq_true, if_false, if_true]
      refine ev_succ (fun k => by rw [spec_Sqrt.j1]) ?_
      simp only [Bool.false_eq_true, if_false]
      refine Ev.bind (up_ev 4 false m p h0 h1 (by omega) (by omega)) ?_
      have hlog : m.log2 < 53 := (Nat.log2_lt h0).2 h1
      obtain ⟨j, hj⟩ : ∃ j, j = 52 - m.log2 := ⟨_, rfl⟩
      rw [← hj]
      -- both ways: M * 2 ^ e is the number
      have fin : ∀ J : Nat, (J = j ∨ J = j + 1) → (p - J) % 2 = 0 → Ev (fun k => spec_Sqrt.j2 k ((m * 2 ^ J : Nat) : Int) (p - J)) ((double.nearest false (2 * w + rst n w) (q - 1) : Nat) : Int) := by
        intro J hJ hpar
        refine ev_succ (fun k => by rw [spec_Sqrt.j2]) ?_
        have hM0 : m * 2 ^ J ≠ 0 := Nat.mul_ne_zero h0 (by have := Nat.two_pow_pos J; omega)
        have hlM : (m * 2 ^ J).log2 = m.log2 + J := log2_scale m J h0
        have hMlo : 2 ^ 52 ≤ m * 2 ^ J := by rw [← Nat.le_log2 hM0]; omega
        have hMhi : m * 2 ^ J < 2 ^ 54 := by rw [← Nat.log2_lt hM0]; omega
        obtain ⟨v, hv, hev⟩ := sqrt_loop (m * 2 ^ J) (p - J) hMlo hMhi hpar (by omega) (by omega) 59 0 0 (by omega) (by
          rw [Nat.div_eq_of_lt (by omega)]) (by omega)
        have hc : ∃ c : Nat, m * 2 ^ J * 4 ^ 31 = n * 4 ^ c ∧ (p - J) / 2 - 31 = q - c := by
          have hln : n.log2 = m.log2 + more := by rw [hn]; exact log2_scale m more h0
          refine ⟨(q - ((p - J) / 2 - 31)).toNat, ?_, by omega⟩
          rw [hn, show (4 : Nat) = 2 ^ 2 from rfl, ← Nat.pow_mul, ← Nat.pow_mul, Nat.mul_assoc, Nat.mul_assoc, ← Nat.pow_add, ← Nat.pow_add]
          congr 2
          omega
        obtain ⟨c, hc1, hc2⟩ := hc
        rw [hc1] at hv hev
        rw [hc2] at hev
        have hwb : 2 ^ 53 ≤ w := by
          by_cases cc : 2 ^ 53 ≤ w
          · exact cc
          · have := Nat.mul_le_mul (show w + 1 ≤ 2 ^ 53 by omega) (show w + 1 ≤ 2 ^ 53 by omega)
            have hlow : 2 ^ 108 ≤ n := by
              rw [← Nat.le_log2 (by intro hh; rw [hh] at hl1; simp at hl1)]; exact hl1
            have := hw.2
            omega
        have hrs := root_scale q hw hv hwb
        have hv0 : 2 * v + rst (n * 4 ^ c) v ≠ 0 := by
          intro hh
          have hv1 : v = 0 := by omega
          subst hv1
          have h41 : n * 4 ^ c ≠ 0 := by rw [← hc1]; omega
          have := hv.2
          have : n * 4 ^ c = 0 := by omega
          exact h41 this
        rw [nearest_eq _ _ _ hv0, hrs, ← nearest_eq _ _ _ (by omega)] at hev
        exact hev
      by_cases hpar : (p - (j : Int)) % 2 = 0
      · have e1 : Int.tmod (p - (j : Int)) 2 = 0 := by
          have : p - (j : Int) = 2 * ((p - (j : Int)) / 2) := by omega
          rw [this, Int.mul_tmod_right]
        simp only [e1, if_true]
        exact fin j (Or.inl rfl) hpar
      · have e1 : ¬ (Int.tmod (p - (j : Int)) 2 = 0) := by
          intro hh
          have := Int.dvd_of_tmod_eq_zero hh
          omega
        simp only [e1, if_false]
        have hM0 : m * 2 ^ j ≠ 0 := Nat.mul_ne_zero h0 (by have := Nat.two_pow_pos j; omega)
        have hMhi : m * 2 ^ j < 2 ^ 53 := by rw [← Nat.log2_lt hM0, log2_scale m j h0]; omega
        have e2 : IntKind.u64.wrap (((m * 2 ^ j : Nat) : Int) * 2) = ((m * 2 ^ (j + 1) : Nat) : Int) := by
          rw [u64_id (by omega) (by omega), Nat.pow_succ, ← Nat.mul_assoc]; omega
        have e3 : wrap64 (p - (j : Int) - 1) = p - ((j + 1 : Nat) : Int) := by rw [w64_id (by omega) (by omega)]; omega
        rw [e2, e3]
        exact fin (j + 1) (Or.inr rfl) (by omega)

end Go.Proofs.Ytlmiobfnkdkkjaa.FFnRoots
