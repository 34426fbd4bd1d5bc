/- Roots: the root of a drawn square of a whole number is it; the root of a drawn number squared is near: the numbers next to it are farther. Of all drawings; no condition. -/
import Derived.Test.YtlmiobfnkdkkjaaFlHFnRoots
import Derived.Test.YtlmiobfnkdkkjaaFlGFnRoots
import Derived.Test.YtlmiobfnkdkkjaaFlJFnRoots
import Derived.Test.YtlmiobfnkdkkjaaFlK
namespace Go.Proofs.Ytlmiobfnkdkkjaa.Pure
open Go.RowKit Go.Proofs.Ytlmiobfnkdkkjaa.QFnRoots Go.Proofs.YtlmiobfnkdkkjaaW.PrintWords Go.Proofs.YtlmiobfnkdkkjaaW.PrintLast Go.Proofs.Ytlmiobfnkdkkjaa.Fl Go.Proofs.Ytlmiobfnkdkkjaa.FFnRoots Ieee
set_option linter.unusedVariables false
set_option linter.unusedSimpArgs false

theorem whole_ev (n : Int) (h0 : -9223372036854775808 ≤ n) (h1 : n ≤ 9223372036854775807) :
    Ev (fun k => laws_whole.f k n) ((double.nearest (decide (n < 0)) n.natAbs 0 : Nat) : Int) := by
  unfold laws_whole.f
  exact ev_idb (fromInt_ev n h0 h1)

/-- The last question: are the neighbours' squares on both sides? -/
theorem j0_true (x r : Nat) (u : Bool) (h : u = false → Ev (fun k => (spec_Mul.f k (IntKind.u64.wrap ((r : Int) - 1)) (IntKind.u64.wrap ((r : Int) - 1))).bind fun t277 => ((spec_Mul.f k (IntKind.u64.wrap ((r : Int) + 1)) (IntKind.u64.wrap ((r : Int) + 1))).bind fun t278 => ((spec_Less.f k (x : Int) t277).bind fun t279 => (if t279 = true then (some false) else ((spec_Less.f k t278 (x : Int)).bind fun t280 => (some (!t280))))))) true) :
    Ev (fun k => laws_FnRoots.j0 k (x : Int) (r : Int) u) true := by
  refine ev_succ (fun k => by rw [laws_FnRoots.j0]) ?_
  cases u
  · simp only [Bool.false_eq_true, if_false]; exact h rfl
  · simp only [if_true]; exact Ev.now _

theorem low_word (m : Nat) (p : Int) (h : m ≠ 0) : double.nearest false m p = min (rung m p) 9218868437227405312 := by
  rw [nearest_eq _ _ _ h]
  unfold Format.word
  rw [if_neg (by simp)]
theorem notnan_low {a : Nat} (h : a ≤ 9218868437227405312) : (double.read a).isNaN = false := by
  have key := read_eq a
  by_cases c1 : a % 9223372036854775808 < 4503599627370496
  · rw [if_pos c1] at key; rw [key]; rfl
  · rw [if_neg c1] at key
    by_cases c2 : a % 9223372036854775808 < 9218868437227405312
    · rw [if_pos c2] at key; rw [key]; rfl
    · rw [if_neg c2, if_pos (by omega)] at key; rw [key]; rfl
theorem key_low {a : Nat} (h : a < 9223372036854775808) : keyW a = a := by
  unfold keyW magW
  have h1 : a / 9223372036854775808 % 2 = 0 := by omega
  have h2 : a % 9223372036854775808 = a := by omega
  rw [h1, h2]; rfl
theorem not_less {a b : Nat} (ha : a ≤ 9218868437227405312) (hb : b ≤ 9218868437227405312) (h : b ≤ a) : (double.order a b == some .lt) = false := by
  rw [order_key (notnan_low ha) (notnan_low hb), key_low (by omega), key_low (by omega)]
  have : compare (a : Int) (b : Int) ≠ .lt := fun hh => by have := Int.compare_eq_lt.1 hh; omega
  cases hh : compare (a : Int) (b : Int) <;> simp_all

theorem last (x S A B : Nat) (hx : x < 9218868437227405312) (hA : A ≤ 9218868437227405312) (hB : B ≤ 9218868437227405312) (lo : A ≤ x) (hi : x ≤ B) :
    Ev (fun k => (spec_Less.f k (x : Int) (A : Int)).bind fun t279 => (if t279 = true then (some false) else ((spec_Less.f k (B : Int) (x : Int)).bind fun t280 => (some (!t280))))) true := by
  have lev1 := less_ev x A (by omega) (by omega)
  have lev2 := less_ev B x (by omega) (by omega)
  rw [not_less (by omega) hA lo] at lev1
  rw [not_less hB (by omega) hi] at lev2
  refine Ev.bind lev1 ?_
  simp only [Bool.false_eq_true, if_false]
  refine Ev.bind lev2 ?_
  exact Ev.now _

theorem FnRoots : laws_FnRoots.Pure := by
  intro l hm0 hsz hwf
  have hl : l.length ≤ 140737488351232 := by omega
  refine Ev.rounds ?_
  unfold laws_FnRoots.f laws_big.f
  simp only [Option.bind_some]
  by_cases cb : ((l.length : Int) > 1048576)
  · simp only [cb, decide_true, if_true]; exact Ev.now _
  · simp only [cb, decide_false, Bool.false_eq_true, if_false]
    obtain ⟨r, hr, hlen, hx⟩ := places_ok l hl
    refine Ev.bind hr ?_
    have hlen' : ((r.length : Nat) : Int) = 12 := by omega
    simp only [hlen', show ((0 : Int) < 12) from by omega, show ((1 : Int) < 12) from by omega, if_true]
    have b0 := rd_mem hx 0 (by omega) (by omega)
    have b1 := rd_mem hx 1 (by omega) (by omega)
    have q1 : wrap64 (rd r 0 * 900) = rd r 0 * 900 := w64_id (by omega) (by omega)
    have q2 : wrap64 (rd r 0 * 900 + rd r 1) = rd r 0 * 900 + rd r 1 := w64_id (by omega) (by omega)
    obtain ⟨n, hn⟩ : ∃ n : Nat, rd r 0 * 900 + rd r 1 = (n : Int) := ⟨(rd r 0 * 900 + rd r 1).toNat, by omega⟩
    have hnb : n < 9010000 := by omega
    have hnn : n * n < 2 ^ 53 := by
      have := Nat.mul_le_mul (show n ≤ 9010000 by omega) (show n ≤ 9010000 by omega)
      omega
    have q3 : wrap64 ((n : Int) * (n : Int)) = ((n * n : Nat) : Int) := by
      have : (n : Int) * (n : Int) = ((n * n : Nat) : Int) := by push_cast; rfl
      rw [this, w64_id (by omega) (by omega)]
    rw [q1, q2, hn, q3]
    refine Ev.bind (whole_ev ((n * n : Nat) : Int) (by omega) (by omega)) ?_
    have e0 : ∀ N : Nat, decide ((N : Int) < 0) = false := fun N => decide_eq_false (by omega)
    have e1 := e0 (n * n)
    have e2 : (((n * n : Nat) : Int)).natAbs = n * n := Int.natAbs_natCast _
    have e3 := e0 n
    have e4 : ((n : Int)).natAbs = n := Int.natAbs_natCast _
    rw [e1, e2]
    have hsq : canonO (double.sqrt (double.nearest false (n * n) 0)) = ((double.nearest false n 0 : Nat) : Int) := by
      by_cases h0 : n = 0
      · subst h0
        decide
      · rw [sqrt_square n h0 hnn]
        exact canon_nearest false n 0
    unfold impl_Sqrt.f
    simp only [Option.bind_some, Int.toNat_natCast]
    have hfm : FloatKind.f64.format = double := rfl
    rw [hfm, hsq]
    refine Ev.bind (whole_ev (n : Int) (by omega) (by omega)) ?_
    rw [e3, e4]
    simp only [if_true]
    obtain ⟨a, b, c, ha, hb, hc, hev⟩ := numbers_ok l hl
    refine Ev.bind hev ?_
    have t1 : Int.tmod (a : Int) 9223372036854775808 = ((a % 9223372036854775808 : Nat) : Int) := tmodN a 9223372036854775808
    simp only [t1, Int.toNat_natCast]
    obtain ⟨x, hxv⟩ : ∃ x, x = a % 9223372036854775808 := ⟨_, rfl⟩
    have hxb : x < 2 ^ 63 := by omega
    rw [← hxv]
    refine Ev.bind (parts_ev x (by omega)) (Ev.bind (sqrt_ev x hxb) ?_)
    simp only [if_true]
    obtain ⟨S, hS⟩ : ∃ S : Nat, canonO (double.sqrt x) = (S : Int) := by
      cases hsq : double.sqrt x with
      | none => exact ⟨9221120237041090560, rfl⟩
      | some v =>
        show ∃ S : Nat, canonW v = _
        unfold canonW
        split
        · exact ⟨9221120237041090560, rfl⟩
        · exact ⟨v, rfl⟩
    rw [hS]
    cases hrd : double.read x with
    | nan s f => simp only [partsD, show ¬ ((1 : Int) = 4) from by omega, if_false]; exact j0_true x S true (by simp)
    | infinity s => simp only [partsD, show ¬ ((2 : Int) = 4) from by omega, if_false]; exact j0_true x S true (by simp)
    | number s m p =>
      by_cases hm : m = 0
      · simp only [partsD, hm, if_true, show ¬ ((3 : Int) = 4) from by omega, if_false]; exact j0_true x S true (by simp)
      · simp only [partsD, hm, if_false, if_true]
        by_cases hp1 : p < -1000
        · simp only [hp1, if_true]; exact j0_true x S true (by simp)
        · simp only [hp1, if_false]
          refine j0_true x S _ (fun hu => ?_)
          have hp2 : p ≤ 800 := by have := of_decide_eq_false hu; omega
          obtain ⟨g1, g2, g3, g4, g5, g6⟩ := read_number hrd
          have hs : s = false := by
            rw [g5]
            have : x / 9223372036854775808 % 2 = 0 := by omega
            rw [this]; rfl
          subst hs
          obtain ⟨R, m1, m2, p1, p2, hR, hR1, hR2, r1, r2, m10, m20, lo, hi⟩ := near hrd hm (by omega) hp2
          have hSR : S = R := by
            rw [hR] at hS
            have : canonW R = (R : Int) := canon_le (by omega)
            have h3 : canonO (some R) = canonW R := rfl
            rw [h3, this] at hS
            omega
          subst hSR
          have w1 : IntKind.u64.wrap ((S : Int) - 1) = ((S - 1 : Nat) : Int) := by rw [u64_id (by omega) (by omega)]; omega
          have w2 : IntKind.u64.wrap ((S : Int) + 1) = ((S + 1 : Nat) : Int) := by rw [u64_id (by omega) (by omega)]; omega
          rw [w1, w2]
          have mul1 : canonO (double.mul (S - 1) (S - 1)) = ((double.nearest false (m1 * m1) (p1 + p1) : Nat) : Int) := by
            have : double.mul (S - 1) (S - 1) = some (double.nearest false (m1 * m1) (p1 + p1)) := by
              unfold Format.mul; rw [r1]; rfl
            rw [this]; exact canon_nearest _ _ _
          have mul2 : canonO (double.mul (S + 1) (S + 1)) = ((double.nearest false (m2 * m2) (p2 + p2) : Nat) : Int) := by
            have : double.mul (S + 1) (S + 1) = some (double.nearest false (m2 * m2) (p2 + p2)) := by
              unfold Format.mul; rw [r2]; rfl
            rw [this]; exact canon_nearest _ _ _
          have ev1 := mul_ev (S - 1) (S - 1) (by omega) (by omega)
          have ev2 := mul_ev (S + 1) (S + 1) (by omega) (by omega)
          rw [mul1] at ev1
          rw [mul2] at ev2
          refine Ev.bind ev1 (Ev.bind ev2 ?_)
          have hxr : x = rung m p := by
            have := read_rung hrd hm
            have hxx : x % 9223372036854775808 = x := by omega
            rw [hxx] at this
            exact this
          have hxl : x < 9218868437227405312 := by
            have := read_low hrd
            unfold magW at this
            omega
          have lw1 := low_word (m1 * m1) (p1 + p1) (Nat.mul_ne_zero m10 m10)
          have lw2 := low_word (m2 * m2) (p2 + p2) (Nat.mul_ne_zero m20 m20)
          rw [← hxr] at lo hi
          generalize double.nearest false (m1 * m1) (p1 + p1) = A at *
          generalize double.nearest false (m2 * m2) (p2 + p2) = B at *
          generalize rung (m1 * m1) (p1 + p1) = U at *
          generalize rung (m2 * m2) (p2 + p2) = V at *
          exact last x S A B (by omega) (by omega) (by omega) (by omega) (by omega)

end Go.Proofs.Ytlmiobfnkdkkjaa.Pure
