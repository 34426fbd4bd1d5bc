/- Quotients: a quotient of a product of small whole numbers is just; a rest of whole numbers is as whole numbers have it, with the sign of the first. Of all drawings; no condition. -/
import Derived.Test.YtlmiobfnkdkkjaaFlNFnQuotients
import Derived.Test.YtlmiobfnkdkkjaaFlEFnQuotients
namespace Go.Proofs.Ytlmiobfnkdkkjaa.Pure
open Go.RowKit Go.Proofs.Ytlmiobfnkdkkjaa.QFnQuotients Go.Proofs.YtlmiobfnkdkkjaaW.PrintWords Go.Proofs.YtlmiobfnkdkkjaaW.PrintLast Go.Proofs.Ytlmiobfnkdkkjaa.Fl Go.Proofs.Ytlmiobfnkdkkjaa.FFnQuotients Ieee
set_option linter.unusedVariables false
set_option linter.unusedSimpArgs false

theorem whole_ev (n : Int) (h0 : -9223372036854775808 ≤ n) (h1 : n ≤ 9223372036854775807) :
    Ev (fun k => laws_whole.f k n) ((double.nearest (decide (n < 0)) n.natAbs 0 : Nat) : Int) := by
  unfold laws_whole.f
  exact ev_idb (fromInt_ev n h0 h1)

/-- So many binary digits lie below the point. -/
def deep : Nat := 1074
/-- A word of a whole number: how many steps it has. -/
theorem read_int (s : Bool) (n : Nat) (h : n < 2 ^ 53) : ∃ m p, double.read (double.nearest s n 0) = .number s m p ∧ stepsOf m p = n * 2 ^ deep ∧ (n ≠ 0 → m.log2 = 52 ∧ ∃ j : Nat, j ≤ 52 ∧ m = n * 2 ^ j ∧ p = -(j : Int)) := by
  by_cases h0 : n = 0
  · subst h0
    refine ⟨0, -1074, ?_, by unfold stepsOf; rw [Nat.zero_mul, Nat.zero_mul], fun hh => absurd rfl hh⟩
    have e : double.nearest s 0 0 = double.word s 0 := by unfold Format.nearest; rw [if_pos rfl]
    rw [e]; exact read_zero s
  · have hl : n.log2 < 53 := (Nat.log2_lt h0).2 h
    refine ⟨_, _, read_whole s n h0 h, ?_, fun _ => ⟨?_, 52 - n.log2, by omega, rfl, rfl⟩⟩
    · unfold stepsOf
      rw [Nat.mul_assoc, ← Nat.pow_add]
      congr 2
      unfold deep
      omega
    · rw [log2_scale _ _ h0]; omega

/-- The quotient of a product is the other factor. -/
theorem div_whole (s : Bool) (a b : Nat) (hb0 : b ≠ 0) (hab : a * b < 2 ^ 53) (hb : b < 2 ^ 53) (ha : a < 2 ^ 53) :
    double.div (double.nearest s (a * b) 0) (double.nearest false b 0) = some (double.nearest s a 0) := by
  obtain ⟨m, p, hr, hs, hm⟩ := read_int s (a * b) hab
  obtain ⟨n, q, hr2, hs2, hn⟩ := read_int false b hb
  obtain ⟨hn52, i, hi, hnv, hqv⟩ := hn hb0
  have hn0 : n ≠ 0 := by rw [hnv]; exact Nat.mul_ne_zero hb0 (by have := Nat.two_pow_pos i; omega)
  unfold Format.div
  rw [hr, hr2]
  have hfb : double.fractionBits + 2 = 54 := rfl
  simp only [Datum.quotient, hn0, if_false, Option.map_some, Format.write, hfb, Bool.xor_false, Nat.shiftLeft_eq]
  by_cases ha0 : a = 0
  · subst ha0
    have hm0 : m = 0 := by
      rw [Nat.zero_mul, Nat.zero_mul] at hs
      unfold stepsOf at hs
      rcases Nat.mul_eq_zero.1 hs with h | h
      · exact h
      · have := Nat.two_pow_pos (p + 1074).toNat; omega
    subst hm0
    rw [Nat.zero_mul, Nat.zero_div, Nat.zero_mod]
    have z : ∀ p : Int, double.nearest s (2 * 0 + ((0 : Nat) != 0).toNat) p = double.nearest s 0 0 := by
      intro p
      have e : (2 * 0 + ((0 : Nat) != 0).toNat) = 0 := by decide
      rw [e]
      unfold Format.nearest
      rw [if_pos rfl, if_pos rfl]
    rw [z]
  · have hab0 : a * b ≠ 0 := Nat.mul_ne_zero ha0 hb0
    obtain ⟨hm52, j, hj, hmv, hpv⟩ := hm hab0
    have hm0 : m ≠ 0 := by rw [hmv]; exact Nat.mul_ne_zero hab0 (by have := Nat.two_pow_pos j; omega)
    rw [hm52, hn52]
    have hmore : 54 + 52 - 52 = 54 := rfl
    rw [hmore]
    have hdv : m * 2 ^ 54 = a * 2 ^ (j + 54 - i) * n := by
      rw [hmv, hnv, Nat.mul_assoc, ← Nat.pow_add, Nat.mul_mul_mul_comm, ← Nat.pow_add]
      congr 2
      omega
    rw [hdv, Nat.mul_div_cancel _ (by omega), Nat.mul_mod_left]
    have e0 : ((0 : Nat) != 0).toNat = 0 := by decide
    rw [e0, Nat.add_zero]
    have e1 : 2 * (a * 2 ^ (j + 54 - i)) = a * 2 ^ (j + 55 - i) := by
      have : j + 55 - i = (j + 54 - i) + 1 := by omega
      rw [this, Nat.pow_succ, Nat.mul_left_comm, Nat.mul_comm 2]
    rw [e1]
    have sc := nearest_scale s a (j + 55 - i) 0 ha0
    rw [← sc]
    congr 2
    rw [hpv, hqv]
    omega

theorem nat_abs_mul (x y : Int) : (x * y).natAbs = x.natAbs * y.natAbs := Int.natAbs_mul x y

theorem last_q (x4 x6 x7 : Int) (hw : Ev (fun k => laws_whole.f k x4) x6) :
    Ev (fun k => laws_FnQuotients.j0 k x4 x6 x7 x7 false) true := by
  refine ev_succ (fun k => by rw [laws_FnQuotients.j0]) ?_
  simp only [Bool.false_eq_true, if_false]
  refine Ev.bind hw ?_
  simp only [if_true, beq_self_eq_true]
  exact Ev.now _
theorem nan_ev0 : Ev (fun k => spec_l03Nan.f k 0) false := by
  unfold spec_l03Nan.f
  refine ev_then (parts_ev 0 (by omega)) ?_
  decide
theorem negate0 : Ev (fun k => spec_Negate.f k 0) 9223372036854775808 := by
  unfold spec_Negate.f
  have h0 := nan_ev0
  refine Ev.bind h0 ?_
  simp only [Bool.false_eq_true, if_false]
  refine Ev.bind pow63 ?_
  have : Go.bits .xor .u64 0 9223372036854775808 = 9223372036854775808 := by decide
  rw [this]
  exact Ev.now _
theorem last_n (x4 x6 x8 : Int) (hw : Ev (fun k => laws_whole.f k x4) x6) :
    Ev (fun k => laws_FnQuotients.j0 k x4 x6 9223372036854775808 x8 true) true := by
  refine ev_succ (fun k => by rw [laws_FnQuotients.j0]) ?_
  simp only [if_true]
  refine Ev.bind negate0 (Ev.bind hw ?_)
  simp only [if_true, beq_self_eq_true]
  exact Ev.now _

/-- The core, of two whole numbers. -/
theorem core (a : Int) (b : Nat) (ha1 : -40000000 ≤ a) (ha2 : a ≤ 100000000) (hb0 : b ≠ 0) (hb : b ≤ 10000) :
    Ev (fun k => ((laws_whole.f k (a * b)).bind fun t201 => ((laws_whole.f k (b : Int)).bind fun t202 => ((impl_Div.f t201 t202).bind fun t203 => ((laws_whole.f k a).bind fun t204 => ((impl_Rem.f k t204 t202).bind fun t205 => (if ((b : Int)) = 0 then (none) else ((laws_whole.f k (Int.tmod a (b : Int))).bind fun t206 => (if a < 0 then (laws_FnQuotients.j0 k a t203 t205 t206 ((Int.tmod a (b : Int)) == 0)) else (laws_FnQuotients.j0 k a t203 t205 t206 false)))))))))) true := by
  have hbi : ¬ ((b : Int) = 0) := by omega
  obtain ⟨A, hA⟩ : ∃ A, A = a.natAbs := ⟨_, rfl⟩
  have hAb : A ≤ 100000000 := by omega
  have hABb : A * b < 2 ^ 53 := by
    have := Nat.mul_le_mul hAb hb
    omega
  have hsa : ∀ x : Int, (x * (b : Int)).natAbs = x.natAbs * b := fun x => by rw [Int.natAbs_mul, Int.natAbs_natCast]
  have hneg : decide (a * (b : Int) < 0) = decide (a < 0) := by
    rw [decide_eq_decide]
    constructor
    · intro h
      by_cases c : a < 0
      · exact c
      · have := Int.mul_nonneg (show 0 ≤ a by omega) (show 0 ≤ (b : Int) by omega)
        omega
    · intro h
      exact Int.mul_neg_of_neg_of_pos h (by omega)
  have habs := hsa a
  have hrange : -9223372036854775808 ≤ a * (b : Int) ∧ a * (b : Int) ≤ 9223372036854775807 := by
    have : (a * (b : Int)).natAbs < 2 ^ 53 := by rw [habs, ← hA]; exact hABb
    omega
  refine Ev.bind (whole_ev (a * b) hrange.1 hrange.2) ?_
  rw [hneg, habs, ← hA]
  refine Ev.bind (whole_ev (b : Int) (by omega) (by omega)) ?_
  have e3 : decide ((b : Int) < 0) = false := decide_eq_false (by omega)
  rw [e3, Int.natAbs_natCast]
  unfold impl_Div.f
  simp only [Option.bind_some, Int.toNat_natCast]
  have hdv : floatBits .quo .f64 (double.nearest (decide (a < 0)) (A * b) 0) (double.nearest false b 0) = some (double.nearest (decide (a < 0)) A 0) := div_whole _ A b hb0 hABb (by omega) (by omega)
  rw [hdv]
  have hcn : canonO (some (double.nearest (decide (a < 0)) A 0)) = ((double.nearest (decide (a < 0)) A 0 : Nat) : Int) := canon_nearest _ _ _
  rw [hcn]
  have hwa := whole_ev a (by omega) (by omega)
  rw [← hA] at hwa
  refine Ev.bind hwa ?_
  refine Ev.bind (rem_impl _ _ (double.nearest_lt _ _ _) (double.nearest_lt _ _ _)) ?_
  obtain ⟨m, p, hr, hs, hmm⟩ := read_int (decide (a < 0)) A (by omega)
  clear hmm
  obtain ⟨n, q, hr2, hs2, hn⟩ := read_int false b (by omega)
  have hn0 : n ≠ 0 := by
    obtain ⟨_, i, _, hnv, _⟩ := hn hb0
    rw [hnv]; exact Nat.mul_ne_zero hb0 (by have := Nat.two_pow_pos i; omega)
  rw [hr, hr2]
  have hrem : ∀ x y : Nat, remD x y (.number (decide (a < 0)) m p) (.number false n q) = ((ofV (decide (a < 0)) (A % b * 2 ^ deep) : Nat) : Int) := by
    intro x y
    simp only [remD, hn0, if_false]
    rw [hs, hs2, Nat.mul_mod_mul_right]
  rw [hrem]
  have hof : ofV (decide (a < 0)) (A % b * 2 ^ deep) = double.nearest (decide (a < 0)) (A % b) 0 := by
    rw [nearest_steps _ _ 0 (by omega)]
    unfold stepsOf
    have : ((0 : Int) + 1074).toNat = deep := rfl
    rw [this]
  rw [hof]
  simp only [hbi, if_false]
  clear hn
  have htm : (Int.tmod a (b : Int)).natAbs = A % b := by rw [hA, Int.natAbs_tmod, Int.natAbs_natCast]
  have htr : -10000 ≤ Int.tmod a (b : Int) ∧ Int.tmod a (b : Int) ≤ 10000 := by
    have : A % b < b := Nat.mod_lt _ (by omega)
    omega
  refine Ev.bind (whole_ev (Int.tmod a (b : Int)) (by omega) (by omega)) ?_
  rw [htm]
  by_cases c : a < 0
  · rw [decide_eq_true c] at hwa ⊢
    simp only [c, if_true]
    by_cases c2 : Int.tmod a (b : Int) = 0
    · have e : (Int.tmod a (b : Int) == 0) = true := by simp [c2]
      rw [e]
      have z : A % b = 0 := by rw [← htm, c2]; rfl
      rw [z]
      have zz : ((double.nearest true 0 0 : Nat) : Int) = 9223372036854775808 := by decide
      rw [zz]
      exact last_n a _ _ hwa
    · have e : (Int.tmod a (b : Int) == 0) = false := by simp [c2]
      rw [e]
      have hlt : Int.tmod a (b : Int) < 0 := by
        have : Int.tmod a (b : Int) ≤ 0 := by
          have h1 := Int.neg_tmod (-a) (b : Int)
          rw [Int.neg_neg] at h1
          have h2 := Int.tmod_nonneg (b : Int) (show 0 ≤ -a by omega)
          omega
        omega
      rw [decide_eq_true hlt]
      exact last_q a _ _ hwa
  · rw [decide_eq_false c] at hwa ⊢
    simp only [c, if_false]
    have hge : ¬ (Int.tmod a (b : Int) < 0) := by
      have := Int.tmod_nonneg (b : Int) (show 0 ≤ a by omega)
      omega
    rw [decide_eq_false hge]
    exact last_q a _ _ hwa

theorem FnQuotients : laws_FnQuotients.Pure := by
  intro l hm0 hsz hwf
  have hl : l.length ≤ 140737488351232 := by omega
  refine Ev.rounds ?_
  unfold laws_FnQuotients.f laws_big.f
  simp only [Option.bind_some]
  by_cases cb : ((l.length : Int) > 1048576)
  · simp only [cb, decide_true, if_true]; exact Ev.now _
  · simp only [cb, decide_false, Bool.false_eq_true, if_false]
    obtain ⟨r, hr, hlen, hx⟩ := places_ok l hl
    refine Ev.bind hr ?_
    have hlen' : ((r.length : Nat) : Int) = 12 := by omega
    simp only [hlen', show ((0 : Int) < 12) from by omega, show ((1 : Int) < 12) from by omega, show ((2 : Int) < 12) from by omega, show ((3 : Int) < 12) from by omega, if_true]
    have b0 := rd_mem hx 0 (by omega) (by omega)
    have b1 := rd_mem hx 1 (by omega) (by omega)
    have b2 := rd_mem hx 2 (by omega) (by omega)
    have b3 := rd_mem hx 3 (by omega) (by omega)
    obtain ⟨u, hu⟩ : ∃ u : Nat, rd r 0 = (u : Int) := ⟨(rd r 0).toNat, by omega⟩
    obtain ⟨v, hv⟩ : ∃ v : Nat, rd r 1 = (v : Int) := ⟨(rd r 1).toNat, by omega⟩
    obtain ⟨b, hb⟩ : ∃ b : Nat, rd r 3 + 1 = (b : Int) := ⟨(rd r 3 + 1).toNat, by omega⟩
    have huv : (u : Int) * (v : Int) = ((u * v : Nat) : Int) := by push_cast; rfl
    have huvb : u * v ≤ 99980001 := Nat.mul_le_mul (show u ≤ 9999 by omega) (show v ≤ 9999 by omega)
    have w1 : wrap64 (rd r 0 * rd r 1) = ((u * v : Nat) : Int) := by rw [hu, hv, huv, w64_id (by omega) (by omega)]
    have w2 : wrap64 (rd r 2 * 3000) = rd r 2 * 3000 := w64_id (by omega) (by omega)
    have w3 : wrap64 (rd r 3 + 1) = (b : Int) := by rw [hb]; exact w64_id (by omega) (by omega)
    rw [w1, w2, w3]
    obtain ⟨a, ha⟩ : ∃ a : Int, ((u * v : Nat) : Int) - rd r 2 * 3000 = a := ⟨_, rfl⟩
    have w4 : wrap64 (((u * v : Nat) : Int) - rd r 2 * 3000) = a := by rw [ha]; exact w64_id (by omega) (by omega)
    rw [w4]
    have hab : (a * (b : Int)).natAbs = a.natAbs * b := by rw [Int.natAbs_mul, Int.natAbs_natCast]
    have habb : a.natAbs * b ≤ 100000000 * 10000 := Nat.mul_le_mul (by omega) (by omega)
    have w5 : wrap64 (a * (b : Int)) = a * (b : Int) := w64_id (by omega) (by omega)
    rw [w5]
    exact core a b (by omega) (by omega) (by omega) (by omega)

end Go.Proofs.Ytlmiobfnkdkkjaa.Pure
