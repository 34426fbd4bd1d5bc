/- Less and Equal of the reference are the double's; the root is near. -/
import Derived.Test.YtlmiobfnkdkkjaaFlDFnRoots
import Derived.Test.YtlmiobfnkdkkjaaFlI
namespace Go.Proofs.Ytlmiobfnkdkkjaa.FFnRoots
open Go.RowKit Go.Proofs.Ytlmiobfnkdkkjaa.QFnRoots Go.Proofs.YtlmiobfnkdkkjaaW.PrintWords Go.Proofs.YtlmiobfnkdkkjaaW.PrintLast Go.Proofs.Ytlmiobfnkdkkjaa.Fl Ieee
set_option linter.unusedVariables false
set_option linter.unusedSimpArgs false

theorem nan_ev (a : Nat) (ha : a < 2 ^ 64) : Ev (fun k => spec_l03Nan.f k (a : Int)) (double.read a).isNaN := by
  unfold spec_l03Nan.f
  refine ev_then (parts_ev a ha) ?_
  cases double.read a with
  | nan s f => rfl
  | infinity s => rfl
  | number s m p =>
    unfold partsD
    by_cases h : m = 0 <;> simp [h, Datum.isNaN]

theorem key_ev (a : Nat) (ha : a < 2 ^ 64) : Ev (fun k => spec_l03Key.f k (a : Int)) (keyW a) := by
  unfold spec_l03Key.f keyW magW
  refine Ev.bind pow63 ?_
  by_cases c : a < 9223372036854775808
  · simp only [show ¬ ((a : Int) ≥ 9223372036854775808) from by omega, if_false]
    have h2 : a / 9223372036854775808 % 2 = 0 := by omega
    have hm : a % 9223372036854775808 = a := by omega
    rw [h2, hm, w64_id (by omega) (by omega)]
    exact Ev.now _
  · simp only [show ((a : Int) ≥ 9223372036854775808) from by omega, if_true]
    refine Ev.bind pow63 ?_
    have h2 : a / 9223372036854775808 % 2 = 1 := by omega
    have q1 : IntKind.u64.wrap ((a : Int) - 9223372036854775808) = (a : Int) - 9223372036854775808 := u64_id (by omega) (by omega)
    have q2 : wrap64 ((a : Int) - 9223372036854775808) = (a : Int) - 9223372036854775808 := w64_id (by omega) (by omega)
    have q3 : wrap64 (-((a : Int) - 9223372036854775808)) = -((a % 9223372036854775808 : Nat) : Int) := by rw [w64_id (by omega) (by omega)]; omega
    rw [h2, q1, q2, q3]
    exact Ev.now _

theorem order_nan1 {a b : Nat} (h : (double.read a).isNaN = true) : double.order a b = none := by
  unfold Format.order
  cases ha : double.read a with
  | nan s f => cases double.read b <;> rfl
  | infinity s => rw [ha] at h; cases h
  | number s m p => rw [ha] at h; cases h
theorem order_nan2 {a b : Nat} (h : (double.read b).isNaN = true) : double.order a b = none := by
  unfold Format.order
  cases hb : double.read b with
  | nan s f => cases double.read a <;> rfl
  | infinity s => rw [hb] at h; cases h
  | number s m p => rw [hb] at h; cases h

theorem less_ev (a b : Nat) (ha : a < 2 ^ 64) (hb : b < 2 ^ 64) : Ev (fun k => spec_Less.f k (a : Int) (b : Int)) (double.order a b == some .lt) := by
  unfold spec_Less.f
  refine Ev.bind (nan_ev a ha) ?_
  cases h1 : (double.read a).isNaN with
  | true =>
    simp only [if_true]
    rw [order_nan1 h1]
    exact Ev.now _
  | false =>
    simp only [Bool.false_eq_true, if_false]
    refine Ev.bind (nan_ev b hb) ?_
    cases h2 : (double.read b).isNaN with
    | true =>
      simp only [if_true]
      rw [order_nan2 h2]
      exact Ev.now _
    | false =>
      simp only [Bool.false_eq_true, if_false]
      refine Ev.bind (key_ev a ha) (Ev.bind (key_ev b hb) ?_)
      rw [order_key h1 h2]
      have : decide (keyW a < keyW b) = (some (compare (keyW a) (keyW b)) == some Ordering.lt) := by
        by_cases c : keyW a < keyW b
        · rw [Int.compare_eq_lt.2 c]; simp [c]
        · have : compare (keyW a) (keyW b) ≠ .lt := fun h => c (Int.compare_eq_lt.1 h)
          cases hh : compare (keyW a) (keyW b) <;> simp_all
      rw [this]
      exact Ev.now _

end Go.Proofs.Ytlmiobfnkdkkjaa.FFnRoots
