-- Written by a program of this session (wip/tools/myprint.py); Lean checks it.
import Derived.Test.YtlmiobfnkdkkjaaQFnQuotientsx0
import Derived.Test.YtlmiobfnkdkkjaaQFnQuotientsx1
namespace Go.Proofs.Ytlmiobfnkdkkjaa.QFnQuotients
open Go.RowKit Go.Proofs.YtlmiobfnkdkkjaaW.PrintWords Go.Proofs.YtlmiobfnkdkkjaaW.PrintLast Go.Proofs.YtlmiobfnkdkkjaaW.PrintMore
attribute [local go_sem] max2_int min2_int max_two min_two max_three min_three max_four min_four   -- for this text's walks alone
set_option linter.unusedVariables false
set_option linter.unusedSimpArgs false

/-! ### spec_RoundTo: function 42 -/
mutual
def spec_RoundTo.j0 : Nat → Bool → Int → Int → Bool → Option (Int)
  | 0, _, _, _, _ => none
  | k + 1, x0, x1, x2, x3 => if x2 < (-5000) then (spec_RoundTo.j1 k x0 x1 (-5000) x3) else (spec_RoundTo.j1 k x0 x1 x2 x3)
def spec_RoundTo.j1 : Nat → Bool → Int → Int → Bool → Option (Int)
  | 0, _, _, _, _ => none
  | k + 1, x0, x1, x2, x3 => if x3 = true then ((spec_l03Pow.f k 56).bind fun t137 => (spec_RoundTo.j2 k x0 x1 x2 (decide (x1 ≥ t137)))) else (spec_RoundTo.j2 k x0 x1 x2 false)
def spec_RoundTo.j2 : Nat → Bool → Int → Int → Bool → Option (Int)
  | 0, _, _, _, _ => none
  | k + 1, x0, x1, x2, x9 => if x1 = 0 then ((spec_l03Sign.f k 0 x0).bind fun t138 => (some t138)) else (spec_RoundTo.l0 k x0 x1 x2 x9)
def spec_RoundTo.j4 : Nat → Bool → Int → Int → Bool → Option (Int)
  | 0, _, _, _, _ => none
  | k + 1, x0, x1, x2, x9 => spec_RoundTo.l1 k x0 x1 x2 false x9
def spec_RoundTo.l1 : Nat → Bool → Int → Int → Bool → Bool → Option (Int)
  | 0, _, _, _, _, _ => none
  | k + 1, x0, x1, x2, x10, x11 => if x1 ≥ 9007199254740992 then (spec_RoundTo.j6 k x0 x1 x2 x10 x11 true) else (spec_RoundTo.j6 k x0 x1 x2 x10 x11 (decide (x2 < (-1074))))
def spec_RoundTo.j6 : Nat → Bool → Int → Int → Bool → Bool → Bool → Option (Int)
  | 0, _, _, _, _, _, _ => none
  | k + 1, x0, x1, x2, x10, x11, x42 => if x42 = true then (if x11 = true then (if (IntKind.u64.wrap (Int.tdiv x1 2)) = 0 then (if (wrap64 (x2 + 1)) < (-1074) then (spec_RoundTo.l1 k x0 (IntKind.u64.wrap (Int.tdiv x1 2)) (-1074) false true) else (spec_RoundTo.l1 k x0 (IntKind.u64.wrap (Int.tdiv x1 2)) (wrap64 (x2 + 1)) ((Int.tmod x1 2) == 1) true)) else (spec_RoundTo.l1 k x0 (IntKind.u64.wrap (Int.tdiv x1 2)) (wrap64 (x2 + 1)) ((Int.tmod x1 2) == 1) true)) else (if (IntKind.u64.wrap (Int.tdiv x1 2)) = 0 then (if (wrap64 (x2 + 1)) < (-1074) then (if x10 = true then (spec_RoundTo.l1 k x0 (IntKind.u64.wrap (Int.tdiv x1 2)) (-1074) false true) else (spec_RoundTo.l1 k x0 (IntKind.u64.wrap (Int.tdiv x1 2)) (-1074) false ((Int.tmod x1 2) == 1))) else (spec_RoundTo.l1 k x0 (IntKind.u64.wrap (Int.tdiv x1 2)) (wrap64 (x2 + 1)) ((Int.tmod x1 2) == 1) x10)) else (spec_RoundTo.l1 k x0 (IntKind.u64.wrap (Int.tdiv x1 2)) (wrap64 (x2 + 1)) ((Int.tmod x1 2) == 1) x10))) else (if x10 = true then (if x11 = true then (spec_RoundTo.j7 k x0 x1 x2 true) else (spec_RoundTo.j7 k x0 x1 x2 ((Int.tmod x1 2) == 1))) else (spec_RoundTo.j7 k x0 x1 x2 false))
def spec_RoundTo.j7 : Nat → Bool → Int → Int → Bool → Option (Int)
  | 0, _, _, _, _ => none
  | k + 1, x0, x1, x2, x72 => if x72 = true then (spec_RoundTo.j8 k x0 (IntKind.u64.wrap (x1 + 1)) x2) else (spec_RoundTo.j8 k x0 x1 x2)
def spec_RoundTo.j8 : Nat → Bool → Int → Int → Option (Int)
  | 0, _, _, _ => none
  | k + 1, x0, x1, x2 => if x1 = 9007199254740992 then (spec_RoundTo.j9 k x0 4503599627370496 (wrap64 (x2 + 1))) else (spec_RoundTo.j9 k x0 x1 x2)
def spec_RoundTo.j9 : Nat → Bool → Int → Int → Option (Int)
  | 0, _, _, _ => none
  | k + 1, x0, x1, x2 => if x1 < 4503599627370496 then ((spec_l03Sign.f k x1 x0).bind fun t139 => (some t139)) else (if x2 > 971 then ((spec_l03Sign.f k 9218868437227405312 x0).bind fun t140 => (some t140)) else ((spec_l03Sign.f k (IntKind.u64.wrap ((IntKind.u64.wrap (x1 - 4503599627370496)) + (IntKind.u64.wrap ((IntKind.u64.wrap (wrap64 (x2 + 1075))) * 4503599627370496)))) x0).bind fun t141 => (some t141)))
def spec_RoundTo.l0 : Nat → Bool → Int → Int → Bool → Option (Int)
  | 0, _, _, _, _ => none
  | k + 1, x0, x1, x2, x9 => if x1 < 4503599627370496 then (if x2 > (-1074) then (spec_RoundTo.l0 k x0 (IntKind.u64.wrap (x1 * 2)) (wrap64 (x2 - 1)) x9) else (spec_RoundTo.j4 k x0 x1 x2 x9)) else (spec_RoundTo.j4 k x0 x1 x2 x9)
end
def spec_RoundTo.f (k : Nat) (a0 : Bool) (a1 : Int) (a2 : Int) (a3 : Bool) : Option (Int) := if a2 > 5000 then (spec_RoundTo.j0 k a0 a1 5000 a3) else (spec_RoundTo.j0 k a0 a1 a2 a3)
theorem spec_RoundTo.mono_l : ∀ k, (∀ y0 y1 y2 y3, LeO (spec_RoundTo.j0 k y0 y1 y2 y3) (spec_RoundTo.j0 (k + 1) y0 y1 y2 y3)) ∧ (∀ y0 y1 y2 y3, LeO (spec_RoundTo.j1 k y0 y1 y2 y3) (spec_RoundTo.j1 (k + 1) y0 y1 y2 y3)) ∧ (∀ y0 y1 y2 y3, LeO (spec_RoundTo.j2 k y0 y1 y2 y3) (spec_RoundTo.j2 (k + 1) y0 y1 y2 y3)) ∧ (∀ y0 y1 y2 y3, LeO (spec_RoundTo.j4 k y0 y1 y2 y3) (spec_RoundTo.j4 (k + 1) y0 y1 y2 y3)) ∧ (∀ y0 y1 y2 y3 y4, LeO (spec_RoundTo.l1 k y0 y1 y2 y3 y4) (spec_RoundTo.l1 (k + 1) y0 y1 y2 y3 y4)) ∧ (∀ y0 y1 y2 y3 y4 y5, LeO (spec_RoundTo.j6 k y0 y1 y2 y3 y4 y5) (spec_RoundTo.j6 (k + 1) y0 y1 y2 y3 y4 y5)) ∧ (∀ y0 y1 y2 y3, LeO (spec_RoundTo.j7 k y0 y1 y2 y3) (spec_RoundTo.j7 (k + 1) y0 y1 y2 y3)) ∧ (∀ y0 y1 y2, LeO (spec_RoundTo.j8 k y0 y1 y2) (spec_RoundTo.j8 (k + 1) y0 y1 y2)) ∧ (∀ y0 y1 y2, LeO (spec_RoundTo.j9 k y0 y1 y2) (spec_RoundTo.j9 (k + 1) y0 y1 y2)) ∧ (∀ y0 y1 y2 y3, LeO (spec_RoundTo.l0 k y0 y1 y2 y3) (spec_RoundTo.l0 (k + 1) y0 y1 y2 y3))
  | 0 => ⟨fun _ _ _ _ r h => by simp [spec_RoundTo.j0] at h, fun _ _ _ _ r h => by simp [spec_RoundTo.j1] at h, fun _ _ _ _ r h => by simp [spec_RoundTo.j2] at h, fun _ _ _ _ r h => by simp [spec_RoundTo.j4] at h, fun _ _ _ _ _ r h => by simp [spec_RoundTo.l1] at h, fun _ _ _ _ _ _ r h => by simp [spec_RoundTo.j6] at h, fun _ _ _ _ r h => by simp [spec_RoundTo.j7] at h, fun _ _ _ r h => by simp [spec_RoundTo.j8] at h, fun _ _ _ r h => by simp [spec_RoundTo.j9] at h, fun _ _ _ _ r h => by simp [spec_RoundTo.l0] at h⟩
  | k + 1 => by
    obtain ⟨ih0, ih1, ih2, ih3, ih4, ih5, ih6, ih7, ih8, ih9⟩ := spec_RoundTo.mono_l k
    refine ⟨?_, ?_, ?_, ?_, ?_, ?_, ?_, ?_, ?_, ?_⟩
    · intro y0 y1 y2 y3
      unfold spec_RoundTo.j0
      repeat' first
      | (with_reducible exact ih0 _ _ _ _)
      | (with_reducible exact ih1 _ _ _ _)
      | (with_reducible exact ih2 _ _ _ _)
      | (with_reducible exact ih3 _ _ _ _)
      | (with_reducible exact ih4 _ _ _ _ _)
      | (with_reducible exact ih5 _ _ _ _ _ _)
      | (with_reducible exact ih6 _ _ _ _)
      | (with_reducible exact ih7 _ _ _)
      | (with_reducible exact ih8 _ _ _)
      | (with_reducible exact ih9 _ _ _ _)
      | (with_reducible exact spec_l03Pow.mono _ _)
      | (with_reducible exact spec_l03Sign.mono _ _ _)
      | (with_reducible exact LeO.refl _)
      | (with_reducible exact LeO.none _)
      | (with_reducible refine LeO.ite ?_ ?_)
      | (with_reducible refine LeO.bind ?_ (fun _ => ?_))
      | exact ih0 _ _ _ _
      | exact ih1 _ _ _ _
      | exact ih2 _ _ _ _
      | exact ih3 _ _ _ _
      | exact ih4 _ _ _ _ _
      | exact ih5 _ _ _ _ _ _
      | exact ih6 _ _ _ _
      | exact ih7 _ _ _
      | exact ih8 _ _ _
      | exact ih9 _ _ _ _
      | exact spec_l03Pow.mono _ _
      | exact spec_l03Sign.mono _ _ _
      | exact LeO.none _
      | refine LeO.ite ?_ ?_
      | refine LeO.bind ?_ (fun _ => ?_)
    · intro y0 y1 y2 y3
      unfold spec_RoundTo.j1
      repeat' first
      | (with_reducible exact ih0 _ _ _ _)
      | (with_reducible exact ih1 _ _ _ _)
      | (with_reducible exact ih2 _ _ _ _)
      | (with_reducible exact ih3 _ _ _ _)
      | (with_reducible exact ih4 _ _ _ _ _)
      | (with_reducible exact ih5 _ _ _ _ _ _)
      | (with_reducible exact ih6 _ _ _ _)
      | (with_reducible exact ih7 _ _ _)
      | (with_reducible exact ih8 _ _ _)
      | (with_reducible exact ih9 _ _ _ _)
      | (with_reducible exact spec_l03Pow.mono _ _)
      | (with_reducible exact spec_l03Sign.mono _ _ _)
      | (with_reducible exact LeO.refl _)
      | (with_reducible exact LeO.none _)
      | (with_reducible refine LeO.ite ?_ ?_)
      | (with_reducible refine LeO.bind ?_ (fun _ => ?_))
      | exact ih0 _ _ _ _
      | exact ih1 _ _ _ _
      | exact ih2 _ _ _ _
      | exact ih3 _ _ _ _
      | exact ih4 _ _ _ _ _
      | exact ih5 _ _ _ _ _ _
      | exact ih6 _ _ _ _
      | exact ih7 _ _ _
      | exact ih8 _ _ _
      | exact ih9 _ _ _ _
      | exact spec_l03Pow.mono _ _
      | exact spec_l03Sign.mono _ _ _
      | exact LeO.none _
      | refine LeO.ite ?_ ?_
      | refine LeO.bind ?_ (fun _ => ?_)
    · intro y0 y1 y2 y3
      unfold spec_RoundTo.j2
      repeat' first
      | (with_reducible exact ih0 _ _ _ _)
      | (with_reducible exact ih1 _ _ _ _)
      | (with_reducible exact ih2 _ _ _ _)
      | (with_reducible exact ih3 _ _ _ _)
      | (with_reducible exact ih4 _ _ _ _ _)
      | (with_reducible exact ih5 _ _ _ _ _ _)
      | (with_reducible exact ih6 _ _ _ _)
      | (with_reducible exact ih7 _ _ _)
      | (with_reducible exact ih8 _ _ _)
      | (with_reducible exact ih9 _ _ _ _)
      | (with_reducible exact spec_l03Pow.mono _ _)
      | (with_reducible exact spec_l03Sign.mono _ _ _)
      | (with_reducible exact LeO.refl _)
      | (with_reducible exact LeO.none _)
      | (with_reducible refine LeO.ite ?_ ?_)
      | (with_reducible refine LeO.bind ?_ (fun _ => ?_))
      | exact ih0 _ _ _ _
      | exact ih1 _ _ _ _
      | exact ih2 _ _ _ _
      | exact ih3 _ _ _ _
      | exact ih4 _ _ _ _ _
      | exact ih5 _ _ _ _ _ _
      | exact ih6 _ _ _ _
      | exact ih7 _ _ _
      | exact ih8 _ _ _
      | exact ih9 _ _ _ _
      | exact spec_l03Pow.mono _ _
      | exact spec_l03Sign.mono _ _ _
      | exact LeO.none _
      | refine LeO.ite ?_ ?_
      | refine LeO.bind ?_ (fun _ => ?_)
    · intro y0 y1 y2 y3
      unfold spec_RoundTo.j4
      repeat' first
      | (with_reducible exact ih0 _ _ _ _)
      | (with_reducible exact ih1 _ _ _ _)
      | (with_reducible exact ih2 _ _ _ _)
      | (with_reducible exact ih3 _ _ _ _)
      | (with_reducible exact ih4 _ _ _ _ _)
      | (with_reducible exact ih5 _ _ _ _ _ _)
      | (with_reducible exact ih6 _ _ _ _)
      | (with_reducible exact ih7 _ _ _)
      | (with_reducible exact ih8 _ _ _)
      | (with_reducible exact ih9 _ _ _ _)
      | (with_reducible exact spec_l03Pow.mono _ _)
      | (with_reducible exact spec_l03Sign.mono _ _ _)
      | (with_reducible exact LeO.refl _)
      | (with_reducible exact LeO.none _)
      | (with_reducible refine LeO.ite ?_ ?_)
      | (with_reducible refine LeO.bind ?_ (fun _ => ?_))
      | exact ih0 _ _ _ _
      | exact ih1 _ _ _ _
      | exact ih2 _ _ _ _
      | exact ih3 _ _ _ _
      | exact ih4 _ _ _ _ _
      | exact ih5 _ _ _ _ _ _
      | exact ih6 _ _ _ _
      | exact ih7 _ _ _
      | exact ih8 _ _ _
      | exact ih9 _ _ _ _
      | exact spec_l03Pow.mono _ _
      | exact spec_l03Sign.mono _ _ _
      | exact LeO.none _
      | refine LeO.ite ?_ ?_
      | refine LeO.bind ?_ (fun _ => ?_)
    · intro y0 y1 y2 y3 y4
      unfold spec_RoundTo.l1
      repeat' first
      | (with_reducible exact ih0 _ _ _ _)
      | (with_reducible exact ih1 _ _ _ _)
      | (with_reducible exact ih2 _ _ _ _)
      | (with_reducible exact ih3 _ _ _ _)
      | (with_reducible exact ih4 _ _ _ _ _)
      | (with_reducible exact ih5 _ _ _ _ _ _)
      | (with_reducible exact ih6 _ _ _ _)
      | (with_reducible exact ih7 _ _ _)
      | (with_reducible exact ih8 _ _ _)
      | (with_reducible exact ih9 _ _ _ _)
      | (with_reducible exact spec_l03Pow.mono _ _)
      | (with_reducible exact spec_l03Sign.mono _ _ _)
      | (with_reducible exact LeO.refl _)
      | (with_reducible exact LeO.none _)
      | (with_reducible refine LeO.ite ?_ ?_)
      | (with_reducible refine LeO.bind ?_ (fun _ => ?_))
      | exact ih0 _ _ _ _
      | exact ih1 _ _ _ _
      | exact ih2 _ _ _ _
      | exact ih3 _ _ _ _
      | exact ih4 _ _ _ _ _
      | exact ih5 _ _ _ _ _ _
      | exact ih6 _ _ _ _
      | exact ih7 _ _ _
      | exact ih8 _ _ _
      | exact ih9 _ _ _ _
      | exact spec_l03Pow.mono _ _
      | exact spec_l03Sign.mono _ _ _
      | exact LeO.none _
      | refine LeO.ite ?_ ?_
      | refine LeO.bind ?_ (fun _ => ?_)
    · intro y0 y1 y2 y3 y4 y5
      unfold spec_RoundTo.j6
      repeat' first
      | (with_reducible exact ih0 _ _ _ _)
      | (with_reducible exact ih1 _ _ _ _)
      | (with_reducible exact ih2 _ _ _ _)
      | (with_reducible exact ih3 _ _ _ _)
      | (with_reducible exact ih4 _ _ _ _ _)
      | (with_reducible exact ih5 _ _ _ _ _ _)
      | (with_reducible exact ih6 _ _ _ _)
      | (with_reducible exact ih7 _ _ _)
      | (with_reducible exact ih8 _ _ _)
      | (with_reducible exact ih9 _ _ _ _)
      | (with_reducible exact spec_l03Pow.mono _ _)
      | (with_reducible exact spec_l03Sign.mono _ _ _)
      | (with_reducible exact LeO.refl _)
      | (with_reducible exact LeO.none _)
      | (with_reducible refine LeO.ite ?_ ?_)
      | (with_reducible refine LeO.bind ?_ (fun _ => ?_))
      | exact ih0 _ _ _ _
      | exact ih1 _ _ _ _
      | exact ih2 _ _ _ _
      | exact ih3 _ _ _ _
      | exact ih4 _ _ _ _ _
      | exact ih5 _ _ _ _ _ _
      | exact ih6 _ _ _ _
      | exact ih7 _ _ _
      | exact ih8 _ _ _
      | exact ih9 _ _ _ _
      | exact spec_l03Pow.mono _ _
      | exact spec_l03Sign.mono _ _ _
      | exact LeO.none _
      | refine LeO.ite ?_ ?_
      | refine LeO.bind ?_ (fun _ => ?_)
    · intro y0 y1 y2 y3
      unfold spec_RoundTo.j7
      repeat' first
      | (with_reducible exact ih0 _ _ _ _)
      | (with_reducible exact ih1 _ _ _ _)
      | (with_reducible exact ih2 _ _ _ _)
      | (with_reducible exact ih3 _ _ _ _)
      | (with_reducible exact ih4 _ _ _ _ _)
      | (with_reducible exact ih5 _ _ _ _ _ _)
      | (with_reducible exact ih6 _ _ _ _)
      | (with_reducible exact ih7 _ _ _)
      | (with_reducible exact ih8 _ _ _)
      | (with_reducible exact ih9 _ _ _ _)
      | (with_reducible exact spec_l03Pow.mono _ _)
      | (with_reducible exact spec_l03Sign.mono _ _ _)
      | (with_reducible exact LeO.refl _)
      | (with_reducible exact LeO.none _)
      | (with_reducible refine LeO.ite ?_ ?_)
      | (with_reducible refine LeO.bind ?_ (fun _ => ?_))
      | exact ih0 _ _ _ _
      | exact ih1 _ _ _ _
      | exact ih2 _ _ _ _
      | exact ih3 _ _ _ _
      | exact ih4 _ _ _ _ _
      | exact ih5 _ _ _ _ _ _
      | exact ih6 _ _ _ _
      | exact ih7 _ _ _
      | exact ih8 _ _ _
      | exact ih9 _ _ _ _
      | exact spec_l03Pow.mono _ _
      | exact spec_l03Sign.mono _ _ _
      | exact LeO.none _
      | refine LeO.ite ?_ ?_
      | refine LeO.bind ?_ (fun _ => ?_)
    · intro y0 y1 y2
      unfold spec_RoundTo.j8
      repeat' first
      | (with_reducible exact ih0 _ _ _ _)
      | (with_reducible exact ih1 _ _ _ _)
      | (with_reducible exact ih2 _ _ _ _)
      | (with_reducible exact ih3 _ _ _ _)
      | (with_reducible exact ih4 _ _ _ _ _)
      | (with_reducible exact ih5 _ _ _ _ _ _)
      | (with_reducible exact ih6 _ _ _ _)
      | (with_reducible exact ih7 _ _ _)
      | (with_reducible exact ih8 _ _ _)
      | (with_reducible exact ih9 _ _ _ _)
      | (with_reducible exact spec_l03Pow.mono _ _)
      | (with_reducible exact spec_l03Sign.mono _ _ _)
      | (with_reducible exact LeO.refl _)
      | (with_reducible exact LeO.none _)
      | (with_reducible refine LeO.ite ?_ ?_)
      | (with_reducible refine LeO.bind ?_ (fun _ => ?_))
      | exact ih0 _ _ _ _
      | exact ih1 _ _ _ _
      | exact ih2 _ _ _ _
      | exact ih3 _ _ _ _
      | exact ih4 _ _ _ _ _
      | exact ih5 _ _ _ _ _ _
      | exact ih6 _ _ _ _
      | exact ih7 _ _ _
      | exact ih8 _ _ _
      | exact ih9 _ _ _ _
      | exact spec_l03Pow.mono _ _
      | exact spec_l03Sign.mono _ _ _
      | exact LeO.none _
      | refine LeO.ite ?_ ?_
      | refine LeO.bind ?_ (fun _ => ?_)
    · intro y0 y1 y2
      unfold spec_RoundTo.j9
      repeat' first
      | (with_reducible exact ih0 _ _ _ _)
      | (with_reducible exact ih1 _ _ _ _)
      | (with_reducible exact ih2 _ _ _ _)
      | (with_reducible exact ih3 _ _ _ _)
      | (with_reducible exact ih4 _ _ _ _ _)
      | (with_reducible exact ih5 _ _ _ _ _ _)
      | (with_reducible exact ih6 _ _ _ _)
      | (with_reducible exact ih7 _ _ _)
      | (with_reducible exact ih8 _ _ _)
      | (with_reducible exact ih9 _ _ _ _)
      | (with_reducible exact spec_l03Pow.mono _ _)
      | (with_reducible exact spec_l03Sign.mono _ _ _)
      | (with_reducible exact LeO.refl _)
      | (with_reducible exact LeO.none _)
      | (with_reducible refine LeO.ite ?_ ?_)
      | (with_reducible refine LeO.bind ?_ (fun _ => ?_))
      | exact ih0 _ _ _ _
      | exact ih1 _ _ _ _
      | exact ih2 _ _ _ _
      | exact ih3 _ _ _ _
      | exact ih4 _ _ _ _ _
      | exact ih5 _ _ _ _ _ _
      | exact ih6 _ _ _ _
      | exact ih7 _ _ _
      | exact ih8 _ _ _
      | exact ih9 _ _ _ _
      | exact spec_l03Pow.mono _ _
      | exact spec_l03Sign.mono _ _ _
      | exact LeO.none _
      | refine LeO.ite ?_ ?_
      | refine LeO.bind ?_ (fun _ => ?_)
    · intro y0 y1 y2 y3
      unfold spec_RoundTo.l0
      repeat' first
      | (with_reducible exact ih0 _ _ _ _)
      | (with_reducible exact ih1 _ _ _ _)
      | (with_reducible exact ih2 _ _ _ _)
      | (with_reducible exact ih3 _ _ _ _)
      | (with_reducible exact ih4 _ _ _ _ _)
      | (with_reducible exact ih5 _ _ _ _ _ _)
      | (with_reducible exact ih6 _ _ _ _)
      | (with_reducible exact ih7 _ _ _)
      | (with_reducible exact ih8 _ _ _)
      | (with_reducible exact ih9 _ _ _ _)
      | (with_reducible exact spec_l03Pow.mono _ _)
      | (with_reducible exact spec_l03Sign.mono _ _ _)
      | (with_reducible exact LeO.refl _)
      | (with_reducible exact LeO.none _)
      | (with_reducible refine LeO.ite ?_ ?_)
      | (with_reducible refine LeO.bind ?_ (fun _ => ?_))
      | exact ih0 _ _ _ _
      | exact ih1 _ _ _ _
      | exact ih2 _ _ _ _
      | exact ih3 _ _ _ _
      | exact ih4 _ _ _ _ _
      | exact ih5 _ _ _ _ _ _
      | exact ih6 _ _ _ _
      | exact ih7 _ _ _
      | exact ih8 _ _ _
      | exact ih9 _ _ _ _
      | exact spec_l03Pow.mono _ _
      | exact spec_l03Sign.mono _ _ _
      | exact LeO.none _
      | refine LeO.ite ?_ ?_
      | refine LeO.bind ?_ (fun _ => ?_)
theorem spec_RoundTo.mono : ∀ a0 a1 a2 a3 k, LeO (spec_RoundTo.f k a0 a1 a2 a3) (spec_RoundTo.f (k + 1) a0 a1 a2 a3) := by
  intro a0 a1 a2 a3 k
  obtain ⟨ih0, ih1, ih2, ih3, ih4, ih5, ih6, ih7, ih8, ih9⟩ := spec_RoundTo.mono_l k
  unfold spec_RoundTo.f
  repeat' first
      | (with_reducible exact ih0 _ _ _ _)
      | (with_reducible exact ih1 _ _ _ _)
      | (with_reducible exact ih2 _ _ _ _)
      | (with_reducible exact ih3 _ _ _ _)
      | (with_reducible exact ih4 _ _ _ _ _)
      | (with_reducible exact ih5 _ _ _ _ _ _)
      | (with_reducible exact ih6 _ _ _ _)
      | (with_reducible exact ih7 _ _ _)
      | (with_reducible exact ih8 _ _ _)
      | (with_reducible exact ih9 _ _ _ _)
      | (with_reducible exact spec_l03Pow.mono _ _)
      | (with_reducible exact spec_l03Sign.mono _ _ _)
      | (with_reducible exact LeO.refl _)
      | (with_reducible exact LeO.none _)
      | (with_reducible refine LeO.ite ?_ ?_)
      | (with_reducible refine LeO.bind ?_ (fun _ => ?_))
      | exact ih0 _ _ _ _
      | exact ih1 _ _ _ _
      | exact ih2 _ _ _ _
      | exact ih3 _ _ _ _
      | exact ih4 _ _ _ _ _
      | exact ih5 _ _ _ _ _ _
      | exact ih6 _ _ _ _
      | exact ih7 _ _ _
      | exact ih8 _ _ _
      | exact ih9 _ _ _ _
      | exact spec_l03Pow.mono _ _
      | exact spec_l03Sign.mono _ _ _
      | exact LeO.none _
      | refine LeO.ite ?_ ?_
      | refine LeO.bind ?_ (fun _ => ?_)
set_option maxHeartbeats 8000000 in
set_option maxRecDepth 100000 in
theorem spec_RoundTo.calls (k : Nat) (a0 : Bool) (a1 : Int) (a2 : Int) (a3 : Bool) (r : Int) (w : World) (h : spec_RoundTo.f k a0 a1 a2 a3 = some r) :
    Calls Try.prog 42 #[.bool a0, .int .u64 a1, .int .i64 a2, .bool a3] w fun e w' => e = .returned (.int .u64 r) ∧ Drawn0 w w' := by
  have H : (if a2 > 5000 then (spec_RoundTo.j0 k a0 a1 5000 a3) else (spec_RoundTo.j0 k a0 a1 a2 a3)) = some r := h
  clear h
  have HC5 := Aside0.mk H
  clear H
  go_enter Try.func42, Try.ntmps42
  go_upto_if 13 with (fail)
  go_cut [2] (fun v2 wc => ∃ (kq : Nat) (x2_4 : Int), v2 = .int .i64 x2_4 ∧ Aside0 (spec_RoundTo.j0 kq a0 a1 x2_4 a3 = some r) ∧ Aside0 (kq ≤ k) ∧ Drawn0 w wc)
  case first =>
    have H := HC5.out
    clear HC5
    by_cases c6 : a2 > 5000
    · rw [if_pos c6] at H
      have c6b0 : decide (5000 < a2) = true := decide_eq_true c6
      clear c6
      (first | rw [c6b0] | (simp only [i64_w, i32_w]; rw [c6b0]) | skip)
      have H' := Aside0.mk H
      clear H
      go_wp2
      go_meet
      case rel => exact ⟨_, (5000), (by first | rfl | (simp; done) | (simp [*]; done)), H', ⟨by first | omega | exact Nat.le_refl _⟩, by repeat (first | exact Drawn0.refl _ | apply Drawn0.step)⟩
    · rw [if_neg c6] at H
      have c6b0 : decide (5000 < a2) = false := decide_eq_false c6
      clear c6
      (first | rw [c6b0] | (simp only [i64_w, i32_w]; rw [c6b0]) | skip)
      have H' := Aside0.mk H
      clear H
      go_wp2
      go_meet
      case rel => exact ⟨_, (a2), (by first | rfl | (simp; done) | (simp [*]; done)), H', ⟨by first | omega | exact Nat.le_refl _⟩, by repeat (first | exact Drawn0.refl _ | apply Drawn0.step)⟩
  case rest =>
    clear HC5
    try clear p2
    try clear c4
    try clear c6
    try clear c6b0
    obtain ⟨kq, x2_4, rfl, HA, HJ4, ⟨mc4, rfl⟩⟩ := hcut
    cases kq with
    | zero => exact absurd HA.out (by simp [spec_RoundTo.j0])
    | succ kj4 =>
      have H := HA.out
      clear HA
      simp only [spec_RoundTo.j0] at H
      have HC7 := Aside0.mk H
      clear H
      go_upto_if 15 with (fail)
      go_cut [2] (fun v2 wc => ∃ (kq : Nat) (x2_6 : Int), v2 = .int .i64 x2_6 ∧ Aside0 (spec_RoundTo.j1 kq a0 a1 x2_6 a3 = some r) ∧ Aside0 (kq ≤ kj4) ∧ Drawn0 w wc)
      case first =>
        have H := HC7.out
        clear HC7
        by_cases c8 : x2_4 < (-5000)
        · rw [if_pos c8] at H
          have c8b0 : decide (x2_4 < (-5000)) = true := decide_eq_true c8
          clear c8
          (first | rw [c8b0] | (simp only [i64_w, i32_w]; rw [c8b0]) | skip)
          have H' := Aside0.mk H
          clear H
          go_wp2
          go_meet
          case rel => exact ⟨_, ((-5000)), (by first | rfl | (simp; done) | (simp [*]; done)), H', ⟨by have := HJ4.out; first | omega | exact Nat.le_refl _⟩, by repeat (first | exact Drawn0.refl _ | apply Drawn0.step)⟩
        · rw [if_neg c8] at H
          have c8b0 : decide (x2_4 < (-5000)) = false := decide_eq_false c8
          clear c8
          (first | rw [c8b0] | (simp only [i64_w, i32_w]; rw [c8b0]) | skip)
          have H' := Aside0.mk H
          clear H
          go_wp2
          go_meet
          case rel => exact ⟨_, (x2_4), (by first | rfl | (simp; done) | (simp [*]; done)), H', ⟨by have := HJ4.out; first | omega | exact Nat.le_refl _⟩, by repeat (first | exact Drawn0.refl _ | apply Drawn0.step)⟩
      case rest =>
        clear HC7
        try clear p2
        try clear c4
        try clear c6
        try clear c6b0
        try clear c8
        try clear c8b0
        try clear p2
        obtain ⟨kq, x2_6, rfl, HA, HJ6, ⟨mc6, rfl⟩⟩ := hcut
        cases kq with
        | zero => exact absurd HA.out (by simp [spec_RoundTo.j1])
        | succ kj6 =>
          have H := HA.out
          clear HA
          simp only [spec_RoundTo.j1] at H
          have HC9 := Aside0.mk H
          clear H
          go_upto_region 5 with (fail)
          go_cut [9] (fun v9 wc => ∃ (kq : Nat) (x9_8 : Bool), v9 = .bool x9_8 ∧ Aside0 (spec_RoundTo.j2 kq a0 a1 x2_6 x9_8 = some r) ∧ Aside0 (kq ≤ kj6) ∧ Drawn0 w wc)
          case first =>
            have H := HC9.out
            clear HC9
            by_cases c10 : a3 = true
            · subst c10
              have H1 : ((spec_l03Pow.f kj6 56).bind fun t137 => (spec_RoundTo.j2 kj6 a0 a1 x2_6 (decide (a1 ≥ t137)))) = some r := by rw [if_pos rfl] at H; exact H
              clear H
              have H := H1
              clear H1
              replace H := Option.bind_eq_some_iff.mp H
              obtain ⟨t137, A110, H⟩ := H
              replace H : (spec_RoundTo.j2 kj6 a0 a1 x2_6 (decide (a1 ≥ t137))) = some r := H
              have A11 := Aside0.mk A110
              clear A110
              have H' := Aside0.mk H
              clear H
              go_wp2_with (first | (go_at_call 37; (with_reducible refine (spec_l03Pow.calls kj6 56 t137 _ A11.out).mono ?_); rintro e w' ⟨rfl, ⟨nd, rfl⟩⟩))
              go_meet
              case rel => exact ⟨_, (decide (a1 ≥ t137)), (by first | rfl | (simp; done) | (simp [*]; done)), H', ⟨by have := HJ4.out; have := HJ6.out; first | omega | exact Nat.le_refl _⟩, by repeat (first | exact Drawn0.refl _ | apply Drawn0.step)⟩
            · replace c10 := Bool.eq_false_iff.mpr c10
              subst c10
              have H1 : (spec_RoundTo.j2 kj6 a0 a1 x2_6 false) = some r := by rw [if_neg (show ¬ (false = true) by decide)] at H; exact H
              clear H
              have H := H1
              clear H1
              have H' := Aside0.mk H
              clear H
              go_wp2
              go_meet
              case rel => exact ⟨_, (false), (by first | rfl | (simp; done) | (simp [*]; done)), H', ⟨by have := HJ4.out; have := HJ6.out; first | omega | exact Nat.le_refl _⟩, by repeat (first | exact Drawn0.refl _ | apply Drawn0.step)⟩
          case rest =>
            clear HC9
            try clear c1
            try clear p2
            try clear c4
            try clear c6
            try clear c6b0
            try clear c8
            try clear c8b0
            try clear c10
            try clear p2
            obtain ⟨kq, x9_8, rfl, HA, HJ8, ⟨mc8, rfl⟩⟩ := hcut
            cases kq with
            | zero => exact absurd HA.out (by simp [spec_RoundTo.j2])
            | succ kj8 =>
              have H := HA.out
              clear HA
              simp only [spec_RoundTo.j2] at H
              by_cases c12 : a1 = 0
              · rw [if_pos c12] at H
                have c12b0 : (a1 == 0) = true := beq_iff_eq.mpr c12
                have c12b1 : (a1 != 0) = false := bne_eq_false_iff_eq.mpr c12
                clear c12
                replace H := Option.bind_eq_some_iff.mp H
                obtain ⟨t138, A130, H⟩ := H
                replace H : (some t138) = some r := H
                have A13 := Aside0.mk A130
                clear A130
                obtain rfl := Option.some.inj H
                go_wp2_with (first | ((with_reducible refine gate_callee (f := 43) rfl ?_); refine goesL_ (some 25) rfl rfl Try.func43 (by kernel_rfl) rfl #[.int .u64 0, .bool a0] rfl (by (try simp only [List.map_toArray, List.map_cons, List.map_nil]); first | done | rfl | (simp only [List.length_drop, List.length_take]; rfl)) ?_; (with_reducible refine (spec_l03Sign.calls kj8 0 a0 t138 _ A13.out).mono ?_); rintro e w' ⟨rfl, ⟨nd, rfl⟩⟩; refine ⟨_, rfl, ?_⟩))
                go_ret
                exact ⟨by first | rfl | (simp; done) | (simp [*]; done), by repeat (first | exact Drawn0.refl _ | apply Drawn0.step)⟩
              · rw [if_neg c12] at H
                have c12b0 : (a1 == 0) = false := beq_eq_false_iff_ne.mpr c12
                have c12b1 : (a1 != 0) = true := bne_iff_ne.mpr c12
                have HC14 := Aside0.mk H
                clear H
                go_upto_block 0 with (fail)
                go_cut [1, 2] (fun v1 v2 wc => ∃ (kq : Nat) (x1_13 : Int) (x2_13 : Int), v1 = .int .u64 x1_13 ∧ v2 = .int .i64 x2_13 ∧ Aside0 (spec_RoundTo.j4 kq a0 x1_13 x2_13 x9_8 = some r) ∧ Aside0 (kq ≤ kj8) ∧ Drawn0 w wc)
                case first =>
                  have H := HC14.out
                  clear HC14
                  have H' := Aside0.mk H
                  clear H
                  go_wp2
                  go_loopg [1, 2] kj8 (fun kq v1 v2 w' => ∃ (x1_4 : Int) (x2_4 : Int), v1 = .int .u64 x1_4 ∧ v2 = .int .i64 x2_4 ∧ Aside0 (spec_RoundTo.l0 kq a0 x1_4 x2_4 x9_8 = some r) ∧ Aside0 (kq ≤ kj8) ∧ Drawn0 w w')
                  case atStart => exact ⟨(a1), (x2_6), (by first | rfl | (simp; done) | (simp [*]; done)), (by first | rfl | (simp; done) | (simp [*]; done)), H', ⟨Nat.le_refl _⟩, by repeat (first | exact Drawn0.refl _ | apply Drawn0.step)⟩
                  case round =>
                    clear H'
                    try clear c1
                    try clear p2
                    try clear c4
                    try clear c6
                    try clear c6b0
                    try clear c8
                    try clear c8b0
                    try clear c10
                    try clear c12
                    try clear c12b0
                    try clear c12b1
                    try clear p2
                    obtain ⟨x1_4, x2_4, rfl, rfl, HA, HK4, ⟨m4, rfl⟩⟩ := hrel
                    cases gk with
                    | zero => exact absurd HA.out (by simp [spec_RoundTo.l0])
                    | succ k4 =>
                      have H := HA.out
                      clear HA
                      simp only [spec_RoundTo.l0] at H
                      by_cases c15 : x1_4 < 4503599627370496
                      · rw [if_pos c15] at H
                        have c15b0 : decide (x1_4 < 4503599627370496) = true := decide_eq_true c15
                        clear c15
                        (first | rw [c15b0] | (simp only [i64_w, i32_w]; rw [c15b0]) | skip)
                        by_cases c16 : x2_4 > (-1074)
                        · rw [if_pos c16] at H
                          have c16b0 : decide ((-1074) < x2_4) = true := decide_eq_true c16
                          clear c16
                          have H' := Aside0.mk H
                          clear H
                          go_wp2
                          go_roundg k4
                          case measure => have := HJ4.out; have := HJ6.out; have := HJ8.out; have := HK4.out; omega
                          case rel => exact ⟨(IntKind.u64.wrap (x1_4 * 2)), (wrap64 (x2_4 - 1)), (by first | rfl | (simp; done) | (simp [*]; done)), (by first | rfl | (simp; done) | (simp [*]; done)), H', ⟨by have := HJ4.out; have := HJ6.out; have := HJ8.out; have := HK4.out; omega⟩, by repeat (first | exact Drawn0.refl _ | apply Drawn0.step)⟩
                        · rw [if_neg c16] at H
                          have c16b0 : decide ((-1074) < x2_4) = false := decide_eq_false c16
                          clear c16
                          have H' := Aside0.mk H
                          clear H
                          go_wp2
                          go_meet
                          case rel => exact ⟨_, (x1_4), (x2_4), (by first | rfl | (simp; done) | (simp [*]; done)), (by first | rfl | (simp; done) | (simp [*]; done)), H', ⟨by have := HJ4.out; have := HJ6.out; have := HJ8.out; have := HK4.out; first | omega | exact Nat.le_refl _⟩, by repeat (first | exact Drawn0.refl _ | apply Drawn0.step)⟩
                      · rw [if_neg c15] at H
                        have c15b0 : decide (x1_4 < 4503599627370496) = false := decide_eq_false c15
                        clear c15
                        (first | rw [c15b0] | (simp only [i64_w, i32_w]; rw [c15b0]) | skip)
                        have H' := Aside0.mk H
                        clear H
                        go_wp2
                        go_meet
                        case rel => exact ⟨_, (x1_4), (x2_4), (by first | rfl | (simp; done) | (simp [*]; done)), (by first | rfl | (simp; done) | (simp [*]; done)), H', ⟨by have := HJ4.out; have := HJ6.out; have := HJ8.out; have := HK4.out; first | omega | exact Nat.le_refl _⟩, by repeat (first | exact Drawn0.refl _ | apply Drawn0.step)⟩
                case rest =>
                  clear HC14
                  try clear c1
                  try clear p2
                  try clear c4
                  try clear c6
                  try clear c6b0
                  try clear p6
                  try clear c8
                  try clear c8b0
                  try clear c10
                  try clear c12
                  try clear c12b0
                  try clear c12b1
                  try clear c15
                  try clear c15b0
                  try clear c16
                  try clear c16b0
                  try clear p2
                  obtain ⟨kq, x1_13, x2_13, rfl, rfl, HA, HJ13, ⟨mc13, rfl⟩⟩ := hcut
                  cases kq with
                  | zero => exact absurd HA.out (by simp [spec_RoundTo.j4])
                  | succ kj13 =>
                    have H := HA.out
                    clear HA
                    simp only [spec_RoundTo.j4] at H
                    have H' := Aside0.mk H
                    clear H
                    go_wp2
                    go_loopg [1, 2, 10, 11] kj13 (fun kq v1 v2 v10 v11 w' => ∃ (x1_5 : Int) (x2_5 : Int) (x10_5 : Bool) (x11_5 : Bool), v1 = .int .u64 x1_5 ∧ v2 = .int .i64 x2_5 ∧ v10 = .bool x10_5 ∧ v11 = .bool x11_5 ∧ Aside0 (spec_RoundTo.l1 kq a0 x1_5 x2_5 x10_5 x11_5 = some r) ∧ Aside0 (kq ≤ kj13) ∧ Drawn0 w w')
                    case atStart => exact ⟨(x1_13), (x2_13), (false), (x9_8), (by first | rfl | (simp; done) | (simp [*]; done)), (by first | rfl | (simp; done) | (simp [*]; done)), (by first | rfl | (simp; done) | (simp [*]; done)), (by first | rfl | (simp; done) | (simp [*]; done)), H', ⟨Nat.le_refl _⟩, by repeat (first | exact Drawn0.refl _ | apply Drawn0.step)⟩
                    case round =>
                      clear H'
                      try clear c1
                      try clear p2
                      try clear c4
                      try clear c6
                      try clear c6b0
                      try clear p6
                      try clear c8
                      try clear c8b0
                      try clear c10
                      try clear c12
                      try clear c12b0
                      try clear c12b1
                      try clear c13
                      try clear c15
                      try clear c15b0
                      try clear c16
                      try clear c16b0
                      try clear p2
                      try clear p6
                      obtain ⟨x1_5, x2_5, x10_5, x11_5, rfl, rfl, rfl, rfl, HA, HK5, ⟨m5, rfl⟩⟩ := hrel
                      cases gk with
                      | zero => exact absurd HA.out (by simp [spec_RoundTo.l1])
                      | succ k5 =>
                        have H := HA.out
                        clear HA
                        simp only [spec_RoundTo.l1] at H
                        have HC17 := Aside0.mk H
                        clear H
                        go_upto_region 13 with (fail)
                        go_cut [42] (fun v42 wc => ∃ (kq : Nat) (x42_16 : Bool), v42 = .bool x42_16 ∧ Aside0 (spec_RoundTo.j6 kq a0 x1_5 x2_5 x10_5 x11_5 x42_16 = some r) ∧ Aside0 (kq ≤ k5) ∧ Drawn0 w wc)
                        case first =>
                          have H := HC17.out
                          clear HC17
                          by_cases c18 : x1_5 ≥ 9007199254740992
                          · rw [if_pos c18] at H
                            have c18b0 : decide (9007199254740992 ≤ x1_5) = true := decide_eq_true c18
                            clear c18
                            (first | rw [c18b0] | (simp only [i64_w, i32_w]; rw [c18b0]) | skip)
                            have H' := Aside0.mk H
                            clear H
                            go_wp2
                            go_meet
                            case rel => exact ⟨_, (true), (by first | rfl | (simp; done) | (simp [*]; done)), H', ⟨by have := HJ4.out; have := HJ6.out; have := HJ8.out; have := HJ13.out; have := HK5.out; first | omega | exact Nat.le_refl _⟩, by repeat (first | exact Drawn0.refl _ | apply Drawn0.step)⟩
                          · rw [if_neg c18] at H
                            have c18b0 : decide (9007199254740992 ≤ x1_5) = false := decide_eq_false c18
                            clear c18
                            (first | rw [c18b0] | (simp only [i64_w, i32_w]; rw [c18b0]) | skip)
                            have H' := Aside0.mk H
                            clear H
                            go_wp2
                            go_meet
                            case rel => exact ⟨_, (decide (x2_5 < (-1074))), (by first | rfl | (simp; done) | (simp [*]; done)), H', ⟨by have := HJ4.out; have := HJ6.out; have := HJ8.out; have := HJ13.out; have := HK5.out; first | omega | exact Nat.le_refl _⟩, by repeat (first | exact Drawn0.refl _ | apply Drawn0.step)⟩
                        case rest =>
                          clear HC17
                          try clear c1
                          try clear p2
                          try clear c4
                          try clear c6
                          try clear c6b0
                          try clear p6
                          try clear c8
                          try clear c8b0
                          try clear c10
                          try clear c12
                          try clear c12b0
                          try clear c12b1
                          try clear c13
                          try clear c15
                          try clear c15b0
                          try clear c16
                          try clear c16b0
                          try clear c18
                          try clear c18b0
                          try clear p2
                          try clear p6
                          obtain ⟨kq, x42_16, rfl, HA, HJ16, ⟨mc16, rfl⟩⟩ := hcut
                          cases kq with
                          | zero => exact absurd HA.out (by simp [spec_RoundTo.j6])
                          | succ kj16 =>
                            have H := HA.out
                            clear HA
                            simp only [spec_RoundTo.j6] at H
                            by_cases c19 : x42_16 = true
                            · subst c19
                              have H1 : (if x11_5 = true then (if (IntKind.u64.wrap (Int.tdiv x1_5 2)) = 0 then (if (wrap64 (x2_5 + 1)) < (-1074) then (spec_RoundTo.l1 kj16 a0 (IntKind.u64.wrap (Int.tdiv x1_5 2)) (-1074) false true) else (spec_RoundTo.l1 kj16 a0 (IntKind.u64.wrap (Int.tdiv x1_5 2)) (wrap64 (x2_5 + 1)) ((Int.tmod x1_5 2) == 1) true)) else (spec_RoundTo.l1 kj16 a0 (IntKind.u64.wrap (Int.tdiv x1_5 2)) (wrap64 (x2_5 + 1)) ((Int.tmod x1_5 2) == 1) true)) else (if (IntKind.u64.wrap (Int.tdiv x1_5 2)) = 0 then (if (wrap64 (x2_5 + 1)) < (-1074) then (if x10_5 = true then (spec_RoundTo.l1 kj16 a0 (IntKind.u64.wrap (Int.tdiv x1_5 2)) (-1074) false true) else (spec_RoundTo.l1 kj16 a0 (IntKind.u64.wrap (Int.tdiv x1_5 2)) (-1074) false ((Int.tmod x1_5 2) == 1))) else (spec_RoundTo.l1 kj16 a0 (IntKind.u64.wrap (Int.tdiv x1_5 2)) (wrap64 (x2_5 + 1)) ((Int.tmod x1_5 2) == 1) x10_5)) else (spec_RoundTo.l1 kj16 a0 (IntKind.u64.wrap (Int.tdiv x1_5 2)) (wrap64 (x2_5 + 1)) ((Int.tmod x1_5 2) == 1) x10_5))) = some r := by rw [if_pos rfl] at H; exact H
                              clear H
                              have H := H1
                              clear H1
                              by_cases c20 : x11_5 = true
                              · subst c20
                                have H1 : (if (IntKind.u64.wrap (Int.tdiv x1_5 2)) = 0 then (if (wrap64 (x2_5 + 1)) < (-1074) then (spec_RoundTo.l1 kj16 a0 (IntKind.u64.wrap (Int.tdiv x1_5 2)) (-1074) false true) else (spec_RoundTo.l1 kj16 a0 (IntKind.u64.wrap (Int.tdiv x1_5 2)) (wrap64 (x2_5 + 1)) ((Int.tmod x1_5 2) == 1) true)) else (spec_RoundTo.l1 kj16 a0 (IntKind.u64.wrap (Int.tdiv x1_5 2)) (wrap64 (x2_5 + 1)) ((Int.tmod x1_5 2) == 1) true)) = some r := by rw [if_pos rfl] at H; exact H
                                clear H
                                have H := H1
                                clear H1
                                by_cases c21 : (IntKind.u64.wrap (Int.tdiv x1_5 2)) = 0
                                · rw [if_pos c21] at H
                                  have c21b0 : ((IntKind.u64.wrap (Int.tdiv x1_5 2)) == 0) = true := beq_iff_eq.mpr c21
                                  have c21b1 : ((IntKind.u64.wrap (Int.tdiv x1_5 2)) != 0) = false := bne_eq_false_iff_eq.mpr c21
                                  clear c21
                                  by_cases c22 : (wrap64 (x2_5 + 1)) < (-1074)
                                  · rw [if_pos c22] at H
                                    have c22b0 : decide ((wrap64 (x2_5 + 1)) < (-1074)) = true := decide_eq_true c22
                                    clear c22
                                    have H' := Aside0.mk H
                                    clear H
                                    go_wp2
                                    go_roundg kj16
                                    case measure => have := HJ4.out; have := HJ6.out; have := HJ8.out; have := HJ13.out; have := HK5.out; have := HJ16.out; omega
                                    case rel => exact ⟨(IntKind.u64.wrap (Int.tdiv x1_5 2)), ((-1074)), (false), (true), (by first | rfl | (simp; done) | (simp [*]; done)), (by first | rfl | (simp; done) | (simp [*]; done)), (by first | rfl | (simp; done) | (simp [*]; done)), (by first | rfl | (simp; done) | (simp [*]; done)), H', ⟨by have := HJ4.out; have := HJ6.out; have := HJ8.out; have := HJ13.out; have := HK5.out; have := HJ16.out; omega⟩, by repeat (first | exact Drawn0.refl _ | apply Drawn0.step)⟩
                                  · rw [if_neg c22] at H
                                    have c22b0 : decide ((wrap64 (x2_5 + 1)) < (-1074)) = false := decide_eq_false c22
                                    clear c22
                                    have H' := Aside0.mk H
                                    clear H
                                    go_wp2
                                    go_roundg kj16
                                    case measure => have := HJ4.out; have := HJ6.out; have := HJ8.out; have := HJ13.out; have := HK5.out; have := HJ16.out; omega
                                    case rel => exact ⟨(IntKind.u64.wrap (Int.tdiv x1_5 2)), (wrap64 (x2_5 + 1)), (((Int.tmod x1_5 2) == 1)), (true), (by first | rfl | (simp; done) | (simp [*]; done)), (by first | rfl | (simp; done) | (simp [*]; done)), (by first | rfl | (simp; done) | (simp [*]; done)), (by first | rfl | (simp; done) | (simp [*]; done)), H', ⟨by have := HJ4.out; have := HJ6.out; have := HJ8.out; have := HJ13.out; have := HK5.out; have := HJ16.out; omega⟩, by repeat (first | exact Drawn0.refl _ | apply Drawn0.step)⟩
                                · rw [if_neg c21] at H
                                  have c21b0 : ((IntKind.u64.wrap (Int.tdiv x1_5 2)) == 0) = false := beq_eq_false_iff_ne.mpr c21
                                  have c21b1 : ((IntKind.u64.wrap (Int.tdiv x1_5 2)) != 0) = true := bne_iff_ne.mpr c21
                                  have H' := Aside0.mk H
                                  clear H
                                  go_wp2
                                  go_roundg kj16
                                  case measure => have := HJ4.out; have := HJ6.out; have := HJ8.out; have := HJ13.out; have := HK5.out; have := HJ16.out; omega
                                  case rel => exact ⟨(IntKind.u64.wrap (Int.tdiv x1_5 2)), (wrap64 (x2_5 + 1)), (((Int.tmod x1_5 2) == 1)), (true), (by first | rfl | (simp; done) | (simp [*]; done)), (by first | rfl | (simp; done) | (simp [*]; done)), (by first | rfl | (simp; done) | (simp [*]; done)), (by first | rfl | (simp; done) | (simp [*]; done)), H', ⟨by have := HJ4.out; have := HJ6.out; have := HJ8.out; have := HJ13.out; have := HK5.out; have := HJ16.out; omega⟩, by repeat (first | exact Drawn0.refl _ | apply Drawn0.step)⟩
                              · replace c20 := Bool.eq_false_iff.mpr c20
                                subst c20
                                have H1 : (if (IntKind.u64.wrap (Int.tdiv x1_5 2)) = 0 then (if (wrap64 (x2_5 + 1)) < (-1074) then (if x10_5 = true then (spec_RoundTo.l1 kj16 a0 (IntKind.u64.wrap (Int.tdiv x1_5 2)) (-1074) false true) else (spec_RoundTo.l1 kj16 a0 (IntKind.u64.wrap (Int.tdiv x1_5 2)) (-1074) false ((Int.tmod x1_5 2) == 1))) else (spec_RoundTo.l1 kj16 a0 (IntKind.u64.wrap (Int.tdiv x1_5 2)) (wrap64 (x2_5 + 1)) ((Int.tmod x1_5 2) == 1) x10_5)) else (spec_RoundTo.l1 kj16 a0 (IntKind.u64.wrap (Int.tdiv x1_5 2)) (wrap64 (x2_5 + 1)) ((Int.tmod x1_5 2) == 1) x10_5)) = some r := by rw [if_neg (show ¬ (false = true) by decide)] at H; exact H
                                clear H
                                have H := H1
                                clear H1
                                by_cases c23 : (IntKind.u64.wrap (Int.tdiv x1_5 2)) = 0
                                · rw [if_pos c23] at H
                                  have c23b0 : ((IntKind.u64.wrap (Int.tdiv x1_5 2)) == 0) = true := beq_iff_eq.mpr c23
                                  have c23b1 : ((IntKind.u64.wrap (Int.tdiv x1_5 2)) != 0) = false := bne_eq_false_iff_eq.mpr c23
                                  clear c23
                                  by_cases c24 : (wrap64 (x2_5 + 1)) < (-1074)
                                  · rw [if_pos c24] at H
                                    have c24b0 : decide ((wrap64 (x2_5 + 1)) < (-1074)) = true := decide_eq_true c24
                                    clear c24
                                    by_cases c25 : x10_5 = true
                                    · subst c25
                                      have H1 : (spec_RoundTo.l1 kj16 a0 (IntKind.u64.wrap (Int.tdiv x1_5 2)) (-1074) false true) = some r := by rw [if_pos rfl] at H; exact H
                                      clear H
                                      have H := H1
                                      clear H1
                                      have H' := Aside0.mk H
                                      clear H
                                      go_wp2
                                      go_roundg kj16
                                      case measure => have := HJ4.out; have := HJ6.out; have := HJ8.out; have := HJ13.out; have := HK5.out; have := HJ16.out; omega
                                      case rel => exact ⟨(IntKind.u64.wrap (Int.tdiv x1_5 2)), ((-1074)), (false), (true), (by first | rfl | (simp; done) | (simp [*]; done)), (by first | rfl | (simp; done) | (simp [*]; done)), (by first | rfl | (simp; done) | (simp [*]; done)), (by first | rfl | (simp; done) | (simp [*]; done)), H', ⟨by have := HJ4.out; have := HJ6.out; have := HJ8.out; have := HJ13.out; have := HK5.out; have := HJ16.out; omega⟩, by repeat (first | exact Drawn0.refl _ | apply Drawn0.step)⟩
                                    · replace c25 := Bool.eq_false_iff.mpr c25
                                      subst c25
                                      have H1 : (spec_RoundTo.l1 kj16 a0 (IntKind.u64.wrap (Int.tdiv x1_5 2)) (-1074) false ((Int.tmod x1_5 2) == 1)) = some r := by rw [if_neg (show ¬ (false = true) by decide)] at H; exact H
                                      clear H
                                      have H := H1
                                      clear H1
                                      have H' := Aside0.mk H
                                      clear H
                                      go_wp2
                                      go_roundg kj16
                                      case measure => have := HJ4.out; have := HJ6.out; have := HJ8.out; have := HJ13.out; have := HK5.out; have := HJ16.out; omega
                                      case rel => exact ⟨(IntKind.u64.wrap (Int.tdiv x1_5 2)), ((-1074)), (false), (((Int.tmod x1_5 2) == 1)), (by first | rfl | (simp; done) | (simp [*]; done)), (by first | rfl | (simp; done) | (simp [*]; done)), (by first | rfl | (simp; done) | (simp [*]; done)), (by first | rfl | (simp; done) | (simp [*]; done)), H', ⟨by have := HJ4.out; have := HJ6.out; have := HJ8.out; have := HJ13.out; have := HK5.out; have := HJ16.out; omega⟩, by repeat (first | exact Drawn0.refl _ | apply Drawn0.step)⟩
                                  · rw [if_neg c24] at H
                                    have c24b0 : decide ((wrap64 (x2_5 + 1)) < (-1074)) = false := decide_eq_false c24
                                    clear c24
                                    have H' := Aside0.mk H
                                    clear H
                                    go_wp2
                                    go_roundg kj16
                                    case measure => have := HJ4.out; have := HJ6.out; have := HJ8.out; have := HJ13.out; have := HK5.out; have := HJ16.out; omega
                                    case rel => exact ⟨(IntKind.u64.wrap (Int.tdiv x1_5 2)), (wrap64 (x2_5 + 1)), (((Int.tmod x1_5 2) == 1)), (x10_5), (by first | rfl | (simp; done) | (simp [*]; done)), (by first | rfl | (simp; done) | (simp [*]; done)), (by first | rfl | (simp; done) | (simp [*]; done)), (by first | rfl | (simp; done) | (simp [*]; done)), H', ⟨by have := HJ4.out; have := HJ6.out; have := HJ8.out; have := HJ13.out; have := HK5.out; have := HJ16.out; omega⟩, by repeat (first | exact Drawn0.refl _ | apply Drawn0.step)⟩
                                · rw [if_neg c23] at H
                                  have c23b0 : ((IntKind.u64.wrap (Int.tdiv x1_5 2)) == 0) = false := beq_eq_false_iff_ne.mpr c23
                                  have c23b1 : ((IntKind.u64.wrap (Int.tdiv x1_5 2)) != 0) = true := bne_iff_ne.mpr c23
                                  have H' := Aside0.mk H
                                  clear H
                                  go_wp2
                                  go_roundg kj16
                                  case measure => have := HJ4.out; have := HJ6.out; have := HJ8.out; have := HJ13.out; have := HK5.out; have := HJ16.out; omega
                                  case rel => exact ⟨(IntKind.u64.wrap (Int.tdiv x1_5 2)), (wrap64 (x2_5 + 1)), (((Int.tmod x1_5 2) == 1)), (x10_5), (by first | rfl | (simp; done) | (simp [*]; done)), (by first | rfl | (simp; done) | (simp [*]; done)), (by first | rfl | (simp; done) | (simp [*]; done)), (by first | rfl | (simp; done) | (simp [*]; done)), H', ⟨by have := HJ4.out; have := HJ6.out; have := HJ8.out; have := HJ13.out; have := HK5.out; have := HJ16.out; omega⟩, by repeat (first | exact Drawn0.refl _ | apply Drawn0.step)⟩
                            · replace c19 := Bool.eq_false_iff.mpr c19
                              subst c19
                              have H1 : (if x10_5 = true then (if x11_5 = true then (spec_RoundTo.j7 kj16 a0 x1_5 x2_5 true) else (spec_RoundTo.j7 kj16 a0 x1_5 x2_5 ((Int.tmod x1_5 2) == 1))) else (spec_RoundTo.j7 kj16 a0 x1_5 x2_5 false)) = some r := by rw [if_neg (show ¬ (false = true) by decide)] at H; exact H
                              clear H
                              have H := H1
                              clear H1
                              have HC26 := Aside0.mk H
                              clear H
                              go_upto_region 22 with (fail)
                              go_cut [72] (fun v72 wc => ∃ (kq : Nat) (x72_25 : Bool), v72 = .bool x72_25 ∧ Aside0 (spec_RoundTo.j7 kq a0 x1_5 x2_5 x72_25 = some r) ∧ Aside0 (kq ≤ kj16) ∧ Drawn0 w wc)
                              case first =>
                                have H := HC26.out
                                clear HC26
                                by_cases c27 : x10_5 = true
                                · subst c27
                                  have H1 : (if x11_5 = true then (spec_RoundTo.j7 kj16 a0 x1_5 x2_5 true) else (spec_RoundTo.j7 kj16 a0 x1_5 x2_5 ((Int.tmod x1_5 2) == 1))) = some r := by rw [if_pos rfl] at H; exact H
                                  clear H
                                  have H := H1
                                  clear H1
                                  by_cases c28 : x11_5 = true
                                  · subst c28
                                    have H1 : (spec_RoundTo.j7 kj16 a0 x1_5 x2_5 true) = some r := by rw [if_pos rfl] at H; exact H
                                    clear H
                                    have H := H1
                                    clear H1
                                    have H' := Aside0.mk H
                                    clear H
                                    go_wp2
                                    go_meet
                                    case rel => exact ⟨_, (true), (by first | rfl | (simp; done) | (simp [*]; done)), H', ⟨by have := HJ4.out; have := HJ6.out; have := HJ8.out; have := HJ13.out; have := HK5.out; have := HJ16.out; first | omega | exact Nat.le_refl _⟩, by repeat (first | exact Drawn0.refl _ | apply Drawn0.step)⟩
                                  · replace c28 := Bool.eq_false_iff.mpr c28
                                    subst c28
                                    have H1 : (spec_RoundTo.j7 kj16 a0 x1_5 x2_5 ((Int.tmod x1_5 2) == 1)) = some r := by rw [if_neg (show ¬ (false = true) by decide)] at H; exact H
                                    clear H
                                    have H := H1
                                    clear H1
                                    have H' := Aside0.mk H
                                    clear H
                                    go_wp2
                                    go_meet
                                    case rel => exact ⟨_, (((Int.tmod x1_5 2) == 1)), (by first | rfl | (simp; done) | (simp [*]; done)), H', ⟨by have := HJ4.out; have := HJ6.out; have := HJ8.out; have := HJ13.out; have := HK5.out; have := HJ16.out; first | omega | exact Nat.le_refl _⟩, by repeat (first | exact Drawn0.refl _ | apply Drawn0.step)⟩
                                · replace c27 := Bool.eq_false_iff.mpr c27
                                  subst c27
                                  have H1 : (spec_RoundTo.j7 kj16 a0 x1_5 x2_5 false) = some r := by rw [if_neg (show ¬ (false = true) by decide)] at H; exact H
                                  clear H
                                  have H := H1
                                  clear H1
                                  have H' := Aside0.mk H
                                  clear H
                                  go_wp2
                                  go_meet
                                  case rel => exact ⟨_, (false), (by first | rfl | (simp; done) | (simp [*]; done)), H', ⟨by have := HJ4.out; have := HJ6.out; have := HJ8.out; have := HJ13.out; have := HK5.out; have := HJ16.out; first | omega | exact Nat.le_refl _⟩, by repeat (first | exact Drawn0.refl _ | apply Drawn0.step)⟩
                              case rest =>
                                clear HC26
                                try clear c1
                                try clear c2
                                try clear p2
                                try clear c4
                                try clear c6
                                try clear c6b0
                                try clear p6
                                try clear c8
                                try clear c8b0
                                try clear c10
                                try clear c12
                                try clear c12b0
                                try clear c12b1
                                try clear c13
                                try clear c15
                                try clear c15b0
                                try clear c16
                                try clear c16b0
                                try clear c18
                                try clear c18b0
                                try clear c19
                                try clear c20
                                try clear c21
                                try clear c21b0
                                try clear c21b1
                                try clear c22
                                try clear c22b0
                                try clear c23
                                try clear c23b0
                                try clear c23b1
                                try clear c24
                                try clear c24b0
                                try clear c25
                                try clear c27
                                try clear c28
                                try clear p2
                                try clear p6
                                obtain ⟨kq, x72_25, rfl, HA, HJ25, ⟨mc25, rfl⟩⟩ := hcut
                                cases kq with
                                | zero => exact absurd HA.out (by simp [spec_RoundTo.j7])
                                | succ kj25 =>
                                  have H := HA.out
                                  clear HA
                                  simp only [spec_RoundTo.j7] at H
                                  have HC29 := Aside0.mk H
                                  clear H
                                  go_upto_if 72 with (fail)
                                  go_cut [1] (fun v1 wc => ∃ (kq : Nat) (x1_28 : Int), v1 = .int .u64 x1_28 ∧ Aside0 (spec_RoundTo.j8 kq a0 x1_28 x2_5 = some r) ∧ Aside0 (kq ≤ kj25) ∧ Drawn0 w wc)
                                  case first =>
                                    have H := HC29.out
                                    clear HC29
                                    by_cases c30 : x72_25 = true
                                    · subst c30
                                      have H1 : (spec_RoundTo.j8 kj25 a0 (IntKind.u64.wrap (x1_5 + 1)) x2_5) = some r := by rw [if_pos rfl] at H; exact H
                                      clear H
                                      have H := H1
                                      clear H1
                                      have H' := Aside0.mk H
                                      clear H
                                      go_wp2
                                      go_meet
                                      case rel => exact ⟨_, (IntKind.u64.wrap (x1_5 + 1)), (by first | rfl | (simp; done) | (simp [*]; done)), H', ⟨by have := HJ4.out; have := HJ6.out; have := HJ8.out; have := HJ13.out; have := HK5.out; have := HJ16.out; have := HJ25.out; first | omega | exact Nat.le_refl _⟩, by repeat (first | exact Drawn0.refl _ | apply Drawn0.step)⟩
                                    · replace c30 := Bool.eq_false_iff.mpr c30
                                      subst c30
                                      have H1 : (spec_RoundTo.j8 kj25 a0 x1_5 x2_5) = some r := by rw [if_neg (show ¬ (false = true) by decide)] at H; exact H
                                      clear H
                                      have H := H1
                                      clear H1
                                      have H' := Aside0.mk H
                                      clear H
                                      go_wp2
                                      go_meet
                                      case rel => exact ⟨_, (x1_5), (by first | rfl | (simp; done) | (simp [*]; done)), H', ⟨by have := HJ4.out; have := HJ6.out; have := HJ8.out; have := HJ13.out; have := HK5.out; have := HJ16.out; have := HJ25.out; first | omega | exact Nat.le_refl _⟩, by repeat (first | exact Drawn0.refl _ | apply Drawn0.step)⟩
                                  case rest =>
                                    clear HC29
                                    try clear c1
                                    try clear c2
                                    try clear p2
                                    try clear c3
                                    try clear c4
                                    try clear c6
                                    try clear c6b0
                                    try clear p6
                                    try clear c8
                                    try clear c8b0
                                    try clear c10
                                    try clear c12
                                    try clear c12b0
                                    try clear c12b1
                                    try clear c13
                                    try clear c15
                                    try clear c15b0
                                    try clear c16
                                    try clear c16b0
                                    try clear c18
                                    try clear c18b0
                                    try clear c19
                                    try clear c20
                                    try clear c21
                                    try clear c21b0
                                    try clear c21b1
                                    try clear c22
                                    try clear c22b0
                                    try clear c23
                                    try clear c23b0
                                    try clear c23b1
                                    try clear c24
                                    try clear c24b0
                                    try clear c25
                                    try clear c27
                                    try clear c28
                                    try clear c30
                                    try clear p2
                                    try clear p6
                                    obtain ⟨kq, x1_28, rfl, HA, HJ28, ⟨mc28, rfl⟩⟩ := hcut
                                    cases kq with
                                    | zero => exact absurd HA.out (by simp [spec_RoundTo.j8])
                                    | succ kj28 =>
                                      have H := HA.out
                                      clear HA
                                      simp only [spec_RoundTo.j8] at H
                                      have HC31 := Aside0.mk H
                                      clear H
                                      go_upto_if 76 with (fail)
                                      go_cut [1, 2] (fun v1 v2 wc => ∃ (kq : Nat) (x1_30 : Int) (x2_30 : Int), v1 = .int .u64 x1_30 ∧ v2 = .int .i64 x2_30 ∧ Aside0 (spec_RoundTo.j9 kq a0 x1_30 x2_30 = some r) ∧ Aside0 (kq ≤ kj28) ∧ Drawn0 w wc)
                                      case first =>
                                        have H := HC31.out
                                        clear HC31
                                        by_cases c32 : x1_28 = 9007199254740992
                                        · rw [if_pos c32] at H
                                          have c32b0 : (x1_28 == 9007199254740992) = true := beq_iff_eq.mpr c32
                                          have c32b1 : (x1_28 != 9007199254740992) = false := bne_eq_false_iff_eq.mpr c32
                                          clear c32
                                          (first | rw [c32b0] | (simp only [i64_w, i32_w]; rw [c32b0]) | skip)
                                          have H' := Aside0.mk H
                                          clear H
                                          go_wp2
                                          go_meet
                                          case rel => exact ⟨_, (4503599627370496), (wrap64 (x2_5 + 1)), (by first | rfl | (simp; done) | (simp [*]; done)), (by first | rfl | (simp; done) | (simp [*]; done)), H', ⟨by have := HJ4.out; have := HJ6.out; have := HJ8.out; have := HJ13.out; have := HK5.out; have := HJ16.out; have := HJ25.out; have := HJ28.out; first | omega | exact Nat.le_refl _⟩, by repeat (first | exact Drawn0.refl _ | apply Drawn0.step)⟩
                                        · rw [if_neg c32] at H
                                          have c32b0 : (x1_28 == 9007199254740992) = false := beq_eq_false_iff_ne.mpr c32
                                          have c32b1 : (x1_28 != 9007199254740992) = true := bne_iff_ne.mpr c32
                                          (first | rw [c32b0] | (simp only [i64_w, i32_w]; rw [c32b0]) | skip)
                                          have H' := Aside0.mk H
                                          clear H
                                          go_wp2
                                          go_meet
                                          case rel => exact ⟨_, (x1_28), (x2_5), (by first | rfl | (simp; done) | (simp [*]; done)), (by first | rfl | (simp; done) | (simp [*]; done)), H', ⟨by have := HJ4.out; have := HJ6.out; have := HJ8.out; have := HJ13.out; have := HK5.out; have := HJ16.out; have := HJ25.out; have := HJ28.out; first | omega | exact Nat.le_refl _⟩, by repeat (first | exact Drawn0.refl _ | apply Drawn0.step)⟩
                                      case rest =>
                                        clear HC31
                                        try clear c1
                                        try clear c2
                                        try clear p2
                                        try clear c3
                                        try clear c4
                                        try clear c6
                                        try clear c6b0
                                        try clear p6
                                        try clear c8
                                        try clear c8b0
                                        try clear c10
                                        try clear c12
                                        try clear c12b0
                                        try clear c12b1
                                        try clear c13
                                        try clear c15
                                        try clear c15b0
                                        try clear c16
                                        try clear c16b0
                                        try clear c18
                                        try clear c18b0
                                        try clear c19
                                        try clear c20
                                        try clear c21
                                        try clear c21b0
                                        try clear c21b1
                                        try clear c22
                                        try clear c22b0
                                        try clear c23
                                        try clear c23b0
                                        try clear c23b1
                                        try clear c24
                                        try clear c24b0
                                        try clear c25
                                        try clear c27
                                        try clear c28
                                        try clear c30
                                        try clear c32
                                        try clear c32b0
                                        try clear c32b1
                                        try clear p2
                                        try clear p6
                                        obtain ⟨kq, x1_30, x2_30, rfl, rfl, HA, HJ30, ⟨mc30, rfl⟩⟩ := hcut
                                        cases kq with
                                        | zero => exact absurd HA.out (by simp [spec_RoundTo.j9])
                                        | succ kj30 =>
                                          have H := HA.out
                                          clear HA
                                          simp only [spec_RoundTo.j9] at H
                                          by_cases c33 : x1_30 < 4503599627370496
                                          · rw [if_pos c33] at H
                                            have c33b0 : decide (x1_30 < 4503599627370496) = true := decide_eq_true c33
                                            clear c33
                                            replace H := Option.bind_eq_some_iff.mp H
                                            obtain ⟨t139, A340, H⟩ := H
                                            replace H : (some t139) = some r := H
                                            have A34 := Aside0.mk A340
                                            clear A340
                                            obtain rfl := Option.some.inj H
                                            go_wp2_with (first | ((with_reducible refine gate_callee (f := 43) rfl ?_); refine goesL_ (some 83) rfl rfl Try.func43 (by kernel_rfl) rfl #[.int .u64 x1_30, .bool a0] rfl (by (try simp only [List.map_toArray, List.map_cons, List.map_nil]); first | done | rfl | (simp only [List.length_drop, List.length_take]; rfl)) ?_; (with_reducible refine (spec_l03Sign.calls kj30 x1_30 a0 t139 _ A34.out).mono ?_); rintro e w' ⟨rfl, ⟨nd, rfl⟩⟩; refine ⟨_, rfl, ?_⟩))
                                            go_ret
                                            exact ⟨by first | rfl | (simp; done) | (simp [*]; done), by repeat (first | exact Drawn0.refl _ | apply Drawn0.step)⟩
                                          · rw [if_neg c33] at H
                                            have c33b0 : decide (x1_30 < 4503599627370496) = false := decide_eq_false c33
                                            clear c33
                                            by_cases c35 : x2_30 > 971
                                            · rw [if_pos c35] at H
                                              have c35b0 : decide (971 < x2_30) = true := decide_eq_true c35
                                              clear c35
                                              replace H := Option.bind_eq_some_iff.mp H
                                              obtain ⟨t140, A360, H⟩ := H
                                              replace H : (some t140) = some r := H
                                              have A36 := Aside0.mk A360
                                              clear A360
                                              obtain rfl := Option.some.inj H
                                              go_wp2_with (first | ((with_reducible refine gate_callee (f := 43) rfl ?_); refine goesL_ (some 87) rfl rfl Try.func43 (by kernel_rfl) rfl #[.int .u64 9218868437227405312, .bool a0] rfl (by (try simp only [List.map_toArray, List.map_cons, List.map_nil]); first | done | rfl | (simp only [List.length_drop, List.length_take]; rfl)) ?_; (with_reducible refine (spec_l03Sign.calls kj30 9218868437227405312 a0 t140 _ A36.out).mono ?_); rintro e w' ⟨rfl, ⟨nd, rfl⟩⟩; refine ⟨_, rfl, ?_⟩))
                                              go_ret
                                              exact ⟨by first | rfl | (simp; done) | (simp [*]; done), by repeat (first | exact Drawn0.refl _ | apply Drawn0.step)⟩
                                            · rw [if_neg c35] at H
                                              have c35b0 : decide (971 < x2_30) = false := decide_eq_false c35
                                              clear c35
                                              replace H := Option.bind_eq_some_iff.mp H
                                              obtain ⟨t141, A370, H⟩ := H
                                              replace H : (some t141) = some r := H
                                              have A37 := Aside0.mk A370
                                              clear A370
                                              obtain rfl := Option.some.inj H
                                              go_wp2_with (first | ((with_reducible refine gate_callee (f := 43) rfl ?_); refine goesL_ (some 96) rfl rfl Try.func43 (by kernel_rfl) rfl #[.int .u64 (IntKind.u64.wrap ((IntKind.u64.wrap (x1_30 - 4503599627370496)) + (IntKind.u64.wrap ((IntKind.u64.wrap (wrap64 (x2_30 + 1075))) * 4503599627370496)))), .bool a0] rfl (by (try simp only [List.map_toArray, List.map_cons, List.map_nil]); first | done | rfl | (simp only [List.length_drop, List.length_take]; rfl)) ?_; (with_reducible refine (spec_l03Sign.calls kj30 (IntKind.u64.wrap ((IntKind.u64.wrap (x1_30 - 4503599627370496)) + (IntKind.u64.wrap ((IntKind.u64.wrap (wrap64 (x2_30 + 1075))) * 4503599627370496)))) a0 t141 _ A37.out).mono ?_); rintro e w' ⟨rfl, ⟨nd, rfl⟩⟩; refine ⟨_, rfl, ?_⟩))
                                              go_ret
                                              exact ⟨by first | rfl | (simp; done) | (simp [*]; done), by repeat (first | exact Drawn0.refl _ | apply Drawn0.step)⟩

end Go.Proofs.Ytlmiobfnkdkkjaa.QFnQuotients
