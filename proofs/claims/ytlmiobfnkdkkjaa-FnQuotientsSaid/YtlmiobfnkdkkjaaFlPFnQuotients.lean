/- Words that are written: none of them is a NaN's but NaN. -/
import Derived.Test.YtlmiobfnkdkkjaaFlBFnQuotients
import Derived.Test.YtlmiobfnkdkkjaaFlC
namespace Go.Proofs.Ytlmiobfnkdkkjaa.FFnQuotients
open Go.RowKit Go.Proofs.Ytlmiobfnkdkkjaa.QFnQuotients Go.Proofs.YtlmiobfnkdkkjaaW.PrintWords Go.Proofs.YtlmiobfnkdkkjaaW.PrintLast Go.Proofs.Ytlmiobfnkdkkjaa.Fl Ieee
set_option linter.unusedVariables false
set_option linter.unusedSimpArgs false

theorem nearest_scale (s : Bool) (m k : Nat) (p : Int) (h : m ≠ 0) : double.nearest s (m * 2 ^ k) (p - k) = double.nearest s m p := by
  rw [nearest_eq s _ _ (Nat.mul_ne_zero h (by have := Nat.two_pow_pos k; omega)), nearest_eq s _ _ h, rung_scale m k p h]

/-- No word that is written of a number or an infinity is a NaN's. -/
theorem canon_number {a : Nat} {s : Bool} {m : Nat} {p : Int} (h : double.read a = .number s m p) : canonW a = (a : Int) := by
  unfold canonW isNanW
  have : FloatKind.f64.format.order a a = some .eq := by
    show ((double.read a).order (double.read a)) = some .eq
    rw [h]
    simp [Datum.order]
  rw [this]; rfl
theorem canon_inf {a : Nat} {s : Bool} (h : double.read a = .infinity s) : canonW a = (a : Int) := by
  unfold canonW isNanW
  have : FloatKind.f64.format.order a a = some .eq := by
    show ((double.read a).order (double.read a)) = some .eq
    rw [h]
    simp [Datum.order]
  rw [this]; rfl
theorem canon_le {a : Nat} (h : a % 9223372036854775808 ≤ 9218868437227405312) : canonW a = (a : Int) := by
  have key := read_eq a
  by_cases c1 : a % 9223372036854775808 < 4503599627370496
  · rw [if_pos c1] at key; exact canon_number key
  · rw [if_neg c1] at key
    by_cases c2 : a % 9223372036854775808 < 9218868437227405312
    · rw [if_pos c2] at key; exact canon_number key
    · rw [if_neg c2, if_pos (by omega)] at key; exact canon_inf key
theorem nearest_low (s : Bool) (m : Nat) (p : Int) : double.nearest s m p % 9223372036854775808 ≤ 9218868437227405312 := by
  by_cases h : m = 0
  · subst h
    unfold Format.nearest Format.word
    rw [if_pos rfl, sw_dbl]
    cases s <;> simp
  · rw [nearest_eq s m p h]
    unfold Format.word
    rw [sw_dbl]
    cases s <;> simp <;> omega
theorem canon_nearest (s : Bool) (m : Nat) (p : Int) : canonW (double.nearest s m p) = ((double.nearest s m p : Nat) : Int) := canon_le (nearest_low s m p)

end Go.Proofs.Ytlmiobfnkdkkjaa.FFnQuotients
