-- Written by a program of this session (wip/tools/myprint.py); Lean checks it.
import Derived.Test.YtlmiobfnkdkkjaaQFnRootsx0
import Derived.Test.YtlmiobfnkdkkjaaQFnRootsx1
import Derived.Test.YtlmiobfnkdkkjaaQFnRootsx2
namespace Go.Proofs.Ytlmiobfnkdkkjaa.QFnRoots
open Go.RowKit Go.Proofs.YtlmiobfnkdkkjaaW.PrintWords Go.Proofs.YtlmiobfnkdkkjaaW.PrintLast Go.Proofs.YtlmiobfnkdkkjaaW.PrintMore
attribute [local go_sem] max2_int min2_int max_two min_two max_three min_three max_four min_four   -- for this text's walks alone
set_option linter.unusedVariables false
set_option linter.unusedSimpArgs false

/-! ### spec_FromInt: function 34 -/
def spec_FromInt.f (k : Nat) (a0 : Int) : Option (Int) := if a0 = (-9223372036854775808) then ((spec_l03Pow.f k 63).bind fun t142 => ((spec_RoundTo.f k true t142 0 false).bind fun t143 => (some t143))) else (if a0 < 0 then ((spec_RoundTo.f k true (IntKind.u64.wrap (wrap64 (-a0))) 0 false).bind fun t144 => (some t144)) else ((spec_RoundTo.f k false (IntKind.u64.wrap (a0)) 0 false).bind fun t145 => (some t145)))
theorem spec_FromInt.mono : ∀ a0 k, LeO (spec_FromInt.f k a0) (spec_FromInt.f (k + 1) a0) := by
  intro a0 k
  unfold spec_FromInt.f
  repeat' first
      | (with_reducible exact spec_RoundTo.mono _ _ _ _ _)
      | (with_reducible exact spec_l03Pow.mono _ _)
      | (with_reducible exact LeO.refl _)
      | (with_reducible exact LeO.none _)
      | (with_reducible refine LeO.ite ?_ ?_)
      | (with_reducible refine LeO.bind ?_ (fun _ => ?_))
      | exact spec_RoundTo.mono _ _ _ _ _
      | exact spec_l03Pow.mono _ _
      | exact LeO.none _
      | refine LeO.ite ?_ ?_
      | refine LeO.bind ?_ (fun _ => ?_)
set_option maxHeartbeats 8000000 in
set_option maxRecDepth 100000 in
theorem spec_FromInt.calls (k : Nat) (a0 : Int) (r : Int) (w : World) (h : spec_FromInt.f k a0 = some r) :
    Calls Try.prog 34 #[.int .i64 a0] w fun e w' => e = .returned (.int .u64 r) ∧ Drawn0 w w' := by
  have H : (if a0 = (-9223372036854775808) then ((spec_l03Pow.f k 63).bind fun t142 => ((spec_RoundTo.f k true t142 0 false).bind fun t143 => (some t143))) else (if a0 < 0 then ((spec_RoundTo.f k true (IntKind.u64.wrap (wrap64 (-a0))) 0 false).bind fun t144 => (some t144)) else ((spec_RoundTo.f k false (IntKind.u64.wrap (a0)) 0 false).bind fun t145 => (some t145)))) = some r := h
  clear h
  by_cases c2 : a0 = (-9223372036854775808)
  · rw [if_pos c2] at H
    have c2b0 : (a0 == (-9223372036854775808)) = true := beq_iff_eq.mpr c2
    have c2b1 : (a0 != (-9223372036854775808)) = false := bne_eq_false_iff_eq.mpr c2
    clear c2
    replace H := Option.bind_eq_some_iff.mp H
    obtain ⟨t142, A30, H⟩ := H
    replace H : ((spec_RoundTo.f k true t142 0 false).bind fun t143 => (some t143)) = some r := H
    have A3 := Aside0.mk A30
    clear A30
    replace H := Option.bind_eq_some_iff.mp H
    obtain ⟨t143, A40, H⟩ := H
    replace H : (some t143) = some r := H
    have A4 := Aside0.mk A40
    clear A40
    obtain rfl := Option.some.inj H
    go_enter Try.func34, Try.ntmps34
    go_wp2_with (first | ((with_reducible refine gate_callee (f := 37) rfl ?_); refine goesL_ (some 5) rfl rfl Try.func37 (by kernel_rfl) rfl #[.int .i64 63] rfl (by (try simp only [List.map_toArray, List.map_cons, List.map_nil]); first | done | rfl | (simp only [List.length_drop, List.length_take]; rfl)) ?_; (with_reducible refine (spec_l03Pow.calls k 63 t142 _ A3.out).mono ?_); rintro e w' ⟨rfl, ⟨nd, rfl⟩⟩; refine ⟨_, rfl, ?_⟩) | ((with_reducible refine gate_callee (f := 42) rfl ?_); refine goesL_ (some 6) rfl rfl Try.func42 (by kernel_rfl) rfl #[.bool true, .int .u64 t142, .int .i64 0, .bool false] rfl (by (try simp only [List.map_toArray, List.map_cons, List.map_nil]); first | done | rfl | (simp only [List.length_drop, List.length_take]; rfl)) ?_; (with_reducible refine (spec_RoundTo.calls k true t142 0 false t143 _ A4.out).mono ?_); rintro e w' ⟨rfl, ⟨nd, rfl⟩⟩; refine ⟨_, rfl, ?_⟩))
    go_ret
    exact ⟨by first | rfl | (simp; done) | (simp [*]; done), by repeat (first | exact Drawn0.refl _ | apply Drawn0.step)⟩
  · rw [if_neg c2] at H
    have c2b0 : (a0 == (-9223372036854775808)) = false := beq_eq_false_iff_ne.mpr c2
    have c2b1 : (a0 != (-9223372036854775808)) = true := bne_iff_ne.mpr c2
    by_cases c5 : a0 < 0
    · rw [if_pos c5] at H
      have c5b0 : decide (a0 < 0) = true := decide_eq_true c5
      clear c5
      replace H := Option.bind_eq_some_iff.mp H
      obtain ⟨t144, A60, H⟩ := H
      replace H : (some t144) = some r := H
      have A6 := Aside0.mk A60
      clear A60
      obtain rfl := Option.some.inj H
      go_enter Try.func34, Try.ntmps34
      go_wp2_with (first | ((with_reducible refine gate_callee (f := 42) rfl ?_); refine goesL_ (some 12) rfl rfl Try.func42 (by kernel_rfl) rfl #[.bool true, .int .u64 (IntKind.u64.wrap (wrap64 (-a0))), .int .i64 0, .bool false] rfl (by (try simp only [List.map_toArray, List.map_cons, List.map_nil]); first | done | rfl | (simp only [List.length_drop, List.length_take]; rfl)) ?_; (with_reducible refine (spec_RoundTo.calls k true (IntKind.u64.wrap (wrap64 (-a0))) 0 false t144 _ A6.out).mono ?_); rintro e w' ⟨rfl, ⟨nd, rfl⟩⟩; refine ⟨_, rfl, ?_⟩))
      go_ret
      exact ⟨by first | rfl | (simp; done) | (simp [*]; done), by repeat (first | exact Drawn0.refl _ | apply Drawn0.step)⟩
    · rw [if_neg c5] at H
      have c5b0 : decide (a0 < 0) = false := decide_eq_false c5
      clear c5
      replace H := Option.bind_eq_some_iff.mp H
      obtain ⟨t145, A70, H⟩ := H
      replace H : (some t145) = some r := H
      have A7 := Aside0.mk A70
      clear A70
      obtain rfl := Option.some.inj H
      go_enter Try.func34, Try.ntmps34
      go_wp2_with (first | ((with_reducible refine gate_callee (f := 42) rfl ?_); refine goesL_ (some 15) rfl rfl Try.func42 (by kernel_rfl) rfl #[.bool false, .int .u64 (IntKind.u64.wrap (a0)), .int .i64 0, .bool false] rfl (by (try simp only [List.map_toArray, List.map_cons, List.map_nil]); first | done | rfl | (simp only [List.length_drop, List.length_take]; rfl)) ?_; (with_reducible refine (spec_RoundTo.calls k false (IntKind.u64.wrap (a0)) 0 false t145 _ A7.out).mono ?_); rintro e w' ⟨rfl, ⟨nd, rfl⟩⟩; refine ⟨_, rfl, ?_⟩))
      go_ret
      exact ⟨by first | rfl | (simp; done) | (simp [*]; done), by repeat (first | exact Drawn0.refl _ | apply Drawn0.step)⟩

/-! ### laws_whole: function 10 -/
def laws_whole.f (k : Nat) (a0 : Int) : Option (Int) := (spec_FromInt.f k a0).bind fun t146 => (some t146)
theorem laws_whole.mono : ∀ a0 k, LeO (laws_whole.f k a0) (laws_whole.f (k + 1) a0) := by
  intro a0 k
  unfold laws_whole.f
  repeat' first
      | (with_reducible exact spec_FromInt.mono _ _)
      | (with_reducible exact LeO.refl _)
      | (with_reducible exact LeO.none _)
      | (with_reducible refine LeO.ite ?_ ?_)
      | (with_reducible refine LeO.bind ?_ (fun _ => ?_))
      | exact spec_FromInt.mono _ _
      | exact LeO.none _
      | refine LeO.ite ?_ ?_
      | refine LeO.bind ?_ (fun _ => ?_)
set_option maxHeartbeats 8000000 in
set_option maxRecDepth 100000 in
theorem laws_whole.calls (k : Nat) (a0 : Int) (r : Int) (w : World) (h : laws_whole.f k a0 = some r) :
    Calls Try.prog 10 #[.int .i64 a0] w fun e w' => e = .returned (.int .u64 r) ∧ Drawn0 w w' := by
  have H : ((spec_FromInt.f k a0).bind fun t146 => (some t146)) = some r := h
  clear h
  replace H := Option.bind_eq_some_iff.mp H
  obtain ⟨t146, A20, H⟩ := H
  replace H : (some t146) = some r := H
  have A2 := Aside0.mk A20
  clear A20
  obtain rfl := Option.some.inj H
  go_enter Try.func10, Try.ntmps10
  go_wp2_with (first | ((with_reducible refine gate_callee (f := 34) rfl ?_); refine goesL_ (some 4) rfl rfl Try.func34 (by kernel_rfl) rfl #[.int .i64 a0] rfl (by (try simp only [List.map_toArray, List.map_cons, List.map_nil]); first | done | rfl | (simp only [List.length_drop, List.length_take]; rfl)) ?_; (with_reducible refine (spec_FromInt.calls k a0 t146 _ A2.out).mono ?_); rintro e w' ⟨rfl, ⟨nd, rfl⟩⟩; refine ⟨_, rfl, ?_⟩))
  go_ret
  exact ⟨by first | rfl | (simp; done) | (simp [*]; done), by repeat (first | exact Drawn0.refl _ | apply Drawn0.step)⟩

/-! ### math_Float64bits: function 66 -/
theorem fl_bits (b : Nat) (w : World) : (callFunc 66 #[.float .f64 b]).run Try.prog w = .ok (.value (.int .u64 b)) w := by
  rw [run_callFunc_extern Try.func66 (by kernel_rfl) (by kernel_rfl) (by kernel_rfl) (e := Extern.MathFloatBits.float64bits) (by kernel_rfl)]
  rfl


/-! ### impl_word: function 32 -/
/-- Is a word a NaN's? -/
def isNanW (b : Nat) : Bool := !(FloatKind.f64.format.order b b == some .eq)
/-- A word, where it is a NaN's the one of NaN. -/
def canonW (b : Nat) : Int := if isNanW b then 9221120237041090560 else (b : Int)
/-- What an operation gives, where it has an answer; else NaN. -/
def canonO (o : Option Nat) : Int := match o with | some b => canonW b | none => 9221120237041090560
theorem fl_word (b : Nat) (w : World) :
    Calls Try.prog 32 #[.float .f64 b] w fun e w' => e = .returned (.int .u64 (canonW b)) ∧ w = w' := by
  have hf := fl_bits
  unfold canonW
  by_cases h : isNanW b = true
  · have h2 : (FloatKind.f64.format.order b b != some .eq) = true := h
    rw [if_pos h]
    clear h
    go_enter Try.func32, Try.ntmps32
    go_wp2
    go_ret
    exact ⟨rfl, rfl⟩
  · have h2 : (FloatKind.f64.format.order b b != some .eq) = false := by simpa [isNanW] using h
    rw [if_neg h]
    clear h
    go_enter Try.func32, Try.ntmps32
    go_wp2
    go_ret
    exact ⟨rfl, rfl⟩
/-- Whatever was drawn for it, it is a NaN. -/
theorem nan_cut (x y t : Nat) : canonW (Question.cut (.nanBits .f64 x y) t) = 9221120237041090560 := by
  unfold canonW
  rw [if_pos]
  unfold isNanW
  have h : ∃ s m, FloatKind.f64.format.read (Question.cut (.nanBits .f64 x y) t) = .nan s m := by
    have e1 : FloatKind.f64.format.signWeight = 9223372036854775808 := by decide
    have e2 : FloatKind.f64.format.binade = 4503599627370496 := by decide
    have e3 : FloatKind.f64.format.infRung = 9218868437227405312 := by decide
    have e4 : Question.cut (.nanBits .f64 x y) t = (t % 2) * 9223372036854775808 + 9218868437227405312 + 1 + (t / 2) % 4503599627370495 := rfl
    unfold Ieee.Format.read
    simp only [e1, e2, e3, e4]
    have h1 : t % 2 = 0 ∨ t % 2 = 1 := by omega
    have h2 : t / 2 % 4503599627370495 < 4503599627370495 := Nat.mod_lt _ (by omega)
    generalize t / 2 % 4503599627370495 = q at *
    have hm : (t % 2 * 9223372036854775808 + 9218868437227405312 + 1 + q) % 9223372036854775808 = 9218868437227405312 + 1 + q := by
      rcases h1 with h1 | h1 <;> rw [h1] <;> omega
    rw [hm, if_neg (by omega), if_neg (by omega), if_neg (by omega)]
    exact ⟨_, _, rfl⟩
  obtain ⟨s, m, h⟩ := h
  unfold Ieee.Format.order
  rw [h]
  rfl
/-- An operation's run: what it gives is the answer's word, or some NaN that was drawn. -/
theorem fl_op (op : BinOp) (hop : op = .add ∨ op = .sub ∨ op = .mul ∨ op = .quo) (t : TypeId) (a b : Nat) (w : World) :
    ∃ r w', (binOp op t (.float .f64 a) (.float .f64 b)).run Try.prog w = .ok (.float .f64 r) w' ∧ canonW r = canonO (floatBits op .f64 a b) ∧ Drawn0 w w' ∧ (∀ x, floatBits op .f64 a b = some x → r = x ∧ w' = w) := by
  cases h : floatBits op .f64 a b with
  | some r => exact ⟨r, w, run_float_arith w op t .f64 a b r h, rfl, Drawn0.refl w, fun x hx => by injection hx with hx; exact ⟨hx, rfl⟩⟩
  | none =>
    refine ⟨Question.cut (.nanBits .f64 a b) (w.tape w.drawn (.nanBits .f64 a b)), w.drew, ?_, ?_, Drawn0.step (Drawn0.refl w) 1, fun x hx => by cases hx⟩
    · rcases hop with rfl | rfl | rfl | rfl <;> (unfold floatBits at h; simp only at h; simp [binOp, Op.floatArith, h, Question.forced])
    · exact nan_cut _ _ _


/-! ### math_Float64frombits: function 67 -/
theorem fl_frombits (n : Int) (w : World) : (callFunc 67 #[.int .u64 n]).run Try.prog w = .ok (.value (.float .f64 n.toNat)) w := by
  rw [run_callFunc_extern Try.func67 (by kernel_rfl) (by kernel_rfl) (by kernel_rfl) (e := Extern.MathFloatBits.float64frombits) (by kernel_rfl)]
  rfl


/-! ### impl_real64: function 33 -/
theorem fl_real64 (n : Int) (w : World) :
    Calls Try.prog 33 #[.int .u64 n] w fun e w' => e = .returned (.float .f64 n.toNat) ∧ w = w' := by
  have hf := fl_frombits
  go_enter Try.func33, Try.ntmps33
  go_wp2
  go_ret
  exact ⟨rfl, rfl⟩


/-! ### math_sqrt: function 70 -/
theorem fl_sqrt (a : Nat) (w : World) :
    ∃ r w', (callFunc 70 #[.float .f64 a]).run Try.prog w = .ok (.value (.float .f64 r)) w' ∧ canonW r = canonO (FloatKind.f64.format.sqrt a) ∧ Drawn0 w w' := by
  cases h : FloatKind.f64.format.sqrt a with
  | some r =>
    refine ⟨r, w, ?_, rfl, Drawn0.refl w⟩
    rw [run_callFunc_extern Try.func70 (by kernel_rfl) (by kernel_rfl) (by kernel_rfl) (e := Extern.MathSqrt.sqrt) (by kernel_rfl)]
    change (Sem.run Try.prog (match FloatKind.f64.format.sqrt a with | some r => pure (Value.float .f64 r) | none => do pure (Value.float .f64 (← choose (.nanBits .f64 a a)))) w).andThen _ = _
    rw [h]
    rfl
  | none =>
    refine ⟨Question.cut (.nanBits .f64 a a) (w.tape w.drawn (.nanBits .f64 a a)), w.drew, ?_, nan_cut _ _ _, Drawn0.step (Drawn0.refl w) 1⟩
    rw [run_callFunc_extern Try.func70 (by kernel_rfl) (by kernel_rfl) (by kernel_rfl) (e := Extern.MathSqrt.sqrt) (by kernel_rfl)]
    change (Sem.run Try.prog (match FloatKind.f64.format.sqrt a with | some r => pure (Value.float .f64 r) | none => do pure (Value.float .f64 (← choose (.nanBits .f64 a a)))) w).andThen _ = _
    rw [h]
    simp [Question.forced]


/-! ### math_Sqrt: function 39 -/
theorem fl_Sqrt (a : Nat) (w : World) :
    Calls Try.prog 39 #[.float .f64 a] w fun e w' => ∃ r, e = .returned (.float .f64 r) ∧ canonW r = canonO (FloatKind.f64.format.sqrt a) ∧ Drawn0 w w' := by
  obtain ⟨r, w1, hr, hc, hd⟩ := fl_sqrt a w
  have HC := Aside0.mk hc
  have HD := Aside0.mk hd
  clear hc hd
  go_enter Try.func39, Try.ntmps39
  go_wp2
  go_ret
  exact ⟨r, rfl, HC.out, HD.out⟩


/-! ### impl_Sqrt: function 14 -/
def impl_Sqrt.f (a0 : Int) : Option Int := some (canonO (FloatKind.f64.format.sqrt a0.toNat))
theorem impl_Sqrt.calls (a0 : Int) (r : Int) (w : World) (h : impl_Sqrt.f a0 = some r) :
    Calls Try.prog 14 #[.int .u64 a0] w fun e w' => e = .returned (.int .u64 r) ∧ Drawn0 w w' := by
  unfold impl_Sqrt.f at h
  injection h with h
  subst h
  go_enter Try.func14, Try.ntmps14
  go_wp2_with (first | (go_at_call 33; refine (fl_real64 _ _).mono ?_; rintro e w' ⟨rfl, rfl⟩) | (go_at_call 39; refine (fl_Sqrt _ _).mono ?_; rintro e w' ⟨r, rfl, hc, hd⟩; have HC := Aside0.mk hc; have HD := Aside0.mk hd; clear hc hd) | (go_at_call 32; refine (fl_word _ _).mono ?_; rintro e w' ⟨rfl, rfl⟩))
  rw [HC.out]
  go_ret
  exact ⟨rfl, HD.out⟩


/-! ### spec_l01Once: function 71 -/
def spec_l01Once.f (s0_0 : List Int) (s0_1 : Int) (s0_2 : Int) (a1 : Int) : Option (Bool × Int × Int) := (spec_l01Below.f s0_0 s0_1 s0_2 a1).bind fun bt147 => (some ((bt147.1 == 0), bt147.2.1, bt147.2.2))
set_option maxHeartbeats 8000000 in
set_option maxRecDepth 100000 in
theorem spec_l01Once.calls (g : Nat) (s0_0 : List Int) (s0_1 : Int) (s0_2 : Int) (a1 : Int) (r1 : Bool) (r2 : Int) (r3 : Int) (w0 w : World) (hI : IsS75 w0 w g s0_0 s0_1 s0_2) (hB : Below w0.heap.size w0 w) (h : spec_l01Once.f s0_0 s0_1 s0_2 a1 = some (r1, r2, r3)) :
    Calls Try.prog 71 #[.pointer (some ⟨g, 0, none⟩), .int .i64 a1] w fun e w' => e = .returned (.bool r1) ∧ IsS75 w0 w' g s0_0 r2 r3 ∧ Below w0.heap.size w0 w' ∧ KeepBut w w' g none := by
  have HI0 := Aside0.mk hI
  have HK := Aside0.mk (KeepBut.refl w g none)
  have HL := Aside0.mk hB.size
  clear hI
  have HW0 := Aside0.mk hB.size
  have HB := Aside0.mk hB
  clear hB
  have H : ((spec_l01Below.f s0_0 s0_1 s0_2 a1).bind fun bt147 => (some ((bt147.1 == 0), bt147.2.1, bt147.2.2))) = some (r1, r2, r3) := h
  clear h
  replace H := Option.bind_eq_some_iff.mp H
  obtain ⟨⟨t147, t148, t149⟩, A30, H⟩ := H
  replace H : (some ((t147 == 0), t148, t149)) = some (r1, r2, r3) := H
  have A3 := Aside0.mk A30
  clear A30
  simp only [Option.some.injEq, Prod.mk.injEq] at H
  obtain ⟨rfl, rfl, rfl⟩ := H
  go_enter Try.func71, Try.ntmps71
  go_wp2_with (first | ((with_reducible refine gate_callee (f := 31) rfl ?_); refine goesL_ (some 7) rfl rfl Try.func31 (by kernel_rfl) rfl #[.pointer (some ⟨g, 0, none⟩), .int .i64 a1] rfl (by (try simp only [List.map_toArray, List.map_cons, List.map_nil]); first | done | rfl | (simp only [List.length_drop, List.length_take]; rfl)) ?_; (with_reducible refine (spec_l01Below.calls g s0_0 s0_1 s0_2 a1 t147 t148 t149 w0 _ ?side1 ?side2 A3.out).mono ?_); (case side1 => repeat (first | (with_reducible first | exact HI0.out | apply IsS75.alloc | apply IsS75.drewN | apply IsS75.drew | apply IsS75.set_1 | apply IsS75.set_2) | exact HI0.out)); (case side2 => repeat (first | (with_reducible first | exact HB.out | apply below_alloc | apply pw_below_drewN | apply below_drew1 | refine below_set ?_ (IsS75.ge HI0.out)) | exact HB.out)); rintro e w4 ⟨rfl, hi, hb, hk⟩; refine ⟨_, rfl, ?_⟩; have n0_ := Aside0.mk (KeepBut.trans (by repeat (first | (with_reducible first | exact HK.out | apply KeepBut.set_ | apply keep_drewN | apply keep_drew | apply keep_alloc) | exact HK.out)) hk (.inl rfl)); have n1_ := Aside0.mk (hb); have n2_ := Aside0.mk (hi); clear HK; clear HB; clear HI0; have HK := n0_; have HB := n1_; have HI0 := n2_; clear n0_ n1_ n2_; (try clear hb); (try clear hb2); (try clear hk); (try clear hi)))
  go_ret
  exact ⟨by first | rfl | (simp [errW_none, errW_some] <;> rfl) | (simp [*, errW_none, errW_some] <;> rfl), by repeat (first | (with_reducible first | exact HI0.out | apply IsS75.alloc | apply IsS75.drewN | apply IsS75.drew | apply IsS75.set_1 | apply IsS75.set_2) | exact HI0.out), by repeat (first | (with_reducible first | exact HB.out | apply below_alloc | apply pw_below_drewN | apply below_drew1 | refine below_set ?_ (IsS75.ge HI0.out)) | exact HB.out), by repeat (first | (with_reducible first | exact HK.out | apply KeepBut.set_ | apply keep_drewN | apply keep_drew | apply keep_alloc) | exact HK.out)⟩

/-! ### spec_l03Bits64: function 72 -/
def spec_l03Bits64.f (s0_0 : List Int) (s0_1 : Int) (s0_2 : Int) : Option (Int × Int × Int) := (spec_l01Below.f s0_0 s0_1 s0_2 4294967296).bind fun bt150 => ((spec_l01Below.f s0_0 bt150.2.1 bt150.2.2 4294967296).bind fun bt153 => (some (IntKind.u64.wrap ((IntKind.u64.wrap ((IntKind.u64.wrap (bt150.1)) * 4294967296)) + (IntKind.u64.wrap (bt153.1))), bt153.2.1, bt153.2.2)))
set_option maxHeartbeats 8000000 in
set_option maxRecDepth 100000 in
theorem spec_l03Bits64.calls (g : Nat) (s0_0 : List Int) (s0_1 : Int) (s0_2 : Int) (r1 : Int) (r2 : Int) (r3 : Int) (w0 w : World) (hI : IsS75 w0 w g s0_0 s0_1 s0_2) (hB : Below w0.heap.size w0 w) (h : spec_l03Bits64.f s0_0 s0_1 s0_2 = some (r1, r2, r3)) :
    Calls Try.prog 72 #[.pointer (some ⟨g, 0, none⟩)] w fun e w' => e = .returned (.int .u64 r1) ∧ IsS75 w0 w' g s0_0 r2 r3 ∧ Below w0.heap.size w0 w' ∧ KeepBut w w' g none := by
  have HI0 := Aside0.mk hI
  have HK := Aside0.mk (KeepBut.refl w g none)
  have HL := Aside0.mk hB.size
  clear hI
  have HW0 := Aside0.mk hB.size
  have HB := Aside0.mk hB
  clear hB
  have H : ((spec_l01Below.f s0_0 s0_1 s0_2 4294967296).bind fun bt150 => ((spec_l01Below.f s0_0 bt150.2.1 bt150.2.2 4294967296).bind fun bt153 => (some (IntKind.u64.wrap ((IntKind.u64.wrap ((IntKind.u64.wrap (bt150.1)) * 4294967296)) + (IntKind.u64.wrap (bt153.1))), bt153.2.1, bt153.2.2)))) = some (r1, r2, r3) := h
  clear h
  replace H := Option.bind_eq_some_iff.mp H
  obtain ⟨⟨t150, t151, t152⟩, A20, H⟩ := H
  replace H : ((spec_l01Below.f s0_0 t151 t152 4294967296).bind fun bt153 => (some (IntKind.u64.wrap ((IntKind.u64.wrap ((IntKind.u64.wrap (t150)) * 4294967296)) + (IntKind.u64.wrap (bt153.1))), bt153.2.1, bt153.2.2))) = some (r1, r2, r3) := H
  have A2 := Aside0.mk A20
  clear A20
  replace H := Option.bind_eq_some_iff.mp H
  obtain ⟨⟨t153, t154, t155⟩, A30, H⟩ := H
  replace H : (some (IntKind.u64.wrap ((IntKind.u64.wrap ((IntKind.u64.wrap (t150)) * 4294967296)) + (IntKind.u64.wrap (t153))), t154, t155)) = some (r1, r2, r3) := H
  have A3 := Aside0.mk A30
  clear A30
  simp only [Option.some.injEq, Prod.mk.injEq] at H
  obtain ⟨rfl, rfl, rfl⟩ := H
  go_enter Try.func72, Try.ntmps72
  go_wp2_with (first | ((with_reducible refine gate_callee (f := 31) rfl ?_); refine goesL_ (some 4) rfl rfl Try.func31 (by kernel_rfl) rfl #[.pointer (some ⟨g, 0, none⟩), .int .i64 4294967296] rfl (by (try simp only [List.map_toArray, List.map_cons, List.map_nil]); first | done | rfl | (simp only [List.length_drop, List.length_take]; rfl)) ?_; (with_reducible refine (spec_l01Below.calls g s0_0 s0_1 s0_2 4294967296 t150 t151 t152 w0 _ ?side1 ?side2 A2.out).mono ?_); (case side1 => repeat (first | (with_reducible first | exact HI0.out | apply IsS75.alloc | apply IsS75.drewN | apply IsS75.drew | apply IsS75.set_1 | apply IsS75.set_2) | exact HI0.out)); (case side2 => repeat (first | (with_reducible first | exact HB.out | apply below_alloc | apply pw_below_drewN | apply below_drew1 | refine below_set ?_ (IsS75.ge HI0.out)) | exact HB.out)); rintro e w4 ⟨rfl, hi, hb, hk⟩; refine ⟨_, rfl, ?_⟩; have n0_ := Aside0.mk (KeepBut.trans (by repeat (first | (with_reducible first | exact HK.out | apply KeepBut.set_ | apply keep_drewN | apply keep_drew | apply keep_alloc) | exact HK.out)) hk (.inl rfl)); have n1_ := Aside0.mk (hb); have n2_ := Aside0.mk (hi); clear HK; clear HB; clear HI0; have HK := n0_; have HB := n1_; have HI0 := n2_; clear n0_ n1_ n2_; (try clear hb); (try clear hb2); (try clear hk); (try clear hi)) | ((with_reducible refine gate_callee (f := 31) rfl ?_); refine goesL_ (some 8) rfl rfl Try.func31 (by kernel_rfl) rfl #[.pointer (some ⟨g, 0, none⟩), .int .i64 4294967296] rfl (by (try simp only [List.map_toArray, List.map_cons, List.map_nil]); first | done | rfl | (simp only [List.length_drop, List.length_take]; rfl)) ?_; (with_reducible refine (spec_l01Below.calls g s0_0 t151 t152 4294967296 t153 t154 t155 w0 _ ?side1 ?side2 A3.out).mono ?_); (case side1 => repeat (first | (with_reducible first | exact HI0.out | apply IsS75.alloc | apply IsS75.drewN | apply IsS75.drew | apply IsS75.set_1 | apply IsS75.set_2) | exact HI0.out)); (case side2 => repeat (first | (with_reducible first | exact HB.out | apply below_alloc | apply pw_below_drewN | apply below_drew1 | refine below_set ?_ (IsS75.ge HI0.out)) | exact HB.out)); rintro e w5 ⟨rfl, hi, hb, hk⟩; refine ⟨_, rfl, ?_⟩; have n0_ := Aside0.mk (KeepBut.trans (by repeat (first | (with_reducible first | exact HK.out | apply KeepBut.set_ | apply keep_drewN | apply keep_drew | apply keep_alloc) | exact HK.out)) hk (.inl rfl)); have n1_ := Aside0.mk (hb); have n2_ := Aside0.mk (hi); clear HK; clear HB; clear HI0; have HK := n0_; have HB := n1_; have HI0 := n2_; clear n0_ n1_ n2_; (try clear hb); (try clear hb2); (try clear hk); (try clear hi)))
  go_ret
  exact ⟨by first | rfl | (simp [errW_none, errW_some] <;> rfl) | (simp [*, errW_none, errW_some] <;> rfl), by repeat (first | (with_reducible first | exact HI0.out | apply IsS75.alloc | apply IsS75.drewN | apply IsS75.drew | apply IsS75.set_1 | apply IsS75.set_2) | exact HI0.out), by repeat (first | (with_reducible first | exact HB.out | apply below_alloc | apply pw_below_drewN | apply below_drew1 | refine below_set ?_ (IsS75.ge HI0.out)) | exact HB.out), by repeat (first | (with_reducible first | exact HK.out | apply KeepBut.set_ | apply keep_drewN | apply keep_drew | apply keep_alloc) | exact HK.out)⟩

/-! ### spec_l03Number: function 40 -/
def spec_l03Number.j0 : Nat → Int → Bool → List Int → Int → Int → Option (Int × Int × Int)
  | 0, _, _, _, _, _ => none
  | k + 1, x5, x21, x1000, x1001, x1002 => if x21 = true then ((spec_l01Below.f x1000 x1001 x1002 2000).bind fun bt169 => ((spec_FromInt.f k (wrap64 (bt169.1 - 1000))).bind fun t172 => (some (t172, bt169.2.1, bt169.2.2)))) else (if x5 = 3 then ((spec_l01Once.f x1000 x1001 x1002 2).bind fun bt173 => ((spec_l01Below.f x1000 bt173.2.1 bt173.2.2 1000000).bind fun bt176 => ((spec_l01Below.f x1000 bt176.2.1 bt176.2.2 40).bind fun bt179 => ((spec_RoundTo.f k bt173.1 (IntKind.u64.wrap (bt176.1)) (wrap64 (bt179.1 - 30)) false).bind fun t182 => (some (t182, bt179.2.1, bt179.2.2)))))) else (if x5 = 4 then ((spec_l01Below.f x1000 x1001 x1002 2048).bind fun bt183 => ((spec_l01Below.f x1000 bt183.2.1 bt183.2.2 4).bind fun bt186 => (some (IntKind.u64.wrap ((IntKind.u64.wrap ((IntKind.u64.wrap (bt183.1)) * 4503599627370496)) + (IntKind.u64.wrap (bt186.1))), bt186.2.1, bt186.2.2)))) else (if x5 = 5 then ((spec_l01Once.f x1000 x1001 x1002 2).bind fun bt189 => ((spec_l03Bits64.f x1000 bt189.2.1 bt189.2.2).bind fun bt192 => ((spec_l01Below.f x1000 bt192.2.1 bt192.2.2 120).bind fun bt195 => ((spec_RoundTo.f k bt189.1 (IntKind.u64.wrap (Int.tdiv bt192.1 2048)) (wrap64 (bt195.1 - 80)) false).bind fun t198 => (some (t198, bt195.2.1, bt195.2.2)))))) else ((spec_l03Bits64.f x1000 x1001 x1002).bind fun bt199 => (some (bt199.1, bt199.2.1, bt199.2.2))))))
def spec_l03Number.f (k : Nat) (s0_0 : List Int) (s0_1 : Int) (s0_2 : Int) : Option (Int × Int × Int) := (spec_l01Below.f s0_0 s0_1 s0_2 8).bind fun bt156 => (if bt156.1 = 0 then ((spec_l03Pow.f k 63).bind fun t159 => ((spec_l03Pow.f k 63).bind fun t160 => ((spec_l03Pow.f k 63).bind fun t161 => ((some (([0, t159, 1, 2, 4503599627370495, 4503599627370496, 4503599627370497, 9218868437227405312, 9218868437227405311, 9218868437227405310, 9221120237041090560, 9221120237041090561, IntKind.u64.wrap (9218868437227405312 + t160), IntKind.u64.wrap (9221120237041090560 + t161), 9218868437227405313, 4607182418800017408, 4607182418800017409] : List Int) : List Int)).bind fun y162 => ((spec_l01Below.f s0_0 bt156.2.1 bt156.2.2 (y162.length : Int)).bind fun bt165 => (if 0 ≤ bt165.1 then (if bt165.1 < (y162.length : Int) then (some (rd y162 bt165.1, bt165.2.1, bt165.2.2)) else (none)) else (none))))))) else (if bt156.1 = 1 then (spec_l03Number.j0 k bt156.1 (bt156.1 == 1) s0_0 bt156.2.1 bt156.2.2) else (spec_l03Number.j0 k bt156.1 (bt156.1 == 2) s0_0 bt156.2.1 bt156.2.2)))
theorem spec_l03Number.mono_l : ∀ k, (∀ y0 y1 y2 y3 y4, LeO (spec_l03Number.j0 k y0 y1 y2 y3 y4) (spec_l03Number.j0 (k + 1) y0 y1 y2 y3 y4))
  | 0 => fun _ _ _ _ _ r h => by simp [spec_l03Number.j0] at h
  | k + 1 => by
    have ih0 := spec_l03Number.mono_l k
    · intro y0 y1 y2 y3 y4
      unfold spec_l03Number.j0
      repeat' first
      | (with_reducible exact ih0 _ _ _ _ _)
      | (with_reducible exact spec_FromInt.mono _ _)
      | (with_reducible exact spec_RoundTo.mono _ _ _ _ _)
      | (with_reducible exact spec_l03Pow.mono _ _)
      | (with_reducible exact LeO.refl _)
      | (with_reducible exact LeO.none _)
      | (with_reducible refine LeO.ite ?_ ?_)
      | (with_reducible refine LeO.bind ?_ (fun _ => ?_))
      | exact ih0 _ _ _ _ _
      | exact spec_FromInt.mono _ _
      | exact spec_RoundTo.mono _ _ _ _ _
      | exact spec_l03Pow.mono _ _
      | exact LeO.none _
      | refine LeO.ite ?_ ?_
      | refine LeO.bind ?_ (fun _ => ?_)
theorem spec_l03Number.mono : ∀ a0 a1 a2 k, LeO (spec_l03Number.f k a0 a1 a2) (spec_l03Number.f (k + 1) a0 a1 a2) := by
  intro a0 a1 a2 k
  have ih0 := spec_l03Number.mono_l k
  unfold spec_l03Number.f
  repeat' first
      | (with_reducible exact ih0 _ _ _ _ _)
      | (with_reducible exact spec_FromInt.mono _ _)
      | (with_reducible exact spec_RoundTo.mono _ _ _ _ _)
      | (with_reducible exact spec_l03Pow.mono _ _)
      | (with_reducible exact LeO.refl _)
      | (with_reducible exact LeO.none _)
      | (with_reducible refine LeO.ite ?_ ?_)
      | (with_reducible refine LeO.bind ?_ (fun _ => ?_))
      | exact ih0 _ _ _ _ _
      | exact spec_FromInt.mono _ _
      | exact spec_RoundTo.mono _ _ _ _ _
      | exact spec_l03Pow.mono _ _
      | exact LeO.none _
      | refine LeO.ite ?_ ?_
      | refine LeO.bind ?_ (fun _ => ?_)
set_option maxHeartbeats 8000000 in
set_option maxRecDepth 100000 in
theorem spec_l03Number.calls (k : Nat) (g : Nat) (s0_0 : List Int) (s0_1 : Int) (s0_2 : Int) (r1 : Int) (r2 : Int) (r3 : Int) (w0 w : World) (hI : IsS75 w0 w g s0_0 s0_1 s0_2) (hB : Below w0.heap.size w0 w) (h : spec_l03Number.f k s0_0 s0_1 s0_2 = some (r1, r2, r3)) :
    Calls Try.prog 40 #[.pointer (some ⟨g, 0, none⟩)] w fun e w' => e = .returned (.int .u64 r1) ∧ IsS75 w0 w' g s0_0 r2 r3 ∧ Below w0.heap.size w0 w' ∧ KeepBut w w' g none := by
  have HI0 := Aside0.mk hI
  have HK := Aside0.mk (KeepBut.refl w g none)
  have HL := Aside0.mk hB.size
  clear hI
  have HW0 := Aside0.mk hB.size
  have HB := Aside0.mk hB
  clear hB
  have H : ((spec_l01Below.f s0_0 s0_1 s0_2 8).bind fun bt156 => (if bt156.1 = 0 then ((spec_l03Pow.f k 63).bind fun t159 => ((spec_l03Pow.f k 63).bind fun t160 => ((spec_l03Pow.f k 63).bind fun t161 => ((some (([0, t159, 1, 2, 4503599627370495, 4503599627370496, 4503599627370497, 9218868437227405312, 9218868437227405311, 9218868437227405310, 9221120237041090560, 9221120237041090561, IntKind.u64.wrap (9218868437227405312 + t160), IntKind.u64.wrap (9221120237041090560 + t161), 9218868437227405313, 4607182418800017408, 4607182418800017409] : List Int) : List Int)).bind fun y162 => ((spec_l01Below.f s0_0 bt156.2.1 bt156.2.2 (y162.length : Int)).bind fun bt165 => (if 0 ≤ bt165.1 then (if bt165.1 < (y162.length : Int) then (some (rd y162 bt165.1, bt165.2.1, bt165.2.2)) else (none)) else (none))))))) else (if bt156.1 = 1 then (spec_l03Number.j0 k bt156.1 (bt156.1 == 1) s0_0 bt156.2.1 bt156.2.2) else (spec_l03Number.j0 k bt156.1 (bt156.1 == 2) s0_0 bt156.2.1 bt156.2.2)))) = some (r1, r2, r3) := h
  clear h
  replace H := Option.bind_eq_some_iff.mp H
  obtain ⟨⟨t156, t157, t158⟩, A20, H⟩ := H
  replace H : (if t156 = 0 then ((spec_l03Pow.f k 63).bind fun t159 => ((spec_l03Pow.f k 63).bind fun t160 => ((spec_l03Pow.f k 63).bind fun t161 => ((some (([0, t159, 1, 2, 4503599627370495, 4503599627370496, 4503599627370497, 9218868437227405312, 9218868437227405311, 9218868437227405310, 9221120237041090560, 9221120237041090561, IntKind.u64.wrap (9218868437227405312 + t160), IntKind.u64.wrap (9221120237041090560 + t161), 9218868437227405313, 4607182418800017408, 4607182418800017409] : List Int) : List Int)).bind fun y162 => ((spec_l01Below.f s0_0 t157 t158 (y162.length : Int)).bind fun bt165 => (if 0 ≤ bt165.1 then (if bt165.1 < (y162.length : Int) then (some (rd y162 bt165.1, bt165.2.1, bt165.2.2)) else (none)) else (none))))))) else (if t156 = 1 then (spec_l03Number.j0 k t156 (t156 == 1) s0_0 t157 t158) else (spec_l03Number.j0 k t156 (t156 == 2) s0_0 t157 t158))) = some (r1, r2, r3) := H
  have A2 := Aside0.mk A20
  clear A20
  by_cases c3 : t156 = 0
  · rw [if_pos c3] at H
    have c3b0 : (t156 == 0) = true := beq_iff_eq.mpr c3
    have c3b1 : (t156 != 0) = false := bne_eq_false_iff_eq.mpr c3
    clear c3
    replace H := Option.bind_eq_some_iff.mp H
    obtain ⟨t159, A40, H⟩ := H
    replace H : ((spec_l03Pow.f k 63).bind fun t160 => ((spec_l03Pow.f k 63).bind fun t161 => ((some (([0, t159, 1, 2, 4503599627370495, 4503599627370496, 4503599627370497, 9218868437227405312, 9218868437227405311, 9218868437227405310, 9221120237041090560, 9221120237041090561, IntKind.u64.wrap (9218868437227405312 + t160), IntKind.u64.wrap (9221120237041090560 + t161), 9218868437227405313, 4607182418800017408, 4607182418800017409] : List Int) : List Int)).bind fun y162 => ((spec_l01Below.f s0_0 t157 t158 (y162.length : Int)).bind fun bt165 => (if 0 ≤ bt165.1 then (if bt165.1 < (y162.length : Int) then (some (rd y162 bt165.1, bt165.2.1, bt165.2.2)) else (none)) else (none)))))) = some (r1, r2, r3) := H
    have A4 := Aside0.mk A40
    clear A40
    replace H := Option.bind_eq_some_iff.mp H
    obtain ⟨t160, A50, H⟩ := H
    replace H : ((spec_l03Pow.f k 63).bind fun t161 => ((some (([0, t159, 1, 2, 4503599627370495, 4503599627370496, 4503599627370497, 9218868437227405312, 9218868437227405311, 9218868437227405310, 9221120237041090560, 9221120237041090561, IntKind.u64.wrap (9218868437227405312 + t160), IntKind.u64.wrap (9221120237041090560 + t161), 9218868437227405313, 4607182418800017408, 4607182418800017409] : List Int) : List Int)).bind fun y162 => ((spec_l01Below.f s0_0 t157 t158 (y162.length : Int)).bind fun bt165 => (if 0 ≤ bt165.1 then (if bt165.1 < (y162.length : Int) then (some (rd y162 bt165.1, bt165.2.1, bt165.2.2)) else (none)) else (none))))) = some (r1, r2, r3) := H
    have A5 := Aside0.mk A50
    clear A50
    replace H := Option.bind_eq_some_iff.mp H
    obtain ⟨t161, A60, H⟩ := H
    replace H : ((some (([0, t159, 1, 2, 4503599627370495, 4503599627370496, 4503599627370497, 9218868437227405312, 9218868437227405311, 9218868437227405310, 9221120237041090560, 9221120237041090561, IntKind.u64.wrap (9218868437227405312 + t160), IntKind.u64.wrap (9221120237041090560 + t161), 9218868437227405313, 4607182418800017408, 4607182418800017409] : List Int) : List Int)).bind fun y162 => ((spec_l01Below.f s0_0 t157 t158 (y162.length : Int)).bind fun bt165 => (if 0 ≤ bt165.1 then (if bt165.1 < (y162.length : Int) then (some (rd y162 bt165.1, bt165.2.1, bt165.2.2)) else (none)) else (none)))) = some (r1, r2, r3) := H
    have A6 := Aside0.mk A60
    clear A60
    obtain ⟨y162, hy162⟩ : ∃ y_ : List Int, y_ = (([0, t159, 1, 2, 4503599627370495, 4503599627370496, 4503599627370497, 9218868437227405312, 9218868437227405311, 9218868437227405310, 9221120237041090560, 9221120237041090561, IntKind.u64.wrap (9218868437227405312 + t160), IntKind.u64.wrap (9221120237041090560 + t161), 9218868437227405313, 4607182418800017408, 4607182418800017409] : List Int)) := ⟨_, rfl⟩
    replace H : ((spec_l01Below.f s0_0 t157 t158 (y162.length : Int)).bind fun bt165 => (if 0 ≤ bt165.1 then (if bt165.1 < (y162.length : Int) then (some (rd y162 bt165.1, bt165.2.1, bt165.2.2)) else (none)) else (none))) = some (r1, r2, r3) := by first | (rw [hy162]; with_reducible exact H) | (have H2_ := (Option.bind_some _ _).symm.trans H; rw [hy162]; with_reducible exact H2_) | (have H2_ := (Option.bind_some _ _).symm.trans H; with_reducible exact H2_) | with_reducible exact H | (rw [hy162]; exact H) | exact H
    have Ny162 := Aside0.mk hy162
    clear hy162
    replace H := Option.bind_eq_some_iff.mp H
    obtain ⟨⟨t165, t166, t167⟩, A70, H⟩ := H
    replace H : (if 0 ≤ t165 then (if t165 < (y162.length : Int) then (some (rd y162 t165, t166, t167)) else (none)) else (none)) = some (r1, r2, r3) := H
    have A7 := Aside0.mk A70
    clear A70
    by_cases c8 : 0 ≤ t165
    · rw [if_pos c8] at H
      have c8b0 : decide (0 ≤ t165) = true := decide_eq_true c8
      clear c8
      by_cases c9 : t165 < (y162.length : Int)
      · rw [if_pos c9] at H
        have c9b0 : decide (t165 < (y162.length : Int)) = true := decide_eq_true c9
        clear c9
        simp only [Option.some.injEq, Prod.mk.injEq] at H
        obtain ⟨rfl, rfl, rfl⟩ := H
        go_enter Try.func40, Try.ntmps40
        go_wp2_with (first | ((with_reducible refine gate_callee (f := 31) rfl ?_); refine goesL_ (some 5) rfl rfl Try.func31 (by kernel_rfl) rfl #[.pointer (some ⟨g, 0, none⟩), .int .i64 8] rfl (by (try simp only [List.map_toArray, List.map_cons, List.map_nil]); first | done | rfl | (simp only [List.length_drop, List.length_take]; rfl)) ?_; (with_reducible refine (spec_l01Below.calls g s0_0 s0_1 s0_2 8 t156 t157 t158 w0 _ ?side1 ?side2 A2.out).mono ?_); (case side1 => repeat (first | (with_reducible first | exact HI0.out | apply IsS75.alloc | apply IsS75.drewN | apply IsS75.drew | apply IsS75.set_1 | apply IsS75.set_2) | exact HI0.out)); (case side2 => repeat (first | (with_reducible first | exact HB.out | apply below_alloc | apply pw_below_drewN | apply below_drew1 | refine below_set ?_ (IsS75.ge HI0.out)) | exact HB.out)); rintro e w10 ⟨rfl, hi, hb, hk⟩; refine ⟨_, rfl, ?_⟩; have n0_ := Aside0.mk (KeepBut.trans (by repeat (first | (with_reducible first | exact HK.out | apply KeepBut.set_ | apply keep_drewN | apply keep_drew | apply keep_alloc) | exact HK.out)) hk (.inl rfl)); have n1_ := Aside0.mk (hb); have n2_ := Aside0.mk (hi); clear HK; clear HB; clear HI0; have HK := n0_; have HB := n1_; have HI0 := n2_; clear n0_ n1_ n2_; (try clear hb); (try clear hb2); (try clear hk); (try clear hi)) | ((with_reducible refine gate_callee (f := 37) rfl ?_); refine goesL_ (some 8) rfl rfl Try.func37 (by kernel_rfl) rfl #[.int .i64 63] rfl (by (try simp only [List.map_toArray, List.map_cons, List.map_nil]); first | done | rfl | (simp only [List.length_drop, List.length_take]; rfl)) ?_; (with_reducible refine (spec_l03Pow.calls k 63 t159 _ A4.out).mono ?_); rintro e w' ⟨rfl, ⟨nd, rfl⟩⟩; refine ⟨_, rfl, ?_⟩) | ((with_reducible refine gate_callee (f := 37) rfl ?_); refine goesL_ (some 9) rfl rfl Try.func37 (by kernel_rfl) rfl #[.int .i64 63] rfl (by (try simp only [List.map_toArray, List.map_cons, List.map_nil]); first | done | rfl | (simp only [List.length_drop, List.length_take]; rfl)) ?_; (with_reducible refine (spec_l03Pow.calls k 63 t160 _ A5.out).mono ?_); rintro e w' ⟨rfl, ⟨nd, rfl⟩⟩; refine ⟨_, rfl, ?_⟩) | ((with_reducible refine gate_callee (f := 37) rfl ?_); refine goesL_ (some 11) rfl rfl Try.func37 (by kernel_rfl) rfl #[.int .i64 63] rfl (by (try simp only [List.map_toArray, List.map_cons, List.map_nil]); first | done | rfl | (simp only [List.length_drop, List.length_take]; rfl)) ?_; (with_reducible refine (spec_l03Pow.calls k 63 t161 _ A6.out).mono ?_); rintro e w' ⟨rfl, ⟨nd, rfl⟩⟩; refine ⟨_, rfl, ?_⟩) | ((with_reducible refine gate_dst (N := 13) rfl ?_); refine Kd.R_lit (Kd.int .u64) _ 26 ?hg (N := 13) ?hd (xs := ([0, t159, 1, 2, 4503599627370495, 4503599627370496, 4503599627370497, 9218868437227405312, 9218868437227405311, 9218868437227405310, 9221120237041090560, 9221120237041090561, IntKind.u64.wrap (9218868437227405312 + t160), IntKind.u64.wrap (9221120237041090560 + t161), 9218868437227405313, 4607182418800017408, 4607182418800017409] : List Int)) (inner := [.int .u64 0, .int .u64 t159, .int .u64 1, .int .u64 2, .int .u64 4503599627370495, .int .u64 4503599627370496, .int .u64 4503599627370497, .int .u64 9218868437227405312, .int .u64 9218868437227405311, .int .u64 9218868437227405310, .int .u64 9221120237041090560, .int .u64 9221120237041090561, .int .u64 (IntKind.u64.wrap (9218868437227405312 + t160)), .int .u64 (IntKind.u64.wrap (9221120237041090560 + t161)), .int .u64 9218868437227405313, .int .u64 4607182418800017408, .int .u64 4607182418800017409]) (ok := fun _ => True) (okp := fun _ => True) ?hr ?hp (fun _ hk => hk) trivial (Below.refl _ _) (Nat.le_refl _) (by simp) ?_; (case hd => rfl); (case hg => rfl); (case hr => first | (go_simp; done) | (go_simp; rfl)); (case hp => exact (Reps.one (show Kd.M (Kd.int .u64) _ _ _ 0 [.int .u64 0] from rfl) (Reps.one (show Kd.M (Kd.int .u64) _ _ _ t159 [.int .u64 t159] from rfl) (Reps.one (show Kd.M (Kd.int .u64) _ _ _ 1 [.int .u64 1] from rfl) (Reps.one (show Kd.M (Kd.int .u64) _ _ _ 2 [.int .u64 2] from rfl) (Reps.one (show Kd.M (Kd.int .u64) _ _ _ 4503599627370495 [.int .u64 4503599627370495] from rfl) (Reps.one (show Kd.M (Kd.int .u64) _ _ _ 4503599627370496 [.int .u64 4503599627370496] from rfl) (Reps.one (show Kd.M (Kd.int .u64) _ _ _ 4503599627370497 [.int .u64 4503599627370497] from rfl) (Reps.one (show Kd.M (Kd.int .u64) _ _ _ 9218868437227405312 [.int .u64 9218868437227405312] from rfl) (Reps.one (show Kd.M (Kd.int .u64) _ _ _ 9218868437227405311 [.int .u64 9218868437227405311] from rfl) (Reps.one (show Kd.M (Kd.int .u64) _ _ _ 9218868437227405310 [.int .u64 9218868437227405310] from rfl) (Reps.one (show Kd.M (Kd.int .u64) _ _ _ 9221120237041090560 [.int .u64 9221120237041090560] from rfl) (Reps.one (show Kd.M (Kd.int .u64) _ _ _ 9221120237041090561 [.int .u64 9221120237041090561] from rfl) (Reps.one (show Kd.M (Kd.int .u64) _ _ _ (IntKind.u64.wrap (9218868437227405312 + t160)) [.int .u64 (IntKind.u64.wrap (9218868437227405312 + t160))] from rfl) (Reps.one (show Kd.M (Kd.int .u64) _ _ _ (IntKind.u64.wrap (9221120237041090560 + t161)) [.int .u64 (IntKind.u64.wrap (9221120237041090560 + t161))] from rfl) (Reps.one (show Kd.M (Kd.int .u64) _ _ _ 9218868437227405313 [.int .u64 9218868437227405313] from rfl) (Reps.one (show Kd.M (Kd.int .u64) _ _ _ 4607182418800017408 [.int .u64 4607182418800017408] from rfl) (Reps.one (show Kd.M (Kd.int .u64) _ _ _ 4607182418800017409 [.int .u64 4607182418800017409] from rfl) (Reps.none _ _))))))))))))))))))); intro v163 w11 ho12 hb hg_ hnew_; clear hg_ hnew_; (first | rw [← Ny162.out] at ho12 | (simp only [Int.reduceToNat] at ho12; rw [← Ny162.out] at ho12)); have n0_ := Aside0.mk (Kd.R_lower ho12 (keep_size (w := w) (g := g) (row := none) (by repeat (first | (with_reducible first | exact HK.out | apply KeepBut.set_ | apply keep_drewN | apply keep_drew | apply keep_alloc) | exact HK.out)))); have n1_ := Aside0.mk (IsS75.below (by repeat (first | (with_reducible first | exact HI0.out | apply IsS75.alloc | apply IsS75.drewN | apply IsS75.drew | apply IsS75.set_1 | apply IsS75.set_2) | exact HI0.out)) hb); have n2_ := Aside0.mk (KeepBut.trans (by repeat (first | (with_reducible first | exact HK.out | apply KeepBut.set_ | apply keep_drewN | apply keep_drew | apply keep_alloc) | exact HK.out)) (KeepBut.of_below hb g none) (.inl rfl)); have n3_ := Aside0.mk (below_step (by repeat (first | (with_reducible first | exact HB.out | apply below_alloc | apply pw_below_drewN | apply below_drew1 | refine below_set ?_ (IsS75.ge HI0.out)) | exact HB.out)) hb); clear HI0; clear HK; clear HB; have HO164 := n0_; have HI0 := n1_; have HK := n2_; have HB := n3_; clear n0_ n1_ n2_ n3_; clear hb ho12; obtain ⟨Ao13, co13, eo13⟩ := Kd.R_slice HO164.out; subst eo13) | ((with_reducible refine gate_callee (f := 31) rfl ?_); refine goesL_ (some 18) rfl rfl Try.func31 (by kernel_rfl) rfl #[.pointer (some ⟨g, 0, none⟩), .int .i64 (y162.length : Int)] rfl (by (try simp only [List.map_toArray, List.map_cons, List.map_nil]); first | done | rfl | (simp only [List.length_drop, List.length_take]; rfl)) ?_; (with_reducible refine (spec_l01Below.calls g s0_0 t157 t158 (y162.length : Int) t165 t166 t167 w0 _ ?side1 ?side2 A7.out).mono ?_); (case side1 => repeat (first | (with_reducible first | exact HI0.out | apply IsS75.alloc | apply IsS75.drewN | apply IsS75.drew | apply IsS75.set_1 | apply IsS75.set_2) | exact HI0.out)); (case side2 => repeat (first | (with_reducible first | exact HB.out | apply below_alloc | apply pw_below_drewN | apply below_drew1 | refine below_set ?_ (IsS75.ge HI0.out)) | exact HB.out)); rintro e w14 ⟨rfl, hi, hb, hk⟩; refine ⟨_, rfl, ?_⟩; have n0_ := Aside0.mk (Kd.R_mono (Kd.R_keep (IsS75.apart (show IsS75 w0 _ g s0_0 t157 t158 from by repeat (first | (with_reducible first | exact HI0.out | apply IsS75.alloc | apply IsS75.drewN | apply IsS75.drew | apply IsS75.set_1 | apply IsS75.set_2) | exact HI0.out)) (by (with_reducible repeat (first | apply Kd.R_alloc | apply Kd.R_drewN | apply Kd.R_drew)); exact HO164.out) (by decide)) hk (fun _ h => h.2)) (fun _ h => h.1)); have n1_ := Aside0.mk (KeepBut.trans (by repeat (first | (with_reducible first | exact HK.out | apply KeepBut.set_ | apply keep_drewN | apply keep_drew | apply keep_alloc) | exact HK.out)) hk (.inl rfl)); have n2_ := Aside0.mk (hb); have n3_ := Aside0.mk (hi); clear HO164; clear HK; clear HB; clear HI0; have HO164 := n0_; have HK := n1_; have HB := n2_; have HI0 := n3_; clear n0_ n1_ n2_ n3_; (try clear hb); (try clear hb2); (try clear hk); (try clear hi); have p168 : 0 ≤ (t165 : Int) := of_decide_eq_true (by first | (with_reducible assumption) | assumption); have q168 : t165 < (y162.length : Int) := of_decide_eq_true (by first | (with_reducible assumption) | assumption); obtain ⟨ad168, e168, hx168_0⟩ := Kd.at_int (Kd.R_reads' HO164.out).2.2 t165 p168 q168; cases e168; replace p168 := eq_true p168; replace q168 := eq_true q168))
        go_ret
        exact ⟨by first | rfl | (simp [errW_none, errW_some] <;> rfl) | (simp [*, errW_none, errW_some] <;> rfl), by repeat (first | (with_reducible first | exact HI0.out | apply IsS75.alloc | apply IsS75.drewN | apply IsS75.drew | apply IsS75.set_1 | apply IsS75.set_2) | exact HI0.out), by repeat (first | (with_reducible first | exact HB.out | apply below_alloc | apply pw_below_drewN | apply below_drew1 | refine below_set ?_ (IsS75.ge HI0.out)) | exact HB.out), by repeat (first | (with_reducible first | exact HK.out | apply KeepBut.set_ | apply keep_drewN | apply keep_drew | apply keep_alloc) | exact HK.out)⟩
      · rw [if_neg c9] at H
        exact absurd H (by simp)
    · rw [if_neg c8] at H
      exact absurd H (by simp)
  · rw [if_neg c3] at H
    have c3b0 : (t156 == 0) = false := beq_eq_false_iff_ne.mpr c3
    have c3b1 : (t156 != 0) = true := bne_iff_ne.mpr c3
    have HC15 := Aside0.mk H
    clear H
    go_enter Try.func40, Try.ntmps40
    go_upto_if 21 with (first | ((with_reducible refine gate_callee (f := 31) rfl ?_); refine goesL_ (some 5) rfl rfl Try.func31 (by kernel_rfl) rfl #[.pointer (some ⟨g, 0, none⟩), .int .i64 8] rfl (by (try simp only [List.map_toArray, List.map_cons, List.map_nil]); first | done | rfl | (simp only [List.length_drop, List.length_take]; rfl)) ?_; (with_reducible refine (spec_l01Below.calls g s0_0 s0_1 s0_2 8 t156 t157 t158 w0 _ ?side1 ?side2 A2.out).mono ?_); (case side1 => repeat (first | (with_reducible first | exact HI0.out | apply IsS75.alloc | apply IsS75.drewN | apply IsS75.drew | apply IsS75.set_1 | apply IsS75.set_2) | exact HI0.out)); (case side2 => repeat (first | (with_reducible first | exact HB.out | apply below_alloc | apply pw_below_drewN | apply below_drew1 | refine below_set ?_ (IsS75.ge HI0.out)) | exact HB.out)); rintro e w16 ⟨rfl, hi, hb, hk⟩; refine ⟨_, rfl, ?_⟩; have n0_ := Aside0.mk (KeepBut.trans (by repeat (first | (with_reducible first | exact HK.out | apply KeepBut.set_ | apply keep_drewN | apply keep_drew | apply keep_alloc) | exact HK.out)) hk (.inl rfl)); have n1_ := Aside0.mk (hb); have n2_ := Aside0.mk (hi); clear HK; clear HB; clear HI0; have HK := n0_; have HB := n1_; have HI0 := n2_; clear n0_ n1_ n2_; (try clear hb); (try clear hb2); (try clear hk); (try clear hi)))
    (try simp only [Act.put, List.setIfInBounds_toArray, List.set_cons_zero, List.set_cons_succ])
    go_cut [21] (fun v21 wc => ∃ (kq : Nat) (x21_14 : Bool), v21 = .bool x21_14 ∧ Aside0 (spec_l03Number.j0 kq t156 x21_14 s0_0 t157 t158 = some (r1, r2, r3)) ∧ Aside0 (kq ≤ k) ∧ Aside0 (IsS75 w0 wc g s0_0 t157 t158) ∧ Aside0 (KeepBut w wc g none) ∧ Aside0 (Below w0.heap.size w0 wc))
    case first =>
      have H := HC15.out
      clear HC15
      by_cases c17 : t156 = 1
      · rw [if_pos c17] at H
        have c17b0 : (t156 == 1) = true := beq_iff_eq.mpr c17
        have c17b1 : (t156 != 1) = false := bne_eq_false_iff_eq.mpr c17
        clear c17
        (first | rw [c17b0] | (simp only [i64_w, i32_w]; rw [c17b0]) | skip)
        have H' := Aside0.mk H
        clear H
        go_wp2
        go_meet
        case rel => exact ⟨_, ((t156 == 1)), (by first | rfl | (simp; done) | (simp [*]; done)), H', ⟨by first | omega | exact Nat.le_refl _⟩, ⟨by repeat (first | (with_reducible first | exact HI0.out | apply IsS75.alloc | apply IsS75.drewN | apply IsS75.drew | apply IsS75.set_1 | apply IsS75.set_2) | exact HI0.out)⟩, ⟨by repeat (first | (with_reducible first | exact HK.out | apply KeepBut.set_ | apply keep_drewN | apply keep_drew | apply keep_alloc) | exact HK.out)⟩, ⟨by repeat (first | (with_reducible first | exact HB.out | apply below_alloc | apply pw_below_drewN | apply below_drew1 | refine below_set ?_ (IsS75.ge HI0.out)) | exact HB.out)⟩⟩
      · rw [if_neg c17] at H
        have c17b0 : (t156 == 1) = false := beq_eq_false_iff_ne.mpr c17
        have c17b1 : (t156 != 1) = true := bne_iff_ne.mpr c17
        (first | rw [c17b0] | (simp only [i64_w, i32_w]; rw [c17b0]) | skip)
        have H' := Aside0.mk H
        clear H
        go_wp2
        go_meet
        case rel => exact ⟨_, ((t156 == 2)), (by first | rfl | (simp; done) | (simp [*]; done)), H', ⟨by first | omega | exact Nat.le_refl _⟩, ⟨by repeat (first | (with_reducible first | exact HI0.out | apply IsS75.alloc | apply IsS75.drewN | apply IsS75.drew | apply IsS75.set_1 | apply IsS75.set_2) | exact HI0.out)⟩, ⟨by repeat (first | (with_reducible first | exact HK.out | apply KeepBut.set_ | apply keep_drewN | apply keep_drew | apply keep_alloc) | exact HK.out)⟩, ⟨by repeat (first | (with_reducible first | exact HB.out | apply below_alloc | apply pw_below_drewN | apply below_drew1 | refine below_set ?_ (IsS75.ge HI0.out)) | exact HB.out)⟩⟩
    case rest =>
      clear HC15
      try clear c1
      try clear p1
      try clear q1
      try clear hx1
      try clear p2
      try clear c3
      try clear c3b0
      try clear c3b1
      try clear c4
      try clear c8
      try clear c8b0
      try clear c9
      try clear c9b0
      try clear p16
      try clear q16
      try clear hx16
      try clear c17
      try clear c17b0
      try clear c17b1
      try clear hx168_0
      try clear p168
      try clear q168
      obtain ⟨kq, x21_14, rfl, HA, HJ14, HI0, HK, HB⟩ := hcut
      cases kq with
      | zero => exact absurd HA.out (by simp [spec_l03Number.j0])
      | succ kj14 =>
        have H := HA.out
        clear HA
        simp only [spec_l03Number.j0] at H
        by_cases c18 : x21_14 = true
        · subst c18
          have H1 : ((spec_l01Below.f s0_0 t157 t158 2000).bind fun bt169 => ((spec_FromInt.f kj14 (wrap64 (bt169.1 - 1000))).bind fun t172 => (some (t172, bt169.2.1, bt169.2.2)))) = some (r1, r2, r3) := by rw [if_pos rfl] at H; exact H
          clear H
          have H := H1
          clear H1
          replace H := Option.bind_eq_some_iff.mp H
          obtain ⟨⟨t169, t170, t171⟩, A190, H⟩ := H
          replace H : ((spec_FromInt.f kj14 (wrap64 (t169 - 1000))).bind fun t172 => (some (t172, t170, t171))) = some (r1, r2, r3) := H
          have A19 := Aside0.mk A190
          clear A190
          replace H := Option.bind_eq_some_iff.mp H
          obtain ⟨t172, A200, H⟩ := H
          replace H : (some (t172, t170, t171)) = some (r1, r2, r3) := H
          have A20 := Aside0.mk A200
          clear A200
          simp only [Option.some.injEq, Prod.mk.injEq] at H
          obtain ⟨rfl, rfl, rfl⟩ := H
          go_wp2_with (first | ((with_reducible refine gate_callee (f := 31) rfl ?_); refine goesL_ (some 25) rfl rfl Try.func31 (by kernel_rfl) rfl #[.pointer (some ⟨g, 0, none⟩), .int .i64 2000] rfl (by (try simp only [List.map_toArray, List.map_cons, List.map_nil]); first | done | rfl | (simp only [List.length_drop, List.length_take]; rfl)) ?_; (with_reducible refine (spec_l01Below.calls g s0_0 t157 t158 2000 t169 t170 t171 w0 _ ?side1 ?side2 A19.out).mono ?_); (case side1 => repeat (first | (with_reducible first | exact HI0.out | apply IsS75.alloc | apply IsS75.drewN | apply IsS75.drew | apply IsS75.set_1 | apply IsS75.set_2) | exact HI0.out)); (case side2 => repeat (first | (with_reducible first | exact HB.out | apply below_alloc | apply pw_below_drewN | apply below_drew1 | refine below_set ?_ (IsS75.ge HI0.out)) | exact HB.out)); rintro e w21 ⟨rfl, hi, hb, hk⟩; refine ⟨_, rfl, ?_⟩; have n0_ := Aside0.mk (KeepBut.trans (by repeat (first | (with_reducible first | exact HK.out | apply KeepBut.set_ | apply keep_drewN | apply keep_drew | apply keep_alloc) | exact HK.out)) hk (.inl rfl)); have n1_ := Aside0.mk (hb); have n2_ := Aside0.mk (hi); clear HK; clear HB; clear HI0; have HK := n0_; have HB := n1_; have HI0 := n2_; clear n0_ n1_ n2_; (try clear hb); (try clear hb2); (try clear hk); (try clear hi)) | ((with_reducible refine gate_callee (f := 34) rfl ?_); refine goesL_ (some 27) rfl rfl Try.func34 (by kernel_rfl) rfl #[.int .i64 (wrap64 (t169 - 1000))] rfl (by (try simp only [List.map_toArray, List.map_cons, List.map_nil]); first | done | rfl | (simp only [List.length_drop, List.length_take]; rfl)) ?_; (with_reducible refine (spec_FromInt.calls kj14 (wrap64 (t169 - 1000)) t172 _ A20.out).mono ?_); rintro e w' ⟨rfl, ⟨nd, rfl⟩⟩; refine ⟨_, rfl, ?_⟩))
          go_ret
          exact ⟨by first | rfl | (simp [errW_none, errW_some] <;> rfl) | (simp [*, errW_none, errW_some] <;> rfl), by repeat (first | (with_reducible first | exact HI0.out | apply IsS75.alloc | apply IsS75.drewN | apply IsS75.drew | apply IsS75.set_1 | apply IsS75.set_2) | exact HI0.out), by repeat (first | (with_reducible first | exact HB.out | apply below_alloc | apply pw_below_drewN | apply below_drew1 | refine below_set ?_ (IsS75.ge HI0.out)) | exact HB.out), by repeat (first | (with_reducible first | exact HK.out | apply KeepBut.set_ | apply keep_drewN | apply keep_drew | apply keep_alloc) | exact HK.out)⟩
        · replace c18 := Bool.eq_false_iff.mpr c18
          subst c18
          have H1 : (if t156 = 3 then ((spec_l01Once.f s0_0 t157 t158 2).bind fun bt173 => ((spec_l01Below.f s0_0 bt173.2.1 bt173.2.2 1000000).bind fun bt176 => ((spec_l01Below.f s0_0 bt176.2.1 bt176.2.2 40).bind fun bt179 => ((spec_RoundTo.f kj14 bt173.1 (IntKind.u64.wrap (bt176.1)) (wrap64 (bt179.1 - 30)) false).bind fun t182 => (some (t182, bt179.2.1, bt179.2.2)))))) else (if t156 = 4 then ((spec_l01Below.f s0_0 t157 t158 2048).bind fun bt183 => ((spec_l01Below.f s0_0 bt183.2.1 bt183.2.2 4).bind fun bt186 => (some (IntKind.u64.wrap ((IntKind.u64.wrap ((IntKind.u64.wrap (bt183.1)) * 4503599627370496)) + (IntKind.u64.wrap (bt186.1))), bt186.2.1, bt186.2.2)))) else (if t156 = 5 then ((spec_l01Once.f s0_0 t157 t158 2).bind fun bt189 => ((spec_l03Bits64.f s0_0 bt189.2.1 bt189.2.2).bind fun bt192 => ((spec_l01Below.f s0_0 bt192.2.1 bt192.2.2 120).bind fun bt195 => ((spec_RoundTo.f kj14 bt189.1 (IntKind.u64.wrap (Int.tdiv bt192.1 2048)) (wrap64 (bt195.1 - 80)) false).bind fun t198 => (some (t198, bt195.2.1, bt195.2.2)))))) else ((spec_l03Bits64.f s0_0 t157 t158).bind fun bt199 => (some (bt199.1, bt199.2.1, bt199.2.2)))))) = some (r1, r2, r3) := by rw [if_neg (show ¬ (false = true) by decide)] at H; exact H
          clear H
          have H := H1
          clear H1
          by_cases c22 : t156 = 3
          · rw [if_pos c22] at H
            have c22b0 : (t156 == 3) = true := beq_iff_eq.mpr c22
            have c22b1 : (t156 != 3) = false := bne_eq_false_iff_eq.mpr c22
            clear c22
            replace H := Option.bind_eq_some_iff.mp H
            obtain ⟨⟨t173, t174, t175⟩, A230, H⟩ := H
            replace H : ((spec_l01Below.f s0_0 t174 t175 1000000).bind fun bt176 => ((spec_l01Below.f s0_0 bt176.2.1 bt176.2.2 40).bind fun bt179 => ((spec_RoundTo.f kj14 t173 (IntKind.u64.wrap (bt176.1)) (wrap64 (bt179.1 - 30)) false).bind fun t182 => (some (t182, bt179.2.1, bt179.2.2))))) = some (r1, r2, r3) := H
            have A23 := Aside0.mk A230
            clear A230
            replace H := Option.bind_eq_some_iff.mp H
            obtain ⟨⟨t176, t177, t178⟩, A240, H⟩ := H
            replace H : ((spec_l01Below.f s0_0 t177 t178 40).bind fun bt179 => ((spec_RoundTo.f kj14 t173 (IntKind.u64.wrap (t176)) (wrap64 (bt179.1 - 30)) false).bind fun t182 => (some (t182, bt179.2.1, bt179.2.2)))) = some (r1, r2, r3) := H
            have A24 := Aside0.mk A240
            clear A240
            replace H := Option.bind_eq_some_iff.mp H
            obtain ⟨⟨t179, t180, t181⟩, A250, H⟩ := H
            replace H : ((spec_RoundTo.f kj14 t173 (IntKind.u64.wrap (t176)) (wrap64 (t179 - 30)) false).bind fun t182 => (some (t182, t180, t181))) = some (r1, r2, r3) := H
            have A25 := Aside0.mk A250
            clear A250
            replace H := Option.bind_eq_some_iff.mp H
            obtain ⟨t182, A260, H⟩ := H
            replace H : (some (t182, t180, t181)) = some (r1, r2, r3) := H
            have A26 := Aside0.mk A260
            clear A260
            simp only [Option.some.injEq, Prod.mk.injEq] at H
            obtain ⟨rfl, rfl, rfl⟩ := H
            go_wp2_with (first | ((with_reducible refine gate_callee (f := 71) rfl ?_); refine goesL_ (some 31) rfl rfl Try.func71 (by kernel_rfl) rfl #[.pointer (some ⟨g, 0, none⟩), .int .i64 2] rfl (by (try simp only [List.map_toArray, List.map_cons, List.map_nil]); first | done | rfl | (simp only [List.length_drop, List.length_take]; rfl)) ?_; (with_reducible refine (spec_l01Once.calls g s0_0 t157 t158 2 t173 t174 t175 w0 _ ?side1 ?side2 A23.out).mono ?_); (case side1 => repeat (first | (with_reducible first | exact HI0.out | apply IsS75.alloc | apply IsS75.drewN | apply IsS75.drew | apply IsS75.set_1 | apply IsS75.set_2) | exact HI0.out)); (case side2 => repeat (first | (with_reducible first | exact HB.out | apply below_alloc | apply pw_below_drewN | apply below_drew1 | refine below_set ?_ (IsS75.ge HI0.out)) | exact HB.out)); rintro e w27 ⟨rfl, hi, hb, hk⟩; refine ⟨_, rfl, ?_⟩; have n0_ := Aside0.mk (KeepBut.trans (by repeat (first | (with_reducible first | exact HK.out | apply KeepBut.set_ | apply keep_drewN | apply keep_drew | apply keep_alloc) | exact HK.out)) hk (.inl rfl)); have n1_ := Aside0.mk (hb); have n2_ := Aside0.mk (hi); clear HK; clear HB; clear HI0; have HK := n0_; have HB := n1_; have HI0 := n2_; clear n0_ n1_ n2_; (try clear hb); (try clear hb2); (try clear hk); (try clear hi)) | ((with_reducible refine gate_callee (f := 31) rfl ?_); refine goesL_ (some 33) rfl rfl Try.func31 (by kernel_rfl) rfl #[.pointer (some ⟨g, 0, none⟩), .int .i64 1000000] rfl (by (try simp only [List.map_toArray, List.map_cons, List.map_nil]); first | done | rfl | (simp only [List.length_drop, List.length_take]; rfl)) ?_; (with_reducible refine (spec_l01Below.calls g s0_0 t174 t175 1000000 t176 t177 t178 w0 _ ?side1 ?side2 A24.out).mono ?_); (case side1 => repeat (first | (with_reducible first | exact HI0.out | apply IsS75.alloc | apply IsS75.drewN | apply IsS75.drew | apply IsS75.set_1 | apply IsS75.set_2) | exact HI0.out)); (case side2 => repeat (first | (with_reducible first | exact HB.out | apply below_alloc | apply pw_below_drewN | apply below_drew1 | refine below_set ?_ (IsS75.ge HI0.out)) | exact HB.out)); rintro e w28 ⟨rfl, hi, hb, hk⟩; refine ⟨_, rfl, ?_⟩; have n0_ := Aside0.mk (KeepBut.trans (by repeat (first | (with_reducible first | exact HK.out | apply KeepBut.set_ | apply keep_drewN | apply keep_drew | apply keep_alloc) | exact HK.out)) hk (.inl rfl)); have n1_ := Aside0.mk (hb); have n2_ := Aside0.mk (hi); clear HK; clear HB; clear HI0; have HK := n0_; have HB := n1_; have HI0 := n2_; clear n0_ n1_ n2_; (try clear hb); (try clear hb2); (try clear hk); (try clear hi)) | ((with_reducible refine gate_callee (f := 31) rfl ?_); refine goesL_ (some 36) rfl rfl Try.func31 (by kernel_rfl) rfl #[.pointer (some ⟨g, 0, none⟩), .int .i64 40] rfl (by (try simp only [List.map_toArray, List.map_cons, List.map_nil]); first | done | rfl | (simp only [List.length_drop, List.length_take]; rfl)) ?_; (with_reducible refine (spec_l01Below.calls g s0_0 t177 t178 40 t179 t180 t181 w0 _ ?side1 ?side2 A25.out).mono ?_); (case side1 => repeat (first | (with_reducible first | exact HI0.out | apply IsS75.alloc | apply IsS75.drewN | apply IsS75.drew | apply IsS75.set_1 | apply IsS75.set_2) | exact HI0.out)); (case side2 => repeat (first | (with_reducible first | exact HB.out | apply below_alloc | apply pw_below_drewN | apply below_drew1 | refine below_set ?_ (IsS75.ge HI0.out)) | exact HB.out)); rintro e w29 ⟨rfl, hi, hb, hk⟩; refine ⟨_, rfl, ?_⟩; have n0_ := Aside0.mk (KeepBut.trans (by repeat (first | (with_reducible first | exact HK.out | apply KeepBut.set_ | apply keep_drewN | apply keep_drew | apply keep_alloc) | exact HK.out)) hk (.inl rfl)); have n1_ := Aside0.mk (hb); have n2_ := Aside0.mk (hi); clear HK; clear HB; clear HI0; have HK := n0_; have HB := n1_; have HI0 := n2_; clear n0_ n1_ n2_; (try clear hb); (try clear hb2); (try clear hk); (try clear hi)) | ((with_reducible refine gate_callee (f := 42) rfl ?_); refine goesL_ (some 38) rfl rfl Try.func42 (by kernel_rfl) rfl #[.bool t173, .int .u64 (IntKind.u64.wrap (t176)), .int .i64 (wrap64 (t179 - 30)), .bool false] rfl (by (try simp only [List.map_toArray, List.map_cons, List.map_nil]); first | done | rfl | (simp only [List.length_drop, List.length_take]; rfl)) ?_; (with_reducible refine (spec_RoundTo.calls kj14 t173 (IntKind.u64.wrap (t176)) (wrap64 (t179 - 30)) false t182 _ A26.out).mono ?_); rintro e w' ⟨rfl, ⟨nd, rfl⟩⟩; refine ⟨_, rfl, ?_⟩))
            go_ret
            exact ⟨by first | rfl | (simp [errW_none, errW_some] <;> rfl) | (simp [*, errW_none, errW_some] <;> rfl), by repeat (first | (with_reducible first | exact HI0.out | apply IsS75.alloc | apply IsS75.drewN | apply IsS75.drew | apply IsS75.set_1 | apply IsS75.set_2) | exact HI0.out), by repeat (first | (with_reducible first | exact HB.out | apply below_alloc | apply pw_below_drewN | apply below_drew1 | refine below_set ?_ (IsS75.ge HI0.out)) | exact HB.out), by repeat (first | (with_reducible first | exact HK.out | apply KeepBut.set_ | apply keep_drewN | apply keep_drew | apply keep_alloc) | exact HK.out)⟩
          · rw [if_neg c22] at H
            have c22b0 : (t156 == 3) = false := beq_eq_false_iff_ne.mpr c22
            have c22b1 : (t156 != 3) = true := bne_iff_ne.mpr c22
            by_cases c30 : t156 = 4
            · rw [if_pos c30] at H
              have c30b0 : (t156 == 4) = true := beq_iff_eq.mpr c30
              have c30b1 : (t156 != 4) = false := bne_eq_false_iff_eq.mpr c30
              clear c30
              replace H := Option.bind_eq_some_iff.mp H
              obtain ⟨⟨t183, t184, t185⟩, A310, H⟩ := H
              replace H : ((spec_l01Below.f s0_0 t184 t185 4).bind fun bt186 => (some (IntKind.u64.wrap ((IntKind.u64.wrap ((IntKind.u64.wrap (t183)) * 4503599627370496)) + (IntKind.u64.wrap (bt186.1))), bt186.2.1, bt186.2.2))) = some (r1, r2, r3) := H
              have A31 := Aside0.mk A310
              clear A310
              replace H := Option.bind_eq_some_iff.mp H
              obtain ⟨⟨t186, t187, t188⟩, A320, H⟩ := H
              replace H : (some (IntKind.u64.wrap ((IntKind.u64.wrap ((IntKind.u64.wrap (t183)) * 4503599627370496)) + (IntKind.u64.wrap (t186))), t187, t188)) = some (r1, r2, r3) := H
              have A32 := Aside0.mk A320
              clear A320
              simp only [Option.some.injEq, Prod.mk.injEq] at H
              obtain ⟨rfl, rfl, rfl⟩ := H
              go_wp2_with (first | ((with_reducible refine gate_callee (f := 31) rfl ?_); refine goesL_ (some 42) rfl rfl Try.func31 (by kernel_rfl) rfl #[.pointer (some ⟨g, 0, none⟩), .int .i64 2048] rfl (by (try simp only [List.map_toArray, List.map_cons, List.map_nil]); first | done | rfl | (simp only [List.length_drop, List.length_take]; rfl)) ?_; (with_reducible refine (spec_l01Below.calls g s0_0 t157 t158 2048 t183 t184 t185 w0 _ ?side1 ?side2 A31.out).mono ?_); (case side1 => repeat (first | (with_reducible first | exact HI0.out | apply IsS75.alloc | apply IsS75.drewN | apply IsS75.drew | apply IsS75.set_1 | apply IsS75.set_2) | exact HI0.out)); (case side2 => repeat (first | (with_reducible first | exact HB.out | apply below_alloc | apply pw_below_drewN | apply below_drew1 | refine below_set ?_ (IsS75.ge HI0.out)) | exact HB.out)); rintro e w33 ⟨rfl, hi, hb, hk⟩; refine ⟨_, rfl, ?_⟩; have n0_ := Aside0.mk (KeepBut.trans (by repeat (first | (with_reducible first | exact HK.out | apply KeepBut.set_ | apply keep_drewN | apply keep_drew | apply keep_alloc) | exact HK.out)) hk (.inl rfl)); have n1_ := Aside0.mk (hb); have n2_ := Aside0.mk (hi); clear HK; clear HB; clear HI0; have HK := n0_; have HB := n1_; have HI0 := n2_; clear n0_ n1_ n2_; (try clear hb); (try clear hb2); (try clear hk); (try clear hi)) | ((with_reducible refine gate_callee (f := 31) rfl ?_); refine goesL_ (some 46) rfl rfl Try.func31 (by kernel_rfl) rfl #[.pointer (some ⟨g, 0, none⟩), .int .i64 4] rfl (by (try simp only [List.map_toArray, List.map_cons, List.map_nil]); first | done | rfl | (simp only [List.length_drop, List.length_take]; rfl)) ?_; (with_reducible refine (spec_l01Below.calls g s0_0 t184 t185 4 t186 t187 t188 w0 _ ?side1 ?side2 A32.out).mono ?_); (case side1 => repeat (first | (with_reducible first | exact HI0.out | apply IsS75.alloc | apply IsS75.drewN | apply IsS75.drew | apply IsS75.set_1 | apply IsS75.set_2) | exact HI0.out)); (case side2 => repeat (first | (with_reducible first | exact HB.out | apply below_alloc | apply pw_below_drewN | apply below_drew1 | refine below_set ?_ (IsS75.ge HI0.out)) | exact HB.out)); rintro e w34 ⟨rfl, hi, hb, hk⟩; refine ⟨_, rfl, ?_⟩; have n0_ := Aside0.mk (KeepBut.trans (by repeat (first | (with_reducible first | exact HK.out | apply KeepBut.set_ | apply keep_drewN | apply keep_drew | apply keep_alloc) | exact HK.out)) hk (.inl rfl)); have n1_ := Aside0.mk (hb); have n2_ := Aside0.mk (hi); clear HK; clear HB; clear HI0; have HK := n0_; have HB := n1_; have HI0 := n2_; clear n0_ n1_ n2_; (try clear hb); (try clear hb2); (try clear hk); (try clear hi)))
              go_ret
              exact ⟨by first | rfl | (simp [errW_none, errW_some] <;> rfl) | (simp [*, errW_none, errW_some] <;> rfl), by repeat (first | (with_reducible first | exact HI0.out | apply IsS75.alloc | apply IsS75.drewN | apply IsS75.drew | apply IsS75.set_1 | apply IsS75.set_2) | exact HI0.out), by repeat (first | (with_reducible first | exact HB.out | apply below_alloc | apply pw_below_drewN | apply below_drew1 | refine below_set ?_ (IsS75.ge HI0.out)) | exact HB.out), by repeat (first | (with_reducible first | exact HK.out | apply KeepBut.set_ | apply keep_drewN | apply keep_drew | apply keep_alloc) | exact HK.out)⟩
            · rw [if_neg c30] at H
              have c30b0 : (t156 == 4) = false := beq_eq_false_iff_ne.mpr c30
              have c30b1 : (t156 != 4) = true := bne_iff_ne.mpr c30
              by_cases c35 : t156 = 5
              · rw [if_pos c35] at H
                have c35b0 : (t156 == 5) = true := beq_iff_eq.mpr c35
                have c35b1 : (t156 != 5) = false := bne_eq_false_iff_eq.mpr c35
                clear c35
                replace H := Option.bind_eq_some_iff.mp H
                obtain ⟨⟨t189, t190, t191⟩, A360, H⟩ := H
                replace H : ((spec_l03Bits64.f s0_0 t190 t191).bind fun bt192 => ((spec_l01Below.f s0_0 bt192.2.1 bt192.2.2 120).bind fun bt195 => ((spec_RoundTo.f kj14 t189 (IntKind.u64.wrap (Int.tdiv bt192.1 2048)) (wrap64 (bt195.1 - 80)) false).bind fun t198 => (some (t198, bt195.2.1, bt195.2.2))))) = some (r1, r2, r3) := H
                have A36 := Aside0.mk A360
                clear A360
                replace H := Option.bind_eq_some_iff.mp H
                obtain ⟨⟨t192, t193, t194⟩, A370, H⟩ := H
                replace H : ((spec_l01Below.f s0_0 t193 t194 120).bind fun bt195 => ((spec_RoundTo.f kj14 t189 (IntKind.u64.wrap (Int.tdiv t192 2048)) (wrap64 (bt195.1 - 80)) false).bind fun t198 => (some (t198, bt195.2.1, bt195.2.2)))) = some (r1, r2, r3) := H
                have A37 := Aside0.mk A370
                clear A370
                replace H := Option.bind_eq_some_iff.mp H
                obtain ⟨⟨t195, t196, t197⟩, A380, H⟩ := H
                replace H : ((spec_RoundTo.f kj14 t189 (IntKind.u64.wrap (Int.tdiv t192 2048)) (wrap64 (t195 - 80)) false).bind fun t198 => (some (t198, t196, t197))) = some (r1, r2, r3) := H
                have A38 := Aside0.mk A380
                clear A380
                replace H := Option.bind_eq_some_iff.mp H
                obtain ⟨t198, A390, H⟩ := H
                replace H : (some (t198, t196, t197)) = some (r1, r2, r3) := H
                have A39 := Aside0.mk A390
                clear A390
                simp only [Option.some.injEq, Prod.mk.injEq] at H
                obtain ⟨rfl, rfl, rfl⟩ := H
                go_wp2_with (first | ((with_reducible refine gate_callee (f := 71) rfl ?_); refine goesL_ (some 52) rfl rfl Try.func71 (by kernel_rfl) rfl #[.pointer (some ⟨g, 0, none⟩), .int .i64 2] rfl (by (try simp only [List.map_toArray, List.map_cons, List.map_nil]); first | done | rfl | (simp only [List.length_drop, List.length_take]; rfl)) ?_; (with_reducible refine (spec_l01Once.calls g s0_0 t157 t158 2 t189 t190 t191 w0 _ ?side1 ?side2 A36.out).mono ?_); (case side1 => repeat (first | (with_reducible first | exact HI0.out | apply IsS75.alloc | apply IsS75.drewN | apply IsS75.drew | apply IsS75.set_1 | apply IsS75.set_2) | exact HI0.out)); (case side2 => repeat (first | (with_reducible first | exact HB.out | apply below_alloc | apply pw_below_drewN | apply below_drew1 | refine below_set ?_ (IsS75.ge HI0.out)) | exact HB.out)); rintro e w40 ⟨rfl, hi, hb, hk⟩; refine ⟨_, rfl, ?_⟩; have n0_ := Aside0.mk (KeepBut.trans (by repeat (first | (with_reducible first | exact HK.out | apply KeepBut.set_ | apply keep_drewN | apply keep_drew | apply keep_alloc) | exact HK.out)) hk (.inl rfl)); have n1_ := Aside0.mk (hb); have n2_ := Aside0.mk (hi); clear HK; clear HB; clear HI0; have HK := n0_; have HB := n1_; have HI0 := n2_; clear n0_ n1_ n2_; (try clear hb); (try clear hb2); (try clear hk); (try clear hi)) | ((with_reducible refine gate_callee (f := 72) rfl ?_); refine goesL_ (some 54) rfl rfl Try.func72 (by kernel_rfl) rfl #[.pointer (some ⟨g, 0, none⟩)] rfl (by (try simp only [List.map_toArray, List.map_cons, List.map_nil]); first | done | rfl | (simp only [List.length_drop, List.length_take]; rfl)) ?_; (with_reducible refine (spec_l03Bits64.calls g s0_0 t190 t191 t192 t193 t194 w0 _ ?side1 ?side2 A37.out).mono ?_); (case side1 => repeat (first | (with_reducible first | exact HI0.out | apply IsS75.alloc | apply IsS75.drewN | apply IsS75.drew | apply IsS75.set_1 | apply IsS75.set_2) | exact HI0.out)); (case side2 => repeat (first | (with_reducible first | exact HB.out | apply below_alloc | apply pw_below_drewN | apply below_drew1 | refine below_set ?_ (IsS75.ge HI0.out)) | exact HB.out)); rintro e w41 ⟨rfl, hi, hb, hk⟩; refine ⟨_, rfl, ?_⟩; have n0_ := Aside0.mk (KeepBut.trans (by repeat (first | (with_reducible first | exact HK.out | apply KeepBut.set_ | apply keep_drewN | apply keep_drew | apply keep_alloc) | exact HK.out)) hk (.inl rfl)); have n1_ := Aside0.mk (hb); have n2_ := Aside0.mk (hi); clear HK; clear HB; clear HI0; have HK := n0_; have HB := n1_; have HI0 := n2_; clear n0_ n1_ n2_; (try clear hb); (try clear hb2); (try clear hk); (try clear hi)) | ((with_reducible refine gate_callee (f := 31) rfl ?_); refine goesL_ (some 57) rfl rfl Try.func31 (by kernel_rfl) rfl #[.pointer (some ⟨g, 0, none⟩), .int .i64 120] rfl (by (try simp only [List.map_toArray, List.map_cons, List.map_nil]); first | done | rfl | (simp only [List.length_drop, List.length_take]; rfl)) ?_; (with_reducible refine (spec_l01Below.calls g s0_0 t193 t194 120 t195 t196 t197 w0 _ ?side1 ?side2 A38.out).mono ?_); (case side1 => repeat (first | (with_reducible first | exact HI0.out | apply IsS75.alloc | apply IsS75.drewN | apply IsS75.drew | apply IsS75.set_1 | apply IsS75.set_2) | exact HI0.out)); (case side2 => repeat (first | (with_reducible first | exact HB.out | apply below_alloc | apply pw_below_drewN | apply below_drew1 | refine below_set ?_ (IsS75.ge HI0.out)) | exact HB.out)); rintro e w42 ⟨rfl, hi, hb, hk⟩; refine ⟨_, rfl, ?_⟩; have n0_ := Aside0.mk (KeepBut.trans (by repeat (first | (with_reducible first | exact HK.out | apply KeepBut.set_ | apply keep_drewN | apply keep_drew | apply keep_alloc) | exact HK.out)) hk (.inl rfl)); have n1_ := Aside0.mk (hb); have n2_ := Aside0.mk (hi); clear HK; clear HB; clear HI0; have HK := n0_; have HB := n1_; have HI0 := n2_; clear n0_ n1_ n2_; (try clear hb); (try clear hb2); (try clear hk); (try clear hi)) | ((with_reducible refine gate_callee (f := 42) rfl ?_); refine goesL_ (some 59) rfl rfl Try.func42 (by kernel_rfl) rfl #[.bool t189, .int .u64 (IntKind.u64.wrap (Int.tdiv t192 2048)), .int .i64 (wrap64 (t195 - 80)), .bool false] rfl (by (try simp only [List.map_toArray, List.map_cons, List.map_nil]); first | done | rfl | (simp only [List.length_drop, List.length_take]; rfl)) ?_; (with_reducible refine (spec_RoundTo.calls kj14 t189 (IntKind.u64.wrap (Int.tdiv t192 2048)) (wrap64 (t195 - 80)) false t198 _ A39.out).mono ?_); rintro e w' ⟨rfl, ⟨nd, rfl⟩⟩; refine ⟨_, rfl, ?_⟩))
                go_ret
                exact ⟨by first | rfl | (simp [errW_none, errW_some] <;> rfl) | (simp [*, errW_none, errW_some] <;> rfl), by repeat (first | (with_reducible first | exact HI0.out | apply IsS75.alloc | apply IsS75.drewN | apply IsS75.drew | apply IsS75.set_1 | apply IsS75.set_2) | exact HI0.out), by repeat (first | (with_reducible first | exact HB.out | apply below_alloc | apply pw_below_drewN | apply below_drew1 | refine below_set ?_ (IsS75.ge HI0.out)) | exact HB.out), by repeat (first | (with_reducible first | exact HK.out | apply KeepBut.set_ | apply keep_drewN | apply keep_drew | apply keep_alloc) | exact HK.out)⟩
              · rw [if_neg c35] at H
                have c35b0 : (t156 == 5) = false := beq_eq_false_iff_ne.mpr c35
                have c35b1 : (t156 != 5) = true := bne_iff_ne.mpr c35
                replace H := Option.bind_eq_some_iff.mp H
                obtain ⟨⟨t199, t200, t201⟩, A430, H⟩ := H
                replace H : (some (t199, t200, t201)) = some (r1, r2, r3) := H
                have A43 := Aside0.mk A430
                clear A430
                simp only [Option.some.injEq, Prod.mk.injEq] at H
                obtain ⟨rfl, rfl, rfl⟩ := H
                go_wp2_with (first | ((with_reducible refine gate_callee (f := 72) rfl ?_); refine goesL_ (some 61) rfl rfl Try.func72 (by kernel_rfl) rfl #[.pointer (some ⟨g, 0, none⟩)] rfl (by (try simp only [List.map_toArray, List.map_cons, List.map_nil]); first | done | rfl | (simp only [List.length_drop, List.length_take]; rfl)) ?_; (with_reducible refine (spec_l03Bits64.calls g s0_0 t157 t158 t199 t200 t201 w0 _ ?side1 ?side2 A43.out).mono ?_); (case side1 => repeat (first | (with_reducible first | exact HI0.out | apply IsS75.alloc | apply IsS75.drewN | apply IsS75.drew | apply IsS75.set_1 | apply IsS75.set_2) | exact HI0.out)); (case side2 => repeat (first | (with_reducible first | exact HB.out | apply below_alloc | apply pw_below_drewN | apply below_drew1 | refine below_set ?_ (IsS75.ge HI0.out)) | exact HB.out)); rintro e w44 ⟨rfl, hi, hb, hk⟩; refine ⟨_, rfl, ?_⟩; have n0_ := Aside0.mk (KeepBut.trans (by repeat (first | (with_reducible first | exact HK.out | apply KeepBut.set_ | apply keep_drewN | apply keep_drew | apply keep_alloc) | exact HK.out)) hk (.inl rfl)); have n1_ := Aside0.mk (hb); have n2_ := Aside0.mk (hi); clear HK; clear HB; clear HI0; have HK := n0_; have HB := n1_; have HI0 := n2_; clear n0_ n1_ n2_; (try clear hb); (try clear hb2); (try clear hk); (try clear hi)))
                go_ret
                exact ⟨by first | rfl | (simp [errW_none, errW_some] <;> rfl) | (simp [*, errW_none, errW_some] <;> rfl), by repeat (first | (with_reducible first | exact HI0.out | apply IsS75.alloc | apply IsS75.drewN | apply IsS75.drew | apply IsS75.set_1 | apply IsS75.set_2) | exact HI0.out), by repeat (first | (with_reducible first | exact HB.out | apply below_alloc | apply pw_below_drewN | apply below_drew1 | refine below_set ?_ (IsS75.ge HI0.out)) | exact HB.out), by repeat (first | (with_reducible first | exact HK.out | apply KeepBut.set_ | apply keep_drewN | apply keep_drew | apply keep_alloc) | exact HK.out)⟩

/-! ### spec_DrawNumbers: function 15 -/
def spec_DrawNumbers.f (k : Nat) (l0 : List Int) : Option (Int × Int × Int) := (spec_l01New.f k l0).bind fun bt202 => ((spec_l03Number.f k bt202.1 bt202.2.1 bt202.2.2).bind fun bt206 => ((spec_l03Number.f k bt202.1 bt206.2.1 bt206.2.2).bind fun bt209 => ((spec_l03Number.f k bt202.1 bt209.2.1 bt209.2.2).bind fun bt212 => (some (bt206.1, bt209.1, bt212.1)))))
theorem spec_DrawNumbers.mono : ∀ a0 k, LeO (spec_DrawNumbers.f k a0) (spec_DrawNumbers.f (k + 1) a0) := by
  intro a0 k
  unfold spec_DrawNumbers.f
  repeat' first
      | (with_reducible exact spec_l01New.mono _ _)
      | (with_reducible exact spec_l03Number.mono _ _ _ _)
      | (with_reducible exact LeO.refl _)
      | (with_reducible exact LeO.none _)
      | (with_reducible refine LeO.ite ?_ ?_)
      | (with_reducible refine LeO.bind ?_ (fun _ => ?_))
      | exact spec_l01New.mono _ _
      | exact spec_l03Number.mono _ _ _ _
      | exact LeO.none _
      | refine LeO.ite ?_ ?_
      | refine LeO.bind ?_ (fun _ => ?_)
set_option maxHeartbeats 8000000 in
set_option maxRecDepth 100000 in
theorem spec_DrawNumbers.calls (k : Nat) (A0 : Option Addr) (c0 : Nat) (l0 : List Int) (r1 : Int) (r2 : Int) (r3 : Int) (w : World) (hr0 : Kd.C (Kd.int .u8) w A0 l0.length l0) (hc0 : l0.length ≤ c0) (h : spec_DrawNumbers.f k l0 = some (r1, r2, r3)) :
    Calls Try.prog 15 #[.slice A0 l0.length c0] w fun e w' => e = .returned (.tuple #[.int .u64 r1, .int .u64 r2, .int .u64 r3]) ∧ Below w.heap.size w w' := by
  have HR0 := Aside0.mk hr0
  have HC0 := Aside0.mk hc0
  clear hr0 hc0
  have HB := Aside0.mk (Below.refl w.heap.size w)
  have H : ((spec_l01New.f k l0).bind fun bt202 => ((spec_l03Number.f k bt202.1 bt202.2.1 bt202.2.2).bind fun bt206 => ((spec_l03Number.f k bt202.1 bt206.2.1 bt206.2.2).bind fun bt209 => ((spec_l03Number.f k bt202.1 bt209.2.1 bt209.2.2).bind fun bt212 => (some (bt206.1, bt209.1, bt212.1)))))) = some (r1, r2, r3) := h
  clear h
  replace H := Option.bind_eq_some_iff.mp H
  obtain ⟨⟨t202, t203, t204⟩, A20, H⟩ := H
  replace H : ((spec_l03Number.f k t202 t203 t204).bind fun bt206 => ((spec_l03Number.f k t202 bt206.2.1 bt206.2.2).bind fun bt209 => ((spec_l03Number.f k t202 bt209.2.1 bt209.2.2).bind fun bt212 => (some (bt206.1, bt209.1, bt212.1))))) = some (r1, r2, r3) := H
  have A2 := Aside0.mk A20
  clear A20
  replace H := Option.bind_eq_some_iff.mp H
  obtain ⟨⟨t206, t207, t208⟩, A30, H⟩ := H
  replace H : ((spec_l03Number.f k t202 t207 t208).bind fun bt209 => ((spec_l03Number.f k t202 bt209.2.1 bt209.2.2).bind fun bt212 => (some (t206, bt209.1, bt212.1)))) = some (r1, r2, r3) := H
  have A3 := Aside0.mk A30
  clear A30
  replace H := Option.bind_eq_some_iff.mp H
  obtain ⟨⟨t209, t210, t211⟩, A40, H⟩ := H
  replace H : ((spec_l03Number.f k t202 t210 t211).bind fun bt212 => (some (t206, t209, bt212.1))) = some (r1, r2, r3) := H
  have A4 := Aside0.mk A40
  clear A40
  replace H := Option.bind_eq_some_iff.mp H
  obtain ⟨⟨t212, t213, t214⟩, A50, H⟩ := H
  replace H : (some (t206, t209, t212)) = some (r1, r2, r3) := H
  have A5 := Aside0.mk A50
  clear A50
  simp only [Option.some.injEq, Prod.mk.injEq] at H
  obtain ⟨rfl, rfl, rfl⟩ := H
  go_enter Try.func15, Try.ntmps15
  go_wp2_with (first | ((with_reducible refine gate_callee (f := 29) rfl ?_); refine goesL_ (some 7) rfl rfl Try.func29 (by kernel_rfl) rfl #[.slice A0 l0.length c0] rfl (by (try simp only [List.map_toArray, List.map_cons, List.map_nil]); first | done | rfl | (simp only [List.length_drop, List.length_take]; rfl)) ?_; (with_reducible refine (spec_l01New.calls k _ _ l0 t202 t203 t204 w _ ?side1 ?side2 ?side3 A2.out).mono ?_); (case side1 => repeat (first | (with_reducible first | exact HB.out | apply below_alloc | apply pw_below_drewN | apply below_drew1) | exact HB.out)); (case side2 => exact HR0.out); (case side3 => exact HC0.out); rintro e w6 ⟨g205, rfl, hi, hb, hb2⟩; refine ⟨_, rfl, ?_⟩; have n0_ := Aside0.mk (hb); have n1_ := Aside0.mk (hi); clear HB; have HB := n0_; have HI205 := n1_; clear n0_ n1_; (try clear hb); (try clear hb2); (try clear hk); (try clear hi)) | ((with_reducible refine gate_callee (f := 40) rfl ?_); refine goesL_ (some 9) rfl rfl Try.func40 (by kernel_rfl) rfl #[.pointer (some ⟨g205, 0, none⟩)] rfl (by (try simp only [List.map_toArray, List.map_cons, List.map_nil]); first | done | rfl | (simp only [List.length_drop, List.length_take]; rfl)) ?_; (with_reducible refine (spec_l03Number.calls k g205 t202 t203 t204 t206 t207 t208 w _ ?side1 ?side2 A3.out).mono ?_); (case side1 => repeat (first | (with_reducible first | exact HI205.out | apply IsS75.alloc | apply IsS75.drewN | apply IsS75.drew | apply IsS75.set_1 | apply IsS75.set_2) | exact HI205.out)); (case side2 => repeat (first | (with_reducible first | exact HB.out | apply below_alloc | apply pw_below_drewN | apply below_drew1 | refine below_set ?_ (IsS75.ge HI205.out)) | exact HB.out)); rintro e w7 ⟨rfl, hi, hb, hk⟩; refine ⟨_, rfl, ?_⟩; have n0_ := Aside0.mk (hb); have n1_ := Aside0.mk (hi); clear HB; clear HI205; have HB := n0_; have HI205 := n1_; clear n0_ n1_; (try clear hb); (try clear hb2); (try clear hk); (try clear hi)) | ((with_reducible refine gate_callee (f := 40) rfl ?_); refine goesL_ (some 11) rfl rfl Try.func40 (by kernel_rfl) rfl #[.pointer (some ⟨g205, 0, none⟩)] rfl (by (try simp only [List.map_toArray, List.map_cons, List.map_nil]); first | done | rfl | (simp only [List.length_drop, List.length_take]; rfl)) ?_; (with_reducible refine (spec_l03Number.calls k g205 t202 t207 t208 t209 t210 t211 w _ ?side1 ?side2 A4.out).mono ?_); (case side1 => repeat (first | (with_reducible first | exact HI205.out | apply IsS75.alloc | apply IsS75.drewN | apply IsS75.drew | apply IsS75.set_1 | apply IsS75.set_2) | exact HI205.out)); (case side2 => repeat (first | (with_reducible first | exact HB.out | apply below_alloc | apply pw_below_drewN | apply below_drew1 | refine below_set ?_ (IsS75.ge HI205.out)) | exact HB.out)); rintro e w8 ⟨rfl, hi, hb, hk⟩; refine ⟨_, rfl, ?_⟩; have n0_ := Aside0.mk (hb); have n1_ := Aside0.mk (hi); clear HB; clear HI205; have HB := n0_; have HI205 := n1_; clear n0_ n1_; (try clear hb); (try clear hb2); (try clear hk); (try clear hi)) | ((with_reducible refine gate_callee (f := 40) rfl ?_); refine goesL_ (some 13) rfl rfl Try.func40 (by kernel_rfl) rfl #[.pointer (some ⟨g205, 0, none⟩)] rfl (by (try simp only [List.map_toArray, List.map_cons, List.map_nil]); first | done | rfl | (simp only [List.length_drop, List.length_take]; rfl)) ?_; (with_reducible refine (spec_l03Number.calls k g205 t202 t210 t211 t212 t213 t214 w _ ?side1 ?side2 A5.out).mono ?_); (case side1 => repeat (first | (with_reducible first | exact HI205.out | apply IsS75.alloc | apply IsS75.drewN | apply IsS75.drew | apply IsS75.set_1 | apply IsS75.set_2) | exact HI205.out)); (case side2 => repeat (first | (with_reducible first | exact HB.out | apply below_alloc | apply pw_below_drewN | apply below_drew1 | refine below_set ?_ (IsS75.ge HI205.out)) | exact HB.out)); rintro e w9 ⟨rfl, hi, hb, hk⟩; refine ⟨_, rfl, ?_⟩; have n0_ := Aside0.mk (hb); have n1_ := Aside0.mk (hi); clear HB; clear HI205; have HB := n0_; have HI205 := n1_; clear n0_ n1_; (try clear hb); (try clear hb2); (try clear hk); (try clear hi)))
  go_ret3
  exact ⟨by first | rfl | (simp [errW_none, errW_some] <;> rfl) | (simp [*, errW_none, errW_some] <;> rfl), by repeat (first | (with_reducible first | exact HB.out | apply below_alloc | apply pw_below_drewN | apply below_drew1 | refine below_set ?_ (IsS75.ge HI205.out)) | exact HB.out)⟩

end Go.Proofs.Ytlmiobfnkdkkjaa.QFnRoots
