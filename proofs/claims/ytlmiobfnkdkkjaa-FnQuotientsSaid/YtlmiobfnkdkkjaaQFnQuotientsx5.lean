-- Written by a program of this session (wip/tools/myprint.py); Lean checks it.
import Derived.Test.YtlmiobfnkdkkjaaQFnQuotientsx0
import Derived.Test.YtlmiobfnkdkkjaaQFnQuotientsx1
import Derived.Test.YtlmiobfnkdkkjaaQFnQuotientsx3
import Derived.Test.YtlmiobfnkdkkjaaQFnQuotientsx4
namespace Go.Proofs.Ytlmiobfnkdkkjaa.QFnQuotients
open Go.RowKit Go.Proofs.YtlmiobfnkdkkjaaW.PrintWords Go.Proofs.YtlmiobfnkdkkjaaW.PrintLast Go.Proofs.YtlmiobfnkdkkjaaW.PrintMore
attribute [local go_sem] max2_int min2_int max_two min_two max_three min_three max_four min_four   -- for this text's walks alone
set_option linter.unusedVariables false
set_option linter.unusedSimpArgs false

/-! ### spec_Negate: function 12 -/
def spec_Negate.f (k : Nat) (a0 : Int) : Option (Int) := (spec_l03Nan.f k a0).bind fun t186 => (if t186 = true then (some 9221120237041090560) else ((spec_l03Pow.f k 63).bind fun t187 => (some (Go.bits .xor .u64 a0 t187))))
theorem spec_Negate.mono : ∀ a0 k, LeO (spec_Negate.f k a0) (spec_Negate.f (k + 1) a0) := by
  intro a0 k
  unfold spec_Negate.f
  repeat' first
      | (with_reducible exact spec_l03Nan.mono _ _)
      | (with_reducible exact spec_l03Pow.mono _ _)
      | (with_reducible exact LeO.refl _)
      | (with_reducible exact LeO.none _)
      | (with_reducible refine LeO.ite ?_ ?_)
      | (with_reducible refine LeO.bind ?_ (fun _ => ?_))
      | exact spec_l03Nan.mono _ _
      | exact spec_l03Pow.mono _ _
      | exact LeO.none _
      | refine LeO.ite ?_ ?_
      | refine LeO.bind ?_ (fun _ => ?_)
set_option maxHeartbeats 8000000 in
set_option maxRecDepth 100000 in
theorem spec_Negate.calls (k : Nat) (a0 : Int) (r : Int) (w : World) (h : spec_Negate.f k a0 = some r) :
    Calls Try.prog 12 #[.int .u64 a0] w fun e w' => e = .returned (.int .u64 r) ∧ Below w.heap.size w w' := by
  have HB := Aside0.mk (Below.refl w.heap.size w)
  have H : ((spec_l03Nan.f k a0).bind fun t186 => (if t186 = true then (some 9221120237041090560) else ((spec_l03Pow.f k 63).bind fun t187 => (some (Go.bits .xor .u64 a0 t187))))) = some r := h
  clear h
  replace H := Option.bind_eq_some_iff.mp H
  obtain ⟨t186, A20, H⟩ := H
  replace H : (if t186 = true then (some 9221120237041090560) else ((spec_l03Pow.f k 63).bind fun t187 => (some (Go.bits .xor .u64 a0 t187)))) = some r := H
  have A2 := Aside0.mk A20
  clear A20
  by_cases c3 : t186 = true
  · subst c3
    have H1 : (some 9221120237041090560) = some r := by rw [if_pos rfl] at H; exact H
    clear H
    have H := H1
    clear H1
    obtain rfl := Option.some.inj H
    go_enter Try.func12, Try.ntmps12
    go_wp2_with (first | ((with_reducible refine gate_callee (f := 36) rfl ?_); refine goesL_ (some 4) rfl rfl Try.func36 (by kernel_rfl) rfl #[.int .u64 a0] rfl (by (try simp only [List.map_toArray, List.map_cons, List.map_nil]); first | done | rfl | (simp only [List.length_drop, List.length_take]; rfl)) ?_; (with_reducible refine (spec_l03Nan.calls k a0 true _ A2.out).mono ?_); rintro e w4 ⟨rfl, hb⟩; refine ⟨_, rfl, ?_⟩; have n0_ := Aside0.mk (below_step (by repeat (first | (with_reducible first | exact HB.out | apply below_alloc | apply pw_below_drewN | apply below_drew1) | exact HB.out)) hb); clear HB; have HB := n0_; clear n0_; (try clear hb); (try clear hb2); (try clear hk); (try clear hi)))
    go_ret
    exact ⟨by first | rfl | (simp [errW_none, errW_some] <;> rfl) | (simp [*, errW_none, errW_some] <;> rfl), by repeat (first | (with_reducible first | exact HB.out | apply below_alloc | apply pw_below_drewN | apply below_drew1) | exact HB.out)⟩
  · replace c3 := Bool.eq_false_iff.mpr c3
    subst c3
    have H1 : ((spec_l03Pow.f k 63).bind fun t187 => (some (Go.bits .xor .u64 a0 t187))) = some r := by rw [if_neg (show ¬ (false = true) by decide)] at H; exact H
    clear H
    have H := H1
    clear H1
    replace H := Option.bind_eq_some_iff.mp H
    obtain ⟨t187, A50, H⟩ := H
    replace H : (some (Go.bits .xor .u64 a0 t187)) = some r := H
    have A5 := Aside0.mk A50
    clear A50
    obtain rfl := Option.some.inj H
    go_enter Try.func12, Try.ntmps12
    go_wp2_with (first | ((with_reducible refine gate_callee (f := 36) rfl ?_); refine goesL_ (some 4) rfl rfl Try.func36 (by kernel_rfl) rfl #[.int .u64 a0] rfl (by (try simp only [List.map_toArray, List.map_cons, List.map_nil]); first | done | rfl | (simp only [List.length_drop, List.length_take]; rfl)) ?_; (with_reducible refine (spec_l03Nan.calls k a0 false _ A2.out).mono ?_); rintro e w6 ⟨rfl, hb⟩; refine ⟨_, rfl, ?_⟩; have n0_ := Aside0.mk (below_step (by repeat (first | (with_reducible first | exact HB.out | apply below_alloc | apply pw_below_drewN | apply below_drew1) | exact HB.out)) hb); clear HB; have HB := n0_; clear n0_; (try clear hb); (try clear hb2); (try clear hk); (try clear hi)) | ((with_reducible refine gate_callee (f := 37) rfl ?_); refine goesL_ (some 6) rfl rfl Try.func37 (by kernel_rfl) rfl #[.int .i64 63] rfl (by (try simp only [List.map_toArray, List.map_cons, List.map_nil]); first | done | rfl | (simp only [List.length_drop, List.length_take]; rfl)) ?_; (with_reducible refine (spec_l03Pow.calls k 63 t187 _ A5.out).mono ?_); rintro e w' ⟨rfl, ⟨nd, rfl⟩⟩; refine ⟨_, rfl, ?_⟩))
    go_ret
    exact ⟨by first | rfl | (simp [errW_none, errW_some] <;> rfl) | (simp [*, errW_none, errW_some] <;> rfl), by repeat (first | (with_reducible first | exact HB.out | apply below_alloc | apply pw_below_drewN | apply below_drew1) | exact HB.out)⟩

/-! ### spec_l03Key: function 38 -/
def spec_l03Key.f (k : Nat) (a0 : Int) : Option (Int) := (spec_l03Pow.f k 63).bind fun t188 => (if a0 ≥ t188 then ((spec_l03Pow.f k 63).bind fun t189 => (some (wrap64 (-(wrap64 (IntKind.u64.wrap (a0 - t189))))))) else (some (wrap64 (a0))))
theorem spec_l03Key.mono : ∀ a0 k, LeO (spec_l03Key.f k a0) (spec_l03Key.f (k + 1) a0) := by
  intro a0 k
  unfold spec_l03Key.f
  repeat' first
      | (with_reducible exact spec_l03Pow.mono _ _)
      | (with_reducible exact LeO.refl _)
      | (with_reducible exact LeO.none _)
      | (with_reducible refine LeO.ite ?_ ?_)
      | (with_reducible refine LeO.bind ?_ (fun _ => ?_))
      | exact spec_l03Pow.mono _ _
      | exact LeO.none _
      | refine LeO.ite ?_ ?_
      | refine LeO.bind ?_ (fun _ => ?_)
set_option maxHeartbeats 8000000 in
set_option maxRecDepth 100000 in
theorem spec_l03Key.calls (k : Nat) (a0 : Int) (r : Int) (w : World) (h : spec_l03Key.f k a0 = some r) :
    Calls Try.prog 38 #[.int .u64 a0] w fun e w' => e = .returned (.int .i64 r) ∧ Drawn0 w w' := by
  have H : ((spec_l03Pow.f k 63).bind fun t188 => (if a0 ≥ t188 then ((spec_l03Pow.f k 63).bind fun t189 => (some (wrap64 (-(wrap64 (IntKind.u64.wrap (a0 - t189))))))) else (some (wrap64 (a0))))) = some r := h
  clear h
  replace H := Option.bind_eq_some_iff.mp H
  obtain ⟨t188, A20, H⟩ := H
  replace H : (if a0 ≥ t188 then ((spec_l03Pow.f k 63).bind fun t189 => (some (wrap64 (-(wrap64 (IntKind.u64.wrap (a0 - t189))))))) else (some (wrap64 (a0)))) = some r := H
  have A2 := Aside0.mk A20
  clear A20
  by_cases c3 : a0 ≥ t188
  · rw [if_pos c3] at H
    have c3b0 : decide (t188 ≤ a0) = true := decide_eq_true c3
    clear c3
    replace H := Option.bind_eq_some_iff.mp H
    obtain ⟨t189, A40, H⟩ := H
    replace H : (some (wrap64 (-(wrap64 (IntKind.u64.wrap (a0 - t189)))))) = some r := H
    have A4 := Aside0.mk A40
    clear A40
    obtain rfl := Option.some.inj H
    go_enter Try.func38, Try.ntmps38
    go_wp2_with (first | ((with_reducible refine gate_callee (f := 37) rfl ?_); refine goesL_ (some 4) rfl rfl Try.func37 (by kernel_rfl) rfl #[.int .i64 63] rfl (by (try simp only [List.map_toArray, List.map_cons, List.map_nil]); first | done | rfl | (simp only [List.length_drop, List.length_take]; rfl)) ?_; (with_reducible refine (spec_l03Pow.calls k 63 t188 _ A2.out).mono ?_); rintro e w' ⟨rfl, ⟨nd, rfl⟩⟩; refine ⟨_, rfl, ?_⟩) | ((with_reducible refine gate_callee (f := 37) rfl ?_); refine goesL_ (some 7) rfl rfl Try.func37 (by kernel_rfl) rfl #[.int .i64 63] rfl (by (try simp only [List.map_toArray, List.map_cons, List.map_nil]); first | done | rfl | (simp only [List.length_drop, List.length_take]; rfl)) ?_; (with_reducible refine (spec_l03Pow.calls k 63 t189 _ A4.out).mono ?_); rintro e w' ⟨rfl, ⟨nd, rfl⟩⟩; refine ⟨_, rfl, ?_⟩))
    go_ret
    exact ⟨by first | rfl | (simp; done) | (simp [*]; done), by repeat (first | exact Drawn0.refl _ | apply Drawn0.step)⟩
  · rw [if_neg c3] at H
    have c3b0 : decide (t188 ≤ a0) = false := decide_eq_false c3
    clear c3
    obtain rfl := Option.some.inj H
    go_enter Try.func38, Try.ntmps38
    go_wp2_with (first | ((with_reducible refine gate_callee (f := 37) rfl ?_); refine goesL_ (some 4) rfl rfl Try.func37 (by kernel_rfl) rfl #[.int .i64 63] rfl (by (try simp only [List.map_toArray, List.map_cons, List.map_nil]); first | done | rfl | (simp only [List.length_drop, List.length_take]; rfl)) ?_; (with_reducible refine (spec_l03Pow.calls k 63 t188 _ A2.out).mono ?_); rintro e w' ⟨rfl, ⟨nd, rfl⟩⟩; refine ⟨_, rfl, ?_⟩))
    go_ret
    exact ⟨by first | rfl | (simp; done) | (simp [*]; done), by repeat (first | exact Drawn0.refl _ | apply Drawn0.step)⟩

/-! ### spec_Equal: function 13 -/
def spec_Equal.f (k : Nat) (a0 : Int) (a1 : Int) : Option (Bool) := (spec_l03Nan.f k a0).bind fun t190 => (if t190 = true then (some false) else ((spec_l03Nan.f k a1).bind fun t191 => (if t191 = true then (some false) else ((spec_l03Key.f k a0).bind fun t192 => ((spec_l03Key.f k a1).bind fun t193 => (some (t192 == t193)))))))
theorem spec_Equal.mono : ∀ a0 a1 k, LeO (spec_Equal.f k a0 a1) (spec_Equal.f (k + 1) a0 a1) := by
  intro a0 a1 k
  unfold spec_Equal.f
  repeat' first
      | (with_reducible exact spec_l03Key.mono _ _)
      | (with_reducible exact spec_l03Nan.mono _ _)
      | (with_reducible exact LeO.refl _)
      | (with_reducible exact LeO.none _)
      | (with_reducible refine LeO.ite ?_ ?_)
      | (with_reducible refine LeO.bind ?_ (fun _ => ?_))
      | exact spec_l03Key.mono _ _
      | exact spec_l03Nan.mono _ _
      | exact LeO.none _
      | refine LeO.ite ?_ ?_
      | refine LeO.bind ?_ (fun _ => ?_)
set_option maxHeartbeats 8000000 in
set_option maxRecDepth 100000 in
theorem spec_Equal.calls (k : Nat) (a0 : Int) (a1 : Int) (r : Bool) (w : World) (h : spec_Equal.f k a0 a1 = some r) :
    Calls Try.prog 13 #[.int .u64 a0, .int .u64 a1] w fun e w' => e = .returned (.bool r) ∧ Below w.heap.size w w' := by
  have HB := Aside0.mk (Below.refl w.heap.size w)
  have H : ((spec_l03Nan.f k a0).bind fun t190 => (if t190 = true then (some false) else ((spec_l03Nan.f k a1).bind fun t191 => (if t191 = true then (some false) else ((spec_l03Key.f k a0).bind fun t192 => ((spec_l03Key.f k a1).bind fun t193 => (some (t192 == t193)))))))) = some r := h
  clear h
  replace H := Option.bind_eq_some_iff.mp H
  obtain ⟨t190, A30, H⟩ := H
  replace H : (if t190 = true then (some false) else ((spec_l03Nan.f k a1).bind fun t191 => (if t191 = true then (some false) else ((spec_l03Key.f k a0).bind fun t192 => ((spec_l03Key.f k a1).bind fun t193 => (some (t192 == t193))))))) = some r := H
  have A3 := Aside0.mk A30
  clear A30
  by_cases c4 : t190 = true
  · subst c4
    have H1 : (some false) = some r := by rw [if_pos rfl] at H; exact H
    clear H
    have H := H1
    clear H1
    obtain rfl := Option.some.inj H
    go_enter Try.func13, Try.ntmps13
    go_wp2_with (first | ((with_reducible refine gate_callee (f := 36) rfl ?_); refine goesL_ (some 6) rfl rfl Try.func36 (by kernel_rfl) rfl #[.int .u64 a0] rfl (by (try simp only [List.map_toArray, List.map_cons, List.map_nil]); first | done | rfl | (simp only [List.length_drop, List.length_take]; rfl)) ?_; (with_reducible refine (spec_l03Nan.calls k a0 true _ A3.out).mono ?_); rintro e w5 ⟨rfl, hb⟩; refine ⟨_, rfl, ?_⟩; have n0_ := Aside0.mk (below_step (by repeat (first | (with_reducible first | exact HB.out | apply below_alloc | apply pw_below_drewN | apply below_drew1) | exact HB.out)) hb); clear HB; have HB := n0_; clear n0_; (try clear hb); (try clear hb2); (try clear hk); (try clear hi)))
    go_ret
    exact ⟨by first | rfl | (simp [errW_none, errW_some] <;> rfl) | (simp [*, errW_none, errW_some] <;> rfl), by repeat (first | (with_reducible first | exact HB.out | apply below_alloc | apply pw_below_drewN | apply below_drew1) | exact HB.out)⟩
  · replace c4 := Bool.eq_false_iff.mpr c4
    subst c4
    have H1 : ((spec_l03Nan.f k a1).bind fun t191 => (if t191 = true then (some false) else ((spec_l03Key.f k a0).bind fun t192 => ((spec_l03Key.f k a1).bind fun t193 => (some (t192 == t193)))))) = some r := by rw [if_neg (show ¬ (false = true) by decide)] at H; exact H
    clear H
    have H := H1
    clear H1
    replace H := Option.bind_eq_some_iff.mp H
    obtain ⟨t191, A60, H⟩ := H
    replace H : (if t191 = true then (some false) else ((spec_l03Key.f k a0).bind fun t192 => ((spec_l03Key.f k a1).bind fun t193 => (some (t192 == t193))))) = some r := H
    have A6 := Aside0.mk A60
    clear A60
    by_cases c7 : t191 = true
    · subst c7
      have H1 : (some false) = some r := by rw [if_pos rfl] at H; exact H
      clear H
      have H := H1
      clear H1
      obtain rfl := Option.some.inj H
      go_enter Try.func13, Try.ntmps13
      go_wp2_with (first | ((with_reducible refine gate_callee (f := 36) rfl ?_); refine goesL_ (some 6) rfl rfl Try.func36 (by kernel_rfl) rfl #[.int .u64 a0] rfl (by (try simp only [List.map_toArray, List.map_cons, List.map_nil]); first | done | rfl | (simp only [List.length_drop, List.length_take]; rfl)) ?_; (with_reducible refine (spec_l03Nan.calls k a0 false _ A3.out).mono ?_); rintro e w8 ⟨rfl, hb⟩; refine ⟨_, rfl, ?_⟩; have n0_ := Aside0.mk (below_step (by repeat (first | (with_reducible first | exact HB.out | apply below_alloc | apply pw_below_drewN | apply below_drew1) | exact HB.out)) hb); clear HB; have HB := n0_; clear n0_; (try clear hb); (try clear hb2); (try clear hk); (try clear hi)) | (go_at_call 36; (with_reducible refine (spec_l03Nan.calls k a1 true _ A6.out).mono ?_); rintro e w9 ⟨rfl, hb⟩; have n0_ := Aside0.mk (below_step (by repeat (first | (with_reducible first | exact HB.out | apply below_alloc | apply pw_below_drewN | apply below_drew1) | exact HB.out)) hb); clear HB; have HB := n0_; clear n0_; (try clear hb); (try clear hb2); (try clear hk); (try clear hi)))
      go_ret
      exact ⟨by first | rfl | (simp [errW_none, errW_some] <;> rfl) | (simp [*, errW_none, errW_some] <;> rfl), by repeat (first | (with_reducible first | exact HB.out | apply below_alloc | apply pw_below_drewN | apply below_drew1) | exact HB.out)⟩
    · replace c7 := Bool.eq_false_iff.mpr c7
      subst c7
      have H1 : ((spec_l03Key.f k a0).bind fun t192 => ((spec_l03Key.f k a1).bind fun t193 => (some (t192 == t193)))) = some r := by rw [if_neg (show ¬ (false = true) by decide)] at H; exact H
      clear H
      have H := H1
      clear H1
      replace H := Option.bind_eq_some_iff.mp H
      obtain ⟨t192, A100, H⟩ := H
      replace H : ((spec_l03Key.f k a1).bind fun t193 => (some (t192 == t193))) = some r := H
      have A10 := Aside0.mk A100
      clear A100
      replace H := Option.bind_eq_some_iff.mp H
      obtain ⟨t193, A110, H⟩ := H
      replace H : (some (t192 == t193)) = some r := H
      have A11 := Aside0.mk A110
      clear A110
      obtain rfl := Option.some.inj H
      go_enter Try.func13, Try.ntmps13
      go_wp2_with (first | ((with_reducible refine gate_callee (f := 36) rfl ?_); refine goesL_ (some 6) rfl rfl Try.func36 (by kernel_rfl) rfl #[.int .u64 a0] rfl (by (try simp only [List.map_toArray, List.map_cons, List.map_nil]); first | done | rfl | (simp only [List.length_drop, List.length_take]; rfl)) ?_; (with_reducible refine (spec_l03Nan.calls k a0 false _ A3.out).mono ?_); rintro e w12 ⟨rfl, hb⟩; refine ⟨_, rfl, ?_⟩; have n0_ := Aside0.mk (below_step (by repeat (first | (with_reducible first | exact HB.out | apply below_alloc | apply pw_below_drewN | apply below_drew1) | exact HB.out)) hb); clear HB; have HB := n0_; clear n0_; (try clear hb); (try clear hb2); (try clear hk); (try clear hi)) | (go_at_call 36; (with_reducible refine (spec_l03Nan.calls k a1 false _ A6.out).mono ?_); rintro e w13 ⟨rfl, hb⟩; have n0_ := Aside0.mk (below_step (by repeat (first | (with_reducible first | exact HB.out | apply below_alloc | apply pw_below_drewN | apply below_drew1) | exact HB.out)) hb); clear HB; have HB := n0_; clear n0_; (try clear hb); (try clear hb2); (try clear hk); (try clear hi)) | (go_at_call 38; (with_reducible refine (spec_l03Key.calls k a0 t192 _ A10.out).mono ?_); rintro e w' ⟨rfl, ⟨nd, rfl⟩⟩) | (go_at_call 38; (with_reducible refine (spec_l03Key.calls k a1 t193 _ A11.out).mono ?_); rintro e w' ⟨rfl, ⟨nd, rfl⟩⟩))
      go_ret
      exact ⟨by first | rfl | (simp [errW_none, errW_some] <;> rfl) | (simp [*, errW_none, errW_some] <;> rfl), by repeat (first | (with_reducible first | exact HB.out | apply below_alloc | apply pw_below_drewN | apply below_drew1) | exact HB.out)⟩

/-! ### laws_FnQuotients: function 3 -/
def laws_FnQuotients.j0 : Nat → Int → Int → Int → Int → Bool → Option (Bool)
  | 0, _, _, _, _, _ => none
  | k + 1, x4, x6, x7, x8, x52 => if x52 = true then ((spec_Negate.f k 0).bind fun t208 => ((laws_whole.f k x4).bind fun t209 => (if x6 = t209 then (some (x7 == t208)) else (if x4 = 0 then ((spec_Equal.f k x6 0).bind fun t210 => (if t210 = true then (some (x7 == t208)) else (some false))) else (some false))))) else ((laws_whole.f k x4).bind fun t211 => (if x6 = t211 then (some (x7 == x8)) else (if x4 = 0 then ((spec_Equal.f k x6 0).bind fun t212 => (if t212 = true then (some (x7 == x8)) else (some false))) else (some false))))
def laws_FnQuotients.f (k : Nat) (l0 : List Int) : Option (Bool) := (laws_big.f l0).bind fun t194 => (if t194 = true then (some true) else ((spec_DrawPlaces.f k l0).bind fun t195 => (if 0 < (t195.length : Int) then (if 1 < (t195.length : Int) then (if 2 < (t195.length : Int) then (if 3 < (t195.length : Int) then ((laws_whole.f k (wrap64 ((wrap64 ((wrap64 ((rd t195 0) * (rd t195 1))) - (wrap64 ((rd t195 2) * 3000)))) * (wrap64 ((rd t195 3) + 1))))).bind fun t202 => ((laws_whole.f k (wrap64 ((rd t195 3) + 1))).bind fun t203 => ((impl_Div.f t202 t203).bind fun t204 => ((laws_whole.f k (wrap64 ((wrap64 ((rd t195 0) * (rd t195 1))) - (wrap64 ((rd t195 2) * 3000))))).bind fun t205 => ((impl_Rem.f k t205 t203).bind fun t206 => (if (wrap64 ((rd t195 3) + 1)) = 0 then (none) else ((laws_whole.f k (Int.tmod (wrap64 ((wrap64 ((rd t195 0) * (rd t195 1))) - (wrap64 ((rd t195 2) * 3000)))) (wrap64 ((rd t195 3) + 1)))).bind fun t207 => (if (wrap64 ((wrap64 ((rd t195 0) * (rd t195 1))) - (wrap64 ((rd t195 2) * 3000)))) < 0 then (laws_FnQuotients.j0 k (wrap64 ((wrap64 ((rd t195 0) * (rd t195 1))) - (wrap64 ((rd t195 2) * 3000)))) t204 t206 t207 ((Int.tmod (wrap64 ((wrap64 ((rd t195 0) * (rd t195 1))) - (wrap64 ((rd t195 2) * 3000)))) (wrap64 ((rd t195 3) + 1))) == 0)) else (laws_FnQuotients.j0 k (wrap64 ((wrap64 ((rd t195 0) * (rd t195 1))) - (wrap64 ((rd t195 2) * 3000)))) t204 t206 t207 false))))))))) else (none)) else (none)) else (none)) else (none))))
theorem laws_FnQuotients.mono_l : ∀ k, (∀ y0 y1 y2 y3 y4, LeO (laws_FnQuotients.j0 k y0 y1 y2 y3 y4) (laws_FnQuotients.j0 (k + 1) y0 y1 y2 y3 y4))
  | 0 => fun _ _ _ _ _ r h => by simp [laws_FnQuotients.j0] at h
  | k + 1 => by
    have ih0 := laws_FnQuotients.mono_l k
    · intro y0 y1 y2 y3 y4
      unfold laws_FnQuotients.j0
      repeat' first
      | (with_reducible exact ih0 _ _ _ _ _)
      | (with_reducible exact impl_Rem.mono _ _ _)
      | (with_reducible exact laws_whole.mono _ _)
      | (with_reducible exact spec_DrawPlaces.mono _ _)
      | (with_reducible exact spec_Equal.mono _ _ _)
      | (with_reducible exact spec_Negate.mono _ _)
      | (with_reducible exact LeO.refl _)
      | (with_reducible exact LeO.none _)
      | (with_reducible refine LeO.ite ?_ ?_)
      | (with_reducible refine LeO.bind ?_ (fun _ => ?_))
      | exact ih0 _ _ _ _ _
      | exact impl_Rem.mono _ _ _
      | exact laws_whole.mono _ _
      | exact spec_DrawPlaces.mono _ _
      | exact spec_Equal.mono _ _ _
      | exact spec_Negate.mono _ _
      | exact LeO.none _
      | refine LeO.ite ?_ ?_
      | refine LeO.bind ?_ (fun _ => ?_)
theorem laws_FnQuotients.mono : ∀ a0 k, LeO (laws_FnQuotients.f k a0) (laws_FnQuotients.f (k + 1) a0) := by
  intro a0 k
  have ih0 := laws_FnQuotients.mono_l k
  unfold laws_FnQuotients.f
  repeat' first
      | (with_reducible exact ih0 _ _ _ _ _)
      | (with_reducible exact impl_Rem.mono _ _ _)
      | (with_reducible exact laws_whole.mono _ _)
      | (with_reducible exact spec_DrawPlaces.mono _ _)
      | (with_reducible exact spec_Equal.mono _ _ _)
      | (with_reducible exact spec_Negate.mono _ _)
      | (with_reducible exact LeO.refl _)
      | (with_reducible exact LeO.none _)
      | (with_reducible refine LeO.ite ?_ ?_)
      | (with_reducible refine LeO.bind ?_ (fun _ => ?_))
      | exact ih0 _ _ _ _ _
      | exact impl_Rem.mono _ _ _
      | exact laws_whole.mono _ _
      | exact spec_DrawPlaces.mono _ _
      | exact spec_Equal.mono _ _ _
      | exact spec_Negate.mono _ _
      | exact LeO.none _
      | refine LeO.ite ?_ ?_
      | refine LeO.bind ?_ (fun _ => ?_)
set_option maxHeartbeats 8000000 in
set_option maxRecDepth 100000 in
theorem laws_FnQuotients.calls (k : Nat) (A0 : Option Addr) (c0 : Nat) (l0 : List Int) (r : Bool) (w : World) (hr0 : Kd.C (Kd.int .u8) w A0 l0.length l0) (hc0 : l0.length ≤ c0) (h : laws_FnQuotients.f k l0 = some r) :
    Calls Try.prog 3 #[.slice A0 l0.length c0] w fun e w' => e = .returned (.bool r) ∧ Below w.heap.size w w' := by
  have HR0 := Aside0.mk hr0
  have HC0 := Aside0.mk hc0
  clear hr0 hc0
  have HB := Aside0.mk (Below.refl w.heap.size w)
  have H : ((laws_big.f l0).bind fun t194 => (if t194 = true then (some true) else ((spec_DrawPlaces.f k l0).bind fun t195 => (if 0 < (t195.length : Int) then (if 1 < (t195.length : Int) then (if 2 < (t195.length : Int) then (if 3 < (t195.length : Int) then ((laws_whole.f k (wrap64 ((wrap64 ((wrap64 ((rd t195 0) * (rd t195 1))) - (wrap64 ((rd t195 2) * 3000)))) * (wrap64 ((rd t195 3) + 1))))).bind fun t202 => ((laws_whole.f k (wrap64 ((rd t195 3) + 1))).bind fun t203 => ((impl_Div.f t202 t203).bind fun t204 => ((laws_whole.f k (wrap64 ((wrap64 ((rd t195 0) * (rd t195 1))) - (wrap64 ((rd t195 2) * 3000))))).bind fun t205 => ((impl_Rem.f k t205 t203).bind fun t206 => (if (wrap64 ((rd t195 3) + 1)) = 0 then (none) else ((laws_whole.f k (Int.tmod (wrap64 ((wrap64 ((rd t195 0) * (rd t195 1))) - (wrap64 ((rd t195 2) * 3000)))) (wrap64 ((rd t195 3) + 1)))).bind fun t207 => (if (wrap64 ((wrap64 ((rd t195 0) * (rd t195 1))) - (wrap64 ((rd t195 2) * 3000)))) < 0 then (laws_FnQuotients.j0 k (wrap64 ((wrap64 ((rd t195 0) * (rd t195 1))) - (wrap64 ((rd t195 2) * 3000)))) t204 t206 t207 ((Int.tmod (wrap64 ((wrap64 ((rd t195 0) * (rd t195 1))) - (wrap64 ((rd t195 2) * 3000)))) (wrap64 ((rd t195 3) + 1))) == 0)) else (laws_FnQuotients.j0 k (wrap64 ((wrap64 ((rd t195 0) * (rd t195 1))) - (wrap64 ((rd t195 2) * 3000)))) t204 t206 t207 false))))))))) else (none)) else (none)) else (none)) else (none))))) = some r := h
  clear h
  replace H := Option.bind_eq_some_iff.mp H
  obtain ⟨t194, A20, H⟩ := H
  replace H : (if t194 = true then (some true) else ((spec_DrawPlaces.f k l0).bind fun t195 => (if 0 < (t195.length : Int) then (if 1 < (t195.length : Int) then (if 2 < (t195.length : Int) then (if 3 < (t195.length : Int) then ((laws_whole.f k (wrap64 ((wrap64 ((wrap64 ((rd t195 0) * (rd t195 1))) - (wrap64 ((rd t195 2) * 3000)))) * (wrap64 ((rd t195 3) + 1))))).bind fun t202 => ((laws_whole.f k (wrap64 ((rd t195 3) + 1))).bind fun t203 => ((impl_Div.f t202 t203).bind fun t204 => ((laws_whole.f k (wrap64 ((wrap64 ((rd t195 0) * (rd t195 1))) - (wrap64 ((rd t195 2) * 3000))))).bind fun t205 => ((impl_Rem.f k t205 t203).bind fun t206 => (if (wrap64 ((rd t195 3) + 1)) = 0 then (none) else ((laws_whole.f k (Int.tmod (wrap64 ((wrap64 ((rd t195 0) * (rd t195 1))) - (wrap64 ((rd t195 2) * 3000)))) (wrap64 ((rd t195 3) + 1)))).bind fun t207 => (if (wrap64 ((wrap64 ((rd t195 0) * (rd t195 1))) - (wrap64 ((rd t195 2) * 3000)))) < 0 then (laws_FnQuotients.j0 k (wrap64 ((wrap64 ((rd t195 0) * (rd t195 1))) - (wrap64 ((rd t195 2) * 3000)))) t204 t206 t207 ((Int.tmod (wrap64 ((wrap64 ((rd t195 0) * (rd t195 1))) - (wrap64 ((rd t195 2) * 3000)))) (wrap64 ((rd t195 3) + 1))) == 0)) else (laws_FnQuotients.j0 k (wrap64 ((wrap64 ((rd t195 0) * (rd t195 1))) - (wrap64 ((rd t195 2) * 3000)))) t204 t206 t207 false))))))))) else (none)) else (none)) else (none)) else (none)))) = some r := H
  have A2 := Aside0.mk A20
  clear A20
  by_cases c3 : t194 = true
  · subst c3
    have H1 : (some true) = some r := by rw [if_pos rfl] at H; exact H
    clear H
    have H := H1
    clear H1
    obtain rfl := Option.some.inj H
    go_enter Try.func3, Try.ntmps3
    go_wp2_with (first | (go_at_call 7; (with_reducible refine (laws_big.calls _ _ l0 true _ ?side1 ?side2 A2.out).mono ?_); (case side1 => repeat (first | exact HR0.out | (with_reducible refine Kd.C_alloc ?_ _) | (with_reducible refine Kd.C_drewN ?_ _) | (with_reducible refine Kd.C_drew ?_))); (case side2 => exact HC0.out); rintro e w' ⟨rfl, ⟨nd, rfl⟩⟩; (try first | exact ⟨rfl, _, World.drewN_drewN _ _ _⟩ | exact ⟨rfl, _, Eq.trans (World.drewN_drewN _ _ _) (congrArg (World.drewN _) (Nat.add_assoc _ _ _))⟩)))
    repeat (go_quiet (first | (go_at_call 7; (with_reducible refine (laws_big.calls _ _ l0 true _ ?side1 ?side2 A2.out).mono ?_); (case side1 => repeat (first | exact HR0.out | (with_reducible refine Kd.C_alloc ?_ _) | (with_reducible refine Kd.C_drewN ?_ _) | (with_reducible refine Kd.C_drew ?_))); (case side2 => exact HC0.out); rintro e w' ⟨rfl, ⟨nd, rfl⟩⟩; (try first | exact ⟨rfl, _, World.drewN_drewN _ _ _⟩ | exact ⟨rfl, _, Eq.trans (World.drewN_drewN _ _ _) (congrArg (World.drewN _) (Nat.add_assoc _ _ _))⟩))); try go_wp2_with (first | (go_at_call 7; (with_reducible refine (laws_big.calls _ _ l0 true _ ?side1 ?side2 A2.out).mono ?_); (case side1 => repeat (first | exact HR0.out | (with_reducible refine Kd.C_alloc ?_ _) | (with_reducible refine Kd.C_drewN ?_ _) | (with_reducible refine Kd.C_drew ?_))); (case side2 => exact HC0.out); rintro e w' ⟨rfl, ⟨nd, rfl⟩⟩; (try first | exact ⟨rfl, _, World.drewN_drewN _ _ _⟩ | exact ⟨rfl, _, Eq.trans (World.drewN_drewN _ _ _) (congrArg (World.drewN _) (Nat.add_assoc _ _ _))⟩))))
    go_ret
    exact ⟨by first | rfl | (simp [errW_none, errW_some] <;> rfl) | (simp [*, errW_none, errW_some] <;> rfl), by repeat (first | (with_reducible first | exact HB.out | apply below_alloc | apply pw_below_drewN | apply below_drew1) | exact HB.out)⟩
  · replace c3 := Bool.eq_false_iff.mpr c3
    subst c3
    have H1 : ((spec_DrawPlaces.f k l0).bind fun t195 => (if 0 < (t195.length : Int) then (if 1 < (t195.length : Int) then (if 2 < (t195.length : Int) then (if 3 < (t195.length : Int) then ((laws_whole.f k (wrap64 ((wrap64 ((wrap64 ((rd t195 0) * (rd t195 1))) - (wrap64 ((rd t195 2) * 3000)))) * (wrap64 ((rd t195 3) + 1))))).bind fun t202 => ((laws_whole.f k (wrap64 ((rd t195 3) + 1))).bind fun t203 => ((impl_Div.f t202 t203).bind fun t204 => ((laws_whole.f k (wrap64 ((wrap64 ((rd t195 0) * (rd t195 1))) - (wrap64 ((rd t195 2) * 3000))))).bind fun t205 => ((impl_Rem.f k t205 t203).bind fun t206 => (if (wrap64 ((rd t195 3) + 1)) = 0 then (none) else ((laws_whole.f k (Int.tmod (wrap64 ((wrap64 ((rd t195 0) * (rd t195 1))) - (wrap64 ((rd t195 2) * 3000)))) (wrap64 ((rd t195 3) + 1)))).bind fun t207 => (if (wrap64 ((wrap64 ((rd t195 0) * (rd t195 1))) - (wrap64 ((rd t195 2) * 3000)))) < 0 then (laws_FnQuotients.j0 k (wrap64 ((wrap64 ((rd t195 0) * (rd t195 1))) - (wrap64 ((rd t195 2) * 3000)))) t204 t206 t207 ((Int.tmod (wrap64 ((wrap64 ((rd t195 0) * (rd t195 1))) - (wrap64 ((rd t195 2) * 3000)))) (wrap64 ((rd t195 3) + 1))) == 0)) else (laws_FnQuotients.j0 k (wrap64 ((wrap64 ((rd t195 0) * (rd t195 1))) - (wrap64 ((rd t195 2) * 3000)))) t204 t206 t207 false))))))))) else (none)) else (none)) else (none)) else (none))) = some r := by rw [if_neg (show ¬ (false = true) by decide)] at H; exact H
    clear H
    have H := H1
    clear H1
    replace H := Option.bind_eq_some_iff.mp H
    obtain ⟨t195, A40, H⟩ := H
    replace H : (if 0 < (t195.length : Int) then (if 1 < (t195.length : Int) then (if 2 < (t195.length : Int) then (if 3 < (t195.length : Int) then ((laws_whole.f k (wrap64 ((wrap64 ((wrap64 ((rd t195 0) * (rd t195 1))) - (wrap64 ((rd t195 2) * 3000)))) * (wrap64 ((rd t195 3) + 1))))).bind fun t202 => ((laws_whole.f k (wrap64 ((rd t195 3) + 1))).bind fun t203 => ((impl_Div.f t202 t203).bind fun t204 => ((laws_whole.f k (wrap64 ((wrap64 ((rd t195 0) * (rd t195 1))) - (wrap64 ((rd t195 2) * 3000))))).bind fun t205 => ((impl_Rem.f k t205 t203).bind fun t206 => (if (wrap64 ((rd t195 3) + 1)) = 0 then (none) else ((laws_whole.f k (Int.tmod (wrap64 ((wrap64 ((rd t195 0) * (rd t195 1))) - (wrap64 ((rd t195 2) * 3000)))) (wrap64 ((rd t195 3) + 1)))).bind fun t207 => (if (wrap64 ((wrap64 ((rd t195 0) * (rd t195 1))) - (wrap64 ((rd t195 2) * 3000)))) < 0 then (laws_FnQuotients.j0 k (wrap64 ((wrap64 ((rd t195 0) * (rd t195 1))) - (wrap64 ((rd t195 2) * 3000)))) t204 t206 t207 ((Int.tmod (wrap64 ((wrap64 ((rd t195 0) * (rd t195 1))) - (wrap64 ((rd t195 2) * 3000)))) (wrap64 ((rd t195 3) + 1))) == 0)) else (laws_FnQuotients.j0 k (wrap64 ((wrap64 ((rd t195 0) * (rd t195 1))) - (wrap64 ((rd t195 2) * 3000)))) t204 t206 t207 false))))))))) else (none)) else (none)) else (none)) else (none)) = some r := H
    have A4 := Aside0.mk A40
    clear A40
    by_cases c5 : 0 < (t195.length : Int)
    · rw [if_pos c5] at H
      have c5b0 : decide (0 < (t195.length : Int)) = true := decide_eq_true c5
      have c5b1 : decide (0 < t195.length) = true := decide_eq_true (by omega)
      clear c5
      by_cases c6 : 1 < (t195.length : Int)
      · rw [if_pos c6] at H
        have c6b0 : decide (1 < (t195.length : Int)) = true := decide_eq_true c6
        have c6b1 : decide (1 < t195.length) = true := decide_eq_true (by omega)
        clear c6
        by_cases c7 : 2 < (t195.length : Int)
        · rw [if_pos c7] at H
          have c7b0 : decide (2 < (t195.length : Int)) = true := decide_eq_true c7
          have c7b1 : decide (2 < t195.length) = true := decide_eq_true (by omega)
          clear c7
          by_cases c8 : 3 < (t195.length : Int)
          · rw [if_pos c8] at H
            have c8b0 : decide (3 < (t195.length : Int)) = true := decide_eq_true c8
            have c8b1 : decide (3 < t195.length) = true := decide_eq_true (by omega)
            clear c8
            replace H := Option.bind_eq_some_iff.mp H
            obtain ⟨t202, A90, H⟩ := H
            replace H : ((laws_whole.f k (wrap64 ((rd t195 3) + 1))).bind fun t203 => ((impl_Div.f t202 t203).bind fun t204 => ((laws_whole.f k (wrap64 ((wrap64 ((rd t195 0) * (rd t195 1))) - (wrap64 ((rd t195 2) * 3000))))).bind fun t205 => ((impl_Rem.f k t205 t203).bind fun t206 => (if (wrap64 ((rd t195 3) + 1)) = 0 then (none) else ((laws_whole.f k (Int.tmod (wrap64 ((wrap64 ((rd t195 0) * (rd t195 1))) - (wrap64 ((rd t195 2) * 3000)))) (wrap64 ((rd t195 3) + 1)))).bind fun t207 => (if (wrap64 ((wrap64 ((rd t195 0) * (rd t195 1))) - (wrap64 ((rd t195 2) * 3000)))) < 0 then (laws_FnQuotients.j0 k (wrap64 ((wrap64 ((rd t195 0) * (rd t195 1))) - (wrap64 ((rd t195 2) * 3000)))) t204 t206 t207 ((Int.tmod (wrap64 ((wrap64 ((rd t195 0) * (rd t195 1))) - (wrap64 ((rd t195 2) * 3000)))) (wrap64 ((rd t195 3) + 1))) == 0)) else (laws_FnQuotients.j0 k (wrap64 ((wrap64 ((rd t195 0) * (rd t195 1))) - (wrap64 ((rd t195 2) * 3000)))) t204 t206 t207 false)))))))) = some r := H
            have A9 := Aside0.mk A90
            clear A90
            replace H := Option.bind_eq_some_iff.mp H
            obtain ⟨t203, A100, H⟩ := H
            replace H : ((impl_Div.f t202 t203).bind fun t204 => ((laws_whole.f k (wrap64 ((wrap64 ((rd t195 0) * (rd t195 1))) - (wrap64 ((rd t195 2) * 3000))))).bind fun t205 => ((impl_Rem.f k t205 t203).bind fun t206 => (if (wrap64 ((rd t195 3) + 1)) = 0 then (none) else ((laws_whole.f k (Int.tmod (wrap64 ((wrap64 ((rd t195 0) * (rd t195 1))) - (wrap64 ((rd t195 2) * 3000)))) (wrap64 ((rd t195 3) + 1)))).bind fun t207 => (if (wrap64 ((wrap64 ((rd t195 0) * (rd t195 1))) - (wrap64 ((rd t195 2) * 3000)))) < 0 then (laws_FnQuotients.j0 k (wrap64 ((wrap64 ((rd t195 0) * (rd t195 1))) - (wrap64 ((rd t195 2) * 3000)))) t204 t206 t207 ((Int.tmod (wrap64 ((wrap64 ((rd t195 0) * (rd t195 1))) - (wrap64 ((rd t195 2) * 3000)))) (wrap64 ((rd t195 3) + 1))) == 0)) else (laws_FnQuotients.j0 k (wrap64 ((wrap64 ((rd t195 0) * (rd t195 1))) - (wrap64 ((rd t195 2) * 3000)))) t204 t206 t207 false))))))) = some r := H
            have A10 := Aside0.mk A100
            clear A100
            replace H := Option.bind_eq_some_iff.mp H
            obtain ⟨t204, A110, H⟩ := H
            replace H : ((laws_whole.f k (wrap64 ((wrap64 ((rd t195 0) * (rd t195 1))) - (wrap64 ((rd t195 2) * 3000))))).bind fun t205 => ((impl_Rem.f k t205 t203).bind fun t206 => (if (wrap64 ((rd t195 3) + 1)) = 0 then (none) else ((laws_whole.f k (Int.tmod (wrap64 ((wrap64 ((rd t195 0) * (rd t195 1))) - (wrap64 ((rd t195 2) * 3000)))) (wrap64 ((rd t195 3) + 1)))).bind fun t207 => (if (wrap64 ((wrap64 ((rd t195 0) * (rd t195 1))) - (wrap64 ((rd t195 2) * 3000)))) < 0 then (laws_FnQuotients.j0 k (wrap64 ((wrap64 ((rd t195 0) * (rd t195 1))) - (wrap64 ((rd t195 2) * 3000)))) t204 t206 t207 ((Int.tmod (wrap64 ((wrap64 ((rd t195 0) * (rd t195 1))) - (wrap64 ((rd t195 2) * 3000)))) (wrap64 ((rd t195 3) + 1))) == 0)) else (laws_FnQuotients.j0 k (wrap64 ((wrap64 ((rd t195 0) * (rd t195 1))) - (wrap64 ((rd t195 2) * 3000)))) t204 t206 t207 false)))))) = some r := H
            have A11 := Aside0.mk A110
            clear A110
            replace H := Option.bind_eq_some_iff.mp H
            obtain ⟨t205, A120, H⟩ := H
            replace H : ((impl_Rem.f k t205 t203).bind fun t206 => (if (wrap64 ((rd t195 3) + 1)) = 0 then (none) else ((laws_whole.f k (Int.tmod (wrap64 ((wrap64 ((rd t195 0) * (rd t195 1))) - (wrap64 ((rd t195 2) * 3000)))) (wrap64 ((rd t195 3) + 1)))).bind fun t207 => (if (wrap64 ((wrap64 ((rd t195 0) * (rd t195 1))) - (wrap64 ((rd t195 2) * 3000)))) < 0 then (laws_FnQuotients.j0 k (wrap64 ((wrap64 ((rd t195 0) * (rd t195 1))) - (wrap64 ((rd t195 2) * 3000)))) t204 t206 t207 ((Int.tmod (wrap64 ((wrap64 ((rd t195 0) * (rd t195 1))) - (wrap64 ((rd t195 2) * 3000)))) (wrap64 ((rd t195 3) + 1))) == 0)) else (laws_FnQuotients.j0 k (wrap64 ((wrap64 ((rd t195 0) * (rd t195 1))) - (wrap64 ((rd t195 2) * 3000)))) t204 t206 t207 false))))) = some r := H
            have A12 := Aside0.mk A120
            clear A120
            replace H := Option.bind_eq_some_iff.mp H
            obtain ⟨t206, A130, H⟩ := H
            replace H : (if (wrap64 ((rd t195 3) + 1)) = 0 then (none) else ((laws_whole.f k (Int.tmod (wrap64 ((wrap64 ((rd t195 0) * (rd t195 1))) - (wrap64 ((rd t195 2) * 3000)))) (wrap64 ((rd t195 3) + 1)))).bind fun t207 => (if (wrap64 ((wrap64 ((rd t195 0) * (rd t195 1))) - (wrap64 ((rd t195 2) * 3000)))) < 0 then (laws_FnQuotients.j0 k (wrap64 ((wrap64 ((rd t195 0) * (rd t195 1))) - (wrap64 ((rd t195 2) * 3000)))) t204 t206 t207 ((Int.tmod (wrap64 ((wrap64 ((rd t195 0) * (rd t195 1))) - (wrap64 ((rd t195 2) * 3000)))) (wrap64 ((rd t195 3) + 1))) == 0)) else (laws_FnQuotients.j0 k (wrap64 ((wrap64 ((rd t195 0) * (rd t195 1))) - (wrap64 ((rd t195 2) * 3000)))) t204 t206 t207 false)))) = some r := H
            have A13 := Aside0.mk A130
            clear A130
            by_cases c14 : (wrap64 ((rd t195 3) + 1)) = 0
            · rw [if_pos c14] at H
              exact absurd H (by simp)
            · rw [if_neg c14] at H
              have c14b0 : ((wrap64 ((rd t195 3) + 1)) == 0) = false := beq_eq_false_iff_ne.mpr c14
              have c14b1 : ((wrap64 ((rd t195 3) + 1)) != 0) = true := bne_iff_ne.mpr c14
              replace H := Option.bind_eq_some_iff.mp H
              obtain ⟨t207, A150, H⟩ := H
              replace H : (if (wrap64 ((wrap64 ((rd t195 0) * (rd t195 1))) - (wrap64 ((rd t195 2) * 3000)))) < 0 then (laws_FnQuotients.j0 k (wrap64 ((wrap64 ((rd t195 0) * (rd t195 1))) - (wrap64 ((rd t195 2) * 3000)))) t204 t206 t207 ((Int.tmod (wrap64 ((wrap64 ((rd t195 0) * (rd t195 1))) - (wrap64 ((rd t195 2) * 3000)))) (wrap64 ((rd t195 3) + 1))) == 0)) else (laws_FnQuotients.j0 k (wrap64 ((wrap64 ((rd t195 0) * (rd t195 1))) - (wrap64 ((rd t195 2) * 3000)))) t204 t206 t207 false)) = some r := H
              have A15 := Aside0.mk A150
              clear A150
              have HC16 := Aside0.mk H
              clear H
              go_enter Try.func3, Try.ntmps3
              go_upto_region 9 with (first | (go_at_call 7; (with_reducible refine (laws_big.calls _ _ l0 false _ ?side1 ?side2 A2.out).mono ?_); (case side1 => repeat (first | exact HR0.out | (with_reducible refine Kd.C_alloc ?_ _) | (with_reducible refine Kd.C_drewN ?_ _) | (with_reducible refine Kd.C_drew ?_))); (case side2 => exact HC0.out); rintro e w' ⟨rfl, ⟨nd, rfl⟩⟩; (try first | exact ⟨rfl, _, World.drewN_drewN _ _ _⟩ | exact ⟨rfl, _, Eq.trans (World.drewN_drewN _ _ _) (congrArg (World.drewN _) (Nat.add_assoc _ _ _))⟩)) | (go_at_call 8; (with_reducible refine (spec_DrawPlaces.calls k _ _ l0 t195 _ ?side1 ?side2 A4.out).mono ?_); (case side1 => repeat (first | exact HR0.out | (with_reducible refine Kd.C_alloc ?_ _) | (with_reducible refine Kd.C_drewN ?_ _) | (with_reducible refine Kd.C_drew ?_))); (case side2 => exact HC0.out); rintro e w17 ⟨v196, rfl, ho0, hb⟩; have n0_ := Aside0.mk (Kd.R_lower ho0 (below_size (by repeat (first | (with_reducible first | exact HB.out | apply below_alloc | apply pw_below_drewN | apply below_drew1) | exact HB.out)))); have n1_ := Aside0.mk (below_step (by repeat (first | (with_reducible first | exact HB.out | apply below_alloc | apply pw_below_drewN | apply below_drew1) | exact HB.out)) hb); clear HB; have HO197 := n0_; have HB := n1_; clear n0_ n1_; (try clear hb); (try clear hb2); (try clear hk); (try clear hi); (try clear ho0); obtain ⟨Ao18, co18, eo18⟩ := Kd.R_slice HO197.out; subst eo18; have p198 : 0 ≤ (0 : Int) := (by omega); have q198 : 0 < (t195.length : Int) := of_decide_eq_true (by first | (with_reducible assumption) | assumption); obtain ⟨ad198, e198, hx198_0⟩ := Kd.at_int (Kd.R_reads' HO197.out).2.2 0 p198 q198; cases e198; have qi198 : (0 < t195.length) = True := eq_true (by omega); (try rw [show ((0 : Int)).toNat = 0 from rfl] at hx198_0); (try rw [Addr.add_zero'] at hx198_0); replace p198 := eq_true p198; replace q198 := eq_true q198; have p199 : 0 ≤ (1 : Int) := (by omega); have q199 : 1 < (t195.length : Int) := of_decide_eq_true (by first | (with_reducible assumption) | assumption); obtain ⟨ad199, e199, hx199_0⟩ := Kd.at_int (Kd.R_reads' HO197.out).2.2 1 p199 q199; obtain rfl : ad198 = ad199 := (by injection e199); (try simp only [show (1 : Int).toNat = 1 from rfl, Nat.reduceMul, Nat.reduceEqDiff, Go.Addr.add, ↓reduceIte] at hx199_0); have qi199 : (1 < t195.length) = True := eq_true (by omega); (try rw [show ((1 : Int)).toNat = 1 from rfl] at hx199_0); replace p199 := eq_true p199; replace q199 := eq_true q199; have p200 : 0 ≤ (2 : Int) := (by omega); have q200 : 2 < (t195.length : Int) := of_decide_eq_true (by first | (with_reducible assumption) | assumption); obtain ⟨ad200, e200, hx200_0⟩ := Kd.at_int (Kd.R_reads' HO197.out).2.2 2 p200 q200; obtain rfl : ad198 = ad200 := (by injection e200); (try simp only [show (2 : Int).toNat = 2 from rfl, Nat.reduceMul, Nat.reduceEqDiff, Go.Addr.add, ↓reduceIte] at hx200_0); have qi200 : (2 < t195.length) = True := eq_true (by omega); (try rw [show ((2 : Int)).toNat = 2 from rfl] at hx200_0); replace p200 := eq_true p200; replace q200 := eq_true q200; have p201 : 0 ≤ (3 : Int) := (by omega); have q201 : 3 < (t195.length : Int) := of_decide_eq_true (by first | (with_reducible assumption) | assumption); obtain ⟨ad201, e201, hx201_0⟩ := Kd.at_int (Kd.R_reads' HO197.out).2.2 3 p201 q201; obtain rfl : ad198 = ad201 := (by injection e201); (try simp only [show (3 : Int).toNat = 3 from rfl, Nat.reduceMul, Nat.reduceEqDiff, Go.Addr.add, ↓reduceIte] at hx201_0); have qi201 : (3 < t195.length) = True := eq_true (by omega); (try rw [show ((3 : Int)).toNat = 3 from rfl] at hx201_0); replace p201 := eq_true p201; replace q201 := eq_true q201) | (go_at_call 10; (with_reducible refine (laws_whole.calls k (wrap64 ((wrap64 ((wrap64 ((rd t195 0) * (rd t195 1))) - (wrap64 ((rd t195 2) * 3000)))) * (wrap64 ((rd t195 3) + 1)))) t202 _ A9.out).mono ?_); rintro e w' ⟨rfl, ⟨nd, rfl⟩⟩; (try first | exact ⟨rfl, _, World.drewN_drewN _ _ _⟩ | exact ⟨rfl, _, Eq.trans (World.drewN_drewN _ _ _) (congrArg (World.drewN _) (Nat.add_assoc _ _ _))⟩)) | (go_at_call 10; (with_reducible refine (laws_whole.calls k (wrap64 ((rd t195 3) + 1)) t203 _ A10.out).mono ?_); rintro e w' ⟨rfl, ⟨nd, rfl⟩⟩; (try first | exact ⟨rfl, _, World.drewN_drewN _ _ _⟩ | exact ⟨rfl, _, Eq.trans (World.drewN_drewN _ _ _) (congrArg (World.drewN _) (Nat.add_assoc _ _ _))⟩)) | (go_at_call 9; (with_reducible refine (impl_Div.calls t202 t203 t204 _ A11.out).mono ?_); rintro e w' ⟨rfl, ⟨nd, rfl⟩⟩; (try first | exact ⟨rfl, _, World.drewN_drewN _ _ _⟩ | exact ⟨rfl, _, Eq.trans (World.drewN_drewN _ _ _) (congrArg (World.drewN _) (Nat.add_assoc _ _ _))⟩)) | (go_at_call 10; (with_reducible refine (laws_whole.calls k (wrap64 ((wrap64 ((rd t195 0) * (rd t195 1))) - (wrap64 ((rd t195 2) * 3000)))) t205 _ A12.out).mono ?_); rintro e w' ⟨rfl, ⟨nd, rfl⟩⟩; (try first | exact ⟨rfl, _, World.drewN_drewN _ _ _⟩ | exact ⟨rfl, _, Eq.trans (World.drewN_drewN _ _ _) (congrArg (World.drewN _) (Nat.add_assoc _ _ _))⟩)) | (go_at_call 11; (with_reducible refine (impl_Rem.calls k t205 t203 t206 _ A13.out).mono ?_); rintro e w' ⟨rfl, ⟨nd, rfl⟩⟩; (try first | exact ⟨rfl, _, World.drewN_drewN _ _ _⟩ | exact ⟨rfl, _, Eq.trans (World.drewN_drewN _ _ _) (congrArg (World.drewN _) (Nat.add_assoc _ _ _))⟩)) | (go_at_call 10; (with_reducible refine (laws_whole.calls k (Int.tmod (wrap64 ((wrap64 ((rd t195 0) * (rd t195 1))) - (wrap64 ((rd t195 2) * 3000)))) (wrap64 ((rd t195 3) + 1))) t207 _ A15.out).mono ?_); rintro e w' ⟨rfl, ⟨nd, rfl⟩⟩; (try first | exact ⟨rfl, _, World.drewN_drewN _ _ _⟩ | exact ⟨rfl, _, Eq.trans (World.drewN_drewN _ _ _) (congrArg (World.drewN _) (Nat.add_assoc _ _ _))⟩)))
              repeat (go_quiet (first | (go_at_call 7; (with_reducible refine (laws_big.calls _ _ l0 false _ ?side1 ?side2 A2.out).mono ?_); (case side1 => repeat (first | exact HR0.out | (with_reducible refine Kd.C_alloc ?_ _) | (with_reducible refine Kd.C_drewN ?_ _) | (with_reducible refine Kd.C_drew ?_))); (case side2 => exact HC0.out); rintro e w' ⟨rfl, ⟨nd, rfl⟩⟩; (try first | exact ⟨rfl, _, World.drewN_drewN _ _ _⟩ | exact ⟨rfl, _, Eq.trans (World.drewN_drewN _ _ _) (congrArg (World.drewN _) (Nat.add_assoc _ _ _))⟩)) | (go_at_call 8; (with_reducible refine (spec_DrawPlaces.calls k _ _ l0 t195 _ ?side1 ?side2 A4.out).mono ?_); (case side1 => repeat (first | exact HR0.out | (with_reducible refine Kd.C_alloc ?_ _) | (with_reducible refine Kd.C_drewN ?_ _) | (with_reducible refine Kd.C_drew ?_))); (case side2 => exact HC0.out); rintro e w17 ⟨v196, rfl, ho0, hb⟩; have n0_ := Aside0.mk (Kd.R_lower ho0 (below_size (by repeat (first | (with_reducible first | exact HB.out | apply below_alloc | apply pw_below_drewN | apply below_drew1) | exact HB.out)))); have n1_ := Aside0.mk (below_step (by repeat (first | (with_reducible first | exact HB.out | apply below_alloc | apply pw_below_drewN | apply below_drew1) | exact HB.out)) hb); clear HB; have HO197 := n0_; have HB := n1_; clear n0_ n1_; (try clear hb); (try clear hb2); (try clear hk); (try clear hi); (try clear ho0); obtain ⟨Ao18, co18, eo18⟩ := Kd.R_slice HO197.out; subst eo18; have p198 : 0 ≤ (0 : Int) := (by omega); have q198 : 0 < (t195.length : Int) := of_decide_eq_true (by first | (with_reducible assumption) | assumption); obtain ⟨ad198, e198, hx198_0⟩ := Kd.at_int (Kd.R_reads' HO197.out).2.2 0 p198 q198; cases e198; have qi198 : (0 < t195.length) = True := eq_true (by omega); (try rw [show ((0 : Int)).toNat = 0 from rfl] at hx198_0); (try rw [Addr.add_zero'] at hx198_0); replace p198 := eq_true p198; replace q198 := eq_true q198; have p199 : 0 ≤ (1 : Int) := (by omega); have q199 : 1 < (t195.length : Int) := of_decide_eq_true (by first | (with_reducible assumption) | assumption); obtain ⟨ad199, e199, hx199_0⟩ := Kd.at_int (Kd.R_reads' HO197.out).2.2 1 p199 q199; obtain rfl : ad198 = ad199 := (by injection e199); (try simp only [show (1 : Int).toNat = 1 from rfl, Nat.reduceMul, Nat.reduceEqDiff, Go.Addr.add, ↓reduceIte] at hx199_0); have qi199 : (1 < t195.length) = True := eq_true (by omega); (try rw [show ((1 : Int)).toNat = 1 from rfl] at hx199_0); replace p199 := eq_true p199; replace q199 := eq_true q199; have p200 : 0 ≤ (2 : Int) := (by omega); have q200 : 2 < (t195.length : Int) := of_decide_eq_true (by first | (with_reducible assumption) | assumption); obtain ⟨ad200, e200, hx200_0⟩ := Kd.at_int (Kd.R_reads' HO197.out).2.2 2 p200 q200; obtain rfl : ad198 = ad200 := (by injection e200); (try simp only [show (2 : Int).toNat = 2 from rfl, Nat.reduceMul, Nat.reduceEqDiff, Go.Addr.add, ↓reduceIte] at hx200_0); have qi200 : (2 < t195.length) = True := eq_true (by omega); (try rw [show ((2 : Int)).toNat = 2 from rfl] at hx200_0); replace p200 := eq_true p200; replace q200 := eq_true q200; have p201 : 0 ≤ (3 : Int) := (by omega); have q201 : 3 < (t195.length : Int) := of_decide_eq_true (by first | (with_reducible assumption) | assumption); obtain ⟨ad201, e201, hx201_0⟩ := Kd.at_int (Kd.R_reads' HO197.out).2.2 3 p201 q201; obtain rfl : ad198 = ad201 := (by injection e201); (try simp only [show (3 : Int).toNat = 3 from rfl, Nat.reduceMul, Nat.reduceEqDiff, Go.Addr.add, ↓reduceIte] at hx201_0); have qi201 : (3 < t195.length) = True := eq_true (by omega); (try rw [show ((3 : Int)).toNat = 3 from rfl] at hx201_0); replace p201 := eq_true p201; replace q201 := eq_true q201) | (go_at_call 10; (with_reducible refine (laws_whole.calls k (wrap64 ((wrap64 ((wrap64 ((rd t195 0) * (rd t195 1))) - (wrap64 ((rd t195 2) * 3000)))) * (wrap64 ((rd t195 3) + 1)))) t202 _ A9.out).mono ?_); rintro e w' ⟨rfl, ⟨nd, rfl⟩⟩; (try first | exact ⟨rfl, _, World.drewN_drewN _ _ _⟩ | exact ⟨rfl, _, Eq.trans (World.drewN_drewN _ _ _) (congrArg (World.drewN _) (Nat.add_assoc _ _ _))⟩)) | (go_at_call 10; (with_reducible refine (laws_whole.calls k (wrap64 ((rd t195 3) + 1)) t203 _ A10.out).mono ?_); rintro e w' ⟨rfl, ⟨nd, rfl⟩⟩; (try first | exact ⟨rfl, _, World.drewN_drewN _ _ _⟩ | exact ⟨rfl, _, Eq.trans (World.drewN_drewN _ _ _) (congrArg (World.drewN _) (Nat.add_assoc _ _ _))⟩)) | (go_at_call 9; (with_reducible refine (impl_Div.calls t202 t203 t204 _ A11.out).mono ?_); rintro e w' ⟨rfl, ⟨nd, rfl⟩⟩; (try first | exact ⟨rfl, _, World.drewN_drewN _ _ _⟩ | exact ⟨rfl, _, Eq.trans (World.drewN_drewN _ _ _) (congrArg (World.drewN _) (Nat.add_assoc _ _ _))⟩)) | (go_at_call 10; (with_reducible refine (laws_whole.calls k (wrap64 ((wrap64 ((rd t195 0) * (rd t195 1))) - (wrap64 ((rd t195 2) * 3000)))) t205 _ A12.out).mono ?_); rintro e w' ⟨rfl, ⟨nd, rfl⟩⟩; (try first | exact ⟨rfl, _, World.drewN_drewN _ _ _⟩ | exact ⟨rfl, _, Eq.trans (World.drewN_drewN _ _ _) (congrArg (World.drewN _) (Nat.add_assoc _ _ _))⟩)) | (go_at_call 11; (with_reducible refine (impl_Rem.calls k t205 t203 t206 _ A13.out).mono ?_); rintro e w' ⟨rfl, ⟨nd, rfl⟩⟩; (try first | exact ⟨rfl, _, World.drewN_drewN _ _ _⟩ | exact ⟨rfl, _, Eq.trans (World.drewN_drewN _ _ _) (congrArg (World.drewN _) (Nat.add_assoc _ _ _))⟩)) | (go_at_call 10; (with_reducible refine (laws_whole.calls k (Int.tmod (wrap64 ((wrap64 ((rd t195 0) * (rd t195 1))) - (wrap64 ((rd t195 2) * 3000)))) (wrap64 ((rd t195 3) + 1))) t207 _ A15.out).mono ?_); rintro e w' ⟨rfl, ⟨nd, rfl⟩⟩; (try first | exact ⟨rfl, _, World.drewN_drewN _ _ _⟩ | exact ⟨rfl, _, Eq.trans (World.drewN_drewN _ _ _) (congrArg (World.drewN _) (Nat.add_assoc _ _ _))⟩))); go_upto_region 9 with (first | (go_at_call 7; (with_reducible refine (laws_big.calls _ _ l0 false _ ?side1 ?side2 A2.out).mono ?_); (case side1 => repeat (first | exact HR0.out | (with_reducible refine Kd.C_alloc ?_ _) | (with_reducible refine Kd.C_drewN ?_ _) | (with_reducible refine Kd.C_drew ?_))); (case side2 => exact HC0.out); rintro e w' ⟨rfl, ⟨nd, rfl⟩⟩; (try first | exact ⟨rfl, _, World.drewN_drewN _ _ _⟩ | exact ⟨rfl, _, Eq.trans (World.drewN_drewN _ _ _) (congrArg (World.drewN _) (Nat.add_assoc _ _ _))⟩)) | (go_at_call 8; (with_reducible refine (spec_DrawPlaces.calls k _ _ l0 t195 _ ?side1 ?side2 A4.out).mono ?_); (case side1 => repeat (first | exact HR0.out | (with_reducible refine Kd.C_alloc ?_ _) | (with_reducible refine Kd.C_drewN ?_ _) | (with_reducible refine Kd.C_drew ?_))); (case side2 => exact HC0.out); rintro e w17 ⟨v196, rfl, ho0, hb⟩; have n0_ := Aside0.mk (Kd.R_lower ho0 (below_size (by repeat (first | (with_reducible first | exact HB.out | apply below_alloc | apply pw_below_drewN | apply below_drew1) | exact HB.out)))); have n1_ := Aside0.mk (below_step (by repeat (first | (with_reducible first | exact HB.out | apply below_alloc | apply pw_below_drewN | apply below_drew1) | exact HB.out)) hb); clear HB; have HO197 := n0_; have HB := n1_; clear n0_ n1_; (try clear hb); (try clear hb2); (try clear hk); (try clear hi); (try clear ho0); obtain ⟨Ao18, co18, eo18⟩ := Kd.R_slice HO197.out; subst eo18; have p198 : 0 ≤ (0 : Int) := (by omega); have q198 : 0 < (t195.length : Int) := of_decide_eq_true (by first | (with_reducible assumption) | assumption); obtain ⟨ad198, e198, hx198_0⟩ := Kd.at_int (Kd.R_reads' HO197.out).2.2 0 p198 q198; cases e198; have qi198 : (0 < t195.length) = True := eq_true (by omega); (try rw [show ((0 : Int)).toNat = 0 from rfl] at hx198_0); (try rw [Addr.add_zero'] at hx198_0); replace p198 := eq_true p198; replace q198 := eq_true q198; have p199 : 0 ≤ (1 : Int) := (by omega); have q199 : 1 < (t195.length : Int) := of_decide_eq_true (by first | (with_reducible assumption) | assumption); obtain ⟨ad199, e199, hx199_0⟩ := Kd.at_int (Kd.R_reads' HO197.out).2.2 1 p199 q199; obtain rfl : ad198 = ad199 := (by injection e199); (try simp only [show (1 : Int).toNat = 1 from rfl, Nat.reduceMul, Nat.reduceEqDiff, Go.Addr.add, ↓reduceIte] at hx199_0); have qi199 : (1 < t195.length) = True := eq_true (by omega); (try rw [show ((1 : Int)).toNat = 1 from rfl] at hx199_0); replace p199 := eq_true p199; replace q199 := eq_true q199; have p200 : 0 ≤ (2 : Int) := (by omega); have q200 : 2 < (t195.length : Int) := of_decide_eq_true (by first | (with_reducible assumption) | assumption); obtain ⟨ad200, e200, hx200_0⟩ := Kd.at_int (Kd.R_reads' HO197.out).2.2 2 p200 q200; obtain rfl : ad198 = ad200 := (by injection e200); (try simp only [show (2 : Int).toNat = 2 from rfl, Nat.reduceMul, Nat.reduceEqDiff, Go.Addr.add, ↓reduceIte] at hx200_0); have qi200 : (2 < t195.length) = True := eq_true (by omega); (try rw [show ((2 : Int)).toNat = 2 from rfl] at hx200_0); replace p200 := eq_true p200; replace q200 := eq_true q200; have p201 : 0 ≤ (3 : Int) := (by omega); have q201 : 3 < (t195.length : Int) := of_decide_eq_true (by first | (with_reducible assumption) | assumption); obtain ⟨ad201, e201, hx201_0⟩ := Kd.at_int (Kd.R_reads' HO197.out).2.2 3 p201 q201; obtain rfl : ad198 = ad201 := (by injection e201); (try simp only [show (3 : Int).toNat = 3 from rfl, Nat.reduceMul, Nat.reduceEqDiff, Go.Addr.add, ↓reduceIte] at hx201_0); have qi201 : (3 < t195.length) = True := eq_true (by omega); (try rw [show ((3 : Int)).toNat = 3 from rfl] at hx201_0); replace p201 := eq_true p201; replace q201 := eq_true q201) | (go_at_call 10; (with_reducible refine (laws_whole.calls k (wrap64 ((wrap64 ((wrap64 ((rd t195 0) * (rd t195 1))) - (wrap64 ((rd t195 2) * 3000)))) * (wrap64 ((rd t195 3) + 1)))) t202 _ A9.out).mono ?_); rintro e w' ⟨rfl, ⟨nd, rfl⟩⟩; (try first | exact ⟨rfl, _, World.drewN_drewN _ _ _⟩ | exact ⟨rfl, _, Eq.trans (World.drewN_drewN _ _ _) (congrArg (World.drewN _) (Nat.add_assoc _ _ _))⟩)) | (go_at_call 10; (with_reducible refine (laws_whole.calls k (wrap64 ((rd t195 3) + 1)) t203 _ A10.out).mono ?_); rintro e w' ⟨rfl, ⟨nd, rfl⟩⟩; (try first | exact ⟨rfl, _, World.drewN_drewN _ _ _⟩ | exact ⟨rfl, _, Eq.trans (World.drewN_drewN _ _ _) (congrArg (World.drewN _) (Nat.add_assoc _ _ _))⟩)) | (go_at_call 9; (with_reducible refine (impl_Div.calls t202 t203 t204 _ A11.out).mono ?_); rintro e w' ⟨rfl, ⟨nd, rfl⟩⟩; (try first | exact ⟨rfl, _, World.drewN_drewN _ _ _⟩ | exact ⟨rfl, _, Eq.trans (World.drewN_drewN _ _ _) (congrArg (World.drewN _) (Nat.add_assoc _ _ _))⟩)) | (go_at_call 10; (with_reducible refine (laws_whole.calls k (wrap64 ((wrap64 ((rd t195 0) * (rd t195 1))) - (wrap64 ((rd t195 2) * 3000)))) t205 _ A12.out).mono ?_); rintro e w' ⟨rfl, ⟨nd, rfl⟩⟩; (try first | exact ⟨rfl, _, World.drewN_drewN _ _ _⟩ | exact ⟨rfl, _, Eq.trans (World.drewN_drewN _ _ _) (congrArg (World.drewN _) (Nat.add_assoc _ _ _))⟩)) | (go_at_call 11; (with_reducible refine (impl_Rem.calls k t205 t203 t206 _ A13.out).mono ?_); rintro e w' ⟨rfl, ⟨nd, rfl⟩⟩; (try first | exact ⟨rfl, _, World.drewN_drewN _ _ _⟩ | exact ⟨rfl, _, Eq.trans (World.drewN_drewN _ _ _) (congrArg (World.drewN _) (Nat.add_assoc _ _ _))⟩)) | (go_at_call 10; (with_reducible refine (laws_whole.calls k (Int.tmod (wrap64 ((wrap64 ((rd t195 0) * (rd t195 1))) - (wrap64 ((rd t195 2) * 3000)))) (wrap64 ((rd t195 3) + 1))) t207 _ A15.out).mono ?_); rintro e w' ⟨rfl, ⟨nd, rfl⟩⟩; (try first | exact ⟨rfl, _, World.drewN_drewN _ _ _⟩ | exact ⟨rfl, _, Eq.trans (World.drewN_drewN _ _ _) (congrArg (World.drewN _) (Nat.add_assoc _ _ _))⟩))))
              (try simp only [Act.put, List.setIfInBounds_toArray, List.set_cons_zero, List.set_cons_succ])
              go_cut [52] (fun v52 wc => ∃ (kq : Nat) (x52_15 : Bool), v52 = .bool x52_15 ∧ Aside0 (laws_FnQuotients.j0 kq (wrap64 ((wrap64 ((rd t195 0) * (rd t195 1))) - (wrap64 ((rd t195 2) * 3000)))) t204 t206 t207 x52_15 = some r) ∧ Aside0 (kq ≤ k) ∧ Aside0 (Below w.heap.size w wc))
              case first =>
                have H := HC16.out
                clear HC16
                by_cases c19 : (wrap64 ((wrap64 ((rd t195 0) * (rd t195 1))) - (wrap64 ((rd t195 2) * 3000)))) < 0
                · rw [if_pos c19] at H
                  have c19b0 : decide ((wrap64 ((wrap64 ((rd t195 0) * (rd t195 1))) - (wrap64 ((rd t195 2) * 3000)))) < 0) = true := decide_eq_true c19
                  clear c19
                  (first | rw [c19b0] | (simp only [i64_w, i32_w]; rw [c19b0]) | skip)
                  have H' := Aside0.mk H
                  clear H
                  go_wp2
                  repeat (go_quiet (fail); try go_wp2)
                  go_meet
                  case rel => exact ⟨_, (((Int.tmod (wrap64 ((wrap64 ((rd t195 0) * (rd t195 1))) - (wrap64 ((rd t195 2) * 3000)))) (wrap64 ((rd t195 3) + 1))) == 0)), (by first | rfl | (simp; done) | (simp [*]; done)), H', ⟨by first | omega | exact Nat.le_refl _⟩, ⟨by repeat (first | (with_reducible first | exact HB.out | apply below_alloc | apply pw_below_drewN | apply below_drew1) | exact HB.out)⟩⟩
                · rw [if_neg c19] at H
                  have c19b0 : decide ((wrap64 ((wrap64 ((rd t195 0) * (rd t195 1))) - (wrap64 ((rd t195 2) * 3000)))) < 0) = false := decide_eq_false c19
                  clear c19
                  (first | rw [c19b0] | (simp only [i64_w, i32_w]; rw [c19b0]) | skip)
                  have H' := Aside0.mk H
                  clear H
                  go_wp2
                  repeat (go_quiet (fail); try go_wp2)
                  go_meet
                  case rel => exact ⟨_, (false), (by first | rfl | (simp; done) | (simp [*]; done)), H', ⟨by first | omega | exact Nat.le_refl _⟩, ⟨by repeat (first | (with_reducible first | exact HB.out | apply below_alloc | apply pw_below_drewN | apply below_drew1) | exact HB.out)⟩⟩
              case rest =>
                clear HC16
                try clear c1
                try clear p1
                try clear q1
                try clear hx1
                try clear qi1
                try clear p2
                try clear q2
                try clear hx2
                try clear qi2
                try clear c3
                try clear c5
                try clear c5b0
                try clear c5b1
                try clear c6
                try clear c6b0
                try clear c6b1
                try clear p6
                try clear c7
                try clear c7b0
                try clear c7b1
                try clear c8
                try clear c8b0
                try clear c8b1
                try clear c14
                try clear c14b0
                try clear c14b1
                try clear c19
                try clear c19b0
                try clear p19
                try clear q19
                try clear hx19
                try clear qi19
                try clear hx198_0
                try clear hx199_0
                try clear hx200_0
                try clear hx201_0
                try clear p198
                try clear p199
                try clear p200
                try clear p201
                try clear q198
                try clear q199
                try clear q200
                try clear q201
                obtain ⟨kq, x52_15, rfl, HA, HJ15, HB⟩ := hcut
                cases kq with
                | zero => exact absurd HA.out (by simp [laws_FnQuotients.j0])
                | succ kj15 =>
                  have H := HA.out
                  clear HA
                  simp only [laws_FnQuotients.j0] at H
                  by_cases c20 : x52_15 = true
                  · subst c20
                    have H1 : ((spec_Negate.f kj15 0).bind fun t208 => ((laws_whole.f kj15 (wrap64 ((wrap64 ((rd t195 0) * (rd t195 1))) - (wrap64 ((rd t195 2) * 3000))))).bind fun t209 => (if t204 = t209 then (some (t206 == t208)) else (if (wrap64 ((wrap64 ((rd t195 0) * (rd t195 1))) - (wrap64 ((rd t195 2) * 3000)))) = 0 then ((spec_Equal.f kj15 t204 0).bind fun t210 => (if t210 = true then (some (t206 == t208)) else (some false))) else (some false))))) = some r := by rw [if_pos rfl] at H; exact H
                    clear H
                    have H := H1
                    clear H1
                    replace H := Option.bind_eq_some_iff.mp H
                    obtain ⟨t208, A210, H⟩ := H
                    replace H : ((laws_whole.f kj15 (wrap64 ((wrap64 ((rd t195 0) * (rd t195 1))) - (wrap64 ((rd t195 2) * 3000))))).bind fun t209 => (if t204 = t209 then (some (t206 == t208)) else (if (wrap64 ((wrap64 ((rd t195 0) * (rd t195 1))) - (wrap64 ((rd t195 2) * 3000)))) = 0 then ((spec_Equal.f kj15 t204 0).bind fun t210 => (if t210 = true then (some (t206 == t208)) else (some false))) else (some false)))) = some r := H
                    have A21 := Aside0.mk A210
                    clear A210
                    replace H := Option.bind_eq_some_iff.mp H
                    obtain ⟨t209, A220, H⟩ := H
                    replace H : (if t204 = t209 then (some (t206 == t208)) else (if (wrap64 ((wrap64 ((rd t195 0) * (rd t195 1))) - (wrap64 ((rd t195 2) * 3000)))) = 0 then ((spec_Equal.f kj15 t204 0).bind fun t210 => (if t210 = true then (some (t206 == t208)) else (some false))) else (some false))) = some r := H
                    have A22 := Aside0.mk A220
                    clear A220
                    by_cases c23 : t204 = t209
                    · rw [if_pos c23] at H
                      have c23b0 : (t204 == t209) = true := beq_iff_eq.mpr c23
                      have c23b1 : (t204 != t209) = false := bne_eq_false_iff_eq.mpr c23
                      clear c23
                      obtain rfl := Option.some.inj H
                      go_wp2_with (first | (go_at_call 12; (with_reducible refine (spec_Negate.calls kj15 0 t208 _ A21.out).mono ?_); rintro e w24 ⟨rfl, hb⟩; have n0_ := Aside0.mk (below_step (by repeat (first | (with_reducible first | exact HB.out | apply below_alloc | apply pw_below_drewN | apply below_drew1) | exact HB.out)) hb); clear HB; have HB := n0_; clear n0_; (try clear hb); (try clear hb2); (try clear hk); (try clear hi)) | (go_at_call 10; (with_reducible refine (laws_whole.calls kj15 (wrap64 ((wrap64 ((rd t195 0) * (rd t195 1))) - (wrap64 ((rd t195 2) * 3000)))) t209 _ A22.out).mono ?_); rintro e w' ⟨rfl, ⟨nd, rfl⟩⟩; (try first | exact ⟨rfl, _, World.drewN_drewN _ _ _⟩ | exact ⟨rfl, _, Eq.trans (World.drewN_drewN _ _ _) (congrArg (World.drewN _) (Nat.add_assoc _ _ _))⟩)))
                      repeat (go_quiet (first | (go_at_call 12; (with_reducible refine (spec_Negate.calls kj15 0 t208 _ A21.out).mono ?_); rintro e w24 ⟨rfl, hb⟩; have n0_ := Aside0.mk (below_step (by repeat (first | (with_reducible first | exact HB.out | apply below_alloc | apply pw_below_drewN | apply below_drew1) | exact HB.out)) hb); clear HB; have HB := n0_; clear n0_; (try clear hb); (try clear hb2); (try clear hk); (try clear hi)) | (go_at_call 10; (with_reducible refine (laws_whole.calls kj15 (wrap64 ((wrap64 ((rd t195 0) * (rd t195 1))) - (wrap64 ((rd t195 2) * 3000)))) t209 _ A22.out).mono ?_); rintro e w' ⟨rfl, ⟨nd, rfl⟩⟩; (try first | exact ⟨rfl, _, World.drewN_drewN _ _ _⟩ | exact ⟨rfl, _, Eq.trans (World.drewN_drewN _ _ _) (congrArg (World.drewN _) (Nat.add_assoc _ _ _))⟩))); try go_wp2_with (first | (go_at_call 12; (with_reducible refine (spec_Negate.calls kj15 0 t208 _ A21.out).mono ?_); rintro e w24 ⟨rfl, hb⟩; have n0_ := Aside0.mk (below_step (by repeat (first | (with_reducible first | exact HB.out | apply below_alloc | apply pw_below_drewN | apply below_drew1) | exact HB.out)) hb); clear HB; have HB := n0_; clear n0_; (try clear hb); (try clear hb2); (try clear hk); (try clear hi)) | (go_at_call 10; (with_reducible refine (laws_whole.calls kj15 (wrap64 ((wrap64 ((rd t195 0) * (rd t195 1))) - (wrap64 ((rd t195 2) * 3000)))) t209 _ A22.out).mono ?_); rintro e w' ⟨rfl, ⟨nd, rfl⟩⟩; (try first | exact ⟨rfl, _, World.drewN_drewN _ _ _⟩ | exact ⟨rfl, _, Eq.trans (World.drewN_drewN _ _ _) (congrArg (World.drewN _) (Nat.add_assoc _ _ _))⟩))))
                      go_ret
                      exact ⟨by first | rfl | (simp [errW_none, errW_some] <;> rfl) | (simp [*, errW_none, errW_some] <;> rfl), by repeat (first | (with_reducible first | exact HB.out | apply below_alloc | apply pw_below_drewN | apply below_drew1) | exact HB.out)⟩
                    · rw [if_neg c23] at H
                      have c23b0 : (t204 == t209) = false := beq_eq_false_iff_ne.mpr c23
                      have c23b1 : (t204 != t209) = true := bne_iff_ne.mpr c23
                      by_cases c25 : (wrap64 ((wrap64 ((rd t195 0) * (rd t195 1))) - (wrap64 ((rd t195 2) * 3000)))) = 0
                      · rw [if_pos c25] at H
                        have c25b0 : ((wrap64 ((wrap64 ((rd t195 0) * (rd t195 1))) - (wrap64 ((rd t195 2) * 3000)))) == 0) = true := beq_iff_eq.mpr c25
                        have c25b1 : ((wrap64 ((wrap64 ((rd t195 0) * (rd t195 1))) - (wrap64 ((rd t195 2) * 3000)))) != 0) = false := bne_eq_false_iff_eq.mpr c25
                        clear c25
                        replace H := Option.bind_eq_some_iff.mp H
                        obtain ⟨t210, A260, H⟩ := H
                        replace H : (if t210 = true then (some (t206 == t208)) else (some false)) = some r := H
                        have A26 := Aside0.mk A260
                        clear A260
                        by_cases c27 : t210 = true
                        · subst c27
                          have H1 : (some (t206 == t208)) = some r := by rw [if_pos rfl] at H; exact H
                          clear H
                          have H := H1
                          clear H1
                          obtain rfl := Option.some.inj H
                          go_wp2_with (first | (go_at_call 12; (with_reducible refine (spec_Negate.calls kj15 0 t208 _ A21.out).mono ?_); rintro e w28 ⟨rfl, hb⟩; have n0_ := Aside0.mk (below_step (by repeat (first | (with_reducible first | exact HB.out | apply below_alloc | apply pw_below_drewN | apply below_drew1) | exact HB.out)) hb); clear HB; have HB := n0_; clear n0_; (try clear hb); (try clear hb2); (try clear hk); (try clear hi)) | (go_at_call 10; (with_reducible refine (laws_whole.calls kj15 (wrap64 ((wrap64 ((rd t195 0) * (rd t195 1))) - (wrap64 ((rd t195 2) * 3000)))) t209 _ A22.out).mono ?_); rintro e w' ⟨rfl, ⟨nd, rfl⟩⟩; (try first | exact ⟨rfl, _, World.drewN_drewN _ _ _⟩ | exact ⟨rfl, _, Eq.trans (World.drewN_drewN _ _ _) (congrArg (World.drewN _) (Nat.add_assoc _ _ _))⟩)) | (go_at_call 13; (with_reducible refine (spec_Equal.calls kj15 t204 0 true _ A26.out).mono ?_); rintro e w29 ⟨rfl, hb⟩; have n0_ := Aside0.mk (below_step (by repeat (first | (with_reducible first | exact HB.out | apply below_alloc | apply pw_below_drewN | apply below_drew1) | exact HB.out)) hb); clear HB; have HB := n0_; clear n0_; (try clear hb); (try clear hb2); (try clear hk); (try clear hi)))
                          repeat (go_quiet (first | (go_at_call 12; (with_reducible refine (spec_Negate.calls kj15 0 t208 _ A21.out).mono ?_); rintro e w28 ⟨rfl, hb⟩; have n0_ := Aside0.mk (below_step (by repeat (first | (with_reducible first | exact HB.out | apply below_alloc | apply pw_below_drewN | apply below_drew1) | exact HB.out)) hb); clear HB; have HB := n0_; clear n0_; (try clear hb); (try clear hb2); (try clear hk); (try clear hi)) | (go_at_call 10; (with_reducible refine (laws_whole.calls kj15 (wrap64 ((wrap64 ((rd t195 0) * (rd t195 1))) - (wrap64 ((rd t195 2) * 3000)))) t209 _ A22.out).mono ?_); rintro e w' ⟨rfl, ⟨nd, rfl⟩⟩; (try first | exact ⟨rfl, _, World.drewN_drewN _ _ _⟩ | exact ⟨rfl, _, Eq.trans (World.drewN_drewN _ _ _) (congrArg (World.drewN _) (Nat.add_assoc _ _ _))⟩)) | (go_at_call 13; (with_reducible refine (spec_Equal.calls kj15 t204 0 true _ A26.out).mono ?_); rintro e w29 ⟨rfl, hb⟩; have n0_ := Aside0.mk (below_step (by repeat (first | (with_reducible first | exact HB.out | apply below_alloc | apply pw_below_drewN | apply below_drew1) | exact HB.out)) hb); clear HB; have HB := n0_; clear n0_; (try clear hb); (try clear hb2); (try clear hk); (try clear hi))); try go_wp2_with (first | (go_at_call 12; (with_reducible refine (spec_Negate.calls kj15 0 t208 _ A21.out).mono ?_); rintro e w28 ⟨rfl, hb⟩; have n0_ := Aside0.mk (below_step (by repeat (first | (with_reducible first | exact HB.out | apply below_alloc | apply pw_below_drewN | apply below_drew1) | exact HB.out)) hb); clear HB; have HB := n0_; clear n0_; (try clear hb); (try clear hb2); (try clear hk); (try clear hi)) | (go_at_call 10; (with_reducible refine (laws_whole.calls kj15 (wrap64 ((wrap64 ((rd t195 0) * (rd t195 1))) - (wrap64 ((rd t195 2) * 3000)))) t209 _ A22.out).mono ?_); rintro e w' ⟨rfl, ⟨nd, rfl⟩⟩; (try first | exact ⟨rfl, _, World.drewN_drewN _ _ _⟩ | exact ⟨rfl, _, Eq.trans (World.drewN_drewN _ _ _) (congrArg (World.drewN _) (Nat.add_assoc _ _ _))⟩)) | (go_at_call 13; (with_reducible refine (spec_Equal.calls kj15 t204 0 true _ A26.out).mono ?_); rintro e w29 ⟨rfl, hb⟩; have n0_ := Aside0.mk (below_step (by repeat (first | (with_reducible first | exact HB.out | apply below_alloc | apply pw_below_drewN | apply below_drew1) | exact HB.out)) hb); clear HB; have HB := n0_; clear n0_; (try clear hb); (try clear hb2); (try clear hk); (try clear hi))))
                          go_ret
                          exact ⟨by first | rfl | (simp [errW_none, errW_some] <;> rfl) | (simp [*, errW_none, errW_some] <;> rfl), by repeat (first | (with_reducible first | exact HB.out | apply below_alloc | apply pw_below_drewN | apply below_drew1) | exact HB.out)⟩
                        · replace c27 := Bool.eq_false_iff.mpr c27
                          subst c27
                          have H1 : (some false) = some r := by rw [if_neg (show ¬ (false = true) by decide)] at H; exact H
                          clear H
                          have H := H1
                          clear H1
                          obtain rfl := Option.some.inj H
                          go_wp2_with (first | (go_at_call 12; (with_reducible refine (spec_Negate.calls kj15 0 t208 _ A21.out).mono ?_); rintro e w30 ⟨rfl, hb⟩; have n0_ := Aside0.mk (below_step (by repeat (first | (with_reducible first | exact HB.out | apply below_alloc | apply pw_below_drewN | apply below_drew1) | exact HB.out)) hb); clear HB; have HB := n0_; clear n0_; (try clear hb); (try clear hb2); (try clear hk); (try clear hi)) | (go_at_call 10; (with_reducible refine (laws_whole.calls kj15 (wrap64 ((wrap64 ((rd t195 0) * (rd t195 1))) - (wrap64 ((rd t195 2) * 3000)))) t209 _ A22.out).mono ?_); rintro e w' ⟨rfl, ⟨nd, rfl⟩⟩; (try first | exact ⟨rfl, _, World.drewN_drewN _ _ _⟩ | exact ⟨rfl, _, Eq.trans (World.drewN_drewN _ _ _) (congrArg (World.drewN _) (Nat.add_assoc _ _ _))⟩)) | (go_at_call 13; (with_reducible refine (spec_Equal.calls kj15 t204 0 false _ A26.out).mono ?_); rintro e w31 ⟨rfl, hb⟩; have n0_ := Aside0.mk (below_step (by repeat (first | (with_reducible first | exact HB.out | apply below_alloc | apply pw_below_drewN | apply below_drew1) | exact HB.out)) hb); clear HB; have HB := n0_; clear n0_; (try clear hb); (try clear hb2); (try clear hk); (try clear hi)))
                          repeat (go_quiet (first | (go_at_call 12; (with_reducible refine (spec_Negate.calls kj15 0 t208 _ A21.out).mono ?_); rintro e w30 ⟨rfl, hb⟩; have n0_ := Aside0.mk (below_step (by repeat (first | (with_reducible first | exact HB.out | apply below_alloc | apply pw_below_drewN | apply below_drew1) | exact HB.out)) hb); clear HB; have HB := n0_; clear n0_; (try clear hb); (try clear hb2); (try clear hk); (try clear hi)) | (go_at_call 10; (with_reducible refine (laws_whole.calls kj15 (wrap64 ((wrap64 ((rd t195 0) * (rd t195 1))) - (wrap64 ((rd t195 2) * 3000)))) t209 _ A22.out).mono ?_); rintro e w' ⟨rfl, ⟨nd, rfl⟩⟩; (try first | exact ⟨rfl, _, World.drewN_drewN _ _ _⟩ | exact ⟨rfl, _, Eq.trans (World.drewN_drewN _ _ _) (congrArg (World.drewN _) (Nat.add_assoc _ _ _))⟩)) | (go_at_call 13; (with_reducible refine (spec_Equal.calls kj15 t204 0 false _ A26.out).mono ?_); rintro e w31 ⟨rfl, hb⟩; have n0_ := Aside0.mk (below_step (by repeat (first | (with_reducible first | exact HB.out | apply below_alloc | apply pw_below_drewN | apply below_drew1) | exact HB.out)) hb); clear HB; have HB := n0_; clear n0_; (try clear hb); (try clear hb2); (try clear hk); (try clear hi))); try go_wp2_with (first | (go_at_call 12; (with_reducible refine (spec_Negate.calls kj15 0 t208 _ A21.out).mono ?_); rintro e w30 ⟨rfl, hb⟩; have n0_ := Aside0.mk (below_step (by repeat (first | (with_reducible first | exact HB.out | apply below_alloc | apply pw_below_drewN | apply below_drew1) | exact HB.out)) hb); clear HB; have HB := n0_; clear n0_; (try clear hb); (try clear hb2); (try clear hk); (try clear hi)) | (go_at_call 10; (with_reducible refine (laws_whole.calls kj15 (wrap64 ((wrap64 ((rd t195 0) * (rd t195 1))) - (wrap64 ((rd t195 2) * 3000)))) t209 _ A22.out).mono ?_); rintro e w' ⟨rfl, ⟨nd, rfl⟩⟩; (try first | exact ⟨rfl, _, World.drewN_drewN _ _ _⟩ | exact ⟨rfl, _, Eq.trans (World.drewN_drewN _ _ _) (congrArg (World.drewN _) (Nat.add_assoc _ _ _))⟩)) | (go_at_call 13; (with_reducible refine (spec_Equal.calls kj15 t204 0 false _ A26.out).mono ?_); rintro e w31 ⟨rfl, hb⟩; have n0_ := Aside0.mk (below_step (by repeat (first | (with_reducible first | exact HB.out | apply below_alloc | apply pw_below_drewN | apply below_drew1) | exact HB.out)) hb); clear HB; have HB := n0_; clear n0_; (try clear hb); (try clear hb2); (try clear hk); (try clear hi))))
                          go_ret
                          exact ⟨by first | rfl | (simp [errW_none, errW_some] <;> rfl) | (simp [*, errW_none, errW_some] <;> rfl), by repeat (first | (with_reducible first | exact HB.out | apply below_alloc | apply pw_below_drewN | apply below_drew1) | exact HB.out)⟩
                      · rw [if_neg c25] at H
                        have c25b0 : ((wrap64 ((wrap64 ((rd t195 0) * (rd t195 1))) - (wrap64 ((rd t195 2) * 3000)))) == 0) = false := beq_eq_false_iff_ne.mpr c25
                        have c25b1 : ((wrap64 ((wrap64 ((rd t195 0) * (rd t195 1))) - (wrap64 ((rd t195 2) * 3000)))) != 0) = true := bne_iff_ne.mpr c25
                        obtain rfl := Option.some.inj H
                        go_wp2_with (first | (go_at_call 12; (with_reducible refine (spec_Negate.calls kj15 0 t208 _ A21.out).mono ?_); rintro e w32 ⟨rfl, hb⟩; have n0_ := Aside0.mk (below_step (by repeat (first | (with_reducible first | exact HB.out | apply below_alloc | apply pw_below_drewN | apply below_drew1) | exact HB.out)) hb); clear HB; have HB := n0_; clear n0_; (try clear hb); (try clear hb2); (try clear hk); (try clear hi)) | (go_at_call 10; (with_reducible refine (laws_whole.calls kj15 (wrap64 ((wrap64 ((rd t195 0) * (rd t195 1))) - (wrap64 ((rd t195 2) * 3000)))) t209 _ A22.out).mono ?_); rintro e w' ⟨rfl, ⟨nd, rfl⟩⟩; (try first | exact ⟨rfl, _, World.drewN_drewN _ _ _⟩ | exact ⟨rfl, _, Eq.trans (World.drewN_drewN _ _ _) (congrArg (World.drewN _) (Nat.add_assoc _ _ _))⟩)))
                        repeat (go_quiet (first | (go_at_call 12; (with_reducible refine (spec_Negate.calls kj15 0 t208 _ A21.out).mono ?_); rintro e w32 ⟨rfl, hb⟩; have n0_ := Aside0.mk (below_step (by repeat (first | (with_reducible first | exact HB.out | apply below_alloc | apply pw_below_drewN | apply below_drew1) | exact HB.out)) hb); clear HB; have HB := n0_; clear n0_; (try clear hb); (try clear hb2); (try clear hk); (try clear hi)) | (go_at_call 10; (with_reducible refine (laws_whole.calls kj15 (wrap64 ((wrap64 ((rd t195 0) * (rd t195 1))) - (wrap64 ((rd t195 2) * 3000)))) t209 _ A22.out).mono ?_); rintro e w' ⟨rfl, ⟨nd, rfl⟩⟩; (try first | exact ⟨rfl, _, World.drewN_drewN _ _ _⟩ | exact ⟨rfl, _, Eq.trans (World.drewN_drewN _ _ _) (congrArg (World.drewN _) (Nat.add_assoc _ _ _))⟩))); try go_wp2_with (first | (go_at_call 12; (with_reducible refine (spec_Negate.calls kj15 0 t208 _ A21.out).mono ?_); rintro e w32 ⟨rfl, hb⟩; have n0_ := Aside0.mk (below_step (by repeat (first | (with_reducible first | exact HB.out | apply below_alloc | apply pw_below_drewN | apply below_drew1) | exact HB.out)) hb); clear HB; have HB := n0_; clear n0_; (try clear hb); (try clear hb2); (try clear hk); (try clear hi)) | (go_at_call 10; (with_reducible refine (laws_whole.calls kj15 (wrap64 ((wrap64 ((rd t195 0) * (rd t195 1))) - (wrap64 ((rd t195 2) * 3000)))) t209 _ A22.out).mono ?_); rintro e w' ⟨rfl, ⟨nd, rfl⟩⟩; (try first | exact ⟨rfl, _, World.drewN_drewN _ _ _⟩ | exact ⟨rfl, _, Eq.trans (World.drewN_drewN _ _ _) (congrArg (World.drewN _) (Nat.add_assoc _ _ _))⟩))))
                        go_ret
                        exact ⟨by first | rfl | (simp [errW_none, errW_some] <;> rfl) | (simp [*, errW_none, errW_some] <;> rfl), by repeat (first | (with_reducible first | exact HB.out | apply below_alloc | apply pw_below_drewN | apply below_drew1) | exact HB.out)⟩
                  · replace c20 := Bool.eq_false_iff.mpr c20
                    subst c20
                    have H1 : ((laws_whole.f kj15 (wrap64 ((wrap64 ((rd t195 0) * (rd t195 1))) - (wrap64 ((rd t195 2) * 3000))))).bind fun t211 => (if t204 = t211 then (some (t206 == t207)) else (if (wrap64 ((wrap64 ((rd t195 0) * (rd t195 1))) - (wrap64 ((rd t195 2) * 3000)))) = 0 then ((spec_Equal.f kj15 t204 0).bind fun t212 => (if t212 = true then (some (t206 == t207)) else (some false))) else (some false)))) = some r := by rw [if_neg (show ¬ (false = true) by decide)] at H; exact H
                    clear H
                    have H := H1
                    clear H1
                    replace H := Option.bind_eq_some_iff.mp H
                    obtain ⟨t211, A330, H⟩ := H
                    replace H : (if t204 = t211 then (some (t206 == t207)) else (if (wrap64 ((wrap64 ((rd t195 0) * (rd t195 1))) - (wrap64 ((rd t195 2) * 3000)))) = 0 then ((spec_Equal.f kj15 t204 0).bind fun t212 => (if t212 = true then (some (t206 == t207)) else (some false))) else (some false))) = some r := H
                    have A33 := Aside0.mk A330
                    clear A330
                    by_cases c34 : t204 = t211
                    · rw [if_pos c34] at H
                      have c34b0 : (t204 == t211) = true := beq_iff_eq.mpr c34
                      have c34b1 : (t204 != t211) = false := bne_eq_false_iff_eq.mpr c34
                      clear c34
                      obtain rfl := Option.some.inj H
                      go_wp2_with (first | (go_at_call 10; (with_reducible refine (laws_whole.calls kj15 (wrap64 ((wrap64 ((rd t195 0) * (rd t195 1))) - (wrap64 ((rd t195 2) * 3000)))) t211 _ A33.out).mono ?_); rintro e w' ⟨rfl, ⟨nd, rfl⟩⟩; (try first | exact ⟨rfl, _, World.drewN_drewN _ _ _⟩ | exact ⟨rfl, _, Eq.trans (World.drewN_drewN _ _ _) (congrArg (World.drewN _) (Nat.add_assoc _ _ _))⟩)))
                      repeat (go_quiet (first | (go_at_call 10; (with_reducible refine (laws_whole.calls kj15 (wrap64 ((wrap64 ((rd t195 0) * (rd t195 1))) - (wrap64 ((rd t195 2) * 3000)))) t211 _ A33.out).mono ?_); rintro e w' ⟨rfl, ⟨nd, rfl⟩⟩; (try first | exact ⟨rfl, _, World.drewN_drewN _ _ _⟩ | exact ⟨rfl, _, Eq.trans (World.drewN_drewN _ _ _) (congrArg (World.drewN _) (Nat.add_assoc _ _ _))⟩))); try go_wp2_with (first | (go_at_call 10; (with_reducible refine (laws_whole.calls kj15 (wrap64 ((wrap64 ((rd t195 0) * (rd t195 1))) - (wrap64 ((rd t195 2) * 3000)))) t211 _ A33.out).mono ?_); rintro e w' ⟨rfl, ⟨nd, rfl⟩⟩; (try first | exact ⟨rfl, _, World.drewN_drewN _ _ _⟩ | exact ⟨rfl, _, Eq.trans (World.drewN_drewN _ _ _) (congrArg (World.drewN _) (Nat.add_assoc _ _ _))⟩))))
                      go_ret
                      exact ⟨by first | rfl | (simp [errW_none, errW_some] <;> rfl) | (simp [*, errW_none, errW_some] <;> rfl), by repeat (first | (with_reducible first | exact HB.out | apply below_alloc | apply pw_below_drewN | apply below_drew1) | exact HB.out)⟩
                    · rw [if_neg c34] at H
                      have c34b0 : (t204 == t211) = false := beq_eq_false_iff_ne.mpr c34
                      have c34b1 : (t204 != t211) = true := bne_iff_ne.mpr c34
                      by_cases c35 : (wrap64 ((wrap64 ((rd t195 0) * (rd t195 1))) - (wrap64 ((rd t195 2) * 3000)))) = 0
                      · rw [if_pos c35] at H
                        have c35b0 : ((wrap64 ((wrap64 ((rd t195 0) * (rd t195 1))) - (wrap64 ((rd t195 2) * 3000)))) == 0) = true := beq_iff_eq.mpr c35
                        have c35b1 : ((wrap64 ((wrap64 ((rd t195 0) * (rd t195 1))) - (wrap64 ((rd t195 2) * 3000)))) != 0) = false := bne_eq_false_iff_eq.mpr c35
                        clear c35
                        replace H := Option.bind_eq_some_iff.mp H
                        obtain ⟨t212, A360, H⟩ := H
                        replace H : (if t212 = true then (some (t206 == t207)) else (some false)) = some r := H
                        have A36 := Aside0.mk A360
                        clear A360
                        by_cases c37 : t212 = true
                        · subst c37
                          have H1 : (some (t206 == t207)) = some r := by rw [if_pos rfl] at H; exact H
                          clear H
                          have H := H1
                          clear H1
                          obtain rfl := Option.some.inj H
                          go_wp2_with (first | (go_at_call 10; (with_reducible refine (laws_whole.calls kj15 (wrap64 ((wrap64 ((rd t195 0) * (rd t195 1))) - (wrap64 ((rd t195 2) * 3000)))) t211 _ A33.out).mono ?_); rintro e w' ⟨rfl, ⟨nd, rfl⟩⟩; (try first | exact ⟨rfl, _, World.drewN_drewN _ _ _⟩ | exact ⟨rfl, _, Eq.trans (World.drewN_drewN _ _ _) (congrArg (World.drewN _) (Nat.add_assoc _ _ _))⟩)) | (go_at_call 13; (with_reducible refine (spec_Equal.calls kj15 t204 0 true _ A36.out).mono ?_); rintro e w38 ⟨rfl, hb⟩; have n0_ := Aside0.mk (below_step (by repeat (first | (with_reducible first | exact HB.out | apply below_alloc | apply pw_below_drewN | apply below_drew1) | exact HB.out)) hb); clear HB; have HB := n0_; clear n0_; (try clear hb); (try clear hb2); (try clear hk); (try clear hi)))
                          repeat (go_quiet (first | (go_at_call 10; (with_reducible refine (laws_whole.calls kj15 (wrap64 ((wrap64 ((rd t195 0) * (rd t195 1))) - (wrap64 ((rd t195 2) * 3000)))) t211 _ A33.out).mono ?_); rintro e w' ⟨rfl, ⟨nd, rfl⟩⟩; (try first | exact ⟨rfl, _, World.drewN_drewN _ _ _⟩ | exact ⟨rfl, _, Eq.trans (World.drewN_drewN _ _ _) (congrArg (World.drewN _) (Nat.add_assoc _ _ _))⟩)) | (go_at_call 13; (with_reducible refine (spec_Equal.calls kj15 t204 0 true _ A36.out).mono ?_); rintro e w38 ⟨rfl, hb⟩; have n0_ := Aside0.mk (below_step (by repeat (first | (with_reducible first | exact HB.out | apply below_alloc | apply pw_below_drewN | apply below_drew1) | exact HB.out)) hb); clear HB; have HB := n0_; clear n0_; (try clear hb); (try clear hb2); (try clear hk); (try clear hi))); try go_wp2_with (first | (go_at_call 10; (with_reducible refine (laws_whole.calls kj15 (wrap64 ((wrap64 ((rd t195 0) * (rd t195 1))) - (wrap64 ((rd t195 2) * 3000)))) t211 _ A33.out).mono ?_); rintro e w' ⟨rfl, ⟨nd, rfl⟩⟩; (try first | exact ⟨rfl, _, World.drewN_drewN _ _ _⟩ | exact ⟨rfl, _, Eq.trans (World.drewN_drewN _ _ _) (congrArg (World.drewN _) (Nat.add_assoc _ _ _))⟩)) | (go_at_call 13; (with_reducible refine (spec_Equal.calls kj15 t204 0 true _ A36.out).mono ?_); rintro e w38 ⟨rfl, hb⟩; have n0_ := Aside0.mk (below_step (by repeat (first | (with_reducible first | exact HB.out | apply below_alloc | apply pw_below_drewN | apply below_drew1) | exact HB.out)) hb); clear HB; have HB := n0_; clear n0_; (try clear hb); (try clear hb2); (try clear hk); (try clear hi))))
                          go_ret
                          exact ⟨by first | rfl | (simp [errW_none, errW_some] <;> rfl) | (simp [*, errW_none, errW_some] <;> rfl), by repeat (first | (with_reducible first | exact HB.out | apply below_alloc | apply pw_below_drewN | apply below_drew1) | exact HB.out)⟩
                        · replace c37 := Bool.eq_false_iff.mpr c37
                          subst c37
                          have H1 : (some false) = some r := by rw [if_neg (show ¬ (false = true) by decide)] at H; exact H
                          clear H
                          have H := H1
                          clear H1
                          obtain rfl := Option.some.inj H
                          go_wp2_with (first | (go_at_call 10; (with_reducible refine (laws_whole.calls kj15 (wrap64 ((wrap64 ((rd t195 0) * (rd t195 1))) - (wrap64 ((rd t195 2) * 3000)))) t211 _ A33.out).mono ?_); rintro e w' ⟨rfl, ⟨nd, rfl⟩⟩; (try first | exact ⟨rfl, _, World.drewN_drewN _ _ _⟩ | exact ⟨rfl, _, Eq.trans (World.drewN_drewN _ _ _) (congrArg (World.drewN _) (Nat.add_assoc _ _ _))⟩)) | (go_at_call 13; (with_reducible refine (spec_Equal.calls kj15 t204 0 false _ A36.out).mono ?_); rintro e w39 ⟨rfl, hb⟩; have n0_ := Aside0.mk (below_step (by repeat (first | (with_reducible first | exact HB.out | apply below_alloc | apply pw_below_drewN | apply below_drew1) | exact HB.out)) hb); clear HB; have HB := n0_; clear n0_; (try clear hb); (try clear hb2); (try clear hk); (try clear hi)))
                          repeat (go_quiet (first | (go_at_call 10; (with_reducible refine (laws_whole.calls kj15 (wrap64 ((wrap64 ((rd t195 0) * (rd t195 1))) - (wrap64 ((rd t195 2) * 3000)))) t211 _ A33.out).mono ?_); rintro e w' ⟨rfl, ⟨nd, rfl⟩⟩; (try first | exact ⟨rfl, _, World.drewN_drewN _ _ _⟩ | exact ⟨rfl, _, Eq.trans (World.drewN_drewN _ _ _) (congrArg (World.drewN _) (Nat.add_assoc _ _ _))⟩)) | (go_at_call 13; (with_reducible refine (spec_Equal.calls kj15 t204 0 false _ A36.out).mono ?_); rintro e w39 ⟨rfl, hb⟩; have n0_ := Aside0.mk (below_step (by repeat (first | (with_reducible first | exact HB.out | apply below_alloc | apply pw_below_drewN | apply below_drew1) | exact HB.out)) hb); clear HB; have HB := n0_; clear n0_; (try clear hb); (try clear hb2); (try clear hk); (try clear hi))); try go_wp2_with (first | (go_at_call 10; (with_reducible refine (laws_whole.calls kj15 (wrap64 ((wrap64 ((rd t195 0) * (rd t195 1))) - (wrap64 ((rd t195 2) * 3000)))) t211 _ A33.out).mono ?_); rintro e w' ⟨rfl, ⟨nd, rfl⟩⟩; (try first | exact ⟨rfl, _, World.drewN_drewN _ _ _⟩ | exact ⟨rfl, _, Eq.trans (World.drewN_drewN _ _ _) (congrArg (World.drewN _) (Nat.add_assoc _ _ _))⟩)) | (go_at_call 13; (with_reducible refine (spec_Equal.calls kj15 t204 0 false _ A36.out).mono ?_); rintro e w39 ⟨rfl, hb⟩; have n0_ := Aside0.mk (below_step (by repeat (first | (with_reducible first | exact HB.out | apply below_alloc | apply pw_below_drewN | apply below_drew1) | exact HB.out)) hb); clear HB; have HB := n0_; clear n0_; (try clear hb); (try clear hb2); (try clear hk); (try clear hi))))
                          go_ret
                          exact ⟨by first | rfl | (simp [errW_none, errW_some] <;> rfl) | (simp [*, errW_none, errW_some] <;> rfl), by repeat (first | (with_reducible first | exact HB.out | apply below_alloc | apply pw_below_drewN | apply below_drew1) | exact HB.out)⟩
                      · rw [if_neg c35] at H
                        have c35b0 : ((wrap64 ((wrap64 ((rd t195 0) * (rd t195 1))) - (wrap64 ((rd t195 2) * 3000)))) == 0) = false := beq_eq_false_iff_ne.mpr c35
                        have c35b1 : ((wrap64 ((wrap64 ((rd t195 0) * (rd t195 1))) - (wrap64 ((rd t195 2) * 3000)))) != 0) = true := bne_iff_ne.mpr c35
                        obtain rfl := Option.some.inj H
                        go_wp2_with (first | (go_at_call 10; (with_reducible refine (laws_whole.calls kj15 (wrap64 ((wrap64 ((rd t195 0) * (rd t195 1))) - (wrap64 ((rd t195 2) * 3000)))) t211 _ A33.out).mono ?_); rintro e w' ⟨rfl, ⟨nd, rfl⟩⟩; (try first | exact ⟨rfl, _, World.drewN_drewN _ _ _⟩ | exact ⟨rfl, _, Eq.trans (World.drewN_drewN _ _ _) (congrArg (World.drewN _) (Nat.add_assoc _ _ _))⟩)))
                        repeat (go_quiet (first | (go_at_call 10; (with_reducible refine (laws_whole.calls kj15 (wrap64 ((wrap64 ((rd t195 0) * (rd t195 1))) - (wrap64 ((rd t195 2) * 3000)))) t211 _ A33.out).mono ?_); rintro e w' ⟨rfl, ⟨nd, rfl⟩⟩; (try first | exact ⟨rfl, _, World.drewN_drewN _ _ _⟩ | exact ⟨rfl, _, Eq.trans (World.drewN_drewN _ _ _) (congrArg (World.drewN _) (Nat.add_assoc _ _ _))⟩))); try go_wp2_with (first | (go_at_call 10; (with_reducible refine (laws_whole.calls kj15 (wrap64 ((wrap64 ((rd t195 0) * (rd t195 1))) - (wrap64 ((rd t195 2) * 3000)))) t211 _ A33.out).mono ?_); rintro e w' ⟨rfl, ⟨nd, rfl⟩⟩; (try first | exact ⟨rfl, _, World.drewN_drewN _ _ _⟩ | exact ⟨rfl, _, Eq.trans (World.drewN_drewN _ _ _) (congrArg (World.drewN _) (Nat.add_assoc _ _ _))⟩))))
                        go_ret
                        exact ⟨by first | rfl | (simp [errW_none, errW_some] <;> rfl) | (simp [*, errW_none, errW_some] <;> rfl), by repeat (first | (with_reducible first | exact HB.out | apply below_alloc | apply pw_below_drewN | apply below_drew1) | exact HB.out)⟩
          · rw [if_neg c8] at H
            exact absurd H (by simp)
        · rw [if_neg c7] at H
          exact absurd H (by simp)
      · rw [if_neg c6] at H
        exact absurd H (by simp)
    · rw [if_neg c5] at H
      exact absurd H (by simp)

/-- THE ONE PURE STATEMENT of laws_FnQuotients: yours. -/
def laws_FnQuotients.Pure : Prop := ∀ (l0 : List Int), l0.length ≤ maxLen → l0.length * 1 ≤ 140737488351232 → (∀ x ∈ l0, (Lit.int .u8 x).wf = true) → ∃ k, laws_FnQuotients.f k l0 = some true
theorem laws_FnQuotients.walk (P : laws_FnQuotients.Pure) (a0 : Option Addr) (len0 cap0 : Nat) (z0 : List Int) (w : World) (w0 : (a0 = none ∧ len0 = 0 ∧ cap0 = 0 ∧ z0 = []) ∨ ∃ x, a0 = some x ∧ len0 ≤ cap0 ∧ cap0 ≤ maxLen ∧ z0.length = cap0 ∧ (∀ i, i < z0.length → w.cell? (x.add i) = some (.int .u8 (z0.getD i 0))) ∧ ∀ n ∈ z0, (Lit.int .u8 n).wf = true) (y0 : len0 * 1 ≤ 140737488351232) :
    Calls Try.prog 3 #[.slice a0 len0 cap0] w fun e w' => e = .returned (.bool true) ∧ Below w.heap.size w w' := by
  obtain ⟨l0, rfl, hr0, hm0, hw0, hc0⟩ := ReadsInt.ofRowC w0
  obtain ⟨k, h⟩ := P l0 hm0 y0 hw0
  refine (laws_FnQuotients.calls k _ _ l0 true w (Kd.C_of_reads (d := (0 : Int)) (h1 := fun _ => rfl) hr0) hc0 h).mono ?_
  rintro e w' ⟨rfl, hd⟩
  exact ⟨rfl, hd⟩

end Go.Proofs.Ytlmiobfnkdkkjaa.QFnQuotients
