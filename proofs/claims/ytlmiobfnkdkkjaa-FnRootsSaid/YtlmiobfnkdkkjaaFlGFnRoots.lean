/- A drawn number is a word. -/
import Derived.Test.YtlmiobfnkdkkjaaFlEFnRoots
namespace Go.Proofs.Ytlmiobfnkdkkjaa.FFnRoots
open Go.RowKit Go.Proofs.Ytlmiobfnkdkkjaa.QFnRoots Go.Proofs.YtlmiobfnkdkkjaaW.PrintWords Go.Proofs.YtlmiobfnkdkkjaaW.PrintLast Go.Proofs.Ytlmiobfnkdkkjaa.Fl Ieee
set_option linter.unusedVariables false
set_option linter.unusedSimpArgs false

theorem once_ok (l : List Int) (i h n : Int) (hl : l.length ≤ 140737488351232) (hi : At l i) (hn : 0 < n) :
    ∃ b i' h', spec_l01Once.f l i h n = some (b, i', h') ∧ At l i' := by
  obtain ⟨r1, i1, h1, e1, l1, u1, a1⟩ := below_ok l i h n hl hi hn
  unfold spec_l01Once.f
  rw [e1]
  exact ⟨_, _, _, rfl, a1⟩
theorem bits64_ok (l : List Int) (i h : Int) (hl : l.length ≤ 140737488351232) (hi : At l i) :
    ∃ (r : Nat) (i' h' : Int), spec_l03Bits64.f l i h = some ((r : Int), i', h') ∧ r < 2 ^ 64 ∧ At l i' := by
  obtain ⟨r1, i1, h1, e1, l1, u1, a1⟩ := below_ok l i h 4294967296 hl hi (by omega)
  obtain ⟨r2, i2, h2, e2, l2, u2, a2⟩ := below_ok l i1 h1 4294967296 hl a1 (by omega)
  unfold spec_l03Bits64.f
  rw [e1]
  simp only [Option.bind_some]
  rw [e2]
  simp only [Option.bind_some]
  have b1 : IntKind.u64.wrap r1 = r1 := u64_id (by omega) (by omega)
  have b2 : IntKind.u64.wrap (r1 * 4294967296) = r1 * 4294967296 := u64_id (by omega) (by omega)
  have b3 : IntKind.u64.wrap r2 = r2 := u64_id (by omega) (by omega)
  have b4 : IntKind.u64.wrap (r1 * 4294967296 + r2) = r1 * 4294967296 + r2 := u64_id (by omega) (by omega)
  rw [b1, b2, b3, b4]
  refine ⟨(r1 * 4294967296 + r2).toNat, i2, h2, ?_, by omega, a2⟩
  rw [Int.toNat_of_nonneg (by omega)]

theorem nearest_u64 (s : Bool) (m : Nat) (e : Int) : double.nearest s m e < 2 ^ 64 := double.nearest_lt s m e
/-- RoundTo gives a word, whatever its rest. -/
theorem round_word (b : Bool) (m : Nat) (e : Int) (more : Bool) (hm : m < 2 ^ 64) (hlow : -5000 ≤ e) (he : e ≤ 5000) :
    ∃ r : Nat, r < 2 ^ 64 ∧ Ev (fun k => spec_RoundTo.f k b (m : Int) e more) (r : Int) := ⟨_, nearest_u64 _ _ _, round_ev b m e more hm hlow he⟩

/-- What a drawn number comes to. -/
def Word3 (l : List Int) (g : Nat → Option (Int × Int × Int)) : Prop := ∃ (x : Nat) (i' h' : Int), x < 2 ^ 64 ∧ At l i' ∧ Ev g ((x : Int), i', h')

theorem number_j0 (l : List Int) (hl : l.length ≤ 140737488351232) (v : Int) (b : Bool) (i h : Int) (hi : At l i) : Word3 l (fun k => spec_l03Number.j0 k v b l i h) := by
  have step : ∀ f : Nat → Option (Int × Int × Int), (∀ k, spec_l03Number.j0 (k + 1) v b l i h = f k) → Word3 l f → Word3 l (fun k => spec_l03Number.j0 k v b l i h) :=
    fun f hf ⟨x, i', h', hx, ha, he⟩ => ⟨x, i', h', hx, ha, ev_succ hf he⟩
  refine step _ (fun k => by rw [spec_l03Number.j0]) ?_
  cases b
  · simp only [Bool.false_eq_true, if_false]
    by_cases c3 : v = 3
    · simp only [c3, if_true]
      obtain ⟨b1, i1, h1, e1, a1⟩ := once_ok l i h 2 hl hi (by omega)
      obtain ⟨r2, i2, h2, e2, l2, u2, a2⟩ := below_ok l i1 h1 1000000 hl a1 (by omega)
      obtain ⟨r3, i3, h3, e3, l3, u3, a3⟩ := below_ok l i2 h2 40 hl a2 (by omega)
      simp only [e1, e2, e3, Option.bind_some]
      obtain ⟨x, hx, hev⟩ := round_word b1 r2.toNat (r3 - 30) false (by omega) (by omega) (by omega)
      have q1 : IntKind.u64.wrap r2 = (r2.toNat : Int) := by rw [u64_id (by omega) (by omega)]; omega
      have q2 : wrap64 (r3 - 30) = r3 - 30 := w64_id (by omega) (by omega)
      rw [q1, q2]
      exact ⟨x, i3, h3, hx, a3, ev_then hev rfl⟩
    · simp only [c3, if_false]
      by_cases c4 : v = 4
      · simp only [c4, if_true]
        obtain ⟨r2, i2, h2, e2, l2, u2, a2⟩ := below_ok l i h 2048 hl hi (by omega)
        obtain ⟨r3, i3, h3, e3, l3, u3, a3⟩ := below_ok l i2 h2 4 hl a2 (by omega)
        simp only [e2, e3, Option.bind_some]
        have b1 : IntKind.u64.wrap r2 = r2 := u64_id (by omega) (by omega)
        have b2 : IntKind.u64.wrap (r2 * 4503599627370496) = r2 * 4503599627370496 := u64_id (by omega) (by omega)
        have b3 : IntKind.u64.wrap r3 = r3 := u64_id (by omega) (by omega)
        have b4 : IntKind.u64.wrap (r2 * 4503599627370496 + r3) = ((r2 * 4503599627370496 + r3).toNat : Int) := by rw [u64_id (by omega) (by omega)]; omega
        rw [b1, b2, b3, b4]
        exact ⟨_, i3, h3, by omega, a3, Ev.now _⟩
      · simp only [c4, if_false]
        by_cases c5 : v = 5
        · simp only [c5, if_true]
          obtain ⟨b1, i1, h1, e1, a1⟩ := once_ok l i h 2 hl hi (by omega)
          obtain ⟨r2, i2, h2, e2, l2, a2⟩ := bits64_ok l i1 h1 hl a1
          obtain ⟨r3, i3, h3, e3, l3, u3, a3⟩ := below_ok l i2 h2 120 hl a2 (by omega)
          simp only [e1, e2, e3, Option.bind_some]
          have t1 : Int.tdiv (r2 : Int) 2048 = ((r2 / 2048 : Nat) : Int) := tdivN r2 2048
          have q1 : IntKind.u64.wrap ((r2 / 2048 : Nat) : Int) = ((r2 / 2048 : Nat) : Int) := u64_id (by omega) (by omega)
          have q2 : wrap64 (r3 - 80) = r3 - 80 := w64_id (by omega) (by omega)
          obtain ⟨x, hx, hev⟩ := round_word b1 (r2 / 2048) (r3 - 80) false (by omega) (by omega) (by omega)
          rw [t1, q1, q2]
          exact ⟨x, i3, h3, hx, a3, ev_then hev rfl⟩
        · simp only [c5, if_false]
          obtain ⟨r2, i2, h2, e2, l2, a2⟩ := bits64_ok l i h hl hi
          simp only [e2, Option.bind_some]
          exact ⟨r2, i2, h2, l2, a2, Ev.now _⟩
  · simp only [if_true]
    obtain ⟨r2, i2, h2, e2, l2, u2, a2⟩ := below_ok l i h 2000 hl hi (by omega)
    simp only [e2, Option.bind_some]
    have q2 : wrap64 (r2 - 1000) = r2 - 1000 := w64_id (by omega) (by omega)
    rw [q2]
    exact ⟨_, i2, h2, nearest_u64 _ _ _, a2, ev_then (fromInt_ev (r2 - 1000) (by omega) (by omega)) rfl⟩

theorem number_ok (l : List Int) (hl : l.length ≤ 140737488351232) (i h : Int) (hi : At l i) : Word3 l (fun k => spec_l03Number.f k l i h) := by
  obtain ⟨r1, i1, h1, e1, l1, u1, a1⟩ := below_ok l i h 8 hl hi (by omega)
  unfold spec_l03Number.f
  simp only [e1, Option.bind_some]
  by_cases c0 : r1 = 0
  · simp only [c0, if_true]
    obtain ⟨r2, i2, h2, e2, l2, u2, a2⟩ := below_ok l i1 h1 17 hl a1 (by omega)
    have x1 : IntKind.u64.wrap (9218868437227405312 + 9223372036854775808) = 18442240474082181120 := by rw [u64_id (by omega) (by omega)]; rfl
    have x2 : IntKind.u64.wrap (9221120237041090560 + 9223372036854775808) = 18444492273895866368 := by rw [u64_id (by omega) (by omega)]; rfl
    obtain ⟨y, hy⟩ : ∃ y, y = ([0, 9223372036854775808, 1, 2, 4503599627370495, 4503599627370496, 4503599627370497, 9218868437227405312, 9218868437227405311, 9218868437227405310, 9221120237041090560, 9221120237041090561, 18442240474082181120, 18444492273895866368, 9218868437227405313, 4607182418800017408, 4607182418800017409] : List Int) := ⟨_, rfl⟩
    have hyl : y.length = 17 := by rw [hy]; rfl
    have hyb : ∀ x ∈ y, 0 ≤ x ∧ x < 18446744073709551616 := by rw [hy]; simp
    have hm : 0 ≤ rd y r2 ∧ rd y r2 < 18446744073709551616 := by
      unfold rd
      have hlt : r2.toNat < y.length := by omega
      rw [List.getD_eq_getElem?_getD, List.getElem?_eq_getElem hlt]
      exact hyb _ (List.getElem_mem hlt)
    refine ⟨(rd y r2).toNat, i2, h2, by omega, a2, ?_⟩
    refine Ev.bind pow63 (Ev.bind pow63 (Ev.bind pow63 ?_))
    simp only [x1, x2, Option.bind_some]
    rw [← hy]
    have hyl' : ((y.length : Nat) : Int) = 17 := by omega
    simp only [hyl', e2, Option.bind_some, show (0 ≤ r2) from l2, show r2 < 17 from u2, if_true]
    have : (((rd y r2).toNat : Nat) : Int) = rd y r2 := by omega
    rw [this]
    exact Ev.now _
  · simp only [c0, if_false]
    by_cases c1 : r1 = 1
    · simp only [c1, if_true]; exact number_j0 l hl _ _ i1 h1 a1
    · simp only [c1, if_false]; exact number_j0 l hl _ _ i1 h1 a1

theorem numbers_ok (l : List Int) (hl : l.length ≤ 140737488351232) : ∃ a b c : Nat, a < 2 ^ 64 ∧ b < 2 ^ 64 ∧ c < 2 ^ 64 ∧ Ev (fun k => spec_DrawNumbers.f k l) ((a : Int), (b : Int), (c : Int)) := by
  obtain ⟨h0, hn⟩ := new_ok l
  obtain ⟨a, i1, h1, ha, a1, e1⟩ := number_ok l hl 0 h0 ⟨by omega, by omega⟩
  obtain ⟨b, i2, h2, hb, a2, e2⟩ := number_ok l hl i1 h1 a1
  obtain ⟨c, i3, h3, hc, a3, e3⟩ := number_ok l hl i2 h2 a2
  refine ⟨a, b, c, ha, hb, hc, ?_⟩
  unfold spec_DrawNumbers.f
  exact Ev.bind hn (Ev.bind e1 (Ev.bind e2 (Ev.bind e3 (Ev.now _))))

end Go.Proofs.Ytlmiobfnkdkkjaa.FFnRoots
