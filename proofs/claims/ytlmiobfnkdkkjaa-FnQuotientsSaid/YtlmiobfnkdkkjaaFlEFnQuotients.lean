/- The draws: what they draw is in its bounds, and they always end. -/
import Derived.Test.YtlmiobfnkdkkjaaFlBFnQuotients
import Derived.Laws.FloatBits
namespace Go.Proofs.Ytlmiobfnkdkkjaa.FFnQuotients
open Go.RowKit Go.Proofs.Ytlmiobfnkdkkjaa.QFnQuotients Go.Proofs.YtlmiobfnkdkkjaaW.PrintWords Go.Proofs.YtlmiobfnkdkkjaaW.PrintLast Go.Proofs.Ytlmiobfnkdkkjaa.Fl Ieee
set_option linter.unusedVariables false
set_option linter.unusedSimpArgs false

theorem and255 (a : Int) : 0 ≤ Go.bits .and .i64 a 255 ∧ Go.bits .and .i64 a 255 ≤ 255 := by
  have e : Go.bits .and .i64 a 255 = IntKind.i64.wrap ((BitVec.ofInt 64 a &&& BitVec.ofInt 64 255).toNat : Int) := rfl
  have h : (BitVec.ofInt 64 a &&& BitVec.ofInt 64 255).toNat ≤ 255 := by
    rw [BitVec.toNat_and]
    exact Nat.and_le_right
  rw [e, IntKind.wrap_i64]
  omega

/-- A cursor's place. -/
def At (l : List Int) (i : Int) : Prop := 0 ≤ i ∧ i ≤ l.length

theorem byte_ok (l : List Int) (i h : Int) (hl : l.length ≤ 140737488351232) (hi : At l i) :
    ∃ r i' h', spec_l01Byte.f l i h = some (r, i', h') ∧ 0 ≤ r ∧ r ≤ 255 ∧ At l i' := by
  unfold spec_l01Byte.f
  by_cases c : i < (l.length : Int)
  · rw [if_pos c, if_pos hi.1]
    refine ⟨_, _, _, rfl, (and255 _).1, (and255 _).2, ?_⟩
    have := hi.1
    rw [w64_id (by omega) (by omega)]
    exact ⟨by omega, by omega⟩
  · rw [if_neg c]
    exact ⟨_, _, _, rfl, (and255 _).1, (and255 _).2, hi⟩

theorem tmod_bd {x n : Int} (hx : 0 ≤ x) (hn : 0 < n) : 0 ≤ Int.tmod x n ∧ Int.tmod x n < n := by
  rw [Int.tmod_eq_emod_of_nonneg hx]
  exact ⟨Int.emod_nonneg _ (by omega), Int.emod_lt_of_pos _ hn⟩

theorem below_ok (l : List Int) (i h n : Int) (hl : l.length ≤ 140737488351232) (hi : At l i) (hn : 0 < n) :
    ∃ r i' h', spec_l01Below.f l i h n = some (r, i', h') ∧ 0 ≤ r ∧ r < n ∧ At l i' := by
  unfold spec_l01Below.f
  rw [if_neg (by omega)]
  obtain ⟨r1, i1, h1, e1, l1, u1, a1⟩ := byte_ok l i h hl hi
  by_cases c : n ≤ 256
  · rw [if_pos c, e1]
    simp only [Option.bind_some]
    rw [if_neg (by omega)]
    have := tmod_bd l1 hn
    exact ⟨_, _, _, rfl, this.1, this.2, a1⟩
  · rw [if_neg c, e1]
    simp only [Option.bind_some]
    obtain ⟨r2, i2, h2, e2, l2, u2, a2⟩ := byte_ok l i1 h1 hl a1
    rw [e2]
    simp only [Option.bind_some]
    obtain ⟨r3, i3, h3, e3, l3, u3, a3⟩ := byte_ok l i2 h2 hl a2
    rw [e3]
    simp only [Option.bind_some]
    obtain ⟨r4, i4, h4, e4, l4, u4, a4⟩ := byte_ok l i3 h3 hl a3
    rw [e4]
    simp only [Option.bind_some]
    rw [if_neg (by omega)]
    have b1 : wrap64 (r1 * 16777216) = r1 * 16777216 := w64_id (by omega) (by omega)
    have b2 : wrap64 (r2 * 65536) = r2 * 65536 := w64_id (by omega) (by omega)
    have b3 : wrap64 (r3 * 256) = r3 * 256 := w64_id (by omega) (by omega)
    have b4 : wrap64 (r1 * 16777216 + r2 * 65536) = r1 * 16777216 + r2 * 65536 := w64_id (by omega) (by omega)
    have b5 : wrap64 (r1 * 16777216 + r2 * 65536 + r3 * 256) = r1 * 16777216 + r2 * 65536 + r3 * 256 := w64_id (by omega) (by omega)
    have b6 : wrap64 (r1 * 16777216 + r2 * 65536 + r3 * 256 + r4) = r1 * 16777216 + r2 * 65536 + r3 * 256 + r4 := w64_id (by omega) (by omega)
    rw [b1, b2, b3, b4, b5, b6]
    have := tmod_bd (x := r1 * 16777216 + r2 * 65536 + r3 * 256 + r4) (by omega) hn
    exact ⟨_, _, _, rfl, this.1, this.2, a4⟩

theorem new_loop (l : List Int) : ∀ (d : Nat) (h i : Int), 0 ≤ i → i + d = 4000 → ∃ h', Ev (fun k => spec_l01New.l0 k l h i) (l, 0, h') := by
  intro d
  induction d with
  | zero =>
    intro h i h0 hd
    refine ⟨h, ev_succ (fun k => by rw [spec_l01New.l0]) ?_⟩
    by_cases c : i < (l.length : Int)
    · simp only [c, if_true, show ¬ (i < 4000) from by omega, if_false]; exact Ev.now _
    · simp only [c, if_false]; exact Ev.now _
  | succ d ih =>
    intro h i h0 hd
    by_cases c : i < (l.length : Int)
    · obtain ⟨h', hh⟩ := ih (Go.bits .and .i64 (wrap64 ((wrap64 ((wrap64 (h * 131)) + (wrap64 (rd l i)))) + 7)) 1073741823) (i + 1) (by omega) (by omega)
      refine ⟨h', ev_succ (fun k => by rw [spec_l01New.l0]) ?_⟩
      have e : wrap64 (i + 1) = i + 1 := w64_id (by omega) (by omega)
      simp only [c, if_true, show (i < 4000) from by omega, h0, e]
      exact hh
    · refine ⟨h, ev_succ (fun k => by rw [spec_l01New.l0]) ?_⟩
      simp only [c, if_false]; exact Ev.now _
theorem new_ok (l : List Int) : ∃ h', Ev (fun k => spec_l01New.f k l) (l, 0, h') := by
  unfold spec_l01New.f
  exact new_loop l 4000 _ 0 (by omega) (by omega)

/-- Twelve places. -/
theorem places_loop (l : List Int) (hl : l.length ≤ 140737488351232) : ∀ (d : Nat) (out : List Int) (i h : Int) (c : Int), c + d = 12 → 0 ≤ c → out.length = c.toNat → (∀ x ∈ out, 0 ≤ x ∧ x < 10000) → At l i →
    ∃ r, Ev (fun k => spec_DrawPlaces.l0 k out c l i h) r ∧ r.length = 12 ∧ ∀ x ∈ r, 0 ≤ x ∧ x < 10000 := by
  intro d
  induction d with
  | zero =>
    intro out i h c hd h0 hlen hx hi
    refine ⟨out, ev_succ (fun k => by rw [spec_DrawPlaces.l0]) ?_, by omega, hx⟩
    simp only [show ¬ (c < 12) from by omega, if_false]
    exact Ev.now _
  | succ d ih =>
    intro out i h c hd h0 hlen hx hi
    obtain ⟨r1, i1, h1, e1, l1, u1, a1⟩ := below_ok l i h 10000 hl hi (by omega)
    obtain ⟨r, hr, hlr, hxr⟩ := ih (out ++ [r1]) i1 h1 (c + 1) (by omega) (by omega) (by rw [List.length_append]; simp; omega) (by
      intro x hm
      rw [List.mem_append] at hm
      rcases hm with hm | hm
      · exact hx x hm
      · simp at hm; subst hm; exact ⟨l1, u1⟩) a1
    refine ⟨r, ev_succ (fun k => by rw [spec_DrawPlaces.l0]) ?_, hlr, hxr⟩
    have e : wrap64 (c + 1) = c + 1 := w64_id (by omega) (by omega)
    simp only [show (c < 12) from by omega, if_true, e1, Option.bind_some, e]
    simp only [show out.length < 17592186044416 from by omega, if_true]
    exact hr
theorem places_ok (l : List Int) (hl : l.length ≤ 140737488351232) : ∃ r, Ev (fun k => spec_DrawPlaces.f k l) r ∧ r.length = 12 ∧ ∀ x ∈ r, 0 ≤ x ∧ x < 10000 := by
  obtain ⟨h', hn⟩ := new_ok l
  obtain ⟨r1, i1, h1, e1, l1, u1, a1⟩ := byte_ok l 0 h' hl ⟨by omega, by omega⟩
  obtain ⟨r, hr, hlr, hxr⟩ := places_loop l hl 12 [] i1 h1 0 (by omega) (by omega) rfl (by simp) a1
  refine ⟨r, ?_, hlr, hxr⟩
  unfold spec_DrawPlaces.f
  refine Ev.bind hn ?_
  simp only [e1, Option.bind_some]
  exact hr
theorem rd_mem {r : List Int} (hx : ∀ x ∈ r, 0 ≤ x ∧ x < 10000) (i : Int) (h0 : 0 ≤ i) (h1 : i < r.length) : 0 ≤ rd r i ∧ rd r i < 10000 := by
  unfold rd
  have hlt : i.toNat < r.length := by omega
  rw [List.getD_eq_getElem?_getD, List.getElem?_eq_getElem hlt]
  exact hx _ (List.getElem_mem hlt)

end Go.Proofs.Ytlmiobfnkdkkjaa.FFnQuotients
