import Derived.Test.YtmgmilnoeghgfaaD4
import Derived.Test.YtmgmilnoeghgfaaQt
set_option linter.unusedVariables false
set_option linter.unusedSimpArgs false
namespace Go.Proofs.Ytmgmilnoeghgfaa
open Go.RowKit Go.Proofs.YtmgmilnoeghgfaaW.PrintWords Go.Proofs.YtmgmilnoeghgfaaW.PrintLast Go.Proofs.YtmgmilnoeghgfaaW.PrintMore Go.Proofs.Ytmgmilnoeghgfaa.PFnExactSolveRules

/-! ### What the law's helpers compute -/
theorem wrap_in {x : Int} (h1 : -9223372036854775808 ≤ x) (h2 : x ≤ 9223372036854775807) : wrap64 x = x := by unfold wrap64; omega
theorem szInt {l : List Int} {a : Int} (h0 : 0 ≤ a) (h1 : a ≤ 1048576) (hl : l.length ≤ 9223372036854775807) : ∃ r, laws_szInt64S.f l a = some r ∧ (r = -1 ∨ (0 ≤ r ∧ r ≤ a ∧ (l.length : Int) ≤ a)) := by
  unfold laws_szInt64S.f
  rw [wrap_in (by omega) (by omega)]
  split
  · exact ⟨_, rfl, .inl rfl⟩
  · exact ⟨_, rfl, .inr ⟨by omega, by omega, by omega⟩⟩
theorem szRule1 {x : S96} {a : Int} (h0 : 0 ≤ a) (h1 : a ≤ 1048576) (hl : x.f1.length ≤ 9223372036854775807) (hl2 : x.f2.length ≤ 9223372036854775807) :
    ∃ r, laws_szRule.f x.f0 x.f1 x.f2 a = some r ∧ (r = -1 ∨ (0 ≤ r ∧ r ≤ a ∧ (x.f1.length : Int) ≤ a ∧ (x.f2.length : Int) ≤ a)) := by
  unfold laws_szRule.f
  obtain ⟨r1, e1, g1⟩ := szInt h0 h1 hl
  rw [e1]
  simp only [Option.bind_some]
  rcases g1 with rfl | ⟨g1, g2, g3⟩
  · exact ⟨_, rfl, .inl rfl⟩
  · rw [if_neg (by omega)]
    obtain ⟨r2, e2, g4⟩ := szInt g1 (by omega) hl2
    rw [e2]
    simp only [Option.bind_some]
    rcases g4 with rfl | ⟨g4, g5, g6⟩
    · exact ⟨_, rfl, .inl rfl⟩
    · rw [if_neg (by omega)]
      exact ⟨_, rfl, .inr ⟨by omega, by omega, by omega, by omega⟩⟩
def Small (l : List S96) : Prop := l.length ≤ 1048576 ∧ ∀ x ∈ l, x.f1.length ≤ 1048576 ∧ x.f2.length ≤ 1048576
theorem szRule_l0 {l : List S96} (hl : l.length ≤ 9223372036854775807) (hx : ∀ x ∈ l, x.f1.length ≤ 9223372036854775807 ∧ x.f2.length ≤ 9223372036854775807) :
    ∀ (n i : Nat) (a : Int), i + n = l.length → 0 ≤ a → a ≤ 1048576 → ∃ r, laws_szRuleS.l0 (n + 1) l a i = some r ∧ (r < 0 ∨ ∀ j, i ≤ j → ∀ hj : j < l.length, l[j].f1.length ≤ 1048576 ∧ l[j].f2.length ≤ 1048576)
  | 0, i, a, hi, h0, h1 => by
    rw [laws_szRuleS.l0, if_neg (by omega)]
    exact ⟨_, rfl, .inr (fun j h1 h2 => by omega)⟩
  | n + 1, i, a, hi, h0, h1 => by
    have hil : i < l.length := by omega
    rw [laws_szRuleS.l0, if_pos (by omega), if_pos (by omega)]
    have e0 : rd_T96 l (i : Int) = l[i] := by simp [rd_T96, List.getD_eq_getElem?_getD, List.getElem?_eq_getElem hil]
    rw [e0]
    obtain ⟨g1, g2⟩ := hx l[i] (List.getElem_mem hil)
    obtain ⟨r1, e1, g3⟩ := szRule1 h0 h1 g1 g2
    rw [e1]
    simp only [Option.bind_some]
    rcases g3 with rfl | ⟨g3, g4, g5, g6⟩
    · exact ⟨_, rfl, .inl (by decide)⟩
    · rw [if_neg (by omega), wrap_in (by omega) (by omega), show (i : Int) + 1 = ((i + 1 : Nat) : Int) by omega]
      obtain ⟨r, e2, g7⟩ := szRule_l0 hl hx n (i + 1) r1 (by omega) g3 (by omega)
      refine ⟨r, e2, g7.imp_right (fun g7 j h3 hj => ?_)⟩
      by_cases hji : j = i
      · subst hji
        omega
      · exact g7 j (by omega) hj
theorem szRules {l : List S96} (hl : l.length ≤ 9223372036854775807) (hx : ∀ x ∈ l, x.f1.length ≤ 9223372036854775807 ∧ x.f2.length ≤ 9223372036854775807) :
    ∃ r, laws_szRuleS.f (l.length + 1) l 1048576 = some r ∧ (r < 0 ∨ Small l) := by
  unfold laws_szRuleS.f
  rw [wrap_in (by omega) (by omega)]
  split
  · exact ⟨_, rfl, .inl (by decide)⟩
  · obtain ⟨r, e, g⟩ := szRule_l0 hl hx l.length 0 (1048576 - l.length) (by omega) (by omega) (by omega)
    refine ⟨r, e, g.imp_right (fun g => ⟨by omega, fun x hx => ?_⟩)⟩
    obtain ⟨j, hj, rfl⟩ := List.getElem_of_mem hx
    exact g j (Nat.zero_le _) hj

theorem toInt_l0 {l : List Int} (hl : l.length ≤ 1048576) : ∀ (n i k : Nat) (x : List Int), i + n = l.length → n < k → x.length = l.length → x.take i = l.take i → laws_toInt64S.l0 k l x i = some l
  | n, i, 0, x, _, h, _, _ => absurd h (Nat.not_lt_zero _)
  | 0, i, k + 1, x, hi, hk, hx, ht => by
    rw [laws_toInt64S.l0, if_neg (by omega)]
    rw [List.take_of_length_le (by omega), List.take_of_length_le (by omega)] at ht
    rw [ht]
  | n + 1, i, k + 1, x, hi, hk, hx, ht => by
    have hil : i < l.length := by omega
    rw [laws_toInt64S.l0, if_pos (by omega), if_pos (by omega), if_pos (by omega), wrap_in (by omega) (by omega), show (i : Int) + 1 = ((i + 1 : Nat) : Int) by omega]
    refine toInt_l0 hl n (i + 1) k _ (by omega) (by omega) (by rw [List.length_set]; exact hx) ?_
    rw [rd_at l i hil, Int.toNat_natCast, List.take_add_one, List.take_add_one, List.take_set_of_le (Nat.le_refl _), ht, List.getElem?_set_self (by omega), List.getElem?_eq_getElem hil]
theorem toInt_f {l : List Int} (hl : l.length ≤ 1048576) {k : Nat} (hk : l.length < k) : laws_toInt64S.f k l = some l := by
  unfold laws_toInt64S.f
  rw [if_pos (by omega), if_pos (by omega)]
  exact toInt_l0 hl l.length 0 k _ (by omega) hk (by simp) (by simp)
def conv (x : S96) : S71 := ⟨x.f0, x.f1, x.f2⟩
theorem toRules_l0 {l : List S96} (hs : Small l) : ∀ (n i k : Nat) (x : List S71), i + n = l.length → n + 1048577 < k → x.length = l.length → x.take i = (l.map conv).take i → laws_toRuleS.l0 k l x i = some (l.map conv)
  | n, i, 0, x, _, h, _, _ => absurd h (Nat.not_lt_zero _)
  | 0, i, k + 1, x, hi, hk, hx, ht => by
    rw [laws_toRuleS.l0, if_neg (by omega)]
    rw [List.take_of_length_le (by omega), List.take_of_length_le (by simp; omega)] at ht
    rw [ht]
  | n + 1, i, k + 1, x, hi, hk, hx, ht => by
    have hil : i < l.length := by omega
    have e0 : rd_T96 l (i : Int) = l[i] := by simp [rd_T96, List.getD_eq_getElem?_getD, List.getElem?_eq_getElem hil]
    obtain ⟨g1, g2⟩ := hs.2 l[i] (List.getElem_mem hil)
    have h0 := hs.1
    rw [laws_toRuleS.l0, if_pos (by omega), if_pos (by omega), e0, laws_toRule.f, toInt_f g1 (by omega), toInt_f g2 (by omega)]
    simp only [Option.bind_some]
    rw [if_pos (by omega), wrap_in (by omega) (by omega), show (i : Int) + 1 = ((i + 1 : Nat) : Int) by omega]
    refine toRules_l0 hs n (i + 1) k _ (by omega) (by omega) (by rw [List.length_set]; exact hx) ?_
    rw [Int.toNat_natCast, List.take_add_one, List.take_add_one, List.take_set_of_le (Nat.le_refl _), ht, List.getElem?_set_self (by omega), List.getElem?_eq_getElem (by simpa using hil)]
    simp [conv]
theorem toRules_f {l : List S96} (hs : Small l) : laws_toRuleS.f (l.length + 1048578) l = some (l.map conv) := by
  unfold laws_toRuleS.f
  have := hs.1
  rw [if_pos (by omega), if_pos (by omega)]
  exact toRules_l0 hs l.length 0 _ _ (by omega) (by omega) (by simp) (by simp)

theorem eqInt_l0 {l : List Int} (hl : l.length ≤ 4611686018427387904) : ∀ (n i k : Nat), i + n = l.length → n < k → laws_eqInt64S.l0 k l l i = some true
  | n, i, 0, _, h => absurd h (Nat.not_lt_zero _)
  | 0, i, k + 1, hi, hk => by rw [laws_eqInt64S.l0, if_neg (by omega)]
  | n + 1, i, k + 1, hi, hk => by
    rw [laws_eqInt64S.l0, if_pos (by omega), if_pos (by omega), if_pos (by omega), if_pos rfl, wrap_in (by omega) (by omega), show (i : Int) + 1 = ((i + 1 : Nat) : Int) by omega]
    exact eqInt_l0 hl n (i + 1) k (by omega) (by omega)
theorem eqInt_f {l : List Int} (hl : l.length ≤ 4611686018427387904) {k : Nat} (hk : l.length < k) : laws_eqInt64S.f k l l = some true := by
  unfold laws_eqInt64S.f
  rw [if_pos rfl]
  exact eqInt_l0 hl l.length 0 k (by omega) hk
def SmallR (l : List S71) : Prop := l.length ≤ 1048576 ∧ ∀ x ∈ l, x.f1.length ≤ 1048576 ∧ x.f2.length ≤ 1048576
theorem Small.conv {l : List S96} (h : Small l) : SmallR (l.map conv) := ⟨by simpa using h.1, fun x hx => by
  obtain ⟨y, hy, rfl⟩ := List.mem_map.1 hx
  exact h.2 y hy⟩
theorem eqRules_l0 {l : List S71} (hs : SmallR l) : ∀ (n i k : Nat), i + n = l.length → n + 1048577 < k → laws_eqRuleS.l0 k l l i = some true
  | n, i, 0, _, h => absurd h (Nat.not_lt_zero _)
  | 0, i, k + 1, hi, hk => by rw [laws_eqRuleS.l0, if_neg (by omega)]
  | n + 1, i, k + 1, hi, hk => by
    have hil : i < l.length := by omega
    have e0 : rd_T71 l (i : Int) = l[i] := by simp [rd_T71, List.getD_eq_getElem?_getD, List.getElem?_eq_getElem hil]
    obtain ⟨g1, g2⟩ := hs.2 l[i] (List.getElem_mem hil)
    have h0 := hs.1
    rw [laws_eqRuleS.l0, if_pos (by omega), if_pos (by omega), if_pos (by omega), e0, laws_eqRule.f, if_pos rfl, eqInt_f (by omega) (by omega), Option.bind_some, if_pos rfl, eqInt_f (by omega) (by omega), Option.bind_some, if_pos rfl, Option.bind_some, if_pos rfl, wrap_in (by omega) (by omega), show (i : Int) + 1 = ((i + 1 : Nat) : Int) by omega]
    exact eqRules_l0 hs n (i + 1) k (by omega) (by omega)
theorem eqRules_f {l : List S71} (hs : SmallR l) : laws_eqRuleS.f (l.length + 1048578) l l = some true := by
  unfold laws_eqRuleS.f
  rw [if_pos rfl]
  exact eqRules_l0 hs l.length 0 _ (by omega) (by omega)
/-- a, a + 1, .. -/
def marks (a : Int) (n : Nat) : List Int := (List.range n).map fun (j : Nat) => a + (j : Int)
theorem marks_length (a : Int) (n : Nat) : (marks a n).length = n := by simp [marks]
theorem held_l0 {a : Int} {m : Nat} (ha : 0 ≤ a) (hm : a + m ≤ 9223372036854775807) : ∀ (n i k : Nat), i + n = m → n < k → laws_heldInt64S.l0 k (marks a m) (a + i) i = some (a + m)
  | n, i, 0, _, h => absurd h (Nat.not_lt_zero _)
  | 0, i, k + 1, hi, hk => by
    rw [laws_heldInt64S.l0, if_neg (by rw [marks_length]; omega)]
    obtain rfl : i = m := by omega
    rfl
  | n + 1, i, k + 1, hi, hk => by
    have e0 : rd (marks a m) (i : Int) = a + i := by
      rw [rd_at _ i (by rw [marks_length]; omega)]
      simp [marks]
    rw [laws_heldInt64S.l0, if_pos (by rw [marks_length]; omega), if_pos (by omega), if_pos e0, wrap_in (by omega) (by omega), wrap_in (by omega) (by omega), show (i : Int) + 1 = ((i + 1 : Nat) : Int) by omega, show a + i + 1 = a + ((i + 1 : Nat) : Int) by omega]
    exact held_l0 ha hm n (i + 1) k (by omega) (by omega)
theorem held_f {a : Int} {m : Nat} (ha : 0 ≤ a) (hm : a + m ≤ 9223372036854775807) {k : Nat} (hk : m < k) : laws_heldInt64S.f k (marks a m) a = some (a + m) := by
  have h := held_l0 ha hm m 0 k (by omega) hk
  simpa [laws_heldInt64S.f] using h
end Go.Proofs.Ytmgmilnoeghgfaa
