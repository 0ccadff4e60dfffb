import Derived.Test.YtmgmilnoeghgfaaMD
import Derived.Test.YtmgmilnoeghgfaaQt
set_option linter.unusedVariables false
set_option linter.unusedSimpArgs false
namespace Go.Proofs.Ytmgmilnoeghgfaa
open Go.RowKit Go.Proofs.YtmgmilnoeghgfaaW.PrintWords Go.Proofs.YtmgmilnoeghgfaaW.PrintLast Go.Proofs.YtmgmilnoeghgfaaW.PrintMore Go.Proofs.Ytmgmilnoeghgfaa.PFnExactSolveRules

/-! ### What the law's helpers compute -/
theorem wrap_in {x : Int} (h1 : -9223372036854775808 ≤ x) (h2 : x ≤ 9223372036854775807) : wrap64 x = x := by unfold wrap64; omega
theorem szInt {l : List Int} {a : Int} (h0 : 0 ≤ a) (h1 : a ≤ 1048576) (hl : l.length ≤ 9223372036854775807) : ∃ r, laws_szInt64S.f l a = some r ∧ (r = -1 ∨ (0 ≤ r ∧ r ≤ a ∧ (l.length : Int) ≤ a)) := by
  unfold laws_szInt64S.f
  rw [wrap_in (by omega) (by omega)]
  split
  · exact ⟨_, rfl, .inl rfl⟩
  · exact ⟨_, rfl, .inr ⟨by omega, by omega, by omega⟩⟩
theorem szRule1 {x : S96} {a : Int} (h0 : 0 ≤ a) (h1 : a ≤ 1048576) (hl : x.f1.length ≤ 9223372036854775807) (hl2 : x.f2.length ≤ 9223372036854775807) :
    ∃ r, laws_szRule.f x.f0 x.f1 x.f2 a = some r ∧ (r = -1 ∨ (0 ≤ r ∧ r ≤ a ∧ (x.f1.length : Int) ≤ a ∧ (x.f2.length : Int) ≤ a)) := by
  unfold laws_szRule.f
  obtain ⟨r1, e1, g1⟩ := szInt h0 h1 hl
  rw [e1]
  simp only [Option.bind_some]
  rcases g1 with rfl | ⟨g1, g2, g3⟩
  · exact ⟨_, rfl, .inl rfl⟩
  · rw [if_neg (by omega)]
    obtain ⟨r2, e2, g4⟩ := szInt g1 (by omega) hl2
    rw [e2]
    simp only [Option.bind_some]
    rcases g4 with rfl | ⟨g4, g5, g6⟩
    · exact ⟨_, rfl, .inl rfl⟩
    · rw [if_neg (by omega)]
      exact ⟨_, rfl, .inr ⟨by omega, by omega, by omega, by omega⟩⟩
def Small (l : List S96) : Prop := l.length ≤ 1048576 ∧ ∀ x ∈ l, x.f1.length ≤ 1048576 ∧ x.f2.length ≤ 1048576
theorem szRule_l0 {l : List S96} (hl : l.length ≤ 9223372036854775807) (hx : ∀ x ∈ l, x.f1.length ≤ 9223372036854775807 ∧ x.f2.length ≤ 9223372036854775807) :
    ∀ (n i : Nat) (a : Int), i + n = l.length → 0 ≤ a → a ≤ 1048576 → ∃ r, laws_szRuleS.l0 (n + 1) l a i = some r ∧ (r < 0 ∨ ∀ j, i ≤ j → ∀ hj : j < l.length, l[j].f1.length ≤ 1048576 ∧ l[j].f2.length ≤ 1048576)
  | 0, i, a, hi, h0, h1 => by
    rw [laws_szRuleS.l0, if_neg (by omega)]
    exact ⟨_, rfl, .inr (fun j h1 h2 => by omega)⟩
  | n + 1, i, a, hi, h0, h1 => by
    have hil : i < l.length := by omega
    rw [laws_szRuleS.l0, if_pos (by omega), if_pos (by omega)]
    have e0 : rd_T96 l (i : Int) = l[i] := by simp [rd_T96, List.getD_eq_getElem?_getD, List.getElem?_eq_getElem hil]
    rw [e0]
    obtain ⟨g1, g2⟩ := hx l[i] (List.getElem_mem hil)
    obtain ⟨r1, e1, g3⟩ := szRule1 h0 h1 g1 g2
    rw [e1]
    simp only [Option.bind_some]
    rcases g3 with rfl | ⟨g3, g4, g5, g6⟩
    · exact ⟨_, rfl, .inl (by decide)⟩
    · rw [if_neg (by omega), wrap_in (by omega) (by omega), show (i : Int) + 1 = ((i + 1 : Nat) : Int) by omega]
      obtain ⟨r, e2, g7⟩ := szRule_l0 hl hx n (i + 1) r1 (by omega) g3 (by omega)
      refine ⟨r, e2, g7.imp_right (fun g7 j h3 hj => ?_)⟩
      by_cases hji : j = i
      · subst hji
        omega
      · exact g7 j (by omega) hj
theorem szRules {l : List S96} (hl : l.length ≤ 9223372036854775807) (hx : ∀ x ∈ l, x.f1.length ≤ 9223372036854775807 ∧ x.f2.length ≤ 9223372036854775807) :
    ∃ r, laws_szRuleS.f (l.length + 1) l 1048576 = some r ∧ (r < 0 ∨ Small l) := by
  unfold laws_szRuleS.f
  rw [wrap_in (by omega) (by omega)]
  split
  · exact ⟨_, rfl, .inl (by decide)⟩
  · obtain ⟨r, e, g⟩ := szRule_l0 hl hx l.length 0 (1048576 - l.length) (by omega) (by omega) (by omega)
    refine ⟨r, e, g.imp_right (fun g => ⟨by omega, fun x hx => ?_⟩)⟩
    obtain ⟨j, hj, rfl⟩ := List.getElem_of_mem hx
    exact g j (Nat.zero_le _) hj

theorem toInt_l0 {l : List Int} (hl : l.length ≤ 1048576) : ∀ (n i k : Nat) (x : List Int), i + n = l.length → n < k → x.length = l.length → x.take i = l.take i → laws_toInt64S.l0 k l x i = some l
  | n, i, 0, x, _, h, _, _ => absurd h (Nat.not_lt_zero _)
  | 0, i, k + 1, x, hi, hk, hx, ht => by
    rw [laws_toInt64S.l0, if_neg (by omega)]
    rw [List.take_of_length_le (by omega), List.take_of_length_le (by omega)] at ht
    rw [ht]
  | n + 1, i, k + 1, x, hi, hk, hx, ht => by
    have hil : i < l.length := by omega
    rw [laws_toInt64S.l0, if_pos (by omega), if_pos (by omega), if_pos (by omega), wrap_in (by omega) (by omega), show (i : Int) + 1 = ((i + 1 : Nat) : Int) by omega]
    refine toInt_l0 hl n (i + 1) k _ (by omega) (by omega) (by rw [List.length_set]; exact hx) ?_
    rw [rd_at l i hil, Int.toNat_natCast, List.take_add_one, List.take_add_one, List.take_set_of_le (Nat.le_refl _), ht, List.getElem?_set_self (by omega), List.getElem?_eq_getElem hil]
theorem toInt_f {l : List Int} (hl : l.length ≤ 1048576) {k : Nat} (hk : l.length < k) : laws_toInt64S.f k l = some l := by
  unfold laws_toInt64S.f
  rw [if_pos (by omega), if_pos (by omega)]
  exact toInt_l0 hl l.length 0 k _ (by omega) hk (by simp) (by simp)
def conv (x : S96) : S71 := ⟨x.f0, x.f1, x.f2⟩
theorem toRules_l0 {l : List S96} (hs : Small l) : ∀ (n i k : Nat) (x : List S71), i + n = l.length → n + 1048577 < k → x.length = l.length → x.take i = (l.map conv).take i → laws_toRuleS.l0 k l x i = some (l.map conv)
  | n, i, 0, x, _, h, _, _ => absurd h (Nat.not_lt_zero _)
  | 0, i, k + 1, x, hi, hk, hx, ht => by
    rw [laws_toRuleS.l0, if_neg (by omega)]
    rw [List.take_of_length_le (by omega), List.take_of_length_le (by simp; omega)] at ht
    rw [ht]
  | n + 1, i, k + 1, x, hi, hk, hx, ht => by
    have hil : i < l.length := by omega
    have e0 : rd_T96 l (i : Int) = l[i] := by simp [rd_T96, List.getD_eq_getElem?_getD, List.getElem?_eq_getElem hil]
    obtain ⟨g1, g2⟩ := hs.2 l[i] (List.getElem_mem hil)
    have h0 := hs.1
    rw [laws_toRuleS.l0, if_pos (by omega), if_pos (by omega), e0, laws_toRule.f, toInt_f g1 (by omega), toInt_f g2 (by omega)]
    simp only [Option.bind_some]
    rw [if_pos (by omega), wrap_in (by omega) (by omega), show (i : Int) + 1 = ((i + 1 : Nat) : Int) by omega]
    refine toRules_l0 hs n (i + 1) k _ (by omega) (by omega) (by rw [List.length_set]; exact hx) ?_
    rw [Int.toNat_natCast, List.take_add_one, List.take_add_one, List.take_set_of_le (Nat.le_refl _), ht, List.getElem?_set_self (by omega), List.getElem?_eq_getElem (by simpa using hil)]
    simp [conv]
theorem toRules_f {l : List S96} (hs : Small l) : laws_toRuleS.f (l.length + 1048578) l = some (l.map conv) := by
  unfold laws_toRuleS.f
  have := hs.1
  rw [if_pos (by omega), if_pos (by omega)]
  exact toRules_l0 hs l.length 0 _ _ (by omega) (by omega) (by simp) (by simp)

theorem eqInt_l0 {l : List Int} (hl : l.length ≤ 4611686018427387904) : ∀ (n i k : Nat), i + n = l.length → n < k → laws_eqInt64S.l0 k l l i = some true
  | n, i, 0, _, h => absurd h (Nat.not_lt_zero _)
  | 0, i, k + 1, hi, hk => by rw [laws_eqInt64S.l0, if_neg (by omega)]
  | n + 1, i, k + 1, hi, hk => by
    rw [laws_eqInt64S.l0, if_pos (by omega), if_pos (by omega), if_pos (by omega), if_pos rfl, wrap_in (by omega) (by omega), show (i : Int) + 1 = ((i + 1 : Nat) : Int) by omega]
    exact eqInt_l0 hl n (i + 1) k (by omega) (by omega)
theorem eqInt_f {l : List Int} (hl : l.length ≤ 4611686018427387904) {k : Nat} (hk : l.length < k) : laws_eqInt64S.f k l l = some true := by
  unfold laws_eqInt64S.f
  rw [if_pos rfl]
  exact eqInt_l0 hl l.length 0 k (by omega) hk
def SmallR (l : List S71) : Prop := l.length ≤ 1048576 ∧ ∀ x ∈ l, x.f1.length ≤ 1048576 ∧ x.f2.length ≤ 1048576
theorem Small.conv {l : List S96} (h : Small l) : SmallR (l.map conv) := ⟨by simpa using h.1, fun x hx => by
  obtain ⟨y, hy, rfl⟩ := List.mem_map.1 hx
  exact h.2 y hy⟩
theorem eqRules_l0 {l : List S71} (hs : SmallR l) : ∀ (n i k : Nat), i + n = l.length → n + 1048577 < k → laws_eqRuleS.l0 k l l i = some true
  | n, i, 0, _, h => absurd h (Nat.not_lt_zero _)
  | 0, i, k + 1, hi, hk => by rw [laws_eqRuleS.l0, if_neg (by omega)]
  | n + 1, i, k + 1, hi, hk => by
    have hil : i < l.length := by omega
    have e0 : rd_T71 l (i : Int) = l[i] := by simp [rd_T71, List.getD_eq_getElem?_getD, List.getElem?_eq_getElem hil]
    obtain ⟨g1, g2⟩ := hs.2 l[i] (List.getElem_mem hil)
    have h0 := hs.1
    rw [laws_eqRuleS.l0, if_pos (by omega), if_pos (by omega), if_pos (by omega), e0, laws_eqRule.f, if_pos rfl, eqInt_f (by omega) (by omega), Option.bind_some, if_pos rfl, eqInt_f (by omega) (by omega), Option.bind_some, if_pos rfl, Option.bind_some, if_pos rfl, wrap_in (by omega) (by omega), show (i : Int) + 1 = ((i + 1 : Nat) : Int) by omega]
    exact eqRules_l0 hs n (i + 1) k (by omega) (by omega)
theorem eqRules_f {l : List S71} (hs : SmallR l) : laws_eqRuleS.f (l.length + 1048578) l l = some true := by
  unfold laws_eqRuleS.f
  rw [if_pos rfl]
  exact eqRules_l0 hs l.length 0 _ (by omega) (by omega)
/-- a, a + 1, .. -/
def marks (a : Int) (n : Nat) : List Int := (List.range n).map fun (j : Nat) => a + (j : Int)
theorem marks_length (a : Int) (n : Nat) : (marks a n).length = n := by simp [marks]
theorem held_l0 {a : Int} {m : Nat} (ha : 0 ≤ a) (hm : a + m ≤ 9223372036854775807) : ∀ (n i k : Nat), i + n = m → n < k → laws_heldInt64S.l0 k (marks a m) (a + i) i = some (a + m)
  | n, i, 0, _, h => absurd h (Nat.not_lt_zero _)
  | 0, i, k + 1, hi, hk => by
    rw [laws_heldInt64S.l0, if_neg (by rw [marks_length]; omega)]
    obtain rfl : i = m := by omega
    rfl
  | n + 1, i, k + 1, hi, hk => by
    have e0 : rd (marks a m) (i : Int) = a + i := by
      rw [rd_at _ i (by rw [marks_length]; omega)]
      simp [marks]
    rw [laws_heldInt64S.l0, if_pos (by rw [marks_length]; omega), if_pos (by omega), if_pos e0, wrap_in (by omega) (by omega), wrap_in (by omega) (by omega), show (i : Int) + 1 = ((i + 1 : Nat) : Int) by omega, show a + i + 1 = a + ((i + 1 : Nat) : Int) by omega]
    exact held_l0 ha hm n (i + 1) k (by omega) (by omega)
theorem held_f {a : Int} {m : Nat} (ha : 0 ≤ a) (hm : a + m ≤ 9223372036854775807) {k : Nat} (hk : m < k) : laws_heldInt64S.f k (marks a m) a = some (a + m) := by
  have h := held_l0 ha hm m 0 k (by omega) hk
  simpa [laws_heldInt64S.f] using h
end Go.Proofs.Ytmgmilnoeghgfaa

set_option linter.unusedVariables false
set_option linter.unusedSimpArgs false
namespace Go.Proofs.Ytmgmilnoeghgfaa
open Go.RowKit Go.Proofs.YtmgmilnoeghgfaaW.PrintWords Go.Proofs.YtmgmilnoeghgfaaW.PrintLast Go.Proofs.YtmgmilnoeghgfaaW.PrintMore Go.Proofs.Ytmgmilnoeghgfaa.PFnExactSolveRules

/-! ### Marks -/
set_option maxHeartbeats 2000000 in
theorem markInt_calls {w0 w : World} {ps : List HP} {A : Option Addr} {n c : Nat} {xs : List Int} (a : Int) (S : Sat w0 (RwI (.slice A n c) xs :: ps) w) (ha : 0 ≤ a) (hm : a + xs.length ≤ 9223372036854775807) :
    Calls Try.prog 22 #[.slice A n c, .int .i64 a] w fun e w' => e = .returned (.int .i64 (a + xs.length)) ∧ Sat w0 (RwI (.slice A n c) (marks a xs.length) :: ps) w' := by
  have hn := (S.readsAt 0 rfl).1
  subst hn
  have HS0 := Aside0.mk S
  clear S
  go_enter Try.func22, Try.ntmps22
  go_wp2
  go_loopw [1, 5] (fun v1 v5 wr => ∃ k : Nat, k ≤ xs.length ∧ v1 = .int .i64 (a + k) ∧ v5 = .int .i64 k ∧ Aside0 (Sat w0 (RwI (.slice A xs.length c) (marks a k ++ xs.drop k) :: ps) wr)) (fun _ v5 _ => xs.length - (intOf v5).toNat)
  case atStart => exact ⟨0, Nat.zero_le _, by simp, rfl, HS0⟩
  case round =>
    clear HS0
    obtain ⟨k, hk, rfl, rfl, HS⟩ := hrel
    by_cases hlt : k < xs.length
    · have hlen : (marks a k ++ xs.drop k).length = xs.length := by rw [List.length_append, marks_length, List.length_drop]; omega
      obtain ⟨g, rfl, hlx, hat⟩ := HS.out.cellAt 0 rfl (by omega)
      obtain ⟨hx, hf, _⟩ := hat k (by omega)
      obtain ⟨x0, hx0⟩ : ∃ x0, wr.cell? ⟨g, k, none⟩ = some (.int .i64 x0) := ⟨_, hx⟩
      clear hat hx hlx
      have HS2 := Aside0.mk (HS.out.store 0 rfl k (a + (k : Int)))
      have HL := Aside0.mk hlen
      clear hlen
      go_wp2
      refine ⟨⟨k + 1, by omega, by go_num, by go_num, ⟨?_⟩⟩, by simp [intOf]; omega⟩
      have h := HS2.out
      have e0 : (marks a k ++ xs.drop k).set k (a + (k : Int)) = marks a (k + 1) ++ xs.drop (k + 1) := by
        rw [List.set_append_right _ _ (by rw [marks_length]; exact Nat.le_refl _), marks_length, Nat.sub_self, List.drop_eq_getElem_cons hlt, List.set_cons_zero]
        simp [marks, List.range_succ]
      simp only [List.set_cons_zero] at h
      rw [e0] at h
      exact h
    · obtain rfl : k = xs.length := by omega
      go_wp2
      go_ret
      have h := HS.out
      rw [List.drop_length, List.append_nil] at h
      exact ⟨rfl, h⟩
theorem heldInt_calls {w : World} {A : Option Addr} {n c : Nat} (a : Int) (m : Nat) (hr : (Kd.int .i64).C w A n (marks a m)) (hc : n ≤ c) (ha : 0 ≤ a) (hm : a + m ≤ 9223372036854775807) :
    Calls Try.prog 30 #[.slice A n c, .int .i64 a] w fun e w' => e = .returned (.int .i64 (a + m)) ∧ Drawn0 w w' := by
  obtain rfl := Kd.C_len hr
  exact laws_heldInt64S.calls (m + 1) A c (marks a m) a _ w hr hc (held_f ha hm (Nat.lt_succ_self _))

/-- A row's cells are there to be written; they lie in ok, and none in g. -/
def Slots (w : World) (ok : Nat → Prop) (g : Nat) (A : Option Addr) (n : Nat) : Prop := ∀ j, j < n → ∃ b, A = some ⟨b, 0, none⟩ ∧ ok b ∧ b ≠ g ∧ (∃ x, w.cell? ⟨b, j, none⟩ = some x) ∧ w.frozen? ⟨b, j, none⟩ = false
structure Tch (w w' : World) (ok : Nat → Prop) (g : Nat) : Prop where
  chg : Chg w w' ok
  cell : ∀ b x, w.cell? b = some x → ∃ y, w'.cell? b = some y
  frz : ∀ b, w'.frozen? b = w.frozen? b
  at_g : ∀ b, b.block = g → w'.cell? b = w.cell? b
theorem Tch.refl (w : World) (ok : Nat → Prop) (g : Nat) : Tch w w ok g := ⟨.refl _ _, fun _ x h => ⟨x, h⟩, fun _ => rfl, fun _ _ => rfl⟩
theorem Tch.trans {a b c : World} {ok : Nat → Prop} {g : Nat} (h : Tch a b ok g) (k : Tch b c ok g) : Tch a c ok g :=
  ⟨h.chg.trans k.chg, fun q x hx => by obtain ⟨y, hy⟩ := h.cell q x hx; exact k.cell q y hy, fun q => (k.frz q).trans (h.frz q), fun q hq => (k.at_g q hq).trans (h.at_g q hq)⟩
theorem Tch.set (w : World) {ok : Nat → Prop} {g b : Nat} (j : Nat) (u : Value) (hb : ok b) (hg : b ≠ g) : Tch w (w.setCell ⟨b, j, none⟩ u) ok g :=
  ⟨.setCell w _ u hb, fun q x hx => cell?_setCell_some hx, fun q => World.frozen?_setCell .., fun q hq => World.cell?_setCell_other w _ _ u (fun e => hg (by rw [← hq, ← e]))⟩
theorem Slots.move {w w' : World} {ok : Nat → Prop} {g : Nat} {A : Option Addr} {n : Nat} (h : Slots w ok g A n) (t : Tch w w' ok g) : Slots w' ok g A n := fun j hj => by
  obtain ⟨b, h1, h2, h3, ⟨x, h4⟩, h5⟩ := h j hj
  exact ⟨b, h1, h2, h3, t.cell _ x h4, (t.frz _).trans h5⟩
set_option maxHeartbeats 2000000 in
theorem markRaw_calls {w : World} {ok : Nat → Prop} {g : Nat} {A : Option Addr} {n c : Nat} (a : Int) (S : Slots w ok g A n) (ha : 0 ≤ a) (hm : a + n ≤ 9223372036854775807) :
    Calls Try.prog 22 #[.slice A n c, .int .i64 a] w fun e w' => e = .returned (.int .i64 (a + n)) ∧ Tch w w' ok g := by
  have HS := Aside0.mk S
  clear S
  go_enter Try.func22, Try.ntmps22
  go_wp2
  go_loopw [1, 5] (fun v1 v5 wr => ∃ k : Nat, k ≤ n ∧ v1 = .int .i64 (a + k) ∧ v5 = .int .i64 k ∧ Aside0 (Tch w wr ok g)) (fun _ v5 _ => n - (intOf v5).toNat)
  case atStart => exact ⟨0, Nat.zero_le _, by simp, rfl, ⟨.refl _ _ _⟩⟩
  case round =>
    obtain ⟨k, hk, rfl, rfl, HT⟩ := hrel
    by_cases hlt : k < n
    · obtain ⟨b, rfl, hb, hbg, ⟨x, hx⟩, hf⟩ := (HS.out.move HT.out) k hlt
      have HB := Aside0.mk (And.intro hb hbg)
      clear hb hbg
      go_wp2
      exact ⟨⟨k + 1, by omega, by go_num, by go_num, ⟨HT.out.trans (.set _ _ _ HB.out.1 HB.out.2)⟩⟩, by simp [intOf]; omega⟩
    · obtain rfl : k = n := by omega
      go_wp2
      go_ret
      exact ⟨rfl, HT.out⟩

/-- A row of rules at block g that may be marked. -/
def MK (w : World) (ok : Nat → Prop) (g : Nat) (rules : List Rule) (sh : Nat → Sh) : Prop := ∀ k, ∀ hk : k < rules.length,
  (∃ x, w.cell? ⟨g, k * 3, none⟩ = some x) ∧ w.frozen? ⟨g, k * 3, none⟩ = false ∧ w.cell? ⟨g, k * 3 + 1, none⟩ = some (.slice (sh k).a1 rules[k].f1.length (sh k).c1) ∧ w.cell? ⟨g, k * 3 + 2, none⟩ = some (.slice (sh k).a2 rules[k].f2.length (sh k).c2) ∧
    Slots w ok g (sh k).a1 rules[k].f1.length ∧ Slots w ok g (sh k).a2 rules[k].f2.length
theorem MK.move {w w' : World} {ok : Nat → Prop} {g : Nat} {rules : List Rule} {sh : Nat → Sh} (h : MK w ok g rules sh) (t : Tch w w' ok g) : MK w' ok g rules sh := fun k hk => by
  obtain ⟨⟨x, h1⟩, h2, h3, h4, h5, h6⟩ := h k hk
  exact ⟨t.cell _ x h1, (t.frz _).trans h2, (t.at_g _ rfl).trans h3, (t.at_g _ rfl).trans h4, h5.move t, h6.move t⟩
theorem MK.set {w : World} {ok : Nat → Prop} {g : Nat} {rules : List Rule} {sh : Nat → Sh} (h : MK w ok g rules sh) (i : Nat) (u : Value) : MK (w.setCell ⟨g, i * 3, none⟩ u) ok g rules sh := fun k hk => by
  obtain ⟨⟨x, h1⟩, h2, h3, h4, h5, h6⟩ := h k hk
  refine ⟨cell?_setCell_some h1, (World.frozen?_setCell ..).trans h2, ?_, ?_, fun j hj => ?_, fun j hj => ?_⟩
  · exact (World.cell?_setCell_other w _ _ u (fun e => by injection e with _ e _; omega)).trans h3
  · exact (World.cell?_setCell_other w _ _ u (fun e => by injection e with _ e _; omega)).trans h4
  · obtain ⟨b, q1, q2, q3, ⟨x, q4⟩, q5⟩ := h5 j hj
    exact ⟨b, q1, q2, q3, cell?_setCell_some q4, (World.frozen?_setCell ..).trans q5⟩
  · obtain ⟨b, q1, q2, q3, ⟨x, q4⟩, q5⟩ := h6 j hj
    exact ⟨b, q1, q2, q3, cell?_setCell_some q4, (World.frozen?_setCell ..).trans q5⟩
set_option maxHeartbeats 2000000 in
theorem markRules_raw {w : World} {ok : Nat → Prop} {g : Nat} {rules : List Rule} {sh : Nat → Sh} {c : Nat} (h : MK w ok g rules sh) (hg : ok g) (hs : SmallR rules) :
    Calls Try.prog 29 #[.slice (some ⟨g, 0, none⟩) rules.length c, .int .i64 1] w fun e w' => ∃ m : Int, e = .returned (.int .i64 m) ∧ 0 ≤ m ∧ Chg w w' ok := by
  have HM0 := Aside0.mk h
  have HG := Aside0.mk hg
  have HSM := Aside0.mk hs
  have hlen := hs.1
  clear h hg hs
  go_enter Try.func29, Try.ntmps29
  go_wp2
  go_loopw [1, 5] (fun v1 v5 wr => ∃ (k : Nat) (m : Int), k ≤ rules.length ∧ 0 ≤ m ∧ m ≤ 1 + (k : Int) * 2097153 ∧ v1 = .int .i64 m ∧ v5 = .int .i64 k ∧ Aside0 (MK wr ok g rules sh ∧ Chg w wr ok)) (fun _ v5 _ => rules.length - (intOf v5).toNat)
  case atStart => exact ⟨0, 1, Nat.zero_le _, by omega, by omega, rfl, rfl, ⟨HM0.out, .refl _ _⟩⟩
  case round =>
    clear HM0
    obtain ⟨k, m, hk, hm0, hm1, rfl, rfl, HM⟩ := hrel
    by_cases hlt : k < rules.length
    · obtain ⟨⟨x, q1⟩, q2, q3, q4, q5, q6⟩ := HM.out.1 k hlt
      obtain ⟨l1, l2⟩ := HSM.out.2 rules[k] (List.getElem_mem hlt)
      generalize hn1 : rules[k].f1.length = n1 at *
      generalize hn2 : rules[k].f2.length = n2 at *
      have HN := Aside0.mk (And.intro hn1 hn2)
      clear q5 q6 hn1 hn2
      have HM1 := Aside0.mk (HM.out.1.set k (.int .i64 m))
      have HC1 := Aside0.mk (HM.out.2.trans (Chg.setCell wr ⟨g, k * 3, none⟩ (.int .i64 m) HG.out))
      have hw1 : IntKind.i64.wrap (m + 1) = m + 1 := IntWalk.i64_in _ (by omega)
      have hz1 := far_cell (by omega : k * 3 ≠ k * 3 + 1) (.int .i64 m) q3
      have HA := Aside0.mk (fun w' (t : Tch (wr.setCell ⟨g, k * 3, none⟩ (.int .i64 m)) w' ok g) => (HM1.out.move t) k hlt)
      have HA0 := Aside0.mk (HM1.out k hlt)
      rw [HN.out.1, HN.out.2] at HA HA0
      clear HM q4
      go_wp2_with (first
        | ((with_reducible refine gate_dst (N := 25) rfl ?_); refine goesF (f := 22) (args := #[.slice (sh k).a1 n1 (sh k).c1, .int .i64 (m + 1)]) rfl rfl rfl (by (try simp only [List.map_toArray, List.map_cons, List.map_nil]); rfl) (Enter.mk Try.func22 (by kernel_rfl) rfl) ?_; refine (markRaw_calls (m + 1) HA0.out.2.2.2.2.1 (by omega) (by omega)).mono ?_; rintro e e1 ⟨rfl, HT⟩; refine ⟨_, rfl, ?_⟩; have HT1 := Aside0.mk HT; clear HT; have q8 := (HA.out _ HT1.out).2.2.2.1)
        | ((with_reducible refine gate_dst (N := 32) rfl ?_); refine goesF (f := 22) (args := #[.slice (sh k).a2 n2 (sh k).c2, .int .i64 (m + 1 + n1)]) rfl rfl rfl (by (try simp only [List.map_toArray, List.map_cons, List.map_nil]); rfl) (Enter.mk Try.func22 (by kernel_rfl) rfl) ?_; refine (markRaw_calls (m + 1 + n1) (HA.out _ HT1.out).2.2.2.2.2 (by omega) (by omega)).mono ?_; rintro e e1 ⟨rfl, HT⟩; refine ⟨_, rfl, ?_⟩; have HT2 := Aside0.mk (HT1.out.trans HT); clear HT))
      exact ⟨⟨k + 1, m + 1 + n1 + n2, by omega, by omega, by omega, rfl, by go_num, ⟨HM1.out.move HT2.out, HC1.out.trans HT2.out.chg⟩⟩, by simp [intOf]; omega⟩
    · go_wp2
      go_ret
      exact ⟨m, rfl, hm0, HM.out.2⟩
end Go.Proofs.Ytmgmilnoeghgfaa

set_option linter.unusedVariables false
set_option linter.unusedSimpArgs false
namespace Go.Proofs.Ytmgmilnoeghgfaa
open Go.RowKit Go.Proofs.YtmgmilnoeghgfaaW.PrintWords Go.Proofs.YtmgmilnoeghgfaaW.PrintLast Go.Proofs.YtmgmilnoeghgfaaW.PrintMore Go.Proofs.Ytmgmilnoeghgfaa.PFnExactSolveRules

theorem toRules_calls {w0 W : World} {ps : List HP} {A : Option Addr} {c : Nat} {l : List S96} (S : Sat w0 ps W) (hr : k96.C W A l.length l) (hc : l.length ≤ c) (hs : Small l) :
    Calls Try.prog 27 #[.slice A l.length c] W fun e w' => ∃ A' c', e = .returned (.slice A' (l.map conv).length c') ∧ (l.map conv).length ≤ c' ∧ Sat w0 (Rw kRule 71 (.slice A' (l.map conv).length c') (l.map conv) :: ps) w' := by
  refine (laws_toRuleS.calls _ A c l _ W hr hc (toRules_f hs)).mono ?_
  rintro e w' ⟨v, rfl, hS, hb⟩
  have S2 := S.fresh (Kd.S_R hS) hb
  obtain ⟨A', c', rfl, hle, _⟩ := S2.reads 0 rfl
  exact ⟨A', c', rfl, hle, S2⟩
theorem eqInt_calls {w : World} {A A2 : Option Addr} {c c2 : Nat} {xs : List Int} (h1 : (Kd.int .i64).C w A xs.length xs) (h2 : (Kd.int .i64).C w A2 xs.length xs) (hc : xs.length ≤ c) (hc2 : xs.length ≤ c2) (hl : xs.length ≤ 4611686018427387904) :
    Calls Try.prog 21 #[.slice A xs.length c, .slice A2 xs.length c2] w fun e w' => e = .returned (.bool true) ∧ Drawn0 w w' :=
  laws_eqInt64S.calls (xs.length + 1) A c xs A2 c2 xs true w h1 hc h2 hc2 (eqInt_f hl (Nat.lt_succ_self _))
theorem eqRules_calls {w : World} {A A2 : Option Addr} {c c2 : Nat} {rules : List Rule} (h1 : kRule.C w A rules.length rules) (h2 : kRule.C w A2 rules.length rules) (hc : rules.length ≤ c) (hc2 : rules.length ≤ c2) (hs : SmallR rules) :
    Calls Try.prog 28 #[.slice A rules.length c, .slice A2 rules.length c2] w fun e w' => e = .returned (.bool true) ∧ Below w.heap.size w w' :=
  laws_eqRuleS.calls _ A c rules A2 c2 rules true w h1 hc h2 hc2 (eqRules_f hs)
theorem slots_of {w : World} {ok : Nat → Prop} {g : Nat} {A : Option Addr} {n c : Nat} {xs : List Int} (h : (Kd.int .i64).R 2 w 0 (fun k => ok k ∧ k ≠ g) (.slice A n c) xs) : Slots w ok g A xs.length := by
  intro j hj
  have ho := Kd.own_of_R h
  have hn := (Kd.R_reads' h).1
  rcases ho.2 with ⟨h', h2⟩ | ⟨b, cap, cur, h', _⟩
  · omega
  · injection h' with hA h2 h3
    subst hA h3
    have hb := h.1 b rfl
    obtain ⟨q1, q2, q3⟩ := own_cell (by rw [← h2] at ho; exact ho) j hj
    exact ⟨b, rfl, hb.1, hb.2, ⟨_, q1⟩, q2⟩
theorem markRules_calls {w0 w : World} {ps : List HP} {A : Option Addr} {c : Nat} {rules : List Rule} {sh : Nat → Sh} (S : Sat w0 (RwR 71 (.slice A rules.length c) A rules sh :: ps) w) (hs : SmallR rules) :
    Calls Try.prog 29 #[.slice A rules.length c, .int .i64 1] w fun e w' => ∃ m : Int, e = .returned (.int .i64 m) ∧ 0 ≤ m ∧ Sat w0 ps w' := by
  by_cases h0 : rules.length = 0
  · have S1 := Aside0.mk S.tail
    rw [h0]
    clear S
    go_enter Try.func29, Try.ntmps29
    go_wp2
    go_loopw [1, 5] (fun v1 v5 wr => v1 = .int .i64 1 ∧ v5 = .int .i64 0 ∧ wr = w) (fun _ _ _ => 0)
    case atStart => exact ⟨rfl, rfl, rfl⟩
    case round =>
      obtain ⟨rfl, rfl, rfl⟩ := hrel
      go_wp2
      go_ret
      exact ⟨1, rfl, by decide, S1.out⟩
  · obtain ⟨ok, hl, hb, hu⟩ := S.upd 0 rfl
    obtain ⟨hR, hRA⟩ := hl.now
    have hg : ∃ g, A = some ⟨g, 0, none⟩ ∧ ok g ∧ ∀ k, k < rules.length → w.frozen? ⟨g, k * 3, none⟩ = false := by
      obtain ⟨h1, inner, ho, hr⟩ := hR
      rcases ho.2 with ⟨h', h2⟩ | ⟨b, cap, cur, h', _, hh, _, _, _, _⟩
      · omega
      · injection h' with hA h2 h3
        subst hA
        exact ⟨b, rfl, h1 b rfl, fun k hk => by simp [World.frozen?, hh]⟩
    obtain ⟨g, rfl, hokg, hfr⟩ := hg
    have hMK : MK w ok g rules sh := by
      intro k hk
      obtain ⟨ad, e1, d0, d1, d2, _, _⟩ := hRA.2 k hk
      cases e1
      obtain ⟨cs, hcl, hM, hcc⟩ := Kd.R_getA hR z71 (k : Int) (by omega) (by omega)
      have e0 : rules.getD (k : Int).toNat z71 = rules[k] := by simp [List.getD_eq_getElem?_getD, List.getElem?_eq_getElem hk]
      rw [e0] at hM
      obtain ⟨v1, v2, rfl, g1, g2⟩ := k71_openM hM
      have c1 := hcc 1 v1 rfl
      have c2 := hcc 2 v2 rfl
      have hz : k71.sz = 3 := rfl
      rw [hz] at c1 c2
      simp only [Int.toNat_natCast] at c1 c2
      have f1 : (Addr.add ⟨g, 0, none⟩ (k * 3 + 1)) = ⟨g, k * 3 + 1, none⟩ := by simp [Addr.add]
      have f2 : (Addr.add ⟨g, 0, none⟩ (k * 3 + 2)) = ⟨g, k * 3 + 2, none⟩ := by simp [Addr.add]
      have f0 : (Addr.add ⟨g, 0, none⟩ (k * 3)) = ⟨g, k * 3, none⟩ := by simp [Addr.add]; omega
      rw [f1] at c1
      rw [f2] at c2
      rw [f0] at d0 d1 d2
      rw [d1] at c1
      rw [d2] at c2
      obtain rfl := Option.some.inj c1
      obtain rfl := Option.some.inj c2
      refine ⟨⟨_, d0⟩, hfr k hk, d1, d2, slots_of (Kd.R_mono g1 (fun q hq => ⟨hq.1, fun e => hq.2 (by rw [e]; rfl)⟩)), slots_of (Kd.R_mono g2 (fun q hq => ⟨hq.1, fun e => hq.2 (by rw [e]; rfl)⟩))⟩
    refine (markRules_raw (c := c) hMK hokg hs).mono ?_
    rintro e w' ⟨m, rfl, hm, hch⟩
    have S2 := hu w' (Imm fun _ => True) (fun _ => False) hch (fun _ h => h.elim) (fun _ _ => trivial)
    exact ⟨m, rfl, hm, S2.tail⟩
end Go.Proofs.Ytmgmilnoeghgfaa

set_option linter.unusedVariables false
set_option linter.unusedSimpArgs false
namespace Go.Proofs.Ytmgmilnoeghgfaa
open Go.RowKit Go.Proofs.YtmgmilnoeghgfaaW.PrintWords Go.Proofs.YtmgmilnoeghgfaaW.PrintLast Go.Proofs.YtmgmilnoeghgfaaW.PrintMore Go.Proofs.Ytmgmilnoeghgfaa.PFnExactSolveRules

/-- A row of rules in the frame is read. -/
theorem ReadsR.of {w0 : World} {R : List HP} {A : Option Addr} {c : Nat} {rules : List Rule} {sh : Nat → Sh} (i : Nat) (hp : R[i]? = some (RwR 71 (.slice A rules.length c) A rules sh)) : ReadsR w0 R A rules sh := fun w S => by
  obtain ⟨ok, h, _⟩ := S.at_ i hp
  exact ⟨h.2, (Kd.R_reads' h.1).2.2⟩
theorem Sat.marksAt {w0 w : World} {ps : List HP} (S : Sat w0 ps w) (i : Nat) {A : Option Addr} {n c : Nat} {a : Int} {m : Nat} (hp : ps[i]? = some (RwI (.slice A n c) (marks a m))) : (Kd.int .i64).C w A n (marks a m) := S.readsN i hp
theorem search_len {n : Nat} {rules : List Rule} {budget most : Int} (hok : ∀ r ∈ rules, OkRule r n) : ∀ (d : Nat) (steps : Int) (xs : List (List Int)) (vs : List Int), Vals n vs → (∀ x ∈ xs, x.length = n) →
    ∀ x ∈ ((cfgL rules n budget most).search d steps xs vs).2.2, x.length = n
  | 0, steps, xs, vs, hv, h => h
  | d + 1, steps, xs, vs, hv, h => by
    by_cases hover : budget < steps + 1
    · have e2 : (cfgL rules n budget most).search (d + 1) steps xs vs = (false, steps + 1, xs) := by simp only [Cfg.search, searchR]; rw [if_pos hover]
      rw [e2]
      exact h
    · obtain ⟨⟨bad, us, st⟩, hp0⟩ : ∃ x, propR rules (zeros vs + 1) vs [] = x := ⟨_, rfl⟩
      have hpv := prop_vals hok (zeros vs + 1) vs [] hv
      rw [hp0] at hpv
      have e2 := search_unfold (cfgL rules n budget most) d steps xs vs hover hp0
      rw [foldl_still] at e2
      dsimp only at e2
      by_cases hbad : 0 ≤ bad
      · rw [if_pos hbad] at e2
        rw [e2]
        exact h
      · rw [if_neg hbad] at e2
        by_cases hix : idxOf (· == 0) us < 0
        · rw [if_pos hix] at e2
          rw [e2]
          intro x hx
          have hx2 : x ∈ xs ++ [us] := hx
          rw [List.mem_append] at hx2
          rcases hx2 with hx2 | hx2
          · exact h x hx2
          · have : x = us := by simpa using hx2
            rw [this]
            exact hpv.1.len
        · rw [if_neg hix] at e2
          have i1 := search_len hok d (steps + 1) xs (us.set (idxOf (· == 0) us).toNat 1) (hpv.1.set _ (by simp [unit3])) h (budget := budget) (most := most)
          rw [e2]
          split
          · exact i1
          · exact search_len hok d _ _ _ (hpv.1.set _ (by simp [unit3])) i1
theorem first_len {rules : List Rule} {vars budget : Int} : (firstR rules vars budget).1.length ≤ 200 := by
  unfold firstR
  split
  · rename_i hv
    obtain ⟨g1, g2, g3⟩ := okRules_good hv.1
    have h := search_len (budget := budget) (most := 1) g3 (vars.toNat + 1) 0 [] (List.replicate vars.toNat 0) (vals_made _) (by simp)
    split
    · simp
    · split
      · simp
      · rename_i x xs e
        have := h x (by
          have e2 : ((cfgL rules vars.toNat budget 1).search (vars.toNat + 1) 0 [] (List.replicate vars.toNat 0)).2.2 = x :: xs := e
          rw [e2]
          simp)
        show x.length ≤ 200
        omega
  · simp
theorem inner_max {w : World} {A : Option Addr} {l : List S96} (hr : k96.C w A l.length l) : ∀ x ∈ l, x.f1.length ≤ 9223372036854775807 ∧ x.f2.length ≤ 9223372036854775807 := by
  intro x hx
  obtain ⟨k, hk, rfl⟩ := List.getElem_of_mem hx
  obtain ⟨ad, A1, c1, A2, c2, _, _, _, _, _, g1, _, g2⟩ := at_T96 hr (k : Int) (by omega) (by omega)
  have e0 : rd_T96 l (k : Int) = l[k] := by simp [rd_T96, List.getD_eq_getElem?_getD, List.getElem?_eq_getElem hk]
  rw [e0] at g1 g2
  exact ⟨Kd.C_max g1, Kd.C_max g2⟩
set_option maxRecDepth 100000 in
set_option maxHeartbeats 8000000 in
theorem firstLaw_walk (A : Option Addr) (c : Nat) (l : List S96) (vars budget : Int) (w : World) (hr : k96.C w A l.length l) (hc : l.length ≤ c) :
    Calls Try.prog 5 #[.slice A l.length c, .int .i64 vars, .int .i64 budget] w fun e w' => e = .returned (.bool true) ∧ Below w.heap.size w w' := by
  have hmax := Kd.C_max hr
  obtain ⟨sz, hsz, hsm⟩ := szRules hmax (inner_max hr)
  have HR := Aside0.mk hr
  have HC := Aside0.mk hc
  have HSZ := Aside0.mk (laws_szRuleS.calls _ A c l _ sz w hr hc hsz)
  have HS0 := Aside0.mk (Sat.start w)
  clear hr hc hsz hmax
  by_cases hneg : sz < 0
  · have hd : decide (sz < 0) = true := decide_eq_true hneg
    go_enter Try.func5, Try.ntmps5
    go_wp2_with (((with_reducible refine gate_dst (N := 20) rfl ?_); refine goesF (f := 25) (args := #[.slice A l.length c, .int .i64 1048576]) rfl rfl rfl (by (try simp only [List.map_toArray, List.map_cons, List.map_nil]); rfl) (Enter.mk Try.func25 (by kernel_rfl) rfl) ?_; refine (HSZ.out).mono ?_; rintro e e1 ⟨rfl, hb⟩; refine ⟨_, rfl, ?_⟩; have HB := Aside0.mk hb; clear hb))
    go_ret
    exact ⟨rfl, HB.out⟩
  · have hd : decide (sz < 0) = false := decide_eq_false hneg
    have HSM := Aside0.mk (hsm.resolve_left hneg)
    have HSR := Aside0.mk HSM.out.conv
    clear hsm
    obtain ⟨rs, hrs⟩ : ∃ rs, rs = l.map conv := ⟨_, rfl⟩
    rw [← hrs] at HSR
    have HRS := Aside0.mk hrs
    clear hrs
    have HT := Aside0.mk (fun (W : World) (ps : List HP) (S : Sat w ps W) (i : Nat) (hi : ps[i]? = some (Old w)) => toRules_calls S (Kd.C_below HR.out (S.to_below i hi)) HC.out HSM.out)
    rw [← HRS.out] at HT
    obtain ⟨⟨want, st⟩, hw⟩ : ∃ r, r = firstR rs vars budget := ⟨_, rfl⟩
    have HW := Aside0.mk hw
    clear hw
    have HLEN : Aside0 (want.length ≤ 4611686018427387904) := ⟨by have h := first_len (rules := rs) (vars := vars) (budget := budget); rw [← HW.out] at h; dsimp only at h; omega⟩
    go_enter Try.func5, Try.ntmps5
    go_wp2_with (first
      | ((with_reducible refine gate_dst (N := 20) rfl ?_); refine goesF (f := 25) (args := #[.slice A l.length c, .int .i64 1048576]) rfl rfl rfl (by (try simp only [List.map_toArray, List.map_cons, List.map_nil]); rfl) (Enter.mk Try.func25 (by kernel_rfl) rfl) ?_; refine (HSZ.out).mono ?_; rintro e e1 ⟨rfl, hb⟩; refine ⟨_, rfl, ?_⟩; have HS1 := Aside0.mk (HS0.out.below hb); clear hb)
      | ((with_reducible refine gate_dst (N := 25) rfl ?_); refine goesF (f := 27) (args := #[.slice A l.length c]) rfl rfl rfl (by (try simp only [List.map_toArray, List.map_cons, List.map_nil]); rfl) (Enter.mk Try.func27 (by kernel_rfl) rfl) ?_; refine (HT.out _ _ HS1.out 0 rfl).mono ?_; rintro e e1 ⟨A1, c1, rfl, hle1, S2⟩; refine ⟨_, rfl, ?_⟩; obtain ⟨sh1, S3⟩ := S2.shape 0 rfl; have HS3 := Aside0.mk S3; have HL1 := Aside0.mk hle1; clear S2 S3 hle1)
      | ((with_reducible refine gate_dst (N := 28) rfl ?_); refine goesF (f := 26) (args := #[.slice A1 rs.length c1, .int .i64 vars, .int .i64 budget]) rfl rfl rfl (by (try simp only [List.map_toArray, List.map_cons, List.map_nil]); rfl) (Enter.mk Try.func26 (by kernel_rfl) rfl) ?_; refine (specFirst_calls HS3.out (ReadsR.of 0 rfl).at_).mono ?_; rintro e e1 ⟨v1, rfl, S4⟩; refine ⟨_, rfl, ?_⟩; rw [← HW.out] at S4 ⊢; obtain ⟨B1, d1, rfl, hle1, _⟩ := S4.reads 0 rfl; have HS4 := Aside0.mk S4; have HM1 := Aside0.mk hle1; clear S4 hle1)
      | ((with_reducible refine gate_dst (N := 32) rfl ?_); refine goesF (f := 27) (args := #[.slice A l.length c]) rfl rfl rfl (by (try simp only [List.map_toArray, List.map_cons, List.map_nil]); rfl) (Enter.mk Try.func27 (by kernel_rfl) rfl) ?_; refine (HT.out _ _ HS4.out 2 rfl).mono ?_; rintro e e1 ⟨A2, c2, rfl, hle1, S2⟩; refine ⟨_, rfl, ?_⟩; obtain ⟨sh2, S3⟩ := S2.shape 0 rfl; have HS5 := Aside0.mk S3; have HL2 := Aside0.mk hle1; clear S2 S3 hle1)
      | ((with_reducible refine gate_dst (N := 37) rfl ?_); refine goesF (f := 16) (args := #[.slice A2 rs.length c2, .int .i64 vars, .int .i64 budget]) rfl rfl rfl (by (try simp only [List.map_toArray, List.map_cons, List.map_nil]); rfl) (Enter.mk Try.func16 (by kernel_rfl) rfl) ?_; refine (FirstSolution_calls HS5.out (ReadsR.of 0 rfl)).mono ?_; rintro e e1 ⟨v1, rfl, S4⟩; refine ⟨_, rfl, ?_⟩; rw [← HW.out] at S4 ⊢; obtain ⟨B2, d2, rfl, hle1, _⟩ := S4.reads 0 rfl; have HS6 := Aside0.mk S4; have HM2 := Aside0.mk hle1; clear S4 hle1)
      | ((with_reducible refine gate_dst (N := 42) rfl ?_); refine goesF (f := 21) (args := #[.slice B2 want.length d2, .slice B1 want.length d1]) rfl rfl rfl (by (try simp only [List.map_toArray, List.map_cons, List.map_nil]); rfl) (Enter.mk Try.func21 (by kernel_rfl) rfl) ?_; refine (eqInt_calls (HS6.out.readsAt 0 rfl).2.2 (HS6.out.readsAt 2 rfl).2.2 HM2.out HM1.out HLEN.out).mono ?_; rintro e e1 ⟨rfl, hq⟩; refine ⟨_, rfl, ?_⟩; have HS7 := Aside0.mk (HS6.out.drawn hq); clear hq)
      | ((with_reducible refine gate_dst (N := 51) rfl ?_); refine goesF (f := 27) (args := #[.slice A l.length c]) rfl rfl rfl (by (try simp only [List.map_toArray, List.map_cons, List.map_nil]); rfl) (Enter.mk Try.func27 (by kernel_rfl) rfl) ?_; refine (HT.out _ _ HS7.out 4 rfl).mono ?_; rintro e e1 ⟨A3, c3, rfl, hle1, S2⟩; refine ⟨_, rfl, ?_⟩; have HS8 := Aside0.mk S2; have HL3 := Aside0.mk hle1; clear S2 hle1)
      | ((with_reducible refine gate_dst (N := 52) rfl ?_); refine goesF (f := 28) (args := #[.slice A2 rs.length c2, .slice A3 rs.length c3]) rfl rfl rfl (by (try simp only [List.map_toArray, List.map_cons, List.map_nil]); rfl) (Enter.mk Try.func28 (by kernel_rfl) rfl) ?_; refine (eqRules_calls ((ReadsR.of 2 rfl) _ HS8.out).2 (HS8.out.readsAt 0 rfl).2.2 HL2.out HL3.out HSR.out).mono ?_; rintro e e1 ⟨rfl, hb⟩; refine ⟨_, rfl, ?_⟩; have HS9 := Aside0.mk (HS8.out.below hb); clear hb)
      | ((with_reducible refine gate_dst (N := 56) rfl ?_); refine goesF (f := 29) (args := #[.slice A2 rs.length c2, .int .i64 1]) rfl rfl rfl (by (try simp only [List.map_toArray, List.map_cons, List.map_nil]); rfl) (Enter.mk Try.func29 (by kernel_rfl) rfl) ?_; refine (markRules_calls (HS9.out.front 2 rfl) HSR.out).mono ?_; rintro e e1 ⟨m1, rfl, hm1, S2⟩; refine ⟨_, rfl, ?_⟩; have hm1d : decide (m1 < 0) = false := decide_eq_false (by omega); have HS10 := Aside0.mk S2; clear S2)
      | (go_at_call 21; refine (eqInt_calls (HS10.out.readsAt 1 rfl).2.2 (HS10.out.readsAt 2 rfl).2.2 HM2.out HM1.out HLEN.out).mono ?_; rintro e e1 ⟨rfl, hq⟩; have HS11 := Aside0.mk (HS10.out.drawn hq); clear hq)
      | ((with_reducible refine gate_dst (N := 72) rfl ?_); refine goesF (f := 22) (args := #[.slice B2 want.length d2, .int .i64 1]) rfl rfl rfl (by (try simp only [List.map_toArray, List.map_cons, List.map_nil]); rfl) (Enter.mk Try.func22 (by kernel_rfl) rfl) ?_; refine (markInt_calls 1 (HS11.out.front 1 rfl) (by decide) (by have := HLEN.out; omega)).mono ?_; rintro e e1 ⟨rfl, S2⟩; refine ⟨_, rfl, ?_⟩; have HS12 := Aside0.mk S2; clear S2)
      | ((with_reducible refine gate_dst (N := 75) rfl ?_); refine goesF (f := 30) (args := #[.slice B2 want.length d2, .int .i64 1]) rfl rfl rfl (by (try simp only [List.map_toArray, List.map_cons, List.map_nil]); rfl) (Enter.mk Try.func30 (by kernel_rfl) rfl) ?_; refine (heldInt_calls 1 want.length (HS12.out.marksAt 0 rfl) HM2.out (by decide) (by have := HLEN.out; omega)).mono ?_; rintro e e1 ⟨rfl, hq⟩; refine ⟨_, rfl, ?_⟩; have HS13 := Aside0.mk (HS12.out.drawn hq); clear hq)
      | ((with_reducible refine gate_dst (N := 83) rfl ?_); refine goesF (f := 27) (args := #[.slice A l.length c]) rfl rfl rfl (by (try simp only [List.map_toArray, List.map_cons, List.map_nil]); rfl) (Enter.mk Try.func27 (by kernel_rfl) rfl) ?_; refine (HT.out _ _ HS13.out 4 rfl).mono ?_; rintro e e1 ⟨A4, c4, rfl, hle1, S2⟩; refine ⟨_, rfl, ?_⟩; obtain ⟨sh4, S3⟩ := S2.shape 0 rfl; have HS14 := Aside0.mk S3; have HL4 := Aside0.mk hle1; clear S2 S3 hle1)
      | ((with_reducible refine gate_dst (N := 86) rfl ?_); refine goesF (f := 16) (args := #[.slice A4 rs.length c4, .int .i64 vars, .int .i64 budget]) rfl rfl rfl (by (try simp only [List.map_toArray, List.map_cons, List.map_nil]); rfl) (Enter.mk Try.func16 (by kernel_rfl) rfl) ?_; refine (FirstSolution_calls HS14.out (ReadsR.of 0 rfl)).mono ?_; rintro e e1 ⟨v1, rfl, S4⟩; refine ⟨_, rfl, ?_⟩; rw [← HW.out] at S4 ⊢; obtain ⟨B3, d3, rfl, hle1, _⟩ := S4.reads 0 rfl; have HS15 := Aside0.mk S4; have HM3 := Aside0.mk hle1; clear S4 hle1)
      | ((with_reducible refine gate_dst (N := 91) rfl ?_); refine goesF (f := 21) (args := #[.slice B3 want.length d3, .slice B1 want.length d1]) rfl rfl rfl (by (try simp only [List.map_toArray, List.map_cons, List.map_nil]); rfl) (Enter.mk Try.func21 (by kernel_rfl) rfl) ?_; refine (eqInt_calls (HS15.out.readsAt 0 rfl).2.2 (HS15.out.readsAt 4 rfl).2.2 HM3.out HM1.out HLEN.out).mono ?_; rintro e e1 ⟨rfl, hq⟩; refine ⟨_, rfl, ?_⟩; have HS16 := Aside0.mk (HS15.out.drawn hq); clear hq)
      | ((with_reducible refine gate_dst (N := 100) rfl ?_); refine goesF (f := 30) (args := #[.slice B2 want.length d2, .int .i64 1]) rfl rfl rfl (by (try simp only [List.map_toArray, List.map_cons, List.map_nil]); rfl) (Enter.mk Try.func30 (by kernel_rfl) rfl) ?_; refine (heldInt_calls 1 want.length (HS16.out.marksAt 2 rfl) HM2.out (by decide) (by have := HLEN.out; omega)).mono ?_; rintro e e1 ⟨rfl, hq⟩; refine ⟨_, rfl, ?_⟩; have HS17 := Aside0.mk (HS16.out.drawn hq); clear hq))
    go_ret
    exact ⟨rfl, HS17.out.to_below 6 rfl⟩
end Go.Proofs.Ytmgmilnoeghgfaa
