import Derived.Test.YtmgmilnoeghgfaaE1
set_option linter.unusedVariables false
set_option linter.unusedSimpArgs false
namespace Go.Proofs.Ytmgmilnoeghgfaa
open Go.RowKit Go.Proofs.YtmgmilnoeghgfaaW.PrintWords Go.Proofs.YtmgmilnoeghgfaaW.PrintLast Go.Proofs.YtmgmilnoeghgfaaW.PrintMore Go.Proofs.Ytmgmilnoeghgfaa.PFnExactSolveRules

/-! ### Marks -/
set_option maxHeartbeats 2000000 in
theorem markInt_calls {w0 w : World} {ps : List HP} {A : Option Addr} {n c : Nat} {xs : List Int} (a : Int) (S : Sat w0 (RwI (.slice A n c) xs :: ps) w) (ha : 0 ≤ a) (hm : a + xs.length ≤ 9223372036854775807) :
    Calls Try.prog 22 #[.slice A n c, .int .i64 a] w fun e w' => e = .returned (.int .i64 (a + xs.length)) ∧ Sat w0 (RwI (.slice A n c) (marks a xs.length) :: ps) w' := by
  have hn := (S.readsAt 0 rfl).1
  subst hn
  have HS0 := Aside0.mk S
  clear S
  go_enter Try.func22, Try.ntmps22
  go_wp2
  go_loopw [1, 5] (fun v1 v5 wr => ∃ k : Nat, k ≤ xs.length ∧ v1 = .int .i64 (a + k) ∧ v5 = .int .i64 k ∧ Aside0 (Sat w0 (RwI (.slice A xs.length c) (marks a k ++ xs.drop k) :: ps) wr)) (fun _ v5 _ => xs.length - (intOf v5).toNat)
  case atStart => exact ⟨0, Nat.zero_le _, by simp, rfl, HS0⟩
  case round =>
    clear HS0
    obtain ⟨k, hk, rfl, rfl, HS⟩ := hrel
    by_cases hlt : k < xs.length
    · have hlen : (marks a k ++ xs.drop k).length = xs.length := by rw [List.length_append, marks_length, List.length_drop]; omega
      obtain ⟨g, rfl, hlx, hat⟩ := HS.out.cellAt 0 rfl (by omega)
      obtain ⟨hx, hf, _⟩ := hat k (by omega)
      obtain ⟨x0, hx0⟩ : ∃ x0, wr.cell? ⟨g, k, none⟩ = some (.int .i64 x0) := ⟨_, hx⟩
      clear hat hx hlx
      have HS2 := Aside0.mk (HS.out.store 0 rfl k (a + (k : Int)))
      have HL := Aside0.mk hlen
      clear hlen
      go_wp2
      refine ⟨⟨k + 1, by omega, by go_num, by go_num, ⟨?_⟩⟩, by simp [intOf]; omega⟩
      have h := HS2.out
      have e0 : (marks a k ++ xs.drop k).set k (a + (k : Int)) = marks a (k + 1) ++ xs.drop (k + 1) := by
        rw [List.set_append_right _ _ (by rw [marks_length]; exact Nat.le_refl _), marks_length, Nat.sub_self, List.drop_eq_getElem_cons hlt, List.set_cons_zero]
        simp [marks, List.range_succ]
      simp only [List.set_cons_zero] at h
      rw [e0] at h
      exact h
    · obtain rfl : k = xs.length := by omega
      go_wp2
      go_ret
      have h := HS.out
      rw [List.drop_length, List.append_nil] at h
      exact ⟨rfl, h⟩
theorem heldInt_calls {w : World} {A : Option Addr} {n c : Nat} (a : Int) (m : Nat) (hr : (Kd.int .i64).C w A n (marks a m)) (hc : n ≤ c) (ha : 0 ≤ a) (hm : a + m ≤ 9223372036854775807) :
    Calls Try.prog 30 #[.slice A n c, .int .i64 a] w fun e w' => e = .returned (.int .i64 (a + m)) ∧ Drawn0 w w' := by
  obtain rfl := Kd.C_len hr
  exact laws_heldInt64S.calls (m + 1) A c (marks a m) a _ w hr hc (held_f ha hm (Nat.lt_succ_self _))

/-- A row's cells are there to be written; they lie in ok, and none in g. -/
def Slots (w : World) (ok : Nat → Prop) (g : Nat) (A : Option Addr) (n : Nat) : Prop := ∀ j, j < n → ∃ b, A = some ⟨b, 0, none⟩ ∧ ok b ∧ b ≠ g ∧ (∃ x, w.cell? ⟨b, j, none⟩ = some x) ∧ w.frozen? ⟨b, j, none⟩ = false
structure Tch (w w' : World) (ok : Nat → Prop) (g : Nat) : Prop where
  chg : Chg w w' ok
  cell : ∀ b x, w.cell? b = some x → ∃ y, w'.cell? b = some y
  frz : ∀ b, w'.frozen? b = w.frozen? b
  at_g : ∀ b, b.block = g → w'.cell? b = w.cell? b
theorem Tch.refl (w : World) (ok : Nat → Prop) (g : Nat) : Tch w w ok g := ⟨.refl _ _, fun _ x h => ⟨x, h⟩, fun _ => rfl, fun _ _ => rfl⟩
theorem Tch.trans {a b c : World} {ok : Nat → Prop} {g : Nat} (h : Tch a b ok g) (k : Tch b c ok g) : Tch a c ok g :=
  ⟨h.chg.trans k.chg, fun q x hx => by obtain ⟨y, hy⟩ := h.cell q x hx; exact k.cell q y hy, fun q => (k.frz q).trans (h.frz q), fun q hq => (k.at_g q hq).trans (h.at_g q hq)⟩
theorem Tch.set (w : World) {ok : Nat → Prop} {g b : Nat} (j : Nat) (u : Value) (hb : ok b) (hg : b ≠ g) : Tch w (w.setCell ⟨b, j, none⟩ u) ok g :=
  ⟨.setCell w _ u hb, fun q x hx => cell?_setCell_some hx, fun q => World.frozen?_setCell .., fun q hq => World.cell?_setCell_other w _ _ u (fun e => hg (by rw [← hq, ← e]))⟩
theorem Slots.move {w w' : World} {ok : Nat → Prop} {g : Nat} {A : Option Addr} {n : Nat} (h : Slots w ok g A n) (t : Tch w w' ok g) : Slots w' ok g A n := fun j hj => by
  obtain ⟨b, h1, h2, h3, ⟨x, h4⟩, h5⟩ := h j hj
  exact ⟨b, h1, h2, h3, t.cell _ x h4, (t.frz _).trans h5⟩
set_option maxHeartbeats 2000000 in
theorem markRaw_calls {w : World} {ok : Nat → Prop} {g : Nat} {A : Option Addr} {n c : Nat} (a : Int) (S : Slots w ok g A n) (ha : 0 ≤ a) (hm : a + n ≤ 9223372036854775807) :
    Calls Try.prog 22 #[.slice A n c, .int .i64 a] w fun e w' => e = .returned (.int .i64 (a + n)) ∧ Tch w w' ok g := by
  have HS := Aside0.mk S
  clear S
  go_enter Try.func22, Try.ntmps22
  go_wp2
  go_loopw [1, 5] (fun v1 v5 wr => ∃ k : Nat, k ≤ n ∧ v1 = .int .i64 (a + k) ∧ v5 = .int .i64 k ∧ Aside0 (Tch w wr ok g)) (fun _ v5 _ => n - (intOf v5).toNat)
  case atStart => exact ⟨0, Nat.zero_le _, by simp, rfl, ⟨.refl _ _ _⟩⟩
  case round =>
    obtain ⟨k, hk, rfl, rfl, HT⟩ := hrel
    by_cases hlt : k < n
    · obtain ⟨b, rfl, hb, hbg, ⟨x, hx⟩, hf⟩ := (HS.out.move HT.out) k hlt
      have HB := Aside0.mk (And.intro hb hbg)
      clear hb hbg
      go_wp2
      exact ⟨⟨k + 1, by omega, by go_num, by go_num, ⟨HT.out.trans (.set _ _ _ HB.out.1 HB.out.2)⟩⟩, by simp [intOf]; omega⟩
    · obtain rfl : k = n := by omega
      go_wp2
      go_ret
      exact ⟨rfl, HT.out⟩

/-- A row of rules at block g that may be marked. -/
def MK (w : World) (ok : Nat → Prop) (g : Nat) (rules : List Rule) (sh : Nat → Sh) : Prop := ∀ k, ∀ hk : k < rules.length,
  (∃ x, w.cell? ⟨g, k * 3, none⟩ = some x) ∧ w.frozen? ⟨g, k * 3, none⟩ = false ∧ w.cell? ⟨g, k * 3 + 1, none⟩ = some (.slice (sh k).a1 rules[k].f1.length (sh k).c1) ∧ w.cell? ⟨g, k * 3 + 2, none⟩ = some (.slice (sh k).a2 rules[k].f2.length (sh k).c2) ∧
    Slots w ok g (sh k).a1 rules[k].f1.length ∧ Slots w ok g (sh k).a2 rules[k].f2.length
theorem MK.move {w w' : World} {ok : Nat → Prop} {g : Nat} {rules : List Rule} {sh : Nat → Sh} (h : MK w ok g rules sh) (t : Tch w w' ok g) : MK w' ok g rules sh := fun k hk => by
  obtain ⟨⟨x, h1⟩, h2, h3, h4, h5, h6⟩ := h k hk
  exact ⟨t.cell _ x h1, (t.frz _).trans h2, (t.at_g _ rfl).trans h3, (t.at_g _ rfl).trans h4, h5.move t, h6.move t⟩
theorem MK.set {w : World} {ok : Nat → Prop} {g : Nat} {rules : List Rule} {sh : Nat → Sh} (h : MK w ok g rules sh) (i : Nat) (u : Value) : MK (w.setCell ⟨g, i * 3, none⟩ u) ok g rules sh := fun k hk => by
  obtain ⟨⟨x, h1⟩, h2, h3, h4, h5, h6⟩ := h k hk
  refine ⟨cell?_setCell_some h1, (World.frozen?_setCell ..).trans h2, ?_, ?_, fun j hj => ?_, fun j hj => ?_⟩
  · exact (World.cell?_setCell_other w _ _ u (fun e => by injection e with _ e _; omega)).trans h3
  · exact (World.cell?_setCell_other w _ _ u (fun e => by injection e with _ e _; omega)).trans h4
  · obtain ⟨b, q1, q2, q3, ⟨x, q4⟩, q5⟩ := h5 j hj
    exact ⟨b, q1, q2, q3, cell?_setCell_some q4, (World.frozen?_setCell ..).trans q5⟩
  · obtain ⟨b, q1, q2, q3, ⟨x, q4⟩, q5⟩ := h6 j hj
    exact ⟨b, q1, q2, q3, cell?_setCell_some q4, (World.frozen?_setCell ..).trans q5⟩
set_option maxHeartbeats 2000000 in
theorem markRules_raw {w : World} {ok : Nat → Prop} {g : Nat} {rules : List Rule} {sh : Nat → Sh} {c : Nat} (h : MK w ok g rules sh) (hg : ok g) (hs : SmallR rules) :
    Calls Try.prog 29 #[.slice (some ⟨g, 0, none⟩) rules.length c, .int .i64 1] w fun e w' => ∃ m : Int, e = .returned (.int .i64 m) ∧ 0 ≤ m ∧ Chg w w' ok := by
  have HM0 := Aside0.mk h
  have HG := Aside0.mk hg
  have HSM := Aside0.mk hs
  have hlen := hs.1
  clear h hg hs
  go_enter Try.func29, Try.ntmps29
  go_wp2
  go_loopw [1, 5] (fun v1 v5 wr => ∃ (k : Nat) (m : Int), k ≤ rules.length ∧ 0 ≤ m ∧ m ≤ 1 + (k : Int) * 2097153 ∧ v1 = .int .i64 m ∧ v5 = .int .i64 k ∧ Aside0 (MK wr ok g rules sh ∧ Chg w wr ok)) (fun _ v5 _ => rules.length - (intOf v5).toNat)
  case atStart => exact ⟨0, 1, Nat.zero_le _, by omega, by omega, rfl, rfl, ⟨HM0.out, .refl _ _⟩⟩
  case round =>
    clear HM0
    obtain ⟨k, m, hk, hm0, hm1, rfl, rfl, HM⟩ := hrel
    by_cases hlt : k < rules.length
    · obtain ⟨⟨x, q1⟩, q2, q3, q4, q5, q6⟩ := HM.out.1 k hlt
      obtain ⟨l1, l2⟩ := HSM.out.2 rules[k] (List.getElem_mem hlt)
      generalize hn1 : rules[k].f1.length = n1 at *
      generalize hn2 : rules[k].f2.length = n2 at *
      have HN := Aside0.mk (And.intro hn1 hn2)
      clear q5 q6 hn1 hn2
      have HM1 := Aside0.mk (HM.out.1.set k (.int .i64 m))
      have HC1 := Aside0.mk (HM.out.2.trans (Chg.setCell wr ⟨g, k * 3, none⟩ (.int .i64 m) HG.out))
      have hw1 : IntKind.i64.wrap (m + 1) = m + 1 := IntWalk.i64_in _ (by omega)
      have hz1 := far_cell (by omega : k * 3 ≠ k * 3 + 1) (.int .i64 m) q3
      have HA := Aside0.mk (fun w' (t : Tch (wr.setCell ⟨g, k * 3, none⟩ (.int .i64 m)) w' ok g) => (HM1.out.move t) k hlt)
      have HA0 := Aside0.mk (HM1.out k hlt)
      rw [HN.out.1, HN.out.2] at HA HA0
      clear HM q4
      go_wp2_with (first
        | ((with_reducible refine gate_dst (N := 25) rfl ?_); refine goesF (f := 22) (args := #[.slice (sh k).a1 n1 (sh k).c1, .int .i64 (m + 1)]) rfl rfl rfl (by (try simp only [List.map_toArray, List.map_cons, List.map_nil]); rfl) (Enter.mk Try.func22 (by kernel_rfl) rfl) ?_; refine (markRaw_calls (m + 1) HA0.out.2.2.2.2.1 (by omega) (by omega)).mono ?_; rintro e e1 ⟨rfl, HT⟩; refine ⟨_, rfl, ?_⟩; have HT1 := Aside0.mk HT; clear HT; have q8 := (HA.out _ HT1.out).2.2.2.1)
        | ((with_reducible refine gate_dst (N := 32) rfl ?_); refine goesF (f := 22) (args := #[.slice (sh k).a2 n2 (sh k).c2, .int .i64 (m + 1 + n1)]) rfl rfl rfl (by (try simp only [List.map_toArray, List.map_cons, List.map_nil]); rfl) (Enter.mk Try.func22 (by kernel_rfl) rfl) ?_; refine (markRaw_calls (m + 1 + n1) (HA.out _ HT1.out).2.2.2.2.2 (by omega) (by omega)).mono ?_; rintro e e1 ⟨rfl, HT⟩; refine ⟨_, rfl, ?_⟩; have HT2 := Aside0.mk (HT1.out.trans HT); clear HT))
      exact ⟨⟨k + 1, m + 1 + n1 + n2, by omega, by omega, by omega, rfl, by go_num, ⟨HM1.out.move HT2.out, HC1.out.trans HT2.out.chg⟩⟩, by simp [intOf]; omega⟩
    · go_wp2
      go_ret
      exact ⟨m, rfl, hm0, HM.out.2⟩
end Go.Proofs.Ytmgmilnoeghgfaa
