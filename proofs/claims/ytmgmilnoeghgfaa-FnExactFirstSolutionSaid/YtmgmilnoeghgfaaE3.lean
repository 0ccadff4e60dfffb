import Derived.Test.YtmgmilnoeghgfaaE2
set_option linter.unusedVariables false
set_option linter.unusedSimpArgs false
namespace Go.Proofs.Ytmgmilnoeghgfaa
open Go.RowKit Go.Proofs.YtmgmilnoeghgfaaW.PrintWords Go.Proofs.YtmgmilnoeghgfaaW.PrintLast Go.Proofs.YtmgmilnoeghgfaaW.PrintMore Go.Proofs.Ytmgmilnoeghgfaa.PFnExactSolveRules

theorem toRules_calls {w0 W : World} {ps : List HP} {A : Option Addr} {c : Nat} {l : List S96} (S : Sat w0 ps W) (hr : k96.C W A l.length l) (hc : l.length ≤ c) (hs : Small l) :
    Calls Try.prog 27 #[.slice A l.length c] W fun e w' => ∃ A' c', e = .returned (.slice A' (l.map conv).length c') ∧ (l.map conv).length ≤ c' ∧ Sat w0 (Rw kRule 71 (.slice A' (l.map conv).length c') (l.map conv) :: ps) w' := by
  refine (laws_toRuleS.calls _ A c l _ W hr hc (toRules_f hs)).mono ?_
  rintro e w' ⟨v, rfl, hS, hb⟩
  have S2 := S.fresh (Kd.S_R hS) hb
  obtain ⟨A', c', rfl, hle, _⟩ := S2.reads 0 rfl
  exact ⟨A', c', rfl, hle, S2⟩
theorem eqInt_calls {w : World} {A A2 : Option Addr} {c c2 : Nat} {xs : List Int} (h1 : (Kd.int .i64).C w A xs.length xs) (h2 : (Kd.int .i64).C w A2 xs.length xs) (hc : xs.length ≤ c) (hc2 : xs.length ≤ c2) (hl : xs.length ≤ 4611686018427387904) :
    Calls Try.prog 21 #[.slice A xs.length c, .slice A2 xs.length c2] w fun e w' => e = .returned (.bool true) ∧ Drawn0 w w' :=
  laws_eqInt64S.calls (xs.length + 1) A c xs A2 c2 xs true w h1 hc h2 hc2 (eqInt_f hl (Nat.lt_succ_self _))
theorem eqRules_calls {w : World} {A A2 : Option Addr} {c c2 : Nat} {rules : List Rule} (h1 : kRule.C w A rules.length rules) (h2 : kRule.C w A2 rules.length rules) (hc : rules.length ≤ c) (hc2 : rules.length ≤ c2) (hs : SmallR rules) :
    Calls Try.prog 28 #[.slice A rules.length c, .slice A2 rules.length c2] w fun e w' => e = .returned (.bool true) ∧ Below w.heap.size w w' :=
  laws_eqRuleS.calls _ A c rules A2 c2 rules true w h1 hc h2 hc2 (eqRules_f hs)
theorem slots_of {w : World} {ok : Nat → Prop} {g : Nat} {A : Option Addr} {n c : Nat} {xs : List Int} (h : (Kd.int .i64).R 2 w 0 (fun k => ok k ∧ k ≠ g) (.slice A n c) xs) : Slots w ok g A xs.length := by
  intro j hj
  have ho := Kd.own_of_R h
  have hn := (Kd.R_reads' h).1
  rcases ho.2 with ⟨h', h2⟩ | ⟨b, cap, cur, h', _⟩
  · omega
  · injection h' with hA h2 h3
    subst hA h3
    have hb := h.1 b rfl
    obtain ⟨q1, q2, q3⟩ := own_cell (by rw [← h2] at ho; exact ho) j hj
    exact ⟨b, rfl, hb.1, hb.2, ⟨_, q1⟩, q2⟩
theorem markRules_calls {w0 w : World} {ps : List HP} {A : Option Addr} {c : Nat} {rules : List Rule} {sh : Nat → Sh} (S : Sat w0 (RwR 71 (.slice A rules.length c) A rules sh :: ps) w) (hs : SmallR rules) :
    Calls Try.prog 29 #[.slice A rules.length c, .int .i64 1] w fun e w' => ∃ m : Int, e = .returned (.int .i64 m) ∧ 0 ≤ m ∧ Sat w0 ps w' := by
  by_cases h0 : rules.length = 0
  · have S1 := Aside0.mk S.tail
    rw [h0]
    clear S
    go_enter Try.func29, Try.ntmps29
    go_wp2
    go_loopw [1, 5] (fun v1 v5 wr => v1 = .int .i64 1 ∧ v5 = .int .i64 0 ∧ wr = w) (fun _ _ _ => 0)
    case atStart => exact ⟨rfl, rfl, rfl⟩
    case round =>
      obtain ⟨rfl, rfl, rfl⟩ := hrel
      go_wp2
      go_ret
      exact ⟨1, rfl, by decide, S1.out⟩
  · obtain ⟨ok, hl, hb, hu⟩ := S.upd 0 rfl
    obtain ⟨hR, hRA⟩ := hl.now
    have hg : ∃ g, A = some ⟨g, 0, none⟩ ∧ ok g ∧ ∀ k, k < rules.length → w.frozen? ⟨g, k * 3, none⟩ = false := by
      obtain ⟨h1, inner, ho, hr⟩ := hR
      rcases ho.2 with ⟨h', h2⟩ | ⟨b, cap, cur, h', _, hh, _, _, _, _⟩
      · omega
      · injection h' with hA h2 h3
        subst hA
        exact ⟨b, rfl, h1 b rfl, fun k hk => by simp [World.frozen?, hh]⟩
    obtain ⟨g, rfl, hokg, hfr⟩ := hg
    have hMK : MK w ok g rules sh := by
      intro k hk
      obtain ⟨ad, e1, d0, d1, d2, _, _⟩ := hRA.2 k hk
      cases e1
      obtain ⟨cs, hcl, hM, hcc⟩ := Kd.R_getA hR z71 (k : Int) (by omega) (by omega)
      have e0 : rules.getD (k : Int).toNat z71 = rules[k] := by simp [List.getD_eq_getElem?_getD, List.getElem?_eq_getElem hk]
      rw [e0] at hM
      obtain ⟨v1, v2, rfl, g1, g2⟩ := k71_openM hM
      have c1 := hcc 1 v1 rfl
      have c2 := hcc 2 v2 rfl
      have hz : k71.sz = 3 := rfl
      rw [hz] at c1 c2
      simp only [Int.toNat_natCast] at c1 c2
      have f1 : (Addr.add ⟨g, 0, none⟩ (k * 3 + 1)) = ⟨g, k * 3 + 1, none⟩ := by simp [Addr.add]
      have f2 : (Addr.add ⟨g, 0, none⟩ (k * 3 + 2)) = ⟨g, k * 3 + 2, none⟩ := by simp [Addr.add]
      have f0 : (Addr.add ⟨g, 0, none⟩ (k * 3)) = ⟨g, k * 3, none⟩ := by simp [Addr.add]; omega
      rw [f1] at c1
      rw [f2] at c2
      rw [f0] at d0 d1 d2
      rw [d1] at c1
      rw [d2] at c2
      obtain rfl := Option.some.inj c1
      obtain rfl := Option.some.inj c2
      refine ⟨⟨_, d0⟩, hfr k hk, d1, d2, slots_of (Kd.R_mono g1 (fun q hq => ⟨hq.1, fun e => hq.2 (by rw [e]; rfl)⟩)), slots_of (Kd.R_mono g2 (fun q hq => ⟨hq.1, fun e => hq.2 (by rw [e]; rfl)⟩))⟩
    refine (markRules_raw (c := c) hMK hokg hs).mono ?_
    rintro e w' ⟨m, rfl, hm, hch⟩
    have S2 := hu w' (Imm fun _ => True) (fun _ => False) hch (fun _ h => h.elim) (fun _ _ => trivial)
    exact ⟨m, rfl, hm, S2.tail⟩
end Go.Proofs.Ytmgmilnoeghgfaa
