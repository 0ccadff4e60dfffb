import Derived.Test.YtmgmilnoeghgfaaD3
set_option linter.unusedVariables false
set_option linter.unusedSimpArgs false
namespace Go.Proofs.Ytmgmilnoeghgfaa
open Go.RowKit Go.Proofs.YtmgmilnoeghgfaaW.PrintWords Go.Proofs.YtmgmilnoeghgfaaW.PrintLast Go.Proofs.YtmgmilnoeghgfaaW.PrintMore Go.Proofs.Ytmgmilnoeghgfaa.PFnExactSolveRules

set_option maxRecDepth 100000 in
set_option maxHeartbeats 2000000 in
theorem specFirst_calls {w0 w : World} {R : List HP} {AR : Option Addr} {cR : Nat} {rules : List Rule} {sh : Nat → Sh} {vars budget : Int}
    (S : Sat w0 R w) (hrd : ReadsRules w0 R AR rules sh) :
    Calls Try.prog 26 #[.slice AR rules.length cR, .int .i64 vars, .int .i64 budget] w (FirstQ w0 R (firstR rules vars budget)) := by
  have HV := Aside0.mk (l16Ask_calls (c := cR) vars budget sh (hrd w S))
  have HS := Aside0.mk S
  cases hv : (okRules rules vars && inB 1 5000 budget)
  · have HF : Aside0 (firstR rules vars budget = ([], 1)) := ⟨by
      unfold firstR
      rw [if_neg]
      intro h
      rw [h.1, h.2] at hv
      simp at hv⟩
    rw [hv] at HV
    clear S hrd hv
    go_enter Try.func26, Try.ntmps26
    go_wp2_with (((with_reducible refine gate_dst (N := 12) rfl ?_); refine goesF (f := 76) (args := #[.slice AR rules.length cR, .int .i64 vars, .int .i64 budget]) rfl rfl rfl (by (try simp only [List.map_toArray, List.map_cons, List.map_nil]); rfl) (Enter.mk Try.func76 (by kernel_rfl) rfl) ?_; refine (HV.out).mono ?_; rintro e e1 ⟨rfl, ⟨m, rfl⟩⟩; refine ⟨_, rfl, ?_⟩))
    go_ret2
    rw [HF.out]
    exact ⟨_, rfl, (HS.out.drewN _).nil _ _⟩
  · obtain ⟨hv1, hv2⟩ : okRules rules vars = true ∧ inB 1 5000 budget = true := by simpa using hv
    obtain ⟨g1, g2, g3⟩ := okRules_good hv1
    have hn : ((vars.toNat : Nat) : Int) = vars := by omega
    have HF : Aside0 (firstR rules vars budget = firstOf budget (resL rules vars budget 1)) := ⟨by simp [firstR, firstOf, hv1, hv2]⟩
    have HC : Aside0 (∀ w', Sat w0 R w' → Calls Try.prog 77 #[.slice AR rules.length cR, .int .i64 vars, .int .i64 budget, .int .i64 1] w' fun e w' => ∃ bx, e = .returned (.pointer (some ⟨bx, 0, none⟩)) ∧ Sat w0 (ResS AR rules.length cR budget 1 bx (resL rules vars budget 1).2.1 ((resL rules vars budget 1).2.2, (resL rules vars budget 1).2.2.length) :: R) w') := ⟨fun w' S' => by
      have h := l16Solve_calls (cR := cR) (most := 1) g3 (by omega) (inB_iff hv2) S' hrd
      rw [all_dup _ _ _ _ (by omega), hn] at h
      exact h⟩
    rw [hv] at HV
    generalize resL rules vars budget 1 = r at *
    obtain ⟨go, steps, found⟩ := r
    dsimp only at HC
    clear S hrd hv g1 g2 g3 hn hv1 hv2
    by_cases hsp : budget < steps
    · have hd : decide (budget < steps) = true := decide_eq_true hsp
      have HF2 : Aside0 (firstR rules vars budget = ([], 10)) := ⟨by rw [HF.out]; simp [firstOf, hsp]⟩
      clear HF
      go_enter Try.func26, Try.ntmps26
      go_wp2_with (first
        | ((with_reducible refine gate_dst (N := 12) rfl ?_); refine goesF (f := 76) (args := #[.slice AR rules.length cR, .int .i64 vars, .int .i64 budget]) rfl rfl rfl (by (try simp only [List.map_toArray, List.map_cons, List.map_nil]); rfl) (Enter.mk Try.func76 (by kernel_rfl) rfl) ?_; refine (HV.out).mono ?_; rintro e e1 ⟨rfl, ⟨m, rfl⟩⟩; refine ⟨_, rfl, ?_⟩)
        | ((with_reducible refine gate_dst (N := 17) rfl ?_); refine goesF (f := 77) (args := #[.slice AR rules.length cR, .int .i64 vars, .int .i64 budget, .int .i64 1]) rfl rfl rfl (by (try simp only [List.map_toArray, List.map_cons, List.map_nil]); rfl) (Enter.mk Try.func77 (by kernel_rfl) rfl) ?_; refine (HC.out _ (HS.out.drewN _)).mono ?_; rintro e e1 ⟨bx, rfl, S2⟩; refine ⟨_, rfl, ?_⟩; obtain ⟨A2, c2, S3⟩ := S2.openS; obtain ⟨hx0, hx1, hx2, hx3, hx4, hx5⟩ := box6 (S3.blk 0 rfl); have HS3 := Aside0.mk S3; clear S2 S3))
      go_ret2
      rw [HF2.out]
      exact ⟨_, rfl, HS3.out.tail.tail.nil _ _⟩
    · have hd : decide (budget < steps) = false := decide_eq_false hsp
      cases found with
      | nil =>
        have HF2 : Aside0 (firstR rules vars budget = ([], 8)) := ⟨by rw [HF.out]; simp [firstOf, hsp]⟩
        clear HF
        go_enter Try.func26, Try.ntmps26
        go_wp2_with (first
          | ((with_reducible refine gate_dst (N := 12) rfl ?_); refine goesF (f := 76) (args := #[.slice AR rules.length cR, .int .i64 vars, .int .i64 budget]) rfl rfl rfl (by (try simp only [List.map_toArray, List.map_cons, List.map_nil]); rfl) (Enter.mk Try.func76 (by kernel_rfl) rfl) ?_; refine (HV.out).mono ?_; rintro e e1 ⟨rfl, ⟨m, rfl⟩⟩; refine ⟨_, rfl, ?_⟩)
          | ((with_reducible refine gate_dst (N := 17) rfl ?_); refine goesF (f := 77) (args := #[.slice AR rules.length cR, .int .i64 vars, .int .i64 budget, .int .i64 1]) rfl rfl rfl (by (try simp only [List.map_toArray, List.map_cons, List.map_nil]); rfl) (Enter.mk Try.func77 (by kernel_rfl) rfl) ?_; refine (HC.out _ (HS.out.drewN _)).mono ?_; rintro e e1 ⟨bx, rfl, S2⟩; refine ⟨_, rfl, ?_⟩; obtain ⟨A2, c2, S3⟩ := S2.openS; obtain ⟨hx0, hx1, hx2, hx3, hx4, hx5⟩ := box6 (S3.blk 0 rfl); have HS3 := Aside0.mk S3; clear S2 S3))
        go_ret2
        rw [HF2.out]
        exact ⟨_, rfl, HS3.out.tail.tail.nil _ _⟩
      | cons x xs =>
        have HF2 : Aside0 (firstR rules vars budget = (x, 0)) := ⟨by rw [HF.out]; simp [firstOf, hsp]⟩
        have hpos : 0 < (x :: xs).length := by simp
        clear HF
        go_enter Try.func26, Try.ntmps26
        go_wp2_with (first
          | ((with_reducible refine gate_dst (N := 12) rfl ?_); refine goesF (f := 76) (args := #[.slice AR rules.length cR, .int .i64 vars, .int .i64 budget]) rfl rfl rfl (by (try simp only [List.map_toArray, List.map_cons, List.map_nil]); rfl) (Enter.mk Try.func76 (by kernel_rfl) rfl) ?_; refine (HV.out).mono ?_; rintro e e1 ⟨rfl, ⟨m, rfl⟩⟩; refine ⟨_, rfl, ?_⟩)
          | ((with_reducible refine gate_dst (N := 17) rfl ?_); refine goesF (f := 77) (args := #[.slice AR rules.length cR, .int .i64 vars, .int .i64 budget, .int .i64 1]) rfl rfl rfl (by (try simp only [List.map_toArray, List.map_cons, List.map_nil]); rfl) (Enter.mk Try.func77 (by kernel_rfl) rfl) ?_; refine (HC.out _ (HS.out.drewN _)).mono ?_; rintro e e1 ⟨bx, rfl, S2⟩; refine ⟨_, rfl, ?_⟩; obtain ⟨A2, c2, S3⟩ := S2.openS; obtain ⟨hx0, hx1, hx2, hx3, hx4, hx5⟩ := box6 (S3.blk 0 rfl); obtain ⟨g, v0, rfl, hv0, S4⟩ := S3.tail.take 0 (by simp); have HS4 := Aside0.mk S4; clear S2 S3 S4))
        go_ret2
        rw [HF2.out]
        exact ⟨v0, rfl, HS4.out⟩
set_option maxRecDepth 100000 in
set_option maxHeartbeats 2000000 in
theorem specSolve_calls {w0 w : World} {R : List HP} {AR : Option Addr} {cR : Nat} {rules : List Rule} {sh : Nat → Sh} {vars budget most : Int}
    (S : Sat w0 R w) (hrd : ReadsRules w0 R AR rules sh) :
    Calls Try.prog 31 #[.slice AR rules.length cR, .int .i64 vars, .int .i64 budget, .int .i64 most] w (SolvesQ w0 R (solveR rules vars budget most)) := by
  have HV := Aside0.mk (l16Ask_calls (c := cR) vars budget sh (hrd w S))
  have HM := Aside0.mk (l00In_calls most 1 100)
  have HS := Aside0.mk S
  cases hv : (okRules rules vars && inB 1 5000 budget)
  · have HF : Aside0 (solveR rules vars budget most = ([], 0, 1)) := ⟨by
      unfold solveR
      rw [if_neg]
      intro h
      rw [h.1, h.2.1] at hv
      simp at hv⟩
    rw [hv] at HV
    clear S hrd hv
    go_enter Try.func31, Try.ntmps31
    go_wp2_with (((with_reducible refine gate_dst (N := 15) rfl ?_); refine goesF (f := 76) (args := #[.slice AR rules.length cR, .int .i64 vars, .int .i64 budget]) rfl rfl rfl (by (try simp only [List.map_toArray, List.map_cons, List.map_nil]); rfl) (Enter.mk Try.func76 (by kernel_rfl) rfl) ?_; refine (HV.out).mono ?_; rintro e e1 ⟨rfl, ⟨m, rfl⟩⟩; refine ⟨_, rfl, ?_⟩))
    go_ret3
    rw [HF.out]
    exact ⟨_, rfl, (HS.out.drewN _).nil _ _⟩
  · rw [hv] at HV
    cases hm : inB 1 100 most
    · have HF : Aside0 (solveR rules vars budget most = ([], 0, 1)) := ⟨by simp [solveR, hm]⟩
      rw [hm] at HM
      clear S hrd hv hm
      go_enter Try.func31, Try.ntmps31
      go_wp2_with (first
        | ((with_reducible refine gate_dst (N := 15) rfl ?_); refine goesF (f := 76) (args := #[.slice AR rules.length cR, .int .i64 vars, .int .i64 budget]) rfl rfl rfl (by (try simp only [List.map_toArray, List.map_cons, List.map_nil]); rfl) (Enter.mk Try.func76 (by kernel_rfl) rfl) ?_; refine (HV.out).mono ?_; rintro e e1 ⟨rfl, ⟨m, rfl⟩⟩; refine ⟨_, rfl, ?_⟩)
        | (go_at_call 80; refine (HM.out _).mono ?_; rintro e e1 ⟨rfl, rfl⟩))
      go_ret3
      rw [HF.out]
      exact ⟨_, rfl, (HS.out.drewN _).nil _ _⟩
    · obtain ⟨hv1, hv2⟩ : okRules rules vars = true ∧ inB 1 5000 budget = true := by simpa using hv
      obtain ⟨g1, g2, g3⟩ := okRules_good hv1
      have hm1 := inB_iff hm
      have hn : ((vars.toNat : Nat) : Int) = vars := by omega
      rw [hm] at HM
      have HF : Aside0 (solveR rules vars budget most = solveOf budget (resL rules vars budget most)) := ⟨by simp [solveR, solveOf, hv1, hv2, hm]⟩
      have HC : Aside0 (∀ w', Sat w0 R w' → Calls Try.prog 77 #[.slice AR rules.length cR, .int .i64 vars, .int .i64 budget, .int .i64 most] w' fun e w' => ∃ bx, e = .returned (.pointer (some ⟨bx, 0, none⟩)) ∧ Sat w0 (ResS AR rules.length cR budget most bx (resL rules vars budget most).2.1 ((resL rules vars budget most).2.2, (resL rules vars budget most).2.2.length) :: R) w') := ⟨fun w' S' => by
        have h := l16Solve_calls (cR := cR) (most := most) g3 (by omega) (inB_iff hv2) S' hrd
        rw [all_dup _ _ _ _ (by omega), hn] at h
        exact h⟩
      generalize resL rules vars budget most = r at *
      obtain ⟨go, steps, found⟩ := r
      dsimp only at HC
      clear S hrd hv g1 g2 g3 hn hv1 hv2 hm hm1
      by_cases hsp : budget < steps
      · have hd : decide (budget < steps) = true := decide_eq_true hsp
        have HF2 : Aside0 (solveR rules vars budget most = ([], 0, 10)) := ⟨by rw [HF.out]; simp [solveOf, hsp]⟩
        clear HF
        go_enter Try.func31, Try.ntmps31
        go_wp2_with (first
          | ((with_reducible refine gate_dst (N := 15) rfl ?_); refine goesF (f := 76) (args := #[.slice AR rules.length cR, .int .i64 vars, .int .i64 budget]) rfl rfl rfl (by (try simp only [List.map_toArray, List.map_cons, List.map_nil]); rfl) (Enter.mk Try.func76 (by kernel_rfl) rfl) ?_; refine (HV.out).mono ?_; rintro e e1 ⟨rfl, ⟨m, rfl⟩⟩; refine ⟨_, rfl, ?_⟩)
          | (go_at_call 80; refine (HM.out _).mono ?_; rintro e e1 ⟨rfl, rfl⟩)
          | ((with_reducible refine gate_dst (N := 26) rfl ?_); refine goesF (f := 77) (args := #[.slice AR rules.length cR, .int .i64 vars, .int .i64 budget, .int .i64 most]) rfl rfl rfl (by (try simp only [List.map_toArray, List.map_cons, List.map_nil]); rfl) (Enter.mk Try.func77 (by kernel_rfl) rfl) ?_; refine (HC.out _ (HS.out.drewN _)).mono ?_; rintro e e1 ⟨bx, rfl, S2⟩; refine ⟨_, rfl, ?_⟩; obtain ⟨A2, c2, S3⟩ := S2.openS; obtain ⟨hx0, hx1, hx2, hx3, hx4, hx5⟩ := box6 (S3.blk 0 rfl); have HS3 := Aside0.mk S3; clear S2 S3))
        go_ret3
        rw [HF2.out]
        exact ⟨_, rfl, HS3.out.tail.tail.nil _ _⟩
      · have hd : decide (budget < steps) = false := decide_eq_false hsp
        have HF2 : Aside0 (solveR rules vars budget most = (found, steps, 0)) := ⟨by rw [HF.out]; simp [solveOf, hsp]⟩
        clear HF
        go_enter Try.func31, Try.ntmps31
        go_wp2_with (first
          | ((with_reducible refine gate_dst (N := 15) rfl ?_); refine goesF (f := 76) (args := #[.slice AR rules.length cR, .int .i64 vars, .int .i64 budget]) rfl rfl rfl (by (try simp only [List.map_toArray, List.map_cons, List.map_nil]); rfl) (Enter.mk Try.func76 (by kernel_rfl) rfl) ?_; refine (HV.out).mono ?_; rintro e e1 ⟨rfl, ⟨m, rfl⟩⟩; refine ⟨_, rfl, ?_⟩)
          | (go_at_call 80; refine (HM.out _).mono ?_; rintro e e1 ⟨rfl, rfl⟩)
          | ((with_reducible refine gate_dst (N := 26) rfl ?_); refine goesF (f := 77) (args := #[.slice AR rules.length cR, .int .i64 vars, .int .i64 budget, .int .i64 most]) rfl rfl rfl (by (try simp only [List.map_toArray, List.map_cons, List.map_nil]); rfl) (Enter.mk Try.func77 (by kernel_rfl) rfl) ?_; refine (HC.out _ (HS.out.drewN _)).mono ?_; rintro e e1 ⟨bx, rfl, S2⟩; refine ⟨_, rfl, ?_⟩; obtain ⟨A2, c2, S3⟩ := S2.openS; obtain ⟨hx0, hx1, hx2, hx3, hx4, hx5⟩ := box6 (S3.blk 0 rfl); have HS3 := Aside0.mk S3; clear S2 S3))
        go_quiet (fail)
        go_wp2
        go_ret3
        rw [HF2.out]
        exact ⟨_, rfl, (HS3.out.tail).drewN _⟩
end Go.Proofs.Ytmgmilnoeghgfaa
