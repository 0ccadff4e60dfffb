import Derived.Test.YtmgmilnoeghgfaaC2
set_option linter.unusedVariables false
set_option linter.unusedSimpArgs false
namespace Go.Proofs.Ytmgmilnoeghgfaa
open Go.RowKit Go.Proofs.YtmgmilnoeghgfaaW.PrintWords Go.Proofs.YtmgmilnoeghgfaaW.PrintLast Go.Proofs.YtmgmilnoeghgfaaW.PrintMore Go.Proofs.Ytmgmilnoeghgfaa.PFnExactSolveRules

theorem inB_iff {a b x : Int} (h : inB a b x = true) : a ≤ x ∧ x ≤ b := by
  simpa [inB] using h
set_option maxRecDepth 100000 in
set_option maxHeartbeats 2000000 in
theorem FirstSolution_calls {w0 w : World} {R : List HP} {AR : Option Addr} {cR : Nat} {rules : List Rule} {sh : Nat → Sh} {vars budget : Int}
    (S : Sat w0 R w) (hrd : ReadsR w0 R AR rules sh) :
    Calls Try.prog 16 #[.slice AR rules.length cR, .int .i64 vars, .int .i64 budget] w (FirstQ w0 R (firstR rules vars budget)) := by
  have HV := Aside0.mk (validRules_calls (c := cR) vars (hrd w S).2)
  have HS := Aside0.mk S
  cases hv : okRules rules vars
  · have HF : Aside0 (firstR rules vars budget = ([], 1)) := ⟨by simp [firstR, hv]⟩
    rw [hv] at HV
    clear S hrd hv
    go_enter Try.func16, Try.ntmps16
    go_wp2_with (((with_reducible refine gate_dst (N := 10) rfl ?_); refine goesF (f := 53) (args := #[.slice AR rules.length cR, .int .i64 vars]) rfl rfl rfl (by (try simp only [List.map_toArray, List.map_cons, List.map_nil]); rfl) (Enter.mk Try.func53 (by kernel_rfl) rfl) ?_; refine (HV.out).mono ?_; rintro e e1 ⟨rfl, hb⟩; refine ⟨_, rfl, ?_⟩; have HS2 := Aside0.mk (HS.out.below hb); clear hb))
    go_ret2
    rw [HF.out]
    exact ⟨_, rfl, HS2.out.nil _ _⟩
  · obtain ⟨g1, g2, g3⟩ := okRules_good hv
    rw [hv] at HV
    have HB := Aside0.mk (isBudget_calls budget)
    cases hb : inB 1 5000 budget
    · have HF : Aside0 (firstR rules vars budget = ([], 1)) := ⟨by simp [firstR, hb]⟩
      rw [hb] at HB
      clear S hrd hv g1 g2 g3 hb
      go_enter Try.func16, Try.ntmps16
      go_wp2_with (first
        | ((with_reducible refine gate_dst (N := 10) rfl ?_); refine goesF (f := 53) (args := #[.slice AR rules.length cR, .int .i64 vars]) rfl rfl rfl (by (try simp only [List.map_toArray, List.map_cons, List.map_nil]); rfl) (Enter.mk Try.func53 (by kernel_rfl) rfl) ?_; refine (HV.out).mono ?_; rintro e e1 ⟨rfl, hb⟩; refine ⟨_, rfl, ?_⟩; have HS2 := Aside0.mk (HS.out.below hb); clear hb)
        | (go_at_call 54; refine (HB.out _).mono ?_; rintro e e1 ⟨rfl, rfl⟩))
      go_ret2
      rw [HF.out]
      exact ⟨_, rfl, HS2.out.nil _ _⟩
    · have HF : Aside0 (firstR rules vars budget = firstOf budget (resL rules vars budget 1)) := ⟨by simp [firstR, firstOf, hv, hb]⟩
      have hn : ((vars.toNat : Nat) : Int) = vars := by omega
      have HC : Aside0 (∀ w', Sat w0 R w' → Calls Try.prog 67 #[.slice AR rules.length cR, .int .i64 vars, .int .i64 budget] w' (FirstQ w0 R (firstOf budget (resL rules vars budget 1)))) := ⟨fun w' S' => by
        have h := firstSolution_calls (cR := cR) g3 (by omega) (inB_iff hb) S' hrd.at_
        rwa [hn] at h⟩
      rw [hb] at HB
      clear S hrd hv g1 g2 g3 hb hn
      unfold FirstQ at HC
      rw [← HF.out] at HC
      clear HF
      generalize firstR rules vars budget = r at *
      obtain ⟨r1, r2⟩ := r
      go_enter Try.func16, Try.ntmps16
      go_wp2_with (first
        | ((with_reducible refine gate_dst (N := 10) rfl ?_); refine goesF (f := 53) (args := #[.slice AR rules.length cR, .int .i64 vars]) rfl rfl rfl (by (try simp only [List.map_toArray, List.map_cons, List.map_nil]); rfl) (Enter.mk Try.func53 (by kernel_rfl) rfl) ?_; refine (HV.out).mono ?_; rintro e e1 ⟨rfl, hb⟩; refine ⟨_, rfl, ?_⟩; have HS2 := Aside0.mk (HS.out.below hb); clear hb)
        | (go_at_call 54; refine (HB.out _).mono ?_; rintro e e1 ⟨rfl, rfl⟩)
        | ((with_reducible refine gate_dst (N := 20) rfl ?_); refine goesF (f := 67) (args := #[.slice AR rules.length cR, .int .i64 vars, .int .i64 budget]) rfl rfl rfl (by (try simp only [List.map_toArray, List.map_cons, List.map_nil]); rfl) (Enter.mk Try.func67 (by kernel_rfl) rfl) ?_; refine (HC.out _ HS2.out).mono ?_; rintro e e1 ⟨v, rfl, S3⟩; refine ⟨_, rfl, ?_⟩; have HS3 := Aside0.mk S3; clear S3))
      go_ret2
      exact ⟨v, rfl, HS3.out⟩

def solveOf (budget : Int) (r : Bool × Int × List (List Int)) : List (List Int) × Int × Int := if budget < r.2.1 then ([], 0, 10) else (r.2.2, r.2.1, 0)
set_option maxRecDepth 100000 in
set_option maxHeartbeats 2000000 in
theorem SolveRules_calls {w0 w : World} {R : List HP} {AR : Option Addr} {cR : Nat} {rules : List Rule} {sh : Nat → Sh} {vars budget most : Int}
    (S : Sat w0 R w) (hrd : ReadsR w0 R AR rules sh) :
    Calls Try.prog 11 #[.slice AR rules.length cR, .int .i64 vars, .int .i64 budget, .int .i64 most] w (SolvesQ w0 R (solveR rules vars budget most)) := by
  have HV := Aside0.mk (validRules_calls (c := cR) vars (hrd w S).2)
  have HS := Aside0.mk S
  cases hv : okRules rules vars
  · have HF : Aside0 (solveR rules vars budget most = ([], 0, 1)) := ⟨by simp [solveR, hv]⟩
    rw [hv] at HV
    clear S hrd hv
    go_enter Try.func11, Try.ntmps11
    go_wp2_with (((with_reducible refine gate_dst (N := 15) rfl ?_); refine goesF (f := 53) (args := #[.slice AR rules.length cR, .int .i64 vars]) rfl rfl rfl (by (try simp only [List.map_toArray, List.map_cons, List.map_nil]); rfl) (Enter.mk Try.func53 (by kernel_rfl) rfl) ?_; refine (HV.out).mono ?_; rintro e e1 ⟨rfl, hb⟩; refine ⟨_, rfl, ?_⟩; have HS2 := Aside0.mk (HS.out.below hb); clear hb))
    go_ret3
    rw [HF.out]
    exact ⟨_, rfl, HS2.out.nil _ _⟩
  · obtain ⟨g1, g2, g3⟩ := okRules_good hv
    rw [hv] at HV
    have HB := Aside0.mk (isBudget_calls budget)
    have HM := Aside0.mk (within_calls most 1 100)
    cases hb : inB 1 5000 budget
    · have HF : Aside0 (solveR rules vars budget most = ([], 0, 1)) := ⟨by simp [solveR, hb]⟩
      rw [hb] at HB
      clear S hrd hv g1 g2 g3 hb
      go_enter Try.func11, Try.ntmps11
      go_wp2_with (first
        | ((with_reducible refine gate_dst (N := 15) rfl ?_); refine goesF (f := 53) (args := #[.slice AR rules.length cR, .int .i64 vars]) rfl rfl rfl (by (try simp only [List.map_toArray, List.map_cons, List.map_nil]); rfl) (Enter.mk Try.func53 (by kernel_rfl) rfl) ?_; refine (HV.out).mono ?_; rintro e e1 ⟨rfl, hb⟩; refine ⟨_, rfl, ?_⟩; have HS2 := Aside0.mk (HS.out.below hb); clear hb)
        | (go_at_call 54; refine (HB.out _).mono ?_; rintro e e1 ⟨rfl, rfl⟩))
      go_ret3
      rw [HF.out]
      exact ⟨_, rfl, HS2.out.nil _ _⟩
    · rw [hb] at HB
      cases hm : inB 1 100 most
      · have HF : Aside0 (solveR rules vars budget most = ([], 0, 1)) := ⟨by simp [solveR, hm]⟩
        rw [hm] at HM
        clear S hrd hv g1 g2 g3 hb hm
        go_enter Try.func11, Try.ntmps11
        go_wp2_with (first
          | ((with_reducible refine gate_dst (N := 15) rfl ?_); refine goesF (f := 53) (args := #[.slice AR rules.length cR, .int .i64 vars]) rfl rfl rfl (by (try simp only [List.map_toArray, List.map_cons, List.map_nil]); rfl) (Enter.mk Try.func53 (by kernel_rfl) rfl) ?_; refine (HV.out).mono ?_; rintro e e1 ⟨rfl, hb⟩; refine ⟨_, rfl, ?_⟩; have HS2 := Aside0.mk (HS.out.below hb); clear hb)
          | (go_at_call 54; refine (HB.out _).mono ?_; rintro e e1 ⟨rfl, rfl⟩)
          | (go_at_call 55; refine (HM.out _).mono ?_; rintro e e1 ⟨rfl, rfl⟩))
        go_ret3
        rw [HF.out]
        exact ⟨_, rfl, HS2.out.nil _ _⟩
      · rw [hm] at HM
        have hn : ((vars.toNat : Nat) : Int) = vars := by omega
        have HF : Aside0 (solveR rules vars budget most = solveOf budget (resL rules vars budget most)) := ⟨by simp [solveR, solveOf, hv, hb, hm]⟩
        have HC : Aside0 (∀ w', Sat w0 R w' → Calls Try.prog 56 #[.slice AR rules.length cR, .int .i64 vars, .int .i64 budget, .int .i64 most] w' (SolveQ w0 R AR cR rules vars.toNat budget most)) := ⟨fun w' S' => by
          have h := solve_calls (cR := cR) (most := most) g3 (by omega) (inB_iff hb) S' hrd.at_
          rwa [hn] at h⟩
        unfold SolveQ at HC
        unfold resL at HF
        generalize (cfgL rules vars.toNat budget most).all [] = r at *
        obtain ⟨go, steps, found⟩ := r
        dsimp only at HC
        clear S hrd hv g1 g2 g3 hb hn hm
        by_cases hsp : budget < steps
        · have hd : decide (budget < steps) = true := decide_eq_true hsp
          have HF2 : Aside0 (solveR rules vars budget most = ([], 0, 10)) := ⟨by rw [HF.out]; simp [solveOf, hsp]⟩
          clear HF
          go_enter Try.func11, Try.ntmps11
          go_wp2_with (first
            | ((with_reducible refine gate_dst (N := 15) rfl ?_); refine goesF (f := 53) (args := #[.slice AR rules.length cR, .int .i64 vars]) rfl rfl rfl (by (try simp only [List.map_toArray, List.map_cons, List.map_nil]); rfl) (Enter.mk Try.func53 (by kernel_rfl) rfl) ?_; refine (HV.out).mono ?_; rintro e e1 ⟨rfl, hb⟩; refine ⟨_, rfl, ?_⟩; have HS2 := Aside0.mk (HS.out.below hb); clear hb)
            | (go_at_call 54; refine (HB.out _).mono ?_; rintro e e1 ⟨rfl, rfl⟩)
            | (go_at_call 55; refine (HM.out _).mono ?_; rintro e e1 ⟨rfl, rfl⟩)
            | ((with_reducible refine gate_dst (N := 32) rfl ?_); refine goesF (f := 56) (args := #[.slice AR rules.length cR, .int .i64 vars, .int .i64 budget, .int .i64 most]) rfl rfl rfl (by (try simp only [List.map_toArray, List.map_cons, List.map_nil]); rfl) (Enter.mk Try.func56 (by kernel_rfl) rfl) ?_; refine (HC.out _ HS2.out).mono ?_; rintro e e1 ⟨vL, bx, gF, gT, capsF, capsT, rfl, S2, hf⟩; refine ⟨_, rfl, ?_⟩; have HS3 := Aside0.mk S2; clear S2 hf)
            | ((with_reducible refine gate_dst (N := 36) rfl ?_); refine goesF (f := 57) (args := #[.pointer (some ⟨bx, 0, none⟩)]) rfl rfl rfl (by (try simp only [List.map_toArray, List.map_cons, List.map_nil]); rfl) (Enter.mk Try.func57 (by kernel_rfl) rfl) ?_; refine (isSpent_calls 1 HS3.out rfl).mono ?_; rintro e e1 ⟨rfl, S3⟩; refine ⟨_, rfl, ?_⟩; have HS4 := Aside0.mk S3; clear S3))
          go_ret3
          rw [HF2.out]
          exact ⟨_, rfl, (HS4.out.tail.tail).nil _ _⟩
        · have hd : decide (budget < steps) = false := decide_eq_false hsp
          have HF2 : Aside0 (solveR rules vars budget most = (found, steps, 0)) := ⟨by rw [HF.out]; simp [solveOf, hsp]⟩
          clear HF
          go_enter Try.func11, Try.ntmps11
          go_wp2_with (first
            | ((with_reducible refine gate_dst (N := 15) rfl ?_); refine goesF (f := 53) (args := #[.slice AR rules.length cR, .int .i64 vars]) rfl rfl rfl (by (try simp only [List.map_toArray, List.map_cons, List.map_nil]); rfl) (Enter.mk Try.func53 (by kernel_rfl) rfl) ?_; refine (HV.out).mono ?_; rintro e e1 ⟨rfl, hb⟩; refine ⟨_, rfl, ?_⟩; have HS2 := Aside0.mk (HS.out.below hb); clear hb)
            | (go_at_call 54; refine (HB.out _).mono ?_; rintro e e1 ⟨rfl, rfl⟩)
            | (go_at_call 55; refine (HM.out _).mono ?_; rintro e e1 ⟨rfl, rfl⟩)
            | ((with_reducible refine gate_dst (N := 32) rfl ?_); refine goesF (f := 56) (args := #[.slice AR rules.length cR, .int .i64 vars, .int .i64 budget, .int .i64 most]) rfl rfl rfl (by (try simp only [List.map_toArray, List.map_cons, List.map_nil]); rfl) (Enter.mk Try.func56 (by kernel_rfl) rfl) ?_; refine (HC.out _ HS2.out).mono ?_; rintro e e1 ⟨vL, bx, gF, gT, capsF, capsT, rfl, S2, hf⟩; refine ⟨_, rfl, ?_⟩; have HS3 := Aside0.mk S2; clear S2 hf)
            | ((with_reducible refine gate_dst (N := 36) rfl ?_); refine goesF (f := 57) (args := #[.pointer (some ⟨bx, 0, none⟩)]) rfl rfl rfl (by (try simp only [List.map_toArray, List.map_cons, List.map_nil]); rfl) (Enter.mk Try.func57 (by kernel_rfl) rfl) ?_; refine (isSpent_calls 1 HS3.out rfl).mono ?_; rintro e e1 ⟨rfl, S3⟩; refine ⟨_, rfl, ?_⟩; have HS4 := Aside0.mk S3; clear S3))
          obtain ⟨hx0, hx1, hx2, hx3, hx4⟩ := box5 (HS4.out.blk 1 rfl)
          go_quiet (fail)
          go_wp2
          go_ret3
          rw [HF2.out]
          exact ⟨vL, rfl, (HS4.out.swap.tail).drewN _⟩
end Go.Proofs.Ytmgmilnoeghgfaa
