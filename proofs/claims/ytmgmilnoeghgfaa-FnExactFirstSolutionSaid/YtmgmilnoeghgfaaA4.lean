import Derived.Test.YtmgmilnoeghgfaaA3
import Derived.Lib.SliceRun
set_option linter.unusedVariables false
set_option linter.unusedSimpArgs false
namespace Go.Proofs.Ytmgmilnoeghgfaa
open Go.RowKit Go.Proofs.YtmgmilnoeghgfaaW.PrintWords Go.Proofs.YtmgmilnoeghgfaaW.PrintLast Go.Proofs.YtmgmilnoeghgfaaW.PrintMore Go.Proofs.Ytmgmilnoeghgfaa.PFnExactSolveRules

theorem l16Open_calls (A : Option Addr) (c : Nat) (xs : List Int) (w : World) (hr : (Kd.int .i64).C w A xs.length xs) :
    Calls Try.prog 125 #[.slice A xs.length c] w fun e w' => e = .returned (.int .i64 (idxOf (· == 0) xs)) ∧ w = w' := by
  have HR := Aside0.mk hr
  have hm := Kd.C_max hr
  clear hr
  go_enter Try.func125, Try.ntmps125
  go_wp2
  go_loop [3] (fun v3 => ∃ k : Nat, k ≤ xs.length ∧ v3 = .int .i64 k ∧ Aside0 (AllNo (· == 0) xs k)) (fun v3 => xs.length - (intOf v3).toNat)
  case atStart => exact ⟨0, Nat.zero_le _, rfl, ⟨fun j hj h => by omega⟩⟩
  case round =>
    obtain ⟨k, hk, rfl, HP⟩ := hrel
    by_cases hlt : k < xs.length
    · obtain ⟨ad, e1, hx⟩ := Kd.at_int HR.out (k : Int) (by omega) (by omega)
      cases e1
      simp only [Int.toNat_natCast] at hx
      rw [rd_at xs k hlt] at hx
      generalize hx0 : xs[k] = x at *
      have HX0 := Aside0.mk hx0
      clear hx0
      cases hpx : (x == 0)
      · go_wp2
        exact ⟨⟨k + 1, by omega, by go_num, ⟨HP.out.step hlt (by rw [HX0.out]; exact hpx)⟩⟩, by simp [intOf]; omega⟩
      · go_wp2
        go_ret
        exact ⟨ret_num (idxOf_at (· == 0) xs k hlt HP.out (by rw [HX0.out]; exact hpx)).symm, rfl⟩
    · go_wp2
      go_ret
      exact ⟨ret_num (idxOf_none (· == 0) xs (fun j hj => HP.out j hj (by omega))).symm, rfl⟩

theorem index0_calls (A : Option Addr) (c : Nat) (xs : List Int) (w : World) (hr : (Kd.int .i64).C w A xs.length xs) :
    Calls Try.prog 168 #[.slice A xs.length c, .int .i64 0] w fun e w' => e = .returned (.int .i64 (idxOf (· == 0) xs)) ∧ w = w' := by
  have HR := Aside0.mk hr
  have hm := Kd.C_max hr
  clear hr
  go_enter Try.func168, Try.ntmps168
  go_wp2
  go_loop [5, 8] (fun v5 v8 => ∃ k : Nat, k ≤ xs.length ∧ v8 = .int .i64 k ∧ Aside0 (AllNo (· == 0) xs k)) (fun _ v8 => xs.length - (intOf v8).toNat)
  case atStart => exact ⟨0, Nat.zero_le _, rfl, ⟨fun j hj h => by omega⟩⟩
  case round =>
    obtain ⟨k, hk, rfl, HP⟩ := hrel
    by_cases hlt : k < xs.length
    · obtain ⟨ad, e1, hx⟩ := Kd.at_int HR.out (k : Int) (by omega) (by omega)
      cases e1
      simp only [Int.toNat_natCast] at hx
      rw [rd_at xs k hlt] at hx
      generalize hx0 : xs[k] = x at *
      have HX0 := Aside0.mk hx0
      clear hx0
      cases hpx : (x == 0)
      · have hq : ((0 : Int) == x) = false := by
          have h : x ≠ 0 := by simpa using hpx
          simpa using (Ne.symm h)
        go_wp2
        exact ⟨⟨k + 1, by omega, by go_num, ⟨HP.out.step hlt (by rw [HX0.out]; exact hpx)⟩⟩, by simp [intOf]; omega⟩
      · have hq : ((0 : Int) == x) = true := by
          have h : x = 0 := by simpa using hpx
          simp [h]
        go_wp2
        go_ret
        exact ⟨ret_num (idxOf_at (· == 0) xs k hlt HP.out (by rw [HX0.out]; exact hpx)).symm, rfl⟩
    · go_wp2
      go_ret
      exact ⟨ret_num (idxOf_none (· == 0) xs (fun j hj => HP.out j hj (by omega))).symm, rfl⟩

theorem info2 : (Try.prog.info? 2).map (fun i => (i.zero, i.size, i.bytes)) = some (some (.int .i64 0), 1, 8) := by kernel_rfl
theorem own_calls {w0 w : World} {R : List HP} (S : Sat w0 R w) (A : Option Addr) (c : Nat) (xs : List Int) (hr : (Kd.int .i64).C w A xs.length xs) (hl : xs.length * 8 ≤ 140737488355328) :
    Calls Try.prog 112 #[.slice A xs.length c] w fun e w' => ∃ v, e = .returned v ∧ Sat w0 (Rw (Kd.int .i64) 2 v xs :: R) w' := by
  have HR := Aside0.mk hr
  have HL := Aside0.mk hl
  have hm := Kd.C_max hr
  have S0 := Aside0.mk (Sat.lit (n := 0) S (Kd.int .i64) 2 [] (inner := []) (Reps.none _ _) rfl (by omega))
  clear hr hl S
  go_enter Try.func112, Try.ntmps112
  go_wp2_with ((with_reducible refine gate_builtin (b := .append) (xs := #[.tmp 3, .tmp 4]) rfl ?_); refine Sat.appendRow S0.out 0 0 rfl rfl (.tmp 3) (.tmp 4) 24 (.int .i64 0) 8 rfl Try.underlying24 info2 rfl (by omega) xs A xs.length c rfl rfl (Kd.C_alloc HR.out _) (by simpa using HL.out) ?_; intro v1 w1 S1 _; replace S1 := Aside0.mk S1)
  go_ret
  exact ⟨v1, rfl, S1.out⟩

theorem clone_calls {w0 w : World} {R : List HP} (S : Sat w0 R w) (A : Option Addr) (c : Nat) (xs : List Int) (hr : (Kd.int .i64).C w A xs.length xs) (hl : xs.length * 8 ≤ 140737488355328) :
    Calls Try.prog 120 #[.slice A xs.length c] w fun e w' => ∃ v, e = .returned v ∧ Sat w0 (Rw (Kd.int .i64) 2 v xs :: R) w' := by
  have HR := Aside0.mk hr
  have HL := Aside0.mk hl
  have hm := Kd.C_max hr
  have HS := Aside0.mk S
  have S0 := Aside0.mk (Sat.lit (n := 0) S (Kd.int .i64) 2 [] (inner := []) (Reps.none _ _) rfl (by omega))
  clear hr hl S
  rcases A with _ | ad
  · have hx : xs = [] := by
      have h := HR.out
      rcases xs with _ | ⟨x, xs⟩
      · rfl
      · obtain ⟨ad, h1, _⟩ := h.2.2 (by simp)
        cases h1
    subst hx
    have hnil := fun (w : World) => Lib.run_eql_slice_nil (P := Try.prog) w 24 2 none 0 c 0 0 Try.underlying24
    go_enter Try.func120, Try.ntmps120
    go_wp2
    go_ret
    exact ⟨_, rfl, HS.out.nil _ _⟩
  · have hnil := fun (w : World) => Lib.run_eql_slice_nil (P := Try.prog) w 24 2 (some ad) xs.length c 0 0 Try.underlying24
    go_enter Try.func120, Try.ntmps120
    go_wp2_with ((with_reducible refine gate_builtin (b := .append) (xs := #[.tmp 5, .tmp 6]) rfl ?_); refine Sat.appendRow S0.out 0 0 rfl rfl (.tmp 5) (.tmp 6) 24 (.int .i64 0) 8 rfl Try.underlying24 info2 rfl (by omega) xs (some ad) xs.length c rfl rfl (Kd.C_alloc HR.out _) (by simpa using HL.out) ?_; intro v1 w1 S1 _; replace S1 := Aside0.mk S1)
    go_ret
    exact ⟨v1, rfl, S1.out⟩
end Go.Proofs.Ytmgmilnoeghgfaa
