import Derived.Test.YtmgmilnoeghgfaaD2
set_option linter.unusedVariables false
set_option linter.unusedSimpArgs false
namespace Go.Proofs.Ytmgmilnoeghgfaa
open Go.RowKit Go.Proofs.YtmgmilnoeghgfaaW.PrintWords Go.Proofs.YtmgmilnoeghgfaaW.PrintLast Go.Proofs.YtmgmilnoeghgfaaW.PrintMore Go.Proofs.Ytmgmilnoeghgfaa.PFnExactSolveRules

/-! ### The spec's search is the program's search -/
def dup (r : Bool × Int × List (List Int)) : Bool × Int × FC := (r.1, r.2.1, (r.2.2, r.2.2.length))
theorem search_dup (rules : List Rule) (n : Nat) (budget most : Int) : ∀ (d : Nat) (steps : Int) (xs : List (List Int)) (vs : List Int), (xs.length : Int) < most →
    (cfgS rules n budget most).search d steps (xs, xs.length) vs = dup ((cfgL rules n budget most).search d steps xs vs) ∧
      (((cfgL rules n budget most).search d steps xs vs).1 = true → (((cfgL rules n budget most).search d steps xs vs).2.2.length : Int) < most)
  | 0, steps, xs, vs, h => ⟨rfl, fun _ => h⟩
  | d + 1, steps, xs, vs, h => by
    by_cases hover : budget < steps + 1
    · have e1 : (cfgS rules n budget most).search (d + 1) steps (xs, xs.length) vs = (false, steps + 1, (xs, xs.length)) := by simp only [Cfg.search, searchR]; rw [if_pos hover]
      have e2 : (cfgL rules n budget most).search (d + 1) steps xs vs = (false, steps + 1, xs) := by simp only [Cfg.search, searchR]; rw [if_pos hover]
      rw [e1, e2]
      exact ⟨rfl, fun h => by simp at h⟩
    · obtain ⟨⟨bad, us, st⟩, hp0⟩ : ∃ x, propR rules (zeros vs + 1) vs [] = x := ⟨_, rfl⟩
      have e1 := search_unfold (cfgS rules n budget most) d steps (xs, xs.length) vs hover hp0
      have e2 := search_unfold (cfgL rules n budget most) d steps xs vs hover hp0
      rw [foldl_still] at e1 e2
      dsimp only at e1 e2
      by_cases hbad : 0 ≤ bad
      · rw [if_pos hbad] at e1 e2
        rw [e1, e2]
        exact ⟨rfl, fun _ => h⟩
      · rw [if_neg hbad] at e1 e2
        by_cases hix : idxOf (· == 0) us < 0
        · rw [if_pos hix] at e1 e2
          rw [e1, e2]
          have hm : (most == 0) = false := by
            have : most ≠ 0 := by omega
            simpa using this
          have h1 : fndS most (xs, xs.length) us = ((xs ++ [us], xs.length + 1), decide ((xs.length : Int) + 1 < most)) := by simp [fndS, h, hm]
          have h2 : fndL most xs us = (xs ++ [us], decide ((xs.length : Int) + 1 < most)) := by simp [fndL]
          rw [h1, h2]
          exact ⟨by simp [dup], fun h => by simpa using h⟩
        · rw [if_neg hix] at e1 e2
          obtain ⟨i1, i2⟩ := search_dup rules n budget most d (steps + 1) xs (us.set (idxOf (· == 0) us).toNat 1) h
          rw [i1] at e1
          rw [e1, e2]
          cases h1 : ((cfgL rules n budget most).search d (steps + 1) xs (us.set (idxOf (· == 0) us).toNat 1)).1
          · have : (dup ((cfgL rules n budget most).search d (steps + 1) xs (us.set (idxOf (· == 0) us).toNat 1))).1 = false := h1
            rw [if_pos this, if_pos rfl]
            exact ⟨rfl, i2⟩
          · have h3 : ¬ (dup ((cfgL rules n budget most).search d (steps + 1) xs (us.set (idxOf (· == 0) us).toNat 1))).1 = false := by
              show ¬ ((cfgL rules n budget most).search d (steps + 1) xs (us.set (idxOf (· == 0) us).toNat 1)).1 = false
              rw [h1]
              decide
            rw [if_neg h3, if_neg (by decide)]
            exact search_dup rules n budget most d _ _ _ (i2 h1)
abbrev Cfg.allS (rules : List Rule) (n : Nat) (budget most : Int) : Bool × Int × FC := (cfgS rules n budget most).search (n + 1) 0 ([], 0) (List.replicate n 0)
theorem all_dup (rules : List Rule) (n : Nat) (budget most : Int) (h : 0 < most) : Cfg.allS rules n budget most = dup ((cfgL rules n budget most).all []) :=
  (search_dup rules n budget most (n + 1) 0 [] (List.replicate n 0) (by simpa using h)).1

/-! ### l16Solve -/
set_option maxRecDepth 100000 in
set_option maxHeartbeats 2000000 in
theorem l16Solve_calls {w0 w : World} {R : List HP} {AR : Option Addr} {cR : Nat} {rules : List Rule} {sh : Nat → Sh} {n : Nat} {budget most : Int} (h1 : ∀ r ∈ rules, OkRule r n) (h2 : n ≤ 200) (h3 : 1 ≤ budget ∧ budget ≤ 5000)
    (S : Sat w0 R w) (hrd : ReadsRules w0 R AR rules sh) :
    Calls Try.prog 77 #[.slice AR rules.length cR, .int .i64 n, .int .i64 budget, .int .i64 most] w fun e w' => ∃ bx, e = .returned (.pointer (some ⟨bx, 0, none⟩)) ∧ Sat w0 (ResS AR rules.length cR budget most bx (Cfg.allS rules n budget most).2.1 (Cfg.allS rules n budget most).2.2 :: R) w' := by
  have S1 := Sat.closeS (s := ([], 0)) ((Sat.lit (n := 0) S (Kd.slice 2 (Kd.int .i64)) 24 [] (inner := []) (Reps.none _ _) rfl (by omega)).alloc (specB AR rules.length cR budget 0 most 0 (.slice (some ⟨w.heap.size, 0, none⟩) 0 0)))
  have S2 := S1.made n (by omega)
  simp only [World.size_alloc] at S2
  have hmk := print_make (P := Try.prog) 24 2 .i64 8 Try.underlying24 info2 (by omega) n (by omega)
  have HC := Aside0.mk (spec_all (cfgS_ok (most := most) h1 h2 h3) (n + 1) _ _ _ _ (List.replicate n 0) 0 ([], 0) S2 hrd (vals_made n) (by have := zeros_made n; omega) ⟨by omega, by omega⟩ (by simp only [Cfg.Room, List.length_nil]; have := h3.2; simp; omega))
  clear S S1 S2 hrd h1 h3
  go_enter Try.func77, Try.ntmps77
  go_wp2_with (((with_reducible refine gate_dst (N := 19) rfl ?_); refine goesF (f := 123) (args := #[.pointer (some ⟨w.heap.size + 1, 0, none⟩), .slice (some ⟨w.heap.size + 1 + 1, 0, none⟩) n n]) rfl rfl rfl (by (try simp only [List.map_toArray, List.map_cons, List.map_nil]); rfl) (Enter.mk Try.func123 (by kernel_rfl) rfl) ?_; refine (HC.out).mono ?_; rintro e e1 ⟨rfl, S2, hf⟩; refine ⟨_, rfl, ?_⟩; have HS2 := Aside0.mk S2; clear S2 hf))
  go_ret
  exact ⟨_, rfl, HS2.out⟩
end Go.Proofs.Ytmgmilnoeghgfaa
