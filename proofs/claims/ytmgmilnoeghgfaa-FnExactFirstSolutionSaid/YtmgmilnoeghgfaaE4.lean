import Derived.Test.YtmgmilnoeghgfaaE3
set_option linter.unusedVariables false
set_option linter.unusedSimpArgs false
namespace Go.Proofs.Ytmgmilnoeghgfaa
open Go.RowKit Go.Proofs.YtmgmilnoeghgfaaW.PrintWords Go.Proofs.YtmgmilnoeghgfaaW.PrintLast Go.Proofs.YtmgmilnoeghgfaaW.PrintMore Go.Proofs.Ytmgmilnoeghgfaa.PFnExactSolveRules

/-- A row of rules in the frame is read. -/
theorem ReadsR.of {w0 : World} {R : List HP} {A : Option Addr} {c : Nat} {rules : List Rule} {sh : Nat → Sh} (i : Nat) (hp : R[i]? = some (RwR 71 (.slice A rules.length c) A rules sh)) : ReadsR w0 R A rules sh := fun w S => by
  obtain ⟨ok, h, _⟩ := S.at_ i hp
  exact ⟨h.2, (Kd.R_reads' h.1).2.2⟩
theorem Sat.marksAt {w0 w : World} {ps : List HP} (S : Sat w0 ps w) (i : Nat) {A : Option Addr} {n c : Nat} {a : Int} {m : Nat} (hp : ps[i]? = some (RwI (.slice A n c) (marks a m))) : (Kd.int .i64).C w A n (marks a m) := S.readsN i hp
theorem search_len {n : Nat} {rules : List Rule} {budget most : Int} (hok : ∀ r ∈ rules, OkRule r n) : ∀ (d : Nat) (steps : Int) (xs : List (List Int)) (vs : List Int), Vals n vs → (∀ x ∈ xs, x.length = n) →
    ∀ x ∈ ((cfgL rules n budget most).search d steps xs vs).2.2, x.length = n
  | 0, steps, xs, vs, hv, h => h
  | d + 1, steps, xs, vs, hv, h => by
    by_cases hover : budget < steps + 1
    · have e2 : (cfgL rules n budget most).search (d + 1) steps xs vs = (false, steps + 1, xs) := by simp only [Cfg.search, searchR]; rw [if_pos hover]
      rw [e2]
      exact h
    · obtain ⟨⟨bad, us, st⟩, hp0⟩ : ∃ x, propR rules (zeros vs + 1) vs [] = x := ⟨_, rfl⟩
      have hpv := prop_vals hok (zeros vs + 1) vs [] hv
      rw [hp0] at hpv
      have e2 := search_unfold (cfgL rules n budget most) d steps xs vs hover hp0
      rw [foldl_still] at e2
      dsimp only at e2
      by_cases hbad : 0 ≤ bad
      · rw [if_pos hbad] at e2
        rw [e2]
        exact h
      · rw [if_neg hbad] at e2
        by_cases hix : idxOf (· == 0) us < 0
        · rw [if_pos hix] at e2
          rw [e2]
          intro x hx
          have hx2 : x ∈ xs ++ [us] := hx
          rw [List.mem_append] at hx2
          rcases hx2 with hx2 | hx2
          · exact h x hx2
          · have : x = us := by simpa using hx2
            rw [this]
            exact hpv.1.len
        · rw [if_neg hix] at e2
          have i1 := search_len hok d (steps + 1) xs (us.set (idxOf (· == 0) us).toNat 1) (hpv.1.set _ (by simp [unit3])) h (budget := budget) (most := most)
          rw [e2]
          split
          · exact i1
          · exact search_len hok d _ _ _ (hpv.1.set _ (by simp [unit3])) i1
theorem first_len {rules : List Rule} {vars budget : Int} : (firstR rules vars budget).1.length ≤ 200 := by
  unfold firstR
  split
  · rename_i hv
    obtain ⟨g1, g2, g3⟩ := okRules_good hv.1
    have h := search_len (budget := budget) (most := 1) g3 (vars.toNat + 1) 0 [] (List.replicate vars.toNat 0) (vals_made _) (by simp)
    split
    · simp
    · split
      · simp
      · rename_i x xs e
        have := h x (by
          have e2 : ((cfgL rules vars.toNat budget 1).search (vars.toNat + 1) 0 [] (List.replicate vars.toNat 0)).2.2 = x :: xs := e
          rw [e2]
          simp)
        show x.length ≤ 200
        omega
  · simp
theorem inner_max {w : World} {A : Option Addr} {l : List S96} (hr : k96.C w A l.length l) : ∀ x ∈ l, x.f1.length ≤ 9223372036854775807 ∧ x.f2.length ≤ 9223372036854775807 := by
  intro x hx
  obtain ⟨k, hk, rfl⟩ := List.getElem_of_mem hx
  obtain ⟨ad, A1, c1, A2, c2, _, _, _, _, _, g1, _, g2⟩ := at_T96 hr (k : Int) (by omega) (by omega)
  have e0 : rd_T96 l (k : Int) = l[k] := by simp [rd_T96, List.getD_eq_getElem?_getD, List.getElem?_eq_getElem hk]
  rw [e0] at g1 g2
  exact ⟨Kd.C_max g1, Kd.C_max g2⟩
set_option maxRecDepth 100000 in
set_option maxHeartbeats 8000000 in
theorem firstLaw_walk (A : Option Addr) (c : Nat) (l : List S96) (vars budget : Int) (w : World) (hr : k96.C w A l.length l) (hc : l.length ≤ c) :
    Calls Try.prog 5 #[.slice A l.length c, .int .i64 vars, .int .i64 budget] w fun e w' => e = .returned (.bool true) ∧ Below w.heap.size w w' := by
  have hmax := Kd.C_max hr
  obtain ⟨sz, hsz, hsm⟩ := szRules hmax (inner_max hr)
  have HR := Aside0.mk hr
  have HC := Aside0.mk hc
  have HSZ := Aside0.mk (laws_szRuleS.calls _ A c l _ sz w hr hc hsz)
  have HS0 := Aside0.mk (Sat.start w)
  clear hr hc hsz hmax
  by_cases hneg : sz < 0
  · have hd : decide (sz < 0) = true := decide_eq_true hneg
    go_enter Try.func5, Try.ntmps5
    go_wp2_with (((with_reducible refine gate_dst (N := 20) rfl ?_); refine goesF (f := 25) (args := #[.slice A l.length c, .int .i64 1048576]) rfl rfl rfl (by (try simp only [List.map_toArray, List.map_cons, List.map_nil]); rfl) (Enter.mk Try.func25 (by kernel_rfl) rfl) ?_; refine (HSZ.out).mono ?_; rintro e e1 ⟨rfl, hb⟩; refine ⟨_, rfl, ?_⟩; have HB := Aside0.mk hb; clear hb))
    go_ret
    exact ⟨rfl, HB.out⟩
  · have hd : decide (sz < 0) = false := decide_eq_false hneg
    have HSM := Aside0.mk (hsm.resolve_left hneg)
    have HSR := Aside0.mk HSM.out.conv
    clear hsm
    obtain ⟨rs, hrs⟩ : ∃ rs, rs = l.map conv := ⟨_, rfl⟩
    rw [← hrs] at HSR
    have HRS := Aside0.mk hrs
    clear hrs
    have HT := Aside0.mk (fun (W : World) (ps : List HP) (S : Sat w ps W) (i : Nat) (hi : ps[i]? = some (Old w)) => toRules_calls S (Kd.C_below HR.out (S.to_below i hi)) HC.out HSM.out)
    rw [← HRS.out] at HT
    obtain ⟨⟨want, st⟩, hw⟩ : ∃ r, r = firstR rs vars budget := ⟨_, rfl⟩
    have HW := Aside0.mk hw
    clear hw
    have HLEN : Aside0 (want.length ≤ 4611686018427387904) := ⟨by have h := first_len (rules := rs) (vars := vars) (budget := budget); rw [← HW.out] at h; dsimp only at h; omega⟩
    go_enter Try.func5, Try.ntmps5
    go_wp2_with (first
      | ((with_reducible refine gate_dst (N := 20) rfl ?_); refine goesF (f := 25) (args := #[.slice A l.length c, .int .i64 1048576]) rfl rfl rfl (by (try simp only [List.map_toArray, List.map_cons, List.map_nil]); rfl) (Enter.mk Try.func25 (by kernel_rfl) rfl) ?_; refine (HSZ.out).mono ?_; rintro e e1 ⟨rfl, hb⟩; refine ⟨_, rfl, ?_⟩; have HS1 := Aside0.mk (HS0.out.below hb); clear hb)
      | ((with_reducible refine gate_dst (N := 25) rfl ?_); refine goesF (f := 27) (args := #[.slice A l.length c]) rfl rfl rfl (by (try simp only [List.map_toArray, List.map_cons, List.map_nil]); rfl) (Enter.mk Try.func27 (by kernel_rfl) rfl) ?_; refine (HT.out _ _ HS1.out 0 rfl).mono ?_; rintro e e1 ⟨A1, c1, rfl, hle1, S2⟩; refine ⟨_, rfl, ?_⟩; obtain ⟨sh1, S3⟩ := S2.shape 0 rfl; have HS3 := Aside0.mk S3; have HL1 := Aside0.mk hle1; clear S2 S3 hle1)
      | ((with_reducible refine gate_dst (N := 28) rfl ?_); refine goesF (f := 26) (args := #[.slice A1 rs.length c1, .int .i64 vars, .int .i64 budget]) rfl rfl rfl (by (try simp only [List.map_toArray, List.map_cons, List.map_nil]); rfl) (Enter.mk Try.func26 (by kernel_rfl) rfl) ?_; refine (specFirst_calls HS3.out (ReadsR.of 0 rfl).at_).mono ?_; rintro e e1 ⟨v1, rfl, S4⟩; refine ⟨_, rfl, ?_⟩; rw [← HW.out] at S4 ⊢; obtain ⟨B1, d1, rfl, hle1, _⟩ := S4.reads 0 rfl; have HS4 := Aside0.mk S4; have HM1 := Aside0.mk hle1; clear S4 hle1)
      | ((with_reducible refine gate_dst (N := 32) rfl ?_); refine goesF (f := 27) (args := #[.slice A l.length c]) rfl rfl rfl (by (try simp only [List.map_toArray, List.map_cons, List.map_nil]); rfl) (Enter.mk Try.func27 (by kernel_rfl) rfl) ?_; refine (HT.out _ _ HS4.out 2 rfl).mono ?_; rintro e e1 ⟨A2, c2, rfl, hle1, S2⟩; refine ⟨_, rfl, ?_⟩; obtain ⟨sh2, S3⟩ := S2.shape 0 rfl; have HS5 := Aside0.mk S3; have HL2 := Aside0.mk hle1; clear S2 S3 hle1)
      | ((with_reducible refine gate_dst (N := 37) rfl ?_); refine goesF (f := 16) (args := #[.slice A2 rs.length c2, .int .i64 vars, .int .i64 budget]) rfl rfl rfl (by (try simp only [List.map_toArray, List.map_cons, List.map_nil]); rfl) (Enter.mk Try.func16 (by kernel_rfl) rfl) ?_; refine (FirstSolution_calls HS5.out (ReadsR.of 0 rfl)).mono ?_; rintro e e1 ⟨v1, rfl, S4⟩; refine ⟨_, rfl, ?_⟩; rw [← HW.out] at S4 ⊢; obtain ⟨B2, d2, rfl, hle1, _⟩ := S4.reads 0 rfl; have HS6 := Aside0.mk S4; have HM2 := Aside0.mk hle1; clear S4 hle1)
      | ((with_reducible refine gate_dst (N := 42) rfl ?_); refine goesF (f := 21) (args := #[.slice B2 want.length d2, .slice B1 want.length d1]) rfl rfl rfl (by (try simp only [List.map_toArray, List.map_cons, List.map_nil]); rfl) (Enter.mk Try.func21 (by kernel_rfl) rfl) ?_; refine (eqInt_calls (HS6.out.readsAt 0 rfl).2.2 (HS6.out.readsAt 2 rfl).2.2 HM2.out HM1.out HLEN.out).mono ?_; rintro e e1 ⟨rfl, hq⟩; refine ⟨_, rfl, ?_⟩; have HS7 := Aside0.mk (HS6.out.drawn hq); clear hq)
      | ((with_reducible refine gate_dst (N := 51) rfl ?_); refine goesF (f := 27) (args := #[.slice A l.length c]) rfl rfl rfl (by (try simp only [List.map_toArray, List.map_cons, List.map_nil]); rfl) (Enter.mk Try.func27 (by kernel_rfl) rfl) ?_; refine (HT.out _ _ HS7.out 4 rfl).mono ?_; rintro e e1 ⟨A3, c3, rfl, hle1, S2⟩; refine ⟨_, rfl, ?_⟩; have HS8 := Aside0.mk S2; have HL3 := Aside0.mk hle1; clear S2 hle1)
      | ((with_reducible refine gate_dst (N := 52) rfl ?_); refine goesF (f := 28) (args := #[.slice A2 rs.length c2, .slice A3 rs.length c3]) rfl rfl rfl (by (try simp only [List.map_toArray, List.map_cons, List.map_nil]); rfl) (Enter.mk Try.func28 (by kernel_rfl) rfl) ?_; refine (eqRules_calls ((ReadsR.of 2 rfl) _ HS8.out).2 (HS8.out.readsAt 0 rfl).2.2 HL2.out HL3.out HSR.out).mono ?_; rintro e e1 ⟨rfl, hb⟩; refine ⟨_, rfl, ?_⟩; have HS9 := Aside0.mk (HS8.out.below hb); clear hb)
      | ((with_reducible refine gate_dst (N := 56) rfl ?_); refine goesF (f := 29) (args := #[.slice A2 rs.length c2, .int .i64 1]) rfl rfl rfl (by (try simp only [List.map_toArray, List.map_cons, List.map_nil]); rfl) (Enter.mk Try.func29 (by kernel_rfl) rfl) ?_; refine (markRules_calls (HS9.out.front 2 rfl) HSR.out).mono ?_; rintro e e1 ⟨m1, rfl, hm1, S2⟩; refine ⟨_, rfl, ?_⟩; have hm1d : decide (m1 < 0) = false := decide_eq_false (by omega); have HS10 := Aside0.mk S2; clear S2)
      | (go_at_call 21; refine (eqInt_calls (HS10.out.readsAt 1 rfl).2.2 (HS10.out.readsAt 2 rfl).2.2 HM2.out HM1.out HLEN.out).mono ?_; rintro e e1 ⟨rfl, hq⟩; have HS11 := Aside0.mk (HS10.out.drawn hq); clear hq)
      | ((with_reducible refine gate_dst (N := 72) rfl ?_); refine goesF (f := 22) (args := #[.slice B2 want.length d2, .int .i64 1]) rfl rfl rfl (by (try simp only [List.map_toArray, List.map_cons, List.map_nil]); rfl) (Enter.mk Try.func22 (by kernel_rfl) rfl) ?_; refine (markInt_calls 1 (HS11.out.front 1 rfl) (by decide) (by have := HLEN.out; omega)).mono ?_; rintro e e1 ⟨rfl, S2⟩; refine ⟨_, rfl, ?_⟩; have HS12 := Aside0.mk S2; clear S2)
      | ((with_reducible refine gate_dst (N := 75) rfl ?_); refine goesF (f := 30) (args := #[.slice B2 want.length d2, .int .i64 1]) rfl rfl rfl (by (try simp only [List.map_toArray, List.map_cons, List.map_nil]); rfl) (Enter.mk Try.func30 (by kernel_rfl) rfl) ?_; refine (heldInt_calls 1 want.length (HS12.out.marksAt 0 rfl) HM2.out (by decide) (by have := HLEN.out; omega)).mono ?_; rintro e e1 ⟨rfl, hq⟩; refine ⟨_, rfl, ?_⟩; have HS13 := Aside0.mk (HS12.out.drawn hq); clear hq)
      | ((with_reducible refine gate_dst (N := 83) rfl ?_); refine goesF (f := 27) (args := #[.slice A l.length c]) rfl rfl rfl (by (try simp only [List.map_toArray, List.map_cons, List.map_nil]); rfl) (Enter.mk Try.func27 (by kernel_rfl) rfl) ?_; refine (HT.out _ _ HS13.out 4 rfl).mono ?_; rintro e e1 ⟨A4, c4, rfl, hle1, S2⟩; refine ⟨_, rfl, ?_⟩; obtain ⟨sh4, S3⟩ := S2.shape 0 rfl; have HS14 := Aside0.mk S3; have HL4 := Aside0.mk hle1; clear S2 S3 hle1)
      | ((with_reducible refine gate_dst (N := 86) rfl ?_); refine goesF (f := 16) (args := #[.slice A4 rs.length c4, .int .i64 vars, .int .i64 budget]) rfl rfl rfl (by (try simp only [List.map_toArray, List.map_cons, List.map_nil]); rfl) (Enter.mk Try.func16 (by kernel_rfl) rfl) ?_; refine (FirstSolution_calls HS14.out (ReadsR.of 0 rfl)).mono ?_; rintro e e1 ⟨v1, rfl, S4⟩; refine ⟨_, rfl, ?_⟩; rw [← HW.out] at S4 ⊢; obtain ⟨B3, d3, rfl, hle1, _⟩ := S4.reads 0 rfl; have HS15 := Aside0.mk S4; have HM3 := Aside0.mk hle1; clear S4 hle1)
      | ((with_reducible refine gate_dst (N := 91) rfl ?_); refine goesF (f := 21) (args := #[.slice B3 want.length d3, .slice B1 want.length d1]) rfl rfl rfl (by (try simp only [List.map_toArray, List.map_cons, List.map_nil]); rfl) (Enter.mk Try.func21 (by kernel_rfl) rfl) ?_; refine (eqInt_calls (HS15.out.readsAt 0 rfl).2.2 (HS15.out.readsAt 4 rfl).2.2 HM3.out HM1.out HLEN.out).mono ?_; rintro e e1 ⟨rfl, hq⟩; refine ⟨_, rfl, ?_⟩; have HS16 := Aside0.mk (HS15.out.drawn hq); clear hq)
      | ((with_reducible refine gate_dst (N := 100) rfl ?_); refine goesF (f := 30) (args := #[.slice B2 want.length d2, .int .i64 1]) rfl rfl rfl (by (try simp only [List.map_toArray, List.map_cons, List.map_nil]); rfl) (Enter.mk Try.func30 (by kernel_rfl) rfl) ?_; refine (heldInt_calls 1 want.length (HS16.out.marksAt 2 rfl) HM2.out (by decide) (by have := HLEN.out; omega)).mono ?_; rintro e e1 ⟨rfl, hq⟩; refine ⟨_, rfl, ?_⟩; have HS17 := Aside0.mk (HS16.out.drawn hq); clear hq))
    go_ret
    exact ⟨rfl, HS17.out.to_below 6 rfl⟩
end Go.Proofs.Ytmgmilnoeghgfaa
