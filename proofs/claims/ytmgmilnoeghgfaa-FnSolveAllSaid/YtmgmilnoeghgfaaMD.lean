import Derived.Test.YtmgmilnoeghgfaaMC
set_option linter.unusedVariables false
set_option linter.unusedSimpArgs false
namespace Go.Proofs.Ytmgmilnoeghgfaa
open Go.RowKit Go.Proofs.YtmgmilnoeghgfaaW.PrintWords Go.Proofs.YtmgmilnoeghgfaaW.PrintLast Go.Proofs.YtmgmilnoeghgfaaW.PrintMore Go.Proofs.Ytmgmilnoeghgfaa.PFnExactSolveRules

theorem quiet_in {P : Program} {f : FuncId} {args : Array Value} {w : World} {v : Value}
    (h : Calls P f args w fun e w' => e = .returned v ∧ ∃ m, w' = w.drewN m) : Calls P f args w fun e w'' => e = .returned v ∧ ∃ m, w'' = w.drewN m := h
set_option maxHeartbeats 4000000 in
theorem l00Rises_calls (A : Option Addr) (c : Nat) (xs : List Int) (lo hi : Int) (w : World) (hr : (Kd.int .i64).C w A xs.length xs) :
    Calls Try.prog 144 #[.slice A xs.length c, .int .i64 lo, .int .i64 hi] w fun e w' => e = .returned (.bool (rises lo hi xs)) ∧ Drawn0 w w' := by
  have HR := Aside0.mk hr
  have hm := Kd.C_max hr
  clear hr
  go_enter Try.func144, Try.ntmps144
  go_wp2
  go_loopw [7] (fun v7 wr => ∃ k : Nat, k ≤ xs.length ∧ v7 = .int .i64 k ∧ Aside0 (AllOk (stepOk lo hi xs) k) ∧ Drawn0 w wr) (fun v7 _ => xs.length - (intOf v7).toNat)
  case atStart => exact ⟨0, Nat.zero_le _, rfl, ⟨fun j hj => by omega⟩, Drawn0.refl _⟩
  case round =>
    obtain ⟨k, hk, rfl, HP, ⟨m, rfl⟩⟩ := hrel
    by_cases hlt : k < xs.length
    · obtain ⟨ad, e1, hx⟩ := Kd.at_int HR.out (k : Int) (by omega) (by omega)
      cases e1
      simp only [Int.toNat_natCast] at hx
      have HW := Aside0.mk (l00In_calls (rd xs k) lo hi)
      cases h1 : inB lo hi (rd xs k)
      · have HBAD : Aside0 (stepOk lo hi xs k = false) := ⟨by simp [stepOk, h1]⟩
        generalize rd xs k = x at *
        rw [h1] at HW
        clear h1
        go_wp2
        go_quiet ((go_at_call 80; refine (HW.out _).mono ?_; rintro e w' ⟨rfl, rfl⟩; exact ⟨rfl, _, rfl⟩))
        go_wp2
        go_ret
        exact ⟨ret_bool (not_all hlt HBAD.out).symm, by repeat (first | exact Drawn0.refl _ | apply Drawn0.step)⟩
      · by_cases hk0 : k = 0
        · have HOK : Aside0 (stepOk lo hi xs k = true) := ⟨by rw [stepOk, h1, hk0]; rfl⟩
          generalize rd xs k = x at *
          rw [h1] at HW
          clear h1
          subst hk0
          rw [show ad.add 0 = ad from by simp [Addr.add]] at hx
          go_wp2
          go_quiet ((go_at_call 80; refine (HW.out _).mono ?_; rintro e w' ⟨rfl, rfl⟩; exact ⟨rfl, _, rfl⟩))
          go_wp2
          exact ⟨⟨1, by omega, by go_num, ⟨HP.out.step HOK.out⟩, ⟨_, rfl⟩⟩, by simp [intOf]; omega⟩
        · obtain ⟨ad2, e2, hy⟩ := Kd.at_int HR.out ((k - 1 : Nat) : Int) (by omega) (by omega)
          cases e2
          simp only [Int.toNat_natCast] at hy
          have hpos : 0 < k := by omega
          have hd : decide (0 < k) = true := decide_eq_true hpos
          have hge : (0 : Int) ≤ (k : Int) - 1 := by omega
          have hlt2 : (k : Int) - 1 < xs.length := by omega
          by_cases hlt3 : rd xs (k - 1 : Nat) < rd xs k
          · have HOK : Aside0 (stepOk lo hi xs k = true) := ⟨by simp [stepOk, h1, hlt3]⟩
            have hd3 : decide (rd xs k ≤ rd xs (k - 1 : Nat)) = false := decide_eq_false (by omega)
            generalize rd xs (k - 1 : Nat) = y at *
            generalize rd xs k = x at *
            rw [h1] at HW
            clear h1 hk0 hlt3
            go_wp2
            go_quiet ((go_at_call 80; refine (HW.out _).mono ?_; rintro e w' ⟨rfl, rfl⟩; exact ⟨rfl, _, rfl⟩))
            go_wp2
            exact ⟨⟨k + 1, by omega, by go_num, ⟨HP.out.step HOK.out⟩, ⟨_, rfl⟩⟩, by simp [intOf]; omega⟩
          · have HBAD : Aside0 (stepOk lo hi xs k = false) := ⟨by simp [stepOk, h1, hlt3, hk0]⟩
            have hd3 : decide (rd xs k ≤ rd xs (k - 1 : Nat)) = true := decide_eq_true (by omega)
            generalize rd xs (k - 1 : Nat) = y at *
            generalize rd xs k = x at *
            rw [h1] at HW
            clear h1 hk0 hlt3
            go_wp2
            go_quiet ((go_at_call 80; refine (HW.out _).mono ?_; rintro e w' ⟨rfl, rfl⟩; exact ⟨rfl, _, rfl⟩))
            go_wp2
            go_ret
            exact ⟨ret_bool (not_all hlt HBAD.out).symm, by repeat (first | exact Drawn0.refl _ | apply Drawn0.step)⟩
    · go_wp2
      go_ret
      exact ⟨ret_bool (HP.out.all (by omega)).symm, ⟨_, rfl⟩⟩

theorem l00Rises_calls' (A : Option Addr) (n c : Nat) (xs : List Int) (lo hi : Int) (w : World) (hr : (Kd.int .i64).C w A n xs) :
    Calls Try.prog 144 #[.slice A n c, .int .i64 lo, .int .i64 hi] w fun e w' => e = .returned (.bool (rises lo hi xs)) ∧ Drawn0 w w' := by
  obtain rfl := Kd.C_len hr
  exact l00Rises_calls A c xs lo hi w hr
theorem quiet_d {P : Program} {f : FuncId} {args : Array Value} {w : World} {n : Nat} {v : Value}
    (h : Calls P f args (w.drewN n) fun e w' => e = .returned v ∧ Drawn0 (w.drewN n) w') : Calls P f args (w.drewN n) fun e w'' => e = .returned v ∧ ∃ m, w'' = w.drewN m :=
  h.mono fun e w' ⟨he, ⟨k, hk⟩⟩ => ⟨he, n + k, by rw [hk]; exact World.drewN_drewN _ _ _⟩
def okN (k : Int) (n1 n2 : Nat) (vs ss : List Int) (vars : Int) : Bool := inB 1 4 k && (((n1 : Int) == k) && (((n2 : Int) == (n1 : Int)) && (rises 0 (vars - 1) vs && ss.all fun x => x == 1 || x == -1)))
def unitB (xs : List Int) (k : Nat) : Bool := rd xs k == 1 || rd xs k == -1
theorem all_unit {xs : List Int} : (xs.all fun x => x == 1 || x == -1) = (List.range xs.length).all (unitB xs) := by
  rw [Bool.eq_iff_iff, List.all_eq_true, List.all_eq_true]
  constructor
  · intro h k hk
    have hk' := List.mem_range.1 hk
    unfold unitB
    rw [rd_at xs k hk']
    exact h _ (List.getElem_mem hk')
  · intro h x hx
    obtain ⟨k, hk, rfl⟩ := List.getElem_of_mem hx
    have := h k (List.mem_range.2 hk)
    unfold unitB at this
    rwa [rd_at xs k hk] at this
set_option maxHeartbeats 8000000 in
theorem l15Rule_n (a0 : Addr) (k : Int) (vs ss : List Int) (A1 A2 : Option Addr) (n1 n2 c1 c2 : Nat) (vars : Int) (w : World) (hvr : 0 ≤ vars ∧ vars ≤ 200)
    (d0 : w.cell? a0 = some (.int .i64 k)) (d1 : w.cell? ⟨a0.block, a0.off + 1, none⟩ = some (.slice A1 n1 c1)) (d2 : w.cell? ⟨a0.block, a0.off + 2, none⟩ = some (.slice A2 n2 c2))
    (h1 : (Kd.int .i64).C w A1 n1 vs) (h2 : (Kd.int .i64).C w A2 n2 ss) :
    Calls Try.prog 104 #[.pointer (some a0), .int .i64 vars] w fun e w' => e = .returned (.bool (okN k n1 n2 vs ss vars)) ∧ Drawn0 w w' := by
  have HC1 := Aside0.mk h1
  have HC2 := Aside0.mk h2
  have hm1 := Kd.C_max h1
  have hm2 := Kd.C_max h2
  have hl2 := Kd.C_len h2
  clear h1 h2
  have hra := hvr.1
  have hrb := hvr.2
  clear hvr
  have hwr : IntKind.i64.wrap (vars - 1) = vars - 1 := IntWalk.i64_in _ (by omega)
  have HU := Aside0.mk (all_unit (xs := ss))
  have HA := Aside0.mk (l00In_calls k 1 4)
  have HR := Aside0.mk (fun m => quiet_d (l00Rises_calls' A1 n1 c1 vs 0 (vars - 1) (w.drewN m) (Kd.C_drewN HC1.out m)))
  cases hv2 : inB 1 4 k
  · have HF : Aside0 (okN k n1 n2 vs ss vars = false) := ⟨by simp [okN, hv2]⟩
    rw [hv2] at HA
    go_enter Try.func104, Try.ntmps104
    go_wp2
    go_quiet ((first | (go_at_call 80; exact quiet_eq (HA.out _)) | (go_at_call 144; exact HR.out _)))
    go_wp2
    go_ret
    exact ⟨ret_bool HF.out.symm, ⟨_, rfl⟩⟩
  · rw [hv2] at HA
    cases hv3 : ((n1 : Int) == k)
    · have HF : Aside0 (okN k n1 n2 vs ss vars = false) := ⟨by simp [okN, hv3]⟩
      have hne : ((n1 : Int) != k) = true := by simp only [bne, hv3]; rfl
      go_enter Try.func104, Try.ntmps104
      go_wp2
      go_quiet ((first | (go_at_call 80; exact quiet_eq (HA.out _)) | (go_at_call 144; exact HR.out _)))
      go_wp2
      go_ret
      exact ⟨ret_bool HF.out.symm, ⟨_, rfl⟩⟩
    · obtain rfl : (n1 : Int) = k := by simpa using hv3
      clear hv3
      have hs1 : ((n1 : Int) == (n1 : Int)) = true := by simp
      cases hv4 : ((n2 : Int) == (n1 : Int))
      · have HF : Aside0 (okN n1 n1 n2 vs ss vars = false) := ⟨by simp [okN, hv4]⟩
        have hne : ((n2 : Int) != (n1 : Int)) = true := by simp only [bne, hv4]; rfl
        go_enter Try.func104, Try.ntmps104
        go_wp2
        go_quiet ((first | (go_at_call 80; exact quiet_eq (HA.out _)) | (go_at_call 144; exact HR.out _)))
        go_wp2
        go_ret
        exact ⟨ret_bool HF.out.symm, ⟨_, rfl⟩⟩
      · obtain rfl : n2 = n1 := by
          have : (n2 : Int) = n1 := by simpa using hv4
          omega
        clear hv4
        cases hv5 : rises 0 (vars - 1) vs
        · have HF : Aside0 (okN n2 n2 n2 vs ss vars = false) := ⟨by simp [okN, hv5]⟩
          rw [hv5] at HR
          go_enter Try.func104, Try.ntmps104
          go_wp2
          go_quiet ((first | (go_at_call 80; exact quiet_eq (HA.out _)) | (go_at_call 144; exact HR.out _)))
          go_wp2
          go_ret
          exact ⟨ret_bool HF.out.symm, ⟨_, rfl⟩⟩
        · have HF : Aside0 (okN n2 n2 n2 vs ss vars = (List.range ss.length).all (unitB ss)) := ⟨by simp [okN, hv5, hv2, HU.out]⟩
          rw [hv5] at HR
          clear hv2 hv5
          generalize okN n2 n2 n2 vs ss vars = res at *
          go_enter Try.func104, Try.ntmps104
          go_wp2
          go_quiet ((first | (go_at_call 80; exact quiet_eq (HA.out _)) | (go_at_call 144; exact HR.out _)))
          go_wp2
          go_loopw [5] (fun v5 wr => ∃ k : Nat, k ≤ n2 ∧ v5 = .int .i64 k ∧ Aside0 (AllOk (unitB ss) k) ∧ Drawn0 w wr) (fun v5 _ => n2 - (intOf v5).toNat)
          case atStart => exact ⟨0, Nat.zero_le _, rfl, ⟨fun j hj => by omega⟩, ⟨_, rfl⟩⟩
          case round =>
            obtain ⟨j, hj, rfl, HP, ⟨m, rfl⟩⟩ := hrel
            by_cases hlt : j < n2
            · obtain ⟨ad, e1, hx⟩ := Kd.at_int HC2.out (j : Int) (by omega) (by omega)
              cases e1
              simp only [Int.toNat_natCast] at hx
              by_cases hu1 : rd ss j = 1
              · have HOK : Aside0 (unitB ss j = true) := ⟨by simp [unitB, hu1]⟩
                rw [hu1] at hx
                clear hu1
                go_wp2
                exact ⟨⟨j + 1, by omega, by go_num, ⟨HP.out.step HOK.out⟩, ⟨_, rfl⟩⟩, by simp [intOf]; omega⟩
              · by_cases hu2 : rd ss j = -1
                · have HOK : Aside0 (unitB ss j = true) := ⟨by simp [unitB, hu2]⟩
                  rw [hu2] at hx
                  clear hu1 hu2
                  go_wp2
                  exact ⟨⟨j + 1, by omega, by go_num, ⟨HP.out.step HOK.out⟩, ⟨_, rfl⟩⟩, by simp [intOf]; omega⟩
                · have HBAD : Aside0 (unitB ss j = false) := ⟨by simp [unitB, hu1, hu2]⟩
                  generalize rd ss j = x at *
                  have hb1 : (x != 1) = true := by simpa using hu1
                  have hb2 : (x != -1) = true := by simpa using hu2
                  clear hu1 hu2
                  go_wp2
                  go_ret
                  exact ⟨ret_bool (HF.out.trans (not_all (by omega) HBAD.out)).symm, ⟨_, rfl⟩⟩
            · go_wp2
              go_ret
              exact ⟨ret_bool (HF.out.trans (HP.out.all (by omega))).symm, ⟨_, rfl⟩⟩

/-! ### l15Rules -/
def ruleOk (rules : List Rule) (vars : Int) (k : Nat) : Bool := (rules.getD k ⟨0, [], []⟩ |> fun r => okRule r vars)
theorem okRules_eq (rules : List Rule) (vars : Int) (h1 : ¬ 3000 < rules.length) (h2 : inB 0 200 vars = true) : okRules rules vars = (List.range rules.length).all (ruleOk rules vars) := by
  have h3 : decide ((rules.length : Int) ≤ 3000) = true := decide_eq_true (by omega)
  rw [okRules, h2, h3, Bool.true_and, Bool.true_and, List.not_any_eq_all_not]
  simp only [h2, Bool.true_and, Bool.not_not]
  rw [Bool.eq_iff_iff, List.all_eq_true, List.all_eq_true]
  constructor
  · intro h k hk
    have hk' := List.mem_range.1 hk
    unfold ruleOk
    rw [List.getD_eq_getElem?_getD, List.getElem?_eq_getElem hk']
    exact h _ (List.getElem_mem hk')
  · intro h x hx
    obtain ⟨k, hk, rfl⟩ := List.getElem_of_mem hx
    have := h k (List.mem_range.2 hk)
    unfold ruleOk at this
    rwa [List.getD_eq_getElem?_getD, List.getElem?_eq_getElem hk] at this
set_option maxHeartbeats 2000000 in
theorem l15Rules_calls {w : World} {A : Option Addr} {c : Nat} {rules : List Rule} (vars : Int) (sh : Nat → Sh) (hr : RulesAt A rules sh w) :
    Calls Try.prog 58 #[.slice A rules.length c, .int .i64 vars] w fun e w' => e = .returned (.bool (okRules rules vars)) ∧ Drawn0 w w' := by
  have hm := hr.1
  have HR := Aside0.mk hr
  have HW := Aside0.mk (l00In_calls vars 0 200)
  clear hr
  by_cases h1 : 3000 < rules.length
  · have hd : decide ((3000 : Int) < (rules.length : Int)) = true := decide_eq_true (by omega)
    have HF : Aside0 (okRules rules vars = false) := ⟨by
      have : decide ((rules.length : Int) ≤ 3000) = false := decide_eq_false (by omega)
      simp [okRules, this]⟩
    go_enter Try.func58, Try.ntmps58
    go_wp2
    go_ret
    exact ⟨ret_bool HF.out.symm, ⟨0, rfl⟩⟩
  · have hd : decide ((3000 : Int) < (rules.length : Int)) = false := decide_eq_false (by omega)
    cases h2 : inB 0 200 vars
    · have HF : Aside0 (okRules rules vars = false) := ⟨by simp [okRules, h2]⟩
      rw [h2] at HW
      clear h2
      go_enter Try.func58, Try.ntmps58
      go_wp2_with ((go_at_call 80; refine (HW.out _).mono ?_; rintro e e1 ⟨rfl, rfl⟩))
      go_ret
      exact ⟨ret_bool HF.out.symm, ⟨0, rfl⟩⟩
    · have HF : Aside0 (okRules rules vars = (List.range rules.length).all (ruleOk rules vars)) := ⟨okRules_eq rules vars h1 h2⟩
      have HV := Aside0.mk (inB_iff h2)
      rw [h2] at HW
      clear h2
      generalize okRules rules vars = res at *
      go_enter Try.func58, Try.ntmps58
      go_wp2_with ((go_at_call 80; refine (HW.out _).mono ?_; rintro e e1 ⟨rfl, rfl⟩))
      go_loopw [5] (fun v5 wr => ∃ k : Nat, k ≤ rules.length ∧ v5 = .int .i64 k ∧ Aside0 (AllOk (ruleOk rules vars) k) ∧ Drawn0 w wr) (fun v5 _ => rules.length - (intOf v5).toNat)
      case atStart => exact ⟨0, Nat.zero_le _, rfl, ⟨fun j hj => by omega⟩, ⟨0, rfl⟩⟩
      case round =>
        obtain ⟨k, hk, rfl, HP, ⟨m, rfl⟩⟩ := hrel
        by_cases hlt : k < rules.length
        · obtain ⟨ad, e1, d0, d1, d2, g1, g2⟩ := HR.out.2 k hlt
          cases e1
          have HC := Aside0.mk (l15Rule_n (ad.add (k * 3)) rules[k].f0 rules[k].f1 rules[k].f2 _ _ _ _ _ _ vars (w.drewN m) HV.out d0 d1 d2 (Kd.C_drewN g1 m) (Kd.C_drewN g2 m))
          have HE : Aside0 (ruleOk rules vars k = okN rules[k].f0 rules[k].f1.length rules[k].f2.length rules[k].f1 rules[k].f2 vars) := ⟨by
            unfold ruleOk
            rw [List.getD_eq_getElem?_getD, List.getElem?_eq_getElem hlt]
            rfl⟩
          rw [← HE.out] at HC
          clear d0 d1 d2 g1 g2 HE
          cases ho : ruleOk rules vars k
          · have HBAD := Aside0.mk ho
            rw [ho] at HC
            clear ho
            go_wp2_with (((with_reducible refine gate_dst (N := 24) rfl ?_); refine goesF (f := 104) (args := #[.pointer (some (ad.add (k * 3))), .int .i64 vars]) rfl rfl rfl (by (try simp only [List.map_toArray, List.map_cons, List.map_nil]); rfl) (Enter.mk Try.func104 (by kernel_rfl) rfl) ?_; refine (HC.out).mono ?_; rintro e e1 ⟨rfl, ⟨m2, rfl⟩⟩; refine ⟨_, rfl, ?_⟩))
            go_ret
            exact ⟨ret_bool (HF.out.trans (not_all hlt HBAD.out)).symm, ⟨_, rfl⟩⟩
          · have HOK := Aside0.mk ho
            rw [ho] at HC
            clear ho
            go_wp2_with (((with_reducible refine gate_dst (N := 24) rfl ?_); refine goesF (f := 104) (args := #[.pointer (some (ad.add (k * 3))), .int .i64 vars]) rfl rfl rfl (by (try simp only [List.map_toArray, List.map_cons, List.map_nil]); rfl) (Enter.mk Try.func104 (by kernel_rfl) rfl) ?_; refine (HC.out).mono ?_; rintro e e1 ⟨rfl, ⟨m2, rfl⟩⟩; refine ⟨_, rfl, ?_⟩))
            exact ⟨⟨k + 1, by omega, by go_num, ⟨HP.out.step HOK.out⟩, ⟨_, rfl⟩⟩, by simp [intOf]; omega⟩
        · go_wp2
          go_ret
          exact ⟨ret_bool (HF.out.trans (HP.out.all (by omega))).symm, ⟨_, rfl⟩⟩
theorem l16Ask_calls {w : World} {A : Option Addr} {c : Nat} {rules : List Rule} (vars budget : Int) (sh : Nat → Sh) (hr : RulesAt A rules sh w) :
    Calls Try.prog 76 #[.slice A rules.length c, .int .i64 vars, .int .i64 budget] w fun e w' => e = .returned (.bool (okRules rules vars && inB 1 5000 budget)) ∧ Drawn0 w w' := by
  have HC := Aside0.mk (l15Rules_calls (c := c) vars sh hr)
  have HW := Aside0.mk (l00In_calls budget 1 5000)
  clear hr
  cases h1 : okRules rules vars
  · rw [h1] at HC
    go_enter Try.func76, Try.ntmps76
    go_wp2_with (((with_reducible refine gate_dst (N := 9) rfl ?_); refine goesF (f := 58) (args := #[.slice A rules.length c, .int .i64 vars]) rfl rfl rfl (by (try simp only [List.map_toArray, List.map_cons, List.map_nil]); rfl) (Enter.mk Try.func58 (by kernel_rfl) rfl) ?_; refine (HC.out).mono ?_; rintro e e1 ⟨rfl, ⟨m2, rfl⟩⟩; refine ⟨_, rfl, ?_⟩))
    go_ret
    exact ⟨rfl, ⟨_, rfl⟩⟩
  · rw [h1] at HC
    generalize inB 1 5000 budget = b at *
    go_enter Try.func76, Try.ntmps76
    go_wp2_with (first
      | ((with_reducible refine gate_dst (N := 9) rfl ?_); refine goesF (f := 58) (args := #[.slice A rules.length c, .int .i64 vars]) rfl rfl rfl (by (try simp only [List.map_toArray, List.map_cons, List.map_nil]); rfl) (Enter.mk Try.func58 (by kernel_rfl) rfl) ?_; refine (HC.out).mono ?_; rintro e e1 ⟨rfl, ⟨m2, rfl⟩⟩; refine ⟨_, rfl, ?_⟩)
      | (go_at_call 80; refine (HW.out _).mono ?_; rintro e e1 ⟨rfl, rfl⟩))
    go_ret
    exact ⟨rfl, ⟨_, rfl⟩⟩
end Go.Proofs.Ytmgmilnoeghgfaa

set_option linter.unusedVariables false
set_option linter.unusedSimpArgs false
namespace Go.Proofs.Ytmgmilnoeghgfaa
open Go.RowKit Go.Proofs.YtmgmilnoeghgfaaW.PrintWords Go.Proofs.YtmgmilnoeghgfaaW.PrintLast Go.Proofs.YtmgmilnoeghgfaaW.PrintMore Go.Proofs.Ytmgmilnoeghgfaa.PFnExactSolveRules

/-- What the spec's search has found: solutions, and their number. -/
abbrev FC := List (List Int) × Nat
def fndS (most : Int) (s : FC) (vs : List Int) : FC × Bool := ((if (s.1.length : Int) < most then s.1 ++ [vs] else s.1, s.2 + 1), most == 0 || decide ((s.2 : Int) + 1 < most))
abbrev cfgS (rules : List Rule) (n : Nat) (budget most : Int) : Cfg FC := { rules, n, budget, fnd := fndS most, tell := fun s _ => s, size := fun s => max s.1.length s.2, M := 1000000000 }
theorem cfgS_ok {rules : List Rule} {n : Nat} {budget most : Int} (h1 : ∀ r ∈ rules, OkRule r n) (h2 : n ≤ 200) (h3 : 1 ≤ budget ∧ budget ≤ 5000) : (cfgS rules n budget most).Ok :=
  ⟨h1, h2, h3, fun s _ => Nat.le_succ _, fun s vs => by
    show max (fndS most s vs).1.1.length (fndS most s vs).1.2 ≤ max s.1.length s.2 + 1
    simp only [fndS]
    split <;> (try simp only [List.length_append, List.length_singleton]) <;> omega⟩
theorem foldl_still {σ : Type} (st : List Frc) (s : σ) : st.foldl (tellF fun s (_ : Node) => s) s = s := by
  induction st with
  | nil => rfl
  | cons f st ih => exact ih
abbrev specB (AR : Option Addr) (len cR : Nat) (budget steps most : Int) (count : Nat) (vL : Value) : Obj :=
  .cells #[.slice AR len cR, .int .i64 budget, .int .i64 steps, .int .i64 most, .int .i64 count, vL] 101
def ResS (AR : Option Addr) (len cR : Nat) (budget most : Int) (bx : Nat) (steps : Int) (s : FC) : HP := Ex fun v => Star [Blk bx (specB AR len cR budget steps most s.2 v), RwL v s.1]
theorem Sat.openS {w0 w : World} {ps : List HP} {AR : Option Addr} {len cR : Nat} {budget most : Int} {bx : Nat} {steps : Int} {s : FC} (S : Sat w0 (ResS AR len cR budget most bx steps s :: ps) w) : ∃ A c, Sat w0 (Blk bx (specB AR len cR budget steps most s.2 (.slice A s.1.length c)) :: RwL (.slice A s.1.length c) s.1 :: ps) w := by
  obtain ⟨v, S1⟩ := S.openEx
  have S2 := S1.openStar
  obtain ⟨A, c, rfl, _, _⟩ := S2.readsS 1 rfl
  exact ⟨A, c, S2⟩
theorem Sat.closeS {w0 w : World} {ps : List HP} {AR : Option Addr} {len cR : Nat} {budget most : Int} {bx : Nat} {steps : Int} {s : FC} {v : Value} (S : Sat w0 (Blk bx (specB AR len cR budget steps most s.2 v) :: RwL v s.1 :: ps) w) : Sat w0 (ResS AR len cR budget most bx steps s :: ps) w :=
  Sat.closeEx (v := v) (Sat.closeStar (qs := [Blk bx (specB AR len cR budget steps most s.2 v), RwL v s.1]) S)
theorem box6 {w : World} {b : Nat} {x0 x1 x2 x3 x4 x5 : Value} {t : TypeId} {fr : Nat × Nat} (h : w.heap[b]? = some (.cells #[x0, x1, x2, x3, x4, x5] t fr)) :
    w.cell? ⟨b, 0, none⟩ = some x0 ∧ w.cell? ⟨b, 1, none⟩ = some x1 ∧ w.cell? ⟨b, 2, none⟩ = some x2 ∧ w.cell? ⟨b, 3, none⟩ = some x3 ∧ w.cell? ⟨b, 4, none⟩ = some x4 ∧ w.cell? ⟨b, 5, none⟩ = some x5 := by
  simp [World.cell?, h]
theorem l16Open_calls' (A : Option Addr) (n c : Nat) (xs : List Int) (w : World) (hr : (Kd.int .i64).C w A n xs) :
    Calls Try.prog 125 #[.slice A n c] w fun e w' => e = .returned (.int .i64 (idxOf (· == 0) xs)) ∧ w = w' := by
  obtain rfl := Kd.C_len hr
  exact l16Open_calls A c xs w hr
theorem own_calls' {w0 w : World} {R : List HP} (S : Sat w0 R w) (A : Option Addr) (n c : Nat) (xs : List Int) (hr : (Kd.int .i64).C w A n xs) (hl : n * 8 ≤ 140737488355328) :
    Calls Try.prog 112 #[.slice A n c] w fun e w' => ∃ v, e = .returned v ∧ Sat w0 (RwI v xs :: R) w' := by
  obtain rfl := Kd.C_len hr
  exact own_calls S A c xs hr hl
def SpecOk (w0 : World) (rules : List Rule) (n : Nat) (budget most : Int) (AR : Option Addr) (cR bx : Nat) (sh : Nat → Sh) (d : Nat) : Prop :=
  ∀ (w : World) (R : List HP) (A : Option Addr) (c : Nat) (vs : List Int) (steps : Int) (s : FC),
    Sat w0 (RwI (.slice A n c) vs :: ResS AR rules.length cR budget most bx steps s :: R) w → ReadsRules w0 R AR rules sh → Vals n vs → zeros vs < d → 0 ≤ steps ∧ steps ≤ budget → (cfgS rules n budget most).Room steps s →
    Calls Try.prog 123 #[.pointer (some ⟨bx, 0, none⟩), .slice A n c] w fun e w' => e = .returned (.bool ((cfgS rules n budget most).search d steps s vs).1) ∧
      Sat w0 (ResS AR rules.length cR budget most bx ((cfgS rules n budget most).search d steps s vs).2.1 ((cfgS rules n budget most).search d steps s vs).2.2 :: R) w' ∧
      (cfgS rules n budget most).Fine ((cfgS rules n budget most).search d steps s vs)
set_option maxRecDepth 100000 in
set_option maxHeartbeats 8000000 in
theorem spec_step {w0 : World} {rules : List Rule} {n : Nat} {budget most : Int} {AR : Option Addr} {cR bx : Nat} {sh : Nat → Sh} (hok : (cfgS rules n budget most).Ok)
    (d : Nat) (ih : SpecOk w0 rules n budget most AR cR bx sh d) : SpecOk w0 rules n budget most AR cR bx sh (d + 1) := by
  intro w R A c vs steps s S hrd hv hzd hst hroom
  have hr5 := hok.bud
  have hsa := hst.1
  have hsb := hst.2
  have hba := hr5.1
  have hbb := hr5.2
  dsimp only at hba hbb
  obtain ⟨Af, cf, S0⟩ := (S.front 1 rfl).openS
  obtain ⟨hx0, hx1, hx2, hx3, hx4, hx5⟩ := box6 (S0.blk 0 rfl)
  have hfx := fun i => blk_free (i := i) (S0.blk 0 rfl)
  have hf2 := hfx 2
  clear hfx
  have HS1 : Aside0 (Sat w0 (Blk bx (specB AR rules.length cR budget (steps + 1) most s.2 (.slice Af s.1.length cf)) :: RwL (.slice Af s.1.length cf) s.1 :: RwI (.slice A n c) vs :: R) (w.setCell ⟨bx, 2, none⟩ (.int .i64 (steps + 1)))) :=
    ⟨by simpa using S0.setCell 0 rfl 2 (.int .i64 (steps + 1))⟩
  have HIH := Aside0.mk ih
  have HOK := Aside0.mk hok
  have HRD := Aside0.mk hrd
  have HV := Aside0.mk hv
  have HZD := Aside0.mk hzd
  have HRM := Aside0.mk hroom
  clear S S0 ih hok hrd hv hzd hroom hst hr5
  by_cases hover : budget < steps + 1
  · have hd : decide (budget < steps + 1) = true := decide_eq_true hover
    have HFIN : Aside0 ((cfgS rules n budget most).search (d + 1) steps s vs = (false, steps + 1, s)) := ⟨by simp only [Cfg.search, searchR]; rw [if_pos hover]⟩
    rw [HFIN.out]
    go_enter Try.func123, Try.ntmps123
    go_wp2
    go_quiet (fail)
    go_wp2
    go_ret
    exact ⟨rfl, ((HS1.out.drewN nq).front 2 rfl).tail.closeS, fun h => by simp at h⟩
  · have hd : decide (budget < steps + 1) = false := decide_eq_false hover
    obtain ⟨⟨bad, us, st⟩, hp0⟩ : ∃ x, propR rules (zeros vs + 1) vs [] = x := ⟨_, rfl⟩
    have hun := search_unfold (cfgS rules n budget most) d steps s vs hover hp0
    rw [foldl_still] at hun
    have hpv := prop_vals HOK.out.rule (zeros vs + 1) vs [] HV.out
    dsimp only at hpv
    rw [hp0] at hpv
    have HPV := Aside0.mk hpv
    have HP0 := Aside0.mk hp0
    have HOV : Aside0 (steps + 1 ≤ budget) := ⟨by omega⟩
    have HRM2 : Aside0 ((cfgS rules n budget most).Room (steps + 1) s ∧ max s.1.length s.2 + 202 ≤ 1000000000) := ⟨by have h := HRM.out; unfold Cfg.Room at *; dsimp only at *; constructor <;> omega⟩
    clear hpv hp0
    by_cases hbad : 0 ≤ bad
    · have hd2 : decide (0 ≤ bad) = true := decide_eq_true hbad
      rw [if_pos hbad] at hun
      rw [hun]
      clear hun
      go_enter Try.func123, Try.ntmps123
      go_wp2
      go_quiet (fail)
      go_wp2_with ((with_reducible refine gate_dst (N := 32) rfl ?_); refine goesF (f := 124) (args := #[.slice AR rules.length cR, .slice A n c]) rfl rfl rfl (by (try simp only [List.map_toArray, List.map_cons, List.map_nil]); rfl) (Enter.mk Try.func124 (by kernel_rfl) rfl) ?_; refine (l15Propagate_calls ((HS1.out.drewN nq).front 2 rfl) ((HRD.out.cons _).cons _) HOK.out.rule HV.out HOK.out.small (zeros vs + 1) (Nat.lt_succ_self _)).mono ?_; rintro e e1 ⟨bad2, us2, st2, v5, hp2, rfl, S5, hsz5⟩; refine ⟨_, rfl, ?_⟩; cases HP0.out.symm.trans hp2; clear hp2 hsz5; have HS5 := Aside0.mk S5.tail; clear S5)
      go_ret
      exact ⟨rfl, HS5.out.tail.closeS, fun _ => ⟨⟨show (0 : Int) ≤ steps + 1 by omega, HOV.out⟩, HRM2.out.1⟩⟩
    · have hd2 : decide (0 ≤ bad) = false := decide_eq_false hbad
      rw [if_neg hbad] at hun
      by_cases hix : idxOf (· == 0) us < 0
      · have hd3 : decide (idxOf (· == 0) us < 0) = true := decide_eq_true hix
        rw [if_pos hix] at hun
        replace hun : (cfgS rules n budget most).search (d + 1) steps s vs = ((fndS most s us).2, steps + 1, (fndS most s us).1) := hun
        rw [hun]
        clear hun
        have hsz := HRM2.out.2
        have hcw : IntKind.i64.wrap ((s.2 : Int) + 1) = s.2 + 1 := IntWalk.i64_in _ (by omega)
        have hfin : (cfgS rules n budget most).Fine ((fndS most s us).2, steps + 1, (fndS most s us).1) := fun _ => ⟨⟨show (0 : Int) ≤ steps + 1 by omega, HOV.out⟩, by
          have h := HRM.out
          have h4 := HOK.out.fsz s us
          show (cfgS rules n budget most).Room (steps + 1) (fndS most s us).1
          unfold Cfg.Room at *
          dsimp only at *
          omega⟩
        have HFN := Aside0.mk hfin
        clear hfin
        by_cases hlm : (s.1.length : Int) < most
        · have hd4 : decide ((s.1.length : Int) < most) = true := decide_eq_true hlm
          have HE : Aside0 ((fndS most s us).1 = (s.1 ++ [us], s.2 + 1) ∧ (fndS most s us).2 = (most == 0 || decide ((s.2 : Int) + 1 < most))) := ⟨by simp [fndS, hlm]⟩
          rw [HE.out.1] at HFN ⊢
          go_enter Try.func123, Try.ntmps123
          go_wp2
          go_quiet (fail)
          go_wp2_with (first
            | ((with_reducible refine gate_dst (N := 32) rfl ?_); refine goesF (f := 124) (args := #[.slice AR rules.length cR, .slice A n c]) rfl rfl rfl (by (try simp only [List.map_toArray, List.map_cons, List.map_nil]); rfl) (Enter.mk Try.func124 (by kernel_rfl) rfl) ?_; refine (l15Propagate_calls ((HS1.out.drewN nq).front 2 rfl) ((HRD.out.cons _).cons _) HOK.out.rule HV.out HOK.out.small (zeros vs + 1) (Nat.lt_succ_self _)).mono ?_; rintro e e1 ⟨bad2, us2, st2, v5, hp2, rfl, S5, hsz5⟩; refine ⟨_, rfl, ?_⟩; cases HP0.out.symm.trans hp2; clear hp2 hsz5; have HS5 := Aside0.mk S5.tail; clear S5)
            | ((with_reducible refine gate_dst (N := 38) rfl ?_); refine goesF (f := 125) (args := #[.slice A n c]) rfl rfl rfl (by (try simp only [List.map_toArray, List.map_cons, List.map_nil]); rfl) (Enter.mk Try.func125 (by kernel_rfl) rfl) ?_; refine (l16Open_calls' A n c us _ (HS5.out.readsN 0 rfl)).mono ?_; rintro e e1 ⟨rfl, rfl⟩; refine ⟨_, rfl, ?_⟩; obtain ⟨hy0, hy1, hy2, hy3, hy4, hy5⟩ := box6 (HS5.out.blk 1 rfl); have hf4 := blk_free (i := 4) (HS5.out.blk 1 rfl); have hf5 := blk_free (i := 5) (HS5.out.blk 1 rfl)))
          go_quiet (fail)
          have HS6 := Aside0.mk ((((HS5.out.setCell 1 rfl 4 (.int .i64 (s.2 + 1))).drewN nq).front 1 rfl |>.front 2 rfl).front 2 rfl)
          go_wp2_with ((with_reducible refine gate_builtin (b := .append) (xs := #[.tmp 62, .tmp 64]) rfl ?_); refine Sat.appendInS HS6.out rfl (.tmp 62) (.tmp 64) 27 (.slice none 0 0) 24 rfl Try.underlying27 info24 rfl (by omega) rfl (by first | rfl | (show _ = Value.slice (some ⟨(e1.setCell _ _).heap.size, 0, none⟩) 1 1; rw [World.size_setCell]; rfl)) (by have h := HRM2.out.2; omega) ?_; intro v2 w2 S7; obtain ⟨A7, c7, rfl, hle7, hC7⟩ := S7.readsS 0 rfl; clear hle7 hC7; obtain ⟨hz0, hz1, hz2, hz3, hz4, hz5⟩ := box6 (S7.blk 1 rfl); have hg5 := blk_free (i := 5) (S7.blk 1 rfl); have HS7 := Aside0.mk S7; clear S7)
          have HS8 := Aside0.mk ((HS7.out.setCell 1 rfl 5 (.slice A7 (s.1 ++ [us]).length c7)).swap)
          have hq0 := HE.out.2
          cases hm0 : (most == 0)
          · rw [hm0, Bool.false_or] at hq0
            have HQ := Aside0.mk hq0
            clear hq0
            go_quiet (fail)
            go_wp2
            go_ret
            exact ⟨ret_bool HQ.out.symm, by have h := HS8.out.drewN nq; simp only [List.length_append, List.length_singleton] at h; exact Sat.closeS (s := (s.1 ++ [us], s.2 + 1)) (v := .slice A7 (s.1.length + 1) c7) h, HFN.out⟩
          · rw [hm0, Bool.true_or] at hq0
            have HQ := Aside0.mk hq0
            clear hq0
            go_quiet (fail)
            go_wp2
            go_ret
            exact ⟨ret_bool HQ.out.symm, by have h := HS8.out.drewN nq; simp only [List.length_append, List.length_singleton] at h; exact Sat.closeS (s := (s.1 ++ [us], s.2 + 1)) (v := .slice A7 (s.1.length + 1) c7) h, HFN.out⟩
        · have hd4 : decide ((s.1.length : Int) < most) = false := decide_eq_false hlm
          have HE : Aside0 ((fndS most s us).1 = (s.1, s.2 + 1) ∧ (fndS most s us).2 = (most == 0 || decide ((s.2 : Int) + 1 < most))) := ⟨by simp [fndS, hlm]⟩
          rw [HE.out.1] at HFN ⊢
          go_enter Try.func123, Try.ntmps123
          go_wp2
          go_quiet (fail)
          go_wp2_with (first
            | ((with_reducible refine gate_dst (N := 32) rfl ?_); refine goesF (f := 124) (args := #[.slice AR rules.length cR, .slice A n c]) rfl rfl rfl (by (try simp only [List.map_toArray, List.map_cons, List.map_nil]); rfl) (Enter.mk Try.func124 (by kernel_rfl) rfl) ?_; refine (l15Propagate_calls ((HS1.out.drewN nq).front 2 rfl) ((HRD.out.cons _).cons _) HOK.out.rule HV.out HOK.out.small (zeros vs + 1) (Nat.lt_succ_self _)).mono ?_; rintro e e1 ⟨bad2, us2, st2, v5, hp2, rfl, S5, hsz5⟩; refine ⟨_, rfl, ?_⟩; cases HP0.out.symm.trans hp2; clear hp2 hsz5; have HS5 := Aside0.mk S5.tail; clear S5)
            | ((with_reducible refine gate_dst (N := 38) rfl ?_); refine goesF (f := 125) (args := #[.slice A n c]) rfl rfl rfl (by (try simp only [List.map_toArray, List.map_cons, List.map_nil]); rfl) (Enter.mk Try.func125 (by kernel_rfl) rfl) ?_; refine (l16Open_calls' A n c us _ (HS5.out.readsN 0 rfl)).mono ?_; rintro e e1 ⟨rfl, rfl⟩; refine ⟨_, rfl, ?_⟩; obtain ⟨hy0, hy1, hy2, hy3, hy4, hy5⟩ := box6 (HS5.out.blk 1 rfl); have hf4 := blk_free (i := 4) (HS5.out.blk 1 rfl); have hf5 := blk_free (i := 5) (HS5.out.blk 1 rfl)))
          go_quiet (fail)
          have HS6 := Aside0.mk ((((HS5.out.setCell 1 rfl 4 (.int .i64 (s.2 + 1))).drewN nq).front 1 rfl |>.front 2 rfl).front 2 rfl)
          go_wp2
          have HS8 := Aside0.mk HS6.out.tail.swap
          obtain ⟨hz0, hz1, hz2, hz3, hz4, hz5⟩ := box6 (HS8.out.blk 0 rfl)
          have hq0 := HE.out.2
          cases hm0 : (most == 0)
          · rw [hm0, Bool.false_or] at hq0
            have HQ := Aside0.mk hq0
            clear hq0
            go_quiet (fail)
            go_wp2
            go_ret
            exact ⟨ret_bool HQ.out.symm, by have h := HS8.out.drewN nq; rw [World.drewN_drewN] at h; exact Sat.closeS (s := (s.1, s.2 + 1)) (v := .slice Af s.1.length cf) h, HFN.out⟩
          · rw [hm0, Bool.true_or] at hq0
            have HQ := Aside0.mk hq0
            clear hq0
            go_quiet (fail)
            go_wp2
            go_ret
            exact ⟨ret_bool HQ.out.symm, by have h := HS8.out.drewN nq; rw [World.drewN_drewN] at h; exact Sat.closeS (s := (s.1, s.2 + 1)) (v := .slice Af s.1.length cf) h, HFN.out⟩
      · have hd3 : decide (idxOf (· == 0) us < 0) = false := decide_eq_false hix
        rw [if_neg hix] at hun
        replace hun : (cfgS rules n budget most).search (d + 1) steps s vs = if ((cfgS rules n budget most).search d (steps + 1) s (us.set (idxOf (· == 0) us).toNat 1)).1 = false then (cfgS rules n budget most).search d (steps + 1) s (us.set (idxOf (· == 0) us).toNat 1) else (cfgS rules n budget most).search d ((cfgS rules n budget most).search d (steps + 1) s (us.set (idxOf (· == 0) us).toNat 1)).2.1 ((cfgS rules n budget most).search d (steps + 1) s (us.set (idxOf (· == 0) us).toNat 1)).2.2 (us.set (idxOf (· == 0) us).toNat (-1)) := hun
        have hsp := idxOf_spec hix
        obtain ⟨ix, hixe⟩ : ∃ ix, ix = idxOf (· == 0) us := ⟨_, rfl⟩
        rw [← hixe] at hd3 hun hsp hix
        have HIX := Aside0.mk hixe
        clear hixe
        have hi0 := hsp.1
        have HIZ := Aside0.mk hsp.2
        clear hsp
        have HUN := Aside0.mk hun
        clear hun
        obtain ⟨res, hres⟩ : ∃ res, res = (cfgS rules n budget most).search (d + 1) steps s vs := ⟨_, rfl⟩
        rw [← hres]
        have HRES := Aside0.mk hres
        clear hres
        go_enter Try.func123, Try.ntmps123
        go_wp2
        go_quiet (fail)
        go_wp2_with (first
          | ((with_reducible refine gate_dst (N := 32) rfl ?_); refine goesF (f := 124) (args := #[.slice AR rules.length cR, .slice A n c]) rfl rfl rfl (by (try simp only [List.map_toArray, List.map_cons, List.map_nil]); rfl) (Enter.mk Try.func124 (by kernel_rfl) rfl) ?_; refine (l15Propagate_calls ((HS1.out.drewN nq).front 2 rfl) ((HRD.out.cons _).cons _) HOK.out.rule HV.out HOK.out.small (zeros vs + 1) (Nat.lt_succ_self _)).mono ?_; rintro e e1 ⟨bad2, us2, st2, v5, hp2, rfl, S5, hsz5⟩; refine ⟨_, rfl, ?_⟩; cases HP0.out.symm.trans hp2; clear hp2 hsz5; have HS5 := Aside0.mk S5.tail; clear S5)
          | ((with_reducible refine gate_dst (N := 38) rfl ?_); refine goesF (f := 125) (args := #[.slice A n c]) rfl rfl rfl (by (try simp only [List.map_toArray, List.map_cons, List.map_nil]); rfl) (Enter.mk Try.func125 (by kernel_rfl) rfl) ?_; refine (l16Open_calls' A n c us _ (HS5.out.readsN 0 rfl)).mono ?_; rintro e e1 ⟨rfl, rfl⟩; refine ⟨_, rfl, ?_⟩; obtain ⟨hy0, hy1, hy2, hy3, hy4, hy5⟩ := box6 (HS5.out.blk 1 rfl); have hf4 := blk_free (i := 4) (HS5.out.blk 1 rfl); have hf5 := blk_free (i := 5) (HS5.out.blk 1 rfl); rw [← HIX.out]))
        have hixn : ix < (n : Int) := by have h1 := HIZ.out.1; have h2 := HPV.out.1.len; omega
        have HVU := Aside0.mk HPV.out.1
        have HZU : Aside0 (zeros us < d + 1) := ⟨by have := HPV.out.2; have := HZD.out; omega⟩
        have HS7 := Aside0.mk ((HS5.out.front 1 rfl).front 2 rfl |>.swap.closeS)
        clear hy0 hy1 hy2 hy3 hy4 hy5 hf4 hf5 HS5
        go_loopw [8, 9] (fun v8 _ wr => ∃ (k : Nat) (t : Int) (q : FC), k ≤ 2 ∧ v8 = .int .i64 (1 - 2 * (k : Int)) ∧
          Aside0 ((k = 0 → t = steps + 1 ∧ q = s) ∧ (k = 1 → (cfgS rules n budget most).search d (steps + 1) s (us.set ix.toNat 1) = (true, t, q)) ∧ (k = 2 → res = (true, t, q))) ∧
          Aside0 ((0 ≤ t ∧ t ≤ budget) ∧ (cfgS rules n budget most).Room t q) ∧
          Aside0 (Sat w0 (ResS AR rules.length cR budget most bx t q :: RwI (.slice A n c) us :: R) wr)) (fun v8 _ _ => (intOf v8 + 3).toNat)
        case atStart => exact ⟨0, steps + 1, s, by omega, rfl, ⟨fun _ => ⟨rfl, rfl⟩, fun h => by omega, fun h => by omega⟩, ⟨⟨by omega, HOV.out⟩, HRM2.out.1⟩, HS7⟩
        case round =>
        clear HS7
        obtain ⟨k, t, q, hk, rfl, HST, HTB, HS⟩ := hrel
        by_cases hlt : k < 2
        · rcases (show k = 0 ∨ k = 1 by omega) with rfl | rfl
          · have hst0 := HST.out.1 rfl
            obtain ⟨rfl, rfl⟩ := hst0
            obtain ⟨r, hr⟩ : ∃ r, r = (cfgS rules n budget most).search d (steps + 1) q (us.set ix.toNat 1) := ⟨_, rfl⟩
            have HNO : Aside0 (r.1 = false → res = r) := ⟨fun h => by rw [HRES.out, HUN.out, ← hr, if_pos h]⟩
            have HYES : Aside0 (r.1 = true → (cfgS rules n budget most).search d (steps + 1) q (us.set ix.toNat 1) = (true, r.2.1, r.2.2)) := ⟨fun h => by rw [← hr, ← h]⟩
            have HRE := Aside0.mk hr
            have HZN : Aside0 (zeros (us.set ix.toNat (1)) < d) := ⟨by
              have h := zeros_set (vs := us) (k := ix.toNat) (x := 1) (by have := HIZ.out.1; omega) (by have h2 := HIZ.out.2; have h1 := HIZ.out.1; rw [show ix = ((ix.toNat : Nat) : Int) by omega, rd_at us ix.toNat (by omega)] at h2; exact h2) (by decide)
              have := HZU.out
              omega⟩
            clear hr
            cases h1 : r.1
            · have HFW := Aside0.mk (HNO.out h1)
              clear HNO HYES HUN
              have HR1 := Aside0.mk h1
              clear h1
              go_wp2_with (first
              | ((with_reducible refine gate_dst (N := 89) rfl ?_); refine goesF (f := 112) (args := #[.slice A n c]) rfl rfl rfl (by (try simp only [List.map_toArray, List.map_cons, List.map_nil]); rfl) (Enter.mk Try.func112 (by kernel_rfl) rfl) ?_; refine (own_calls' HS.out A n c us (HS.out.readsN 1 rfl) (by have h2 : n ≤ 200 := HOK.out.small; omega)).mono ?_; rintro e e1 ⟨v9, rfl, S8⟩; refine ⟨_, rfl, ?_⟩; obtain ⟨A9, c9, rfl, hle9, hC9⟩ := S8.reads 0 rfl; have hvl : us.length = n := HVU.out.len; rw [hvl] at S8; obtain ⟨g9, hg9, hx9, hf9, hl9⟩ := S8.intAt 0 rfl ix hi0 HIZ.out.1; cases hg9; have HS9 := Aside0.mk (S8.store 0 rfl ix.toNat (1)); clear S8 hle9 hC9; rw [hvl])
              | ((with_reducible refine gate_dst (N := 96) rfl ?_); refine goesF (f := 123) (args := #[.pointer (some ⟨bx, 0, none⟩), .slice (some ⟨g9, 0, none⟩) n c9]) rfl rfl rfl (by (try simp only [List.map_toArray, List.map_cons, List.map_nil]); rfl) (Enter.mk Try.func123 (by kernel_rfl) rfl) ?_; refine (HIH.out _ _ _ c9 (us.set ix.toNat (1)) (steps + 1) q HS9.out (HRD.out.cons _) (HVU.out.set ix.toNat (by simp [unit3])) HZN.out HTB.out.1 HTB.out.2).mono ?_; rintro e e1 ⟨rfl, S11, hfine⟩; refine ⟨_, rfl, ?_⟩; rw [← HRE.out, HR1.out]; rw [← HRE.out] at S11 hfine; have HS11 := Aside0.mk S11; have HFI := Aside0.mk hfine; clear S11 hfine))
              go_ret
              rw [HFW.out]
              exact ⟨by rw [HR1.out]; rfl, (HS11.out.front 1 rfl).tail, HFI.out⟩
            · have HST2 : Aside0 (((1 : Nat) = 0 → r.2.1 = steps + 1 ∧ r.2.2 = q) ∧ ((1 : Nat) = 1 → (cfgS rules n budget most).search d (steps + 1) q (us.set ix.toNat 1) = (true, r.2.1, r.2.2)) ∧ ((1 : Nat) = 2 → res = (true, r.2.1, r.2.2))) := ⟨⟨fun h => by omega, fun _ => HYES.out h1, fun h => by omega⟩⟩
              clear HNO HYES
              have HR1 := Aside0.mk h1
              clear h1
              go_wp2_with (first
              | ((with_reducible refine gate_dst (N := 89) rfl ?_); refine goesF (f := 112) (args := #[.slice A n c]) rfl rfl rfl (by (try simp only [List.map_toArray, List.map_cons, List.map_nil]); rfl) (Enter.mk Try.func112 (by kernel_rfl) rfl) ?_; refine (own_calls' HS.out A n c us (HS.out.readsN 1 rfl) (by have h2 : n ≤ 200 := HOK.out.small; omega)).mono ?_; rintro e e1 ⟨v9, rfl, S8⟩; refine ⟨_, rfl, ?_⟩; obtain ⟨A9, c9, rfl, hle9, hC9⟩ := S8.reads 0 rfl; have hvl : us.length = n := HVU.out.len; rw [hvl] at S8; obtain ⟨g9, hg9, hx9, hf9, hl9⟩ := S8.intAt 0 rfl ix hi0 HIZ.out.1; cases hg9; have HS9 := Aside0.mk (S8.store 0 rfl ix.toNat (1)); clear S8 hle9 hC9; rw [hvl])
              | ((with_reducible refine gate_dst (N := 96) rfl ?_); refine goesF (f := 123) (args := #[.pointer (some ⟨bx, 0, none⟩), .slice (some ⟨g9, 0, none⟩) n c9]) rfl rfl rfl (by (try simp only [List.map_toArray, List.map_cons, List.map_nil]); rfl) (Enter.mk Try.func123 (by kernel_rfl) rfl) ?_; refine (HIH.out _ _ _ c9 (us.set ix.toNat (1)) (steps + 1) q HS9.out (HRD.out.cons _) (HVU.out.set ix.toNat (by simp [unit3])) HZN.out HTB.out.1 HTB.out.2).mono ?_; rintro e e1 ⟨rfl, S11, hfine⟩; refine ⟨_, rfl, ?_⟩; rw [← HRE.out, HR1.out]; rw [← HRE.out] at S11 hfine; have HS11 := Aside0.mk S11; have HFI := Aside0.mk hfine; clear S11 hfine))
              exact ⟨⟨1, r.2.1, r.2.2, by omega, rfl, HST2, ⟨HFI.out HR1.out⟩, ⟨HS11.out⟩⟩, by simp [intOf]⟩
          · have hst0 := HST.out.2.1 rfl
            obtain ⟨r, hr⟩ : ∃ r, r = (cfgS rules n budget most).search d t q (us.set ix.toNat (-1)) := ⟨_, rfl⟩
            have hun2 := HUN.out
            rw [hst0] at hun2
            simp only [Bool.true_eq_false, if_false] at hun2
            have HNO : Aside0 (r.1 = false → res = r) := ⟨fun h => by rw [HRES.out, hun2, ← hr]⟩
            have HYES : Aside0 (r.1 = true → res = (true, r.2.1, r.2.2)) := ⟨fun h => by rw [HRES.out, hun2, ← hr, ← h]⟩
            clear hst0 hun2
            have HRE := Aside0.mk hr
            have HZN : Aside0 (zeros (us.set ix.toNat (-1)) < d) := ⟨by
              have h := zeros_set (vs := us) (k := ix.toNat) (x := -1) (by have := HIZ.out.1; omega) (by have h2 := HIZ.out.2; have h1 := HIZ.out.1; rw [show ix = ((ix.toNat : Nat) : Int) by omega, rd_at us ix.toNat (by omega)] at h2; exact h2) (by decide)
              have := HZU.out
              omega⟩
            clear hr
            cases h1 : r.1
            · have HFW := Aside0.mk (HNO.out h1)
              clear HNO HYES HUN
              have HR1 := Aside0.mk h1
              clear h1
              go_wp2_with (first
              | ((with_reducible refine gate_dst (N := 89) rfl ?_); refine goesF (f := 112) (args := #[.slice A n c]) rfl rfl rfl (by (try simp only [List.map_toArray, List.map_cons, List.map_nil]); rfl) (Enter.mk Try.func112 (by kernel_rfl) rfl) ?_; refine (own_calls' HS.out A n c us (HS.out.readsN 1 rfl) (by have h2 : n ≤ 200 := HOK.out.small; omega)).mono ?_; rintro e e1 ⟨v9, rfl, S8⟩; refine ⟨_, rfl, ?_⟩; obtain ⟨A9, c9, rfl, hle9, hC9⟩ := S8.reads 0 rfl; have hvl : us.length = n := HVU.out.len; rw [hvl] at S8; obtain ⟨g9, hg9, hx9, hf9, hl9⟩ := S8.intAt 0 rfl ix hi0 HIZ.out.1; cases hg9; have HS9 := Aside0.mk (S8.store 0 rfl ix.toNat (-1)); clear S8 hle9 hC9; rw [hvl])
              | ((with_reducible refine gate_dst (N := 96) rfl ?_); refine goesF (f := 123) (args := #[.pointer (some ⟨bx, 0, none⟩), .slice (some ⟨g9, 0, none⟩) n c9]) rfl rfl rfl (by (try simp only [List.map_toArray, List.map_cons, List.map_nil]); rfl) (Enter.mk Try.func123 (by kernel_rfl) rfl) ?_; refine (HIH.out _ _ _ c9 (us.set ix.toNat (-1)) (t) q HS9.out (HRD.out.cons _) (HVU.out.set ix.toNat (by simp [unit3])) HZN.out HTB.out.1 HTB.out.2).mono ?_; rintro e e1 ⟨rfl, S11, hfine⟩; refine ⟨_, rfl, ?_⟩; rw [← HRE.out, HR1.out]; rw [← HRE.out] at S11 hfine; have HS11 := Aside0.mk S11; have HFI := Aside0.mk hfine; clear S11 hfine))
              go_ret
              rw [HFW.out]
              exact ⟨by rw [HR1.out]; rfl, (HS11.out.front 1 rfl).tail, HFI.out⟩
            · have HST2 : Aside0 (((2 : Nat) = 0 → r.2.1 = steps + 1 ∧ r.2.2 = s) ∧ ((2 : Nat) = 1 → (cfgS rules n budget most).search d (steps + 1) s (us.set ix.toNat 1) = (true, r.2.1, r.2.2)) ∧ ((2 : Nat) = 2 → res = (true, r.2.1, r.2.2))) := ⟨⟨fun h => by omega, fun h => by omega, fun _ => HYES.out h1⟩⟩
              clear HNO HYES
              have HR1 := Aside0.mk h1
              clear h1
              go_wp2_with (first
              | ((with_reducible refine gate_dst (N := 89) rfl ?_); refine goesF (f := 112) (args := #[.slice A n c]) rfl rfl rfl (by (try simp only [List.map_toArray, List.map_cons, List.map_nil]); rfl) (Enter.mk Try.func112 (by kernel_rfl) rfl) ?_; refine (own_calls' HS.out A n c us (HS.out.readsN 1 rfl) (by have h2 : n ≤ 200 := HOK.out.small; omega)).mono ?_; rintro e e1 ⟨v9, rfl, S8⟩; refine ⟨_, rfl, ?_⟩; obtain ⟨A9, c9, rfl, hle9, hC9⟩ := S8.reads 0 rfl; have hvl : us.length = n := HVU.out.len; rw [hvl] at S8; obtain ⟨g9, hg9, hx9, hf9, hl9⟩ := S8.intAt 0 rfl ix hi0 HIZ.out.1; cases hg9; have HS9 := Aside0.mk (S8.store 0 rfl ix.toNat (-1)); clear S8 hle9 hC9; rw [hvl])
              | ((with_reducible refine gate_dst (N := 96) rfl ?_); refine goesF (f := 123) (args := #[.pointer (some ⟨bx, 0, none⟩), .slice (some ⟨g9, 0, none⟩) n c9]) rfl rfl rfl (by (try simp only [List.map_toArray, List.map_cons, List.map_nil]); rfl) (Enter.mk Try.func123 (by kernel_rfl) rfl) ?_; refine (HIH.out _ _ _ c9 (us.set ix.toNat (-1)) (t) q HS9.out (HRD.out.cons _) (HVU.out.set ix.toNat (by simp [unit3])) HZN.out HTB.out.1 HTB.out.2).mono ?_; rintro e e1 ⟨rfl, S11, hfine⟩; refine ⟨_, rfl, ?_⟩; rw [← HRE.out, HR1.out]; rw [← HRE.out] at S11 hfine; have HS11 := Aside0.mk S11; have HFI := Aside0.mk hfine; clear S11 hfine))
              exact ⟨⟨2, r.2.1, r.2.2, by omega, rfl, HST2, ⟨HFI.out HR1.out⟩, ⟨HS11.out⟩⟩, by simp [intOf]⟩
        · obtain rfl : k = 2 := by omega
          have HFW := Aside0.mk (HST.out.2.2 rfl)
          go_wp2
          go_ret
          rw [HFW.out]
          exact ⟨rfl, (HS.out.front 1 rfl).tail, fun _ => HTB.out⟩
theorem spec_all {w0 : World} {rules : List Rule} {n : Nat} {budget most : Int} {AR : Option Addr} {cR bx : Nat} {sh : Nat → Sh} (hok : (cfgS rules n budget most).Ok) :
    ∀ d, SpecOk w0 rules n budget most AR cR bx sh d
  | 0 => fun _ _ _ _ _ _ _ _ _ _ h => absurd h (Nat.not_lt_zero _)
  | d + 1 => spec_step hok d (spec_all hok d)
end Go.Proofs.Ytmgmilnoeghgfaa

set_option linter.unusedVariables false
set_option linter.unusedSimpArgs false
namespace Go.Proofs.Ytmgmilnoeghgfaa
open Go.RowKit Go.Proofs.YtmgmilnoeghgfaaW.PrintWords Go.Proofs.YtmgmilnoeghgfaaW.PrintLast Go.Proofs.YtmgmilnoeghgfaaW.PrintMore Go.Proofs.Ytmgmilnoeghgfaa.PFnExactSolveRules

/-! ### The spec's search is the program's search -/
def dup (r : Bool × Int × List (List Int)) : Bool × Int × FC := (r.1, r.2.1, (r.2.2, r.2.2.length))
theorem search_dup (rules : List Rule) (n : Nat) (budget most : Int) : ∀ (d : Nat) (steps : Int) (xs : List (List Int)) (vs : List Int), (xs.length : Int) < most →
    (cfgS rules n budget most).search d steps (xs, xs.length) vs = dup ((cfgL rules n budget most).search d steps xs vs) ∧
      (((cfgL rules n budget most).search d steps xs vs).1 = true → (((cfgL rules n budget most).search d steps xs vs).2.2.length : Int) < most)
  | 0, steps, xs, vs, h => ⟨rfl, fun _ => h⟩
  | d + 1, steps, xs, vs, h => by
    by_cases hover : budget < steps + 1
    · have e1 : (cfgS rules n budget most).search (d + 1) steps (xs, xs.length) vs = (false, steps + 1, (xs, xs.length)) := by simp only [Cfg.search, searchR]; rw [if_pos hover]
      have e2 : (cfgL rules n budget most).search (d + 1) steps xs vs = (false, steps + 1, xs) := by simp only [Cfg.search, searchR]; rw [if_pos hover]
      rw [e1, e2]
      exact ⟨rfl, fun h => by simp at h⟩
    · obtain ⟨⟨bad, us, st⟩, hp0⟩ : ∃ x, propR rules (zeros vs + 1) vs [] = x := ⟨_, rfl⟩
      have e1 := search_unfold (cfgS rules n budget most) d steps (xs, xs.length) vs hover hp0
      have e2 := search_unfold (cfgL rules n budget most) d steps xs vs hover hp0
      rw [foldl_still] at e1 e2
      dsimp only at e1 e2
      by_cases hbad : 0 ≤ bad
      · rw [if_pos hbad] at e1 e2
        rw [e1, e2]
        exact ⟨rfl, fun _ => h⟩
      · rw [if_neg hbad] at e1 e2
        by_cases hix : idxOf (· == 0) us < 0
        · rw [if_pos hix] at e1 e2
          rw [e1, e2]
          have hm : (most == 0) = false := by
            have : most ≠ 0 := by omega
            simpa using this
          have h1 : fndS most (xs, xs.length) us = ((xs ++ [us], xs.length + 1), decide ((xs.length : Int) + 1 < most)) := by simp [fndS, h, hm]
          have h2 : fndL most xs us = (xs ++ [us], decide ((xs.length : Int) + 1 < most)) := by simp [fndL]
          rw [h1, h2]
          exact ⟨by simp [dup], fun h => by simpa using h⟩
        · rw [if_neg hix] at e1 e2
          obtain ⟨i1, i2⟩ := search_dup rules n budget most d (steps + 1) xs (us.set (idxOf (· == 0) us).toNat 1) h
          rw [i1] at e1
          rw [e1, e2]
          cases h1 : ((cfgL rules n budget most).search d (steps + 1) xs (us.set (idxOf (· == 0) us).toNat 1)).1
          · have : (dup ((cfgL rules n budget most).search d (steps + 1) xs (us.set (idxOf (· == 0) us).toNat 1))).1 = false := h1
            rw [if_pos this, if_pos rfl]
            exact ⟨rfl, i2⟩
          · have h3 : ¬ (dup ((cfgL rules n budget most).search d (steps + 1) xs (us.set (idxOf (· == 0) us).toNat 1))).1 = false := by
              show ¬ ((cfgL rules n budget most).search d (steps + 1) xs (us.set (idxOf (· == 0) us).toNat 1)).1 = false
              rw [h1]
              decide
            rw [if_neg h3, if_neg (by decide)]
            exact search_dup rules n budget most d _ _ _ (i2 h1)
abbrev Cfg.allS (rules : List Rule) (n : Nat) (budget most : Int) : Bool × Int × FC := (cfgS rules n budget most).search (n + 1) 0 ([], 0) (List.replicate n 0)
theorem all_dup (rules : List Rule) (n : Nat) (budget most : Int) (h : 0 < most) : Cfg.allS rules n budget most = dup ((cfgL rules n budget most).all []) :=
  (search_dup rules n budget most (n + 1) 0 [] (List.replicate n 0) (by simpa using h)).1

/-! ### l16Solve -/
set_option maxRecDepth 100000 in
set_option maxHeartbeats 2000000 in
theorem l16Solve_calls {w0 w : World} {R : List HP} {AR : Option Addr} {cR : Nat} {rules : List Rule} {sh : Nat → Sh} {n : Nat} {budget most : Int} (h1 : ∀ r ∈ rules, OkRule r n) (h2 : n ≤ 200) (h3 : 1 ≤ budget ∧ budget ≤ 5000)
    (S : Sat w0 R w) (hrd : ReadsRules w0 R AR rules sh) :
    Calls Try.prog 77 #[.slice AR rules.length cR, .int .i64 n, .int .i64 budget, .int .i64 most] w fun e w' => ∃ bx, e = .returned (.pointer (some ⟨bx, 0, none⟩)) ∧ Sat w0 (ResS AR rules.length cR budget most bx (Cfg.allS rules n budget most).2.1 (Cfg.allS rules n budget most).2.2 :: R) w' := by
  have S1 := Sat.closeS (s := ([], 0)) ((S.emptyS (Kd.slice 2 (Kd.int .i64)) 24).alloc (specB AR rules.length cR budget 0 most 0 (.slice (some ⟨w.heap.size, 0, none⟩) 0 0)))
  have S2 := S1.made n (by omega)
  simp only [World.size_alloc] at S2
  have hmk := print_make (P := Try.prog) 24 2 .i64 8 Try.underlying24 info2 (by omega) n (by omega)
  have HC := Aside0.mk (spec_all (cfgS_ok (most := most) h1 h2 h3) (n + 1) _ _ _ _ (List.replicate n 0) 0 ([], 0) S2 hrd (vals_made n) (by have := zeros_made n; omega) ⟨by omega, by omega⟩ (by simp only [Cfg.Room, List.length_nil]; have := h3.2; simp; omega))
  clear S S1 S2 hrd h1 h3
  go_enter Try.func77, Try.ntmps77
  go_wp2_with (((with_reducible refine gate_dst (N := 19) rfl ?_); refine goesF (f := 123) (args := #[.pointer (some ⟨w.heap.size + 1, 0, none⟩), .slice (some ⟨w.heap.size + 1 + 1, 0, none⟩) n n]) rfl rfl rfl (by (try simp only [List.map_toArray, List.map_cons, List.map_nil]); rfl) (Enter.mk Try.func123 (by kernel_rfl) rfl) ?_; refine (HC.out).mono ?_; rintro e e1 ⟨rfl, S2, hf⟩; refine ⟨_, rfl, ?_⟩; have HS2 := Aside0.mk S2; clear S2 hf))
  go_ret
  exact ⟨_, rfl, HS2.out⟩
end Go.Proofs.Ytmgmilnoeghgfaa

set_option linter.unusedVariables false
set_option linter.unusedSimpArgs false
namespace Go.Proofs.Ytmgmilnoeghgfaa
open Go.RowKit Go.Proofs.YtmgmilnoeghgfaaW.PrintWords Go.Proofs.YtmgmilnoeghgfaaW.PrintLast Go.Proofs.YtmgmilnoeghgfaaW.PrintMore Go.Proofs.Ytmgmilnoeghgfaa.PFnExactSolveRules

set_option maxRecDepth 100000 in
set_option maxHeartbeats 2000000 in
theorem specFirst_calls {w0 w : World} {R : List HP} {AR : Option Addr} {cR : Nat} {rules : List Rule} {sh : Nat → Sh} {vars budget : Int}
    (S : Sat w0 R w) (hrd : ReadsRules w0 R AR rules sh) :
    Calls Try.prog 26 #[.slice AR rules.length cR, .int .i64 vars, .int .i64 budget] w (FirstQ w0 R (firstR rules vars budget)) := by
  have HV := Aside0.mk (l16Ask_calls (c := cR) vars budget sh (hrd w S))
  have HS := Aside0.mk S
  cases hv : (okRules rules vars && inB 1 5000 budget)
  · have HF : Aside0 (firstR rules vars budget = ([], 1)) := ⟨by
      unfold firstR
      rw [if_neg]
      intro h
      rw [h.1, h.2] at hv
      simp at hv⟩
    rw [hv] at HV
    clear S hrd hv
    go_enter Try.func26, Try.ntmps26
    go_wp2_with (((with_reducible refine gate_dst (N := 12) rfl ?_); refine goesF (f := 76) (args := #[.slice AR rules.length cR, .int .i64 vars, .int .i64 budget]) rfl rfl rfl (by (try simp only [List.map_toArray, List.map_cons, List.map_nil]); rfl) (Enter.mk Try.func76 (by kernel_rfl) rfl) ?_; refine (HV.out).mono ?_; rintro e e1 ⟨rfl, ⟨m, rfl⟩⟩; refine ⟨_, rfl, ?_⟩))
    go_ret2
    rw [HF.out]
    exact ⟨_, rfl, (HS.out.drewN _).nil _ _⟩
  · obtain ⟨hv1, hv2⟩ : okRules rules vars = true ∧ inB 1 5000 budget = true := by simpa using hv
    obtain ⟨g1, g2, g3⟩ := okRules_good hv1
    have hn : ((vars.toNat : Nat) : Int) = vars := by omega
    have HF : Aside0 (firstR rules vars budget = firstOf budget (resL rules vars budget 1)) := ⟨by simp [firstR, firstOf, hv1, hv2]⟩
    have HC : Aside0 (∀ w', Sat w0 R w' → Calls Try.prog 77 #[.slice AR rules.length cR, .int .i64 vars, .int .i64 budget, .int .i64 1] w' fun e w' => ∃ bx, e = .returned (.pointer (some ⟨bx, 0, none⟩)) ∧ Sat w0 (ResS AR rules.length cR budget 1 bx (resL rules vars budget 1).2.1 ((resL rules vars budget 1).2.2, (resL rules vars budget 1).2.2.length) :: R) w') := ⟨fun w' S' => by
      have h := l16Solve_calls (cR := cR) (most := 1) g3 (by omega) (inB_iff hv2) S' hrd
      rw [all_dup _ _ _ _ (by omega), hn] at h
      exact h⟩
    rw [hv] at HV
    generalize resL rules vars budget 1 = r at *
    obtain ⟨go, steps, found⟩ := r
    dsimp only at HC
    clear S hrd hv g1 g2 g3 hn hv1 hv2
    by_cases hsp : budget < steps
    · have hd : decide (budget < steps) = true := decide_eq_true hsp
      have HF2 : Aside0 (firstR rules vars budget = ([], 10)) := ⟨by rw [HF.out]; simp [firstOf, hsp]⟩
      clear HF
      go_enter Try.func26, Try.ntmps26
      go_wp2_with (first
        | ((with_reducible refine gate_dst (N := 12) rfl ?_); refine goesF (f := 76) (args := #[.slice AR rules.length cR, .int .i64 vars, .int .i64 budget]) rfl rfl rfl (by (try simp only [List.map_toArray, List.map_cons, List.map_nil]); rfl) (Enter.mk Try.func76 (by kernel_rfl) rfl) ?_; refine (HV.out).mono ?_; rintro e e1 ⟨rfl, ⟨m, rfl⟩⟩; refine ⟨_, rfl, ?_⟩)
        | ((with_reducible refine gate_dst (N := 17) rfl ?_); refine goesF (f := 77) (args := #[.slice AR rules.length cR, .int .i64 vars, .int .i64 budget, .int .i64 1]) rfl rfl rfl (by (try simp only [List.map_toArray, List.map_cons, List.map_nil]); rfl) (Enter.mk Try.func77 (by kernel_rfl) rfl) ?_; refine (HC.out _ (HS.out.drewN _)).mono ?_; rintro e e1 ⟨bx, rfl, S2⟩; refine ⟨_, rfl, ?_⟩; obtain ⟨A2, c2, S3⟩ := S2.openS; obtain ⟨hx0, hx1, hx2, hx3, hx4, hx5⟩ := box6 (S3.blk 0 rfl); have HS3 := Aside0.mk S3; clear S2 S3))
      go_ret2
      rw [HF2.out]
      exact ⟨_, rfl, HS3.out.tail.tail.nil _ _⟩
    · have hd : decide (budget < steps) = false := decide_eq_false hsp
      cases found with
      | nil =>
        have HF2 : Aside0 (firstR rules vars budget = ([], 8)) := ⟨by rw [HF.out]; simp [firstOf, hsp]⟩
        clear HF
        go_enter Try.func26, Try.ntmps26
        go_wp2_with (first
          | ((with_reducible refine gate_dst (N := 12) rfl ?_); refine goesF (f := 76) (args := #[.slice AR rules.length cR, .int .i64 vars, .int .i64 budget]) rfl rfl rfl (by (try simp only [List.map_toArray, List.map_cons, List.map_nil]); rfl) (Enter.mk Try.func76 (by kernel_rfl) rfl) ?_; refine (HV.out).mono ?_; rintro e e1 ⟨rfl, ⟨m, rfl⟩⟩; refine ⟨_, rfl, ?_⟩)
          | ((with_reducible refine gate_dst (N := 17) rfl ?_); refine goesF (f := 77) (args := #[.slice AR rules.length cR, .int .i64 vars, .int .i64 budget, .int .i64 1]) rfl rfl rfl (by (try simp only [List.map_toArray, List.map_cons, List.map_nil]); rfl) (Enter.mk Try.func77 (by kernel_rfl) rfl) ?_; refine (HC.out _ (HS.out.drewN _)).mono ?_; rintro e e1 ⟨bx, rfl, S2⟩; refine ⟨_, rfl, ?_⟩; obtain ⟨A2, c2, S3⟩ := S2.openS; obtain ⟨hx0, hx1, hx2, hx3, hx4, hx5⟩ := box6 (S3.blk 0 rfl); have HS3 := Aside0.mk S3; clear S2 S3))
        go_ret2
        rw [HF2.out]
        exact ⟨_, rfl, HS3.out.tail.tail.nil _ _⟩
      | cons x xs =>
        have HF2 : Aside0 (firstR rules vars budget = (x, 0)) := ⟨by rw [HF.out]; simp [firstOf, hsp]⟩
        have hpos : 0 < (x :: xs).length := by simp
        clear HF
        go_enter Try.func26, Try.ntmps26
        go_wp2_with (first
          | ((with_reducible refine gate_dst (N := 12) rfl ?_); refine goesF (f := 76) (args := #[.slice AR rules.length cR, .int .i64 vars, .int .i64 budget]) rfl rfl rfl (by (try simp only [List.map_toArray, List.map_cons, List.map_nil]); rfl) (Enter.mk Try.func76 (by kernel_rfl) rfl) ?_; refine (HV.out).mono ?_; rintro e e1 ⟨rfl, ⟨m, rfl⟩⟩; refine ⟨_, rfl, ?_⟩)
          | ((with_reducible refine gate_dst (N := 17) rfl ?_); refine goesF (f := 77) (args := #[.slice AR rules.length cR, .int .i64 vars, .int .i64 budget, .int .i64 1]) rfl rfl rfl (by (try simp only [List.map_toArray, List.map_cons, List.map_nil]); rfl) (Enter.mk Try.func77 (by kernel_rfl) rfl) ?_; refine (HC.out _ (HS.out.drewN _)).mono ?_; rintro e e1 ⟨bx, rfl, S2⟩; refine ⟨_, rfl, ?_⟩; obtain ⟨A2, c2, S3⟩ := S2.openS; obtain ⟨hx0, hx1, hx2, hx3, hx4, hx5⟩ := box6 (S3.blk 0 rfl); obtain ⟨g, v0, rfl, hv0, S4⟩ := S3.tail.toR.take 0 (by simp); have HS4 := Aside0.mk S4; clear S2 S3 S4))
        go_ret2
        rw [HF2.out]
        exact ⟨v0, rfl, HS4.out⟩
set_option maxRecDepth 100000 in
set_option maxHeartbeats 2000000 in
theorem specSolve_calls {w0 w : World} {R : List HP} {AR : Option Addr} {cR : Nat} {rules : List Rule} {sh : Nat → Sh} {vars budget most : Int}
    (S : Sat w0 R w) (hrd : ReadsRules w0 R AR rules sh) :
    Calls Try.prog 31 #[.slice AR rules.length cR, .int .i64 vars, .int .i64 budget, .int .i64 most] w (SolvesQ w0 R (solveR rules vars budget most)) := by
  have HV := Aside0.mk (l16Ask_calls (c := cR) vars budget sh (hrd w S))
  have HM := Aside0.mk (l00In_calls most 1 100)
  have HS := Aside0.mk S
  cases hv : (okRules rules vars && inB 1 5000 budget)
  · have HF : Aside0 (solveR rules vars budget most = ([], 0, 1)) := ⟨by
      unfold solveR
      rw [if_neg]
      intro h
      rw [h.1, h.2.1] at hv
      simp at hv⟩
    rw [hv] at HV
    clear S hrd hv
    go_enter Try.func31, Try.ntmps31
    go_wp2_with (((with_reducible refine gate_dst (N := 15) rfl ?_); refine goesF (f := 76) (args := #[.slice AR rules.length cR, .int .i64 vars, .int .i64 budget]) rfl rfl rfl (by (try simp only [List.map_toArray, List.map_cons, List.map_nil]); rfl) (Enter.mk Try.func76 (by kernel_rfl) rfl) ?_; refine (HV.out).mono ?_; rintro e e1 ⟨rfl, ⟨m, rfl⟩⟩; refine ⟨_, rfl, ?_⟩))
    go_ret3
    rw [HF.out]
    exact ⟨_, rfl, (HS.out.drewN _).nilS _ _⟩
  · rw [hv] at HV
    cases hm : inB 1 100 most
    · have HF : Aside0 (solveR rules vars budget most = ([], 0, 1)) := ⟨by simp [solveR, hm]⟩
      rw [hm] at HM
      clear S hrd hv hm
      go_enter Try.func31, Try.ntmps31
      go_wp2_with (first
        | ((with_reducible refine gate_dst (N := 15) rfl ?_); refine goesF (f := 76) (args := #[.slice AR rules.length cR, .int .i64 vars, .int .i64 budget]) rfl rfl rfl (by (try simp only [List.map_toArray, List.map_cons, List.map_nil]); rfl) (Enter.mk Try.func76 (by kernel_rfl) rfl) ?_; refine (HV.out).mono ?_; rintro e e1 ⟨rfl, ⟨m, rfl⟩⟩; refine ⟨_, rfl, ?_⟩)
        | (go_at_call 80; refine (HM.out _).mono ?_; rintro e e1 ⟨rfl, rfl⟩))
      go_ret3
      rw [HF.out]
      exact ⟨_, rfl, (HS.out.drewN _).nilS _ _⟩
    · obtain ⟨hv1, hv2⟩ : okRules rules vars = true ∧ inB 1 5000 budget = true := by simpa using hv
      obtain ⟨g1, g2, g3⟩ := okRules_good hv1
      have hm1 := inB_iff hm
      have hn : ((vars.toNat : Nat) : Int) = vars := by omega
      rw [hm] at HM
      have HF : Aside0 (solveR rules vars budget most = solveOf budget (resL rules vars budget most)) := ⟨by simp [solveR, solveOf, hv1, hv2, hm]⟩
      have HC : Aside0 (∀ w', Sat w0 R w' → Calls Try.prog 77 #[.slice AR rules.length cR, .int .i64 vars, .int .i64 budget, .int .i64 most] w' fun e w' => ∃ bx, e = .returned (.pointer (some ⟨bx, 0, none⟩)) ∧ Sat w0 (ResS AR rules.length cR budget most bx (resL rules vars budget most).2.1 ((resL rules vars budget most).2.2, (resL rules vars budget most).2.2.length) :: R) w') := ⟨fun w' S' => by
        have h := l16Solve_calls (cR := cR) (most := most) g3 (by omega) (inB_iff hv2) S' hrd
        rw [all_dup _ _ _ _ (by omega), hn] at h
        exact h⟩
      generalize resL rules vars budget most = r at *
      obtain ⟨go, steps, found⟩ := r
      dsimp only at HC
      clear S hrd hv g1 g2 g3 hn hv1 hv2 hm hm1
      by_cases hsp : budget < steps
      · have hd : decide (budget < steps) = true := decide_eq_true hsp
        have HF2 : Aside0 (solveR rules vars budget most = ([], 0, 10)) := ⟨by rw [HF.out]; simp [solveOf, hsp]⟩
        clear HF
        go_enter Try.func31, Try.ntmps31
        go_wp2_with (first
          | ((with_reducible refine gate_dst (N := 15) rfl ?_); refine goesF (f := 76) (args := #[.slice AR rules.length cR, .int .i64 vars, .int .i64 budget]) rfl rfl rfl (by (try simp only [List.map_toArray, List.map_cons, List.map_nil]); rfl) (Enter.mk Try.func76 (by kernel_rfl) rfl) ?_; refine (HV.out).mono ?_; rintro e e1 ⟨rfl, ⟨m, rfl⟩⟩; refine ⟨_, rfl, ?_⟩)
          | (go_at_call 80; refine (HM.out _).mono ?_; rintro e e1 ⟨rfl, rfl⟩)
          | ((with_reducible refine gate_dst (N := 26) rfl ?_); refine goesF (f := 77) (args := #[.slice AR rules.length cR, .int .i64 vars, .int .i64 budget, .int .i64 most]) rfl rfl rfl (by (try simp only [List.map_toArray, List.map_cons, List.map_nil]); rfl) (Enter.mk Try.func77 (by kernel_rfl) rfl) ?_; refine (HC.out _ (HS.out.drewN _)).mono ?_; rintro e e1 ⟨bx, rfl, S2⟩; refine ⟨_, rfl, ?_⟩; obtain ⟨A2, c2, S3⟩ := S2.openS; obtain ⟨hx0, hx1, hx2, hx3, hx4, hx5⟩ := box6 (S3.blk 0 rfl); have HS3 := Aside0.mk S3; clear S2 S3))
        go_ret3
        rw [HF2.out]
        exact ⟨_, rfl, HS3.out.tail.tail.nilS _ _⟩
      · have hd : decide (budget < steps) = false := decide_eq_false hsp
        have HF2 : Aside0 (solveR rules vars budget most = (found, steps, 0)) := ⟨by rw [HF.out]; simp [solveOf, hsp]⟩
        clear HF
        go_enter Try.func31, Try.ntmps31
        go_wp2_with (first
          | ((with_reducible refine gate_dst (N := 15) rfl ?_); refine goesF (f := 76) (args := #[.slice AR rules.length cR, .int .i64 vars, .int .i64 budget]) rfl rfl rfl (by (try simp only [List.map_toArray, List.map_cons, List.map_nil]); rfl) (Enter.mk Try.func76 (by kernel_rfl) rfl) ?_; refine (HV.out).mono ?_; rintro e e1 ⟨rfl, ⟨m, rfl⟩⟩; refine ⟨_, rfl, ?_⟩)
          | (go_at_call 80; refine (HM.out _).mono ?_; rintro e e1 ⟨rfl, rfl⟩)
          | ((with_reducible refine gate_dst (N := 26) rfl ?_); refine goesF (f := 77) (args := #[.slice AR rules.length cR, .int .i64 vars, .int .i64 budget, .int .i64 most]) rfl rfl rfl (by (try simp only [List.map_toArray, List.map_cons, List.map_nil]); rfl) (Enter.mk Try.func77 (by kernel_rfl) rfl) ?_; refine (HC.out _ (HS.out.drewN _)).mono ?_; rintro e e1 ⟨bx, rfl, S2⟩; refine ⟨_, rfl, ?_⟩; obtain ⟨A2, c2, S3⟩ := S2.openS; obtain ⟨hx0, hx1, hx2, hx3, hx4, hx5⟩ := box6 (S3.blk 0 rfl); have HS3 := Aside0.mk S3; clear S2 S3))
        go_quiet (fail)
        go_wp2
        go_ret3
        rw [HF2.out]
        exact ⟨_, rfl, (HS3.out.tail).drewN _⟩
end Go.Proofs.Ytmgmilnoeghgfaa
