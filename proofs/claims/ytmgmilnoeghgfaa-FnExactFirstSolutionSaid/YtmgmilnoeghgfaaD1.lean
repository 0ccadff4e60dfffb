import Derived.Test.YtmgmilnoeghgfaaC3
set_option linter.unusedVariables false
set_option linter.unusedSimpArgs false
namespace Go.Proofs.Ytmgmilnoeghgfaa
open Go.RowKit Go.Proofs.YtmgmilnoeghgfaaW.PrintWords Go.Proofs.YtmgmilnoeghgfaaW.PrintLast Go.Proofs.YtmgmilnoeghgfaaW.PrintMore Go.Proofs.Ytmgmilnoeghgfaa.PFnExactSolveRules

theorem quiet_in {P : Program} {f : FuncId} {args : Array Value} {w : World} {v : Value}
    (h : Calls P f args w fun e w' => e = .returned v ∧ ∃ m, w' = w.drewN m) : Calls P f args w fun e w'' => e = .returned v ∧ ∃ m, w'' = w.drewN m := h
set_option maxHeartbeats 4000000 in
theorem l00Rises_calls (A : Option Addr) (c : Nat) (xs : List Int) (lo hi : Int) (w : World) (hr : (Kd.int .i64).C w A xs.length xs) :
    Calls Try.prog 144 #[.slice A xs.length c, .int .i64 lo, .int .i64 hi] w fun e w' => e = .returned (.bool (rises lo hi xs)) ∧ Drawn0 w w' := by
  have HR := Aside0.mk hr
  have hm := Kd.C_max hr
  clear hr
  go_enter Try.func144, Try.ntmps144
  go_wp2
  go_loopw [7] (fun v7 wr => ∃ k : Nat, k ≤ xs.length ∧ v7 = .int .i64 k ∧ Aside0 (AllOk (stepOk lo hi xs) k) ∧ Drawn0 w wr) (fun v7 _ => xs.length - (intOf v7).toNat)
  case atStart => exact ⟨0, Nat.zero_le _, rfl, ⟨fun j hj => by omega⟩, Drawn0.refl _⟩
  case round =>
    obtain ⟨k, hk, rfl, HP, ⟨m, rfl⟩⟩ := hrel
    by_cases hlt : k < xs.length
    · obtain ⟨ad, e1, hx⟩ := Kd.at_int HR.out (k : Int) (by omega) (by omega)
      cases e1
      simp only [Int.toNat_natCast] at hx
      have HW := Aside0.mk (l00In_calls (rd xs k) lo hi)
      cases h1 : inB lo hi (rd xs k)
      · have HBAD : Aside0 (stepOk lo hi xs k = false) := ⟨by simp [stepOk, h1]⟩
        generalize rd xs k = x at *
        rw [h1] at HW
        clear h1
        go_wp2
        go_quiet ((go_at_call 80; refine (HW.out _).mono ?_; rintro e w' ⟨rfl, rfl⟩; exact ⟨rfl, _, rfl⟩))
        go_wp2
        go_ret
        exact ⟨ret_bool (not_all hlt HBAD.out).symm, by repeat (first | exact Drawn0.refl _ | apply Drawn0.step)⟩
      · by_cases hk0 : k = 0
        · have HOK : Aside0 (stepOk lo hi xs k = true) := ⟨by rw [stepOk, h1, hk0]; rfl⟩
          generalize rd xs k = x at *
          rw [h1] at HW
          clear h1
          subst hk0
          rw [show ad.add 0 = ad from by simp [Addr.add]] at hx
          go_wp2
          go_quiet ((go_at_call 80; refine (HW.out _).mono ?_; rintro e w' ⟨rfl, rfl⟩; exact ⟨rfl, _, rfl⟩))
          go_wp2
          exact ⟨⟨1, by omega, by go_num, ⟨HP.out.step HOK.out⟩, ⟨_, rfl⟩⟩, by simp [intOf]; omega⟩
        · obtain ⟨ad2, e2, hy⟩ := Kd.at_int HR.out ((k - 1 : Nat) : Int) (by omega) (by omega)
          cases e2
          simp only [Int.toNat_natCast] at hy
          have hpos : 0 < k := by omega
          have hd : decide (0 < k) = true := decide_eq_true hpos
          have hge : (0 : Int) ≤ (k : Int) - 1 := by omega
          have hlt2 : (k : Int) - 1 < xs.length := by omega
          by_cases hlt3 : rd xs (k - 1 : Nat) < rd xs k
          · have HOK : Aside0 (stepOk lo hi xs k = true) := ⟨by simp [stepOk, h1, hlt3]⟩
            have hd3 : decide (rd xs k ≤ rd xs (k - 1 : Nat)) = false := decide_eq_false (by omega)
            generalize rd xs (k - 1 : Nat) = y at *
            generalize rd xs k = x at *
            rw [h1] at HW
            clear h1 hk0 hlt3
            go_wp2
            go_quiet ((go_at_call 80; refine (HW.out _).mono ?_; rintro e w' ⟨rfl, rfl⟩; exact ⟨rfl, _, rfl⟩))
            go_wp2
            exact ⟨⟨k + 1, by omega, by go_num, ⟨HP.out.step HOK.out⟩, ⟨_, rfl⟩⟩, by simp [intOf]; omega⟩
          · have HBAD : Aside0 (stepOk lo hi xs k = false) := ⟨by simp [stepOk, h1, hlt3, hk0]⟩
            have hd3 : decide (rd xs k ≤ rd xs (k - 1 : Nat)) = true := decide_eq_true (by omega)
            generalize rd xs (k - 1 : Nat) = y at *
            generalize rd xs k = x at *
            rw [h1] at HW
            clear h1 hk0 hlt3
            go_wp2
            go_quiet ((go_at_call 80; refine (HW.out _).mono ?_; rintro e w' ⟨rfl, rfl⟩; exact ⟨rfl, _, rfl⟩))
            go_wp2
            go_ret
            exact ⟨ret_bool (not_all hlt HBAD.out).symm, by repeat (first | exact Drawn0.refl _ | apply Drawn0.step)⟩
    · go_wp2
      go_ret
      exact ⟨ret_bool (HP.out.all (by omega)).symm, ⟨_, rfl⟩⟩

theorem l00Rises_calls' (A : Option Addr) (n c : Nat) (xs : List Int) (lo hi : Int) (w : World) (hr : (Kd.int .i64).C w A n xs) :
    Calls Try.prog 144 #[.slice A n c, .int .i64 lo, .int .i64 hi] w fun e w' => e = .returned (.bool (rises lo hi xs)) ∧ Drawn0 w w' := by
  obtain rfl := Kd.C_len hr
  exact l00Rises_calls A c xs lo hi w hr
theorem quiet_d {P : Program} {f : FuncId} {args : Array Value} {w : World} {n : Nat} {v : Value}
    (h : Calls P f args (w.drewN n) fun e w' => e = .returned v ∧ Drawn0 (w.drewN n) w') : Calls P f args (w.drewN n) fun e w'' => e = .returned v ∧ ∃ m, w'' = w.drewN m :=
  h.mono fun e w' ⟨he, ⟨k, hk⟩⟩ => ⟨he, n + k, by rw [hk]; exact World.drewN_drewN _ _ _⟩
def okN (k : Int) (n1 n2 : Nat) (vs ss : List Int) (vars : Int) : Bool := inB 1 4 k && (((n1 : Int) == k) && (((n2 : Int) == (n1 : Int)) && (rises 0 (vars - 1) vs && ss.all fun x => x == 1 || x == -1)))
def unitB (xs : List Int) (k : Nat) : Bool := rd xs k == 1 || rd xs k == -1
theorem all_unit {xs : List Int} : (xs.all fun x => x == 1 || x == -1) = (List.range xs.length).all (unitB xs) := by
  rw [Bool.eq_iff_iff, List.all_eq_true, List.all_eq_true]
  constructor
  · intro h k hk
    have hk' := List.mem_range.1 hk
    unfold unitB
    rw [rd_at xs k hk']
    exact h _ (List.getElem_mem hk')
  · intro h x hx
    obtain ⟨k, hk, rfl⟩ := List.getElem_of_mem hx
    have := h k (List.mem_range.2 hk)
    unfold unitB at this
    rwa [rd_at xs k hk] at this
set_option maxHeartbeats 8000000 in
theorem l15Rule_n (a0 : Addr) (k : Int) (vs ss : List Int) (A1 A2 : Option Addr) (n1 n2 c1 c2 : Nat) (vars : Int) (w : World) (hvr : 0 ≤ vars ∧ vars ≤ 200)
    (d0 : w.cell? a0 = some (.int .i64 k)) (d1 : w.cell? ⟨a0.block, a0.off + 1, none⟩ = some (.slice A1 n1 c1)) (d2 : w.cell? ⟨a0.block, a0.off + 2, none⟩ = some (.slice A2 n2 c2))
    (h1 : (Kd.int .i64).C w A1 n1 vs) (h2 : (Kd.int .i64).C w A2 n2 ss) :
    Calls Try.prog 104 #[.pointer (some a0), .int .i64 vars] w fun e w' => e = .returned (.bool (okN k n1 n2 vs ss vars)) ∧ Drawn0 w w' := by
  have HC1 := Aside0.mk h1
  have HC2 := Aside0.mk h2
  have hm1 := Kd.C_max h1
  have hm2 := Kd.C_max h2
  have hl2 := Kd.C_len h2
  clear h1 h2
  have hra := hvr.1
  have hrb := hvr.2
  clear hvr
  have hwr : IntKind.i64.wrap (vars - 1) = vars - 1 := IntWalk.i64_in _ (by omega)
  have HU := Aside0.mk (all_unit (xs := ss))
  have HA := Aside0.mk (l00In_calls k 1 4)
  have HR := Aside0.mk (fun m => quiet_d (l00Rises_calls' A1 n1 c1 vs 0 (vars - 1) (w.drewN m) (Kd.C_drewN HC1.out m)))
  cases hv2 : inB 1 4 k
  · have HF : Aside0 (okN k n1 n2 vs ss vars = false) := ⟨by simp [okN, hv2]⟩
    rw [hv2] at HA
    go_enter Try.func104, Try.ntmps104
    go_wp2
    go_quiet ((first | (go_at_call 80; exact quiet_eq (HA.out _)) | (go_at_call 144; exact HR.out _)))
    go_wp2
    go_ret
    exact ⟨ret_bool HF.out.symm, ⟨_, rfl⟩⟩
  · rw [hv2] at HA
    cases hv3 : ((n1 : Int) == k)
    · have HF : Aside0 (okN k n1 n2 vs ss vars = false) := ⟨by simp [okN, hv3]⟩
      have hne : ((n1 : Int) != k) = true := by simp only [bne, hv3]; rfl
      go_enter Try.func104, Try.ntmps104
      go_wp2
      go_quiet ((first | (go_at_call 80; exact quiet_eq (HA.out _)) | (go_at_call 144; exact HR.out _)))
      go_wp2
      go_ret
      exact ⟨ret_bool HF.out.symm, ⟨_, rfl⟩⟩
    · obtain rfl : (n1 : Int) = k := by simpa using hv3
      clear hv3
      have hs1 : ((n1 : Int) == (n1 : Int)) = true := by simp
      cases hv4 : ((n2 : Int) == (n1 : Int))
      · have HF : Aside0 (okN n1 n1 n2 vs ss vars = false) := ⟨by simp [okN, hv4]⟩
        have hne : ((n2 : Int) != (n1 : Int)) = true := by simp only [bne, hv4]; rfl
        go_enter Try.func104, Try.ntmps104
        go_wp2
        go_quiet ((first | (go_at_call 80; exact quiet_eq (HA.out _)) | (go_at_call 144; exact HR.out _)))
        go_wp2
        go_ret
        exact ⟨ret_bool HF.out.symm, ⟨_, rfl⟩⟩
      · obtain rfl : n2 = n1 := by
          have : (n2 : Int) = n1 := by simpa using hv4
          omega
        clear hv4
        cases hv5 : rises 0 (vars - 1) vs
        · have HF : Aside0 (okN n2 n2 n2 vs ss vars = false) := ⟨by simp [okN, hv5]⟩
          rw [hv5] at HR
          go_enter Try.func104, Try.ntmps104
          go_wp2
          go_quiet ((first | (go_at_call 80; exact quiet_eq (HA.out _)) | (go_at_call 144; exact HR.out _)))
          go_wp2
          go_ret
          exact ⟨ret_bool HF.out.symm, ⟨_, rfl⟩⟩
        · have HF : Aside0 (okN n2 n2 n2 vs ss vars = (List.range ss.length).all (unitB ss)) := ⟨by simp [okN, hv5, hv2, HU.out]⟩
          rw [hv5] at HR
          clear hv2 hv5
          generalize okN n2 n2 n2 vs ss vars = res at *
          go_enter Try.func104, Try.ntmps104
          go_wp2
          go_quiet ((first | (go_at_call 80; exact quiet_eq (HA.out _)) | (go_at_call 144; exact HR.out _)))
          go_wp2
          go_loopw [5] (fun v5 wr => ∃ k : Nat, k ≤ n2 ∧ v5 = .int .i64 k ∧ Aside0 (AllOk (unitB ss) k) ∧ Drawn0 w wr) (fun v5 _ => n2 - (intOf v5).toNat)
          case atStart => exact ⟨0, Nat.zero_le _, rfl, ⟨fun j hj => by omega⟩, ⟨_, rfl⟩⟩
          case round =>
            obtain ⟨j, hj, rfl, HP, ⟨m, rfl⟩⟩ := hrel
            by_cases hlt : j < n2
            · obtain ⟨ad, e1, hx⟩ := Kd.at_int HC2.out (j : Int) (by omega) (by omega)
              cases e1
              simp only [Int.toNat_natCast] at hx
              by_cases hu1 : rd ss j = 1
              · have HOK : Aside0 (unitB ss j = true) := ⟨by simp [unitB, hu1]⟩
                rw [hu1] at hx
                clear hu1
                go_wp2
                exact ⟨⟨j + 1, by omega, by go_num, ⟨HP.out.step HOK.out⟩, ⟨_, rfl⟩⟩, by simp [intOf]; omega⟩
              · by_cases hu2 : rd ss j = -1
                · have HOK : Aside0 (unitB ss j = true) := ⟨by simp [unitB, hu2]⟩
                  rw [hu2] at hx
                  clear hu1 hu2
                  go_wp2
                  exact ⟨⟨j + 1, by omega, by go_num, ⟨HP.out.step HOK.out⟩, ⟨_, rfl⟩⟩, by simp [intOf]; omega⟩
                · have HBAD : Aside0 (unitB ss j = false) := ⟨by simp [unitB, hu1, hu2]⟩
                  generalize rd ss j = x at *
                  have hb1 : (x != 1) = true := by simpa using hu1
                  have hb2 : (x != -1) = true := by simpa using hu2
                  clear hu1 hu2
                  go_wp2
                  go_ret
                  exact ⟨ret_bool (HF.out.trans (not_all (by omega) HBAD.out)).symm, ⟨_, rfl⟩⟩
            · go_wp2
              go_ret
              exact ⟨ret_bool (HF.out.trans (HP.out.all (by omega))).symm, ⟨_, rfl⟩⟩

/-! ### l15Rules -/
def ruleOk (rules : List Rule) (vars : Int) (k : Nat) : Bool := (rules.getD k ⟨0, [], []⟩ |> fun r => okRule r vars)
theorem okRules_eq (rules : List Rule) (vars : Int) (h1 : ¬ 3000 < rules.length) (h2 : inB 0 200 vars = true) : okRules rules vars = (List.range rules.length).all (ruleOk rules vars) := by
  have h3 : decide ((rules.length : Int) ≤ 3000) = true := decide_eq_true (by omega)
  rw [okRules, h2, h3, Bool.true_and, Bool.true_and, List.not_any_eq_all_not]
  simp only [h2, Bool.true_and, Bool.not_not]
  rw [Bool.eq_iff_iff, List.all_eq_true, List.all_eq_true]
  constructor
  · intro h k hk
    have hk' := List.mem_range.1 hk
    unfold ruleOk
    rw [List.getD_eq_getElem?_getD, List.getElem?_eq_getElem hk']
    exact h _ (List.getElem_mem hk')
  · intro h x hx
    obtain ⟨k, hk, rfl⟩ := List.getElem_of_mem hx
    have := h k (List.mem_range.2 hk)
    unfold ruleOk at this
    rwa [List.getD_eq_getElem?_getD, List.getElem?_eq_getElem hk] at this
set_option maxHeartbeats 2000000 in
theorem l15Rules_calls {w : World} {A : Option Addr} {c : Nat} {rules : List Rule} (vars : Int) (sh : Nat → Sh) (hr : RulesAt A rules sh w) :
    Calls Try.prog 58 #[.slice A rules.length c, .int .i64 vars] w fun e w' => e = .returned (.bool (okRules rules vars)) ∧ Drawn0 w w' := by
  have hm := hr.1
  have HR := Aside0.mk hr
  have HW := Aside0.mk (l00In_calls vars 0 200)
  clear hr
  by_cases h1 : 3000 < rules.length
  · have hd : decide ((3000 : Int) < (rules.length : Int)) = true := decide_eq_true (by omega)
    have HF : Aside0 (okRules rules vars = false) := ⟨by
      have : decide ((rules.length : Int) ≤ 3000) = false := decide_eq_false (by omega)
      simp [okRules, this]⟩
    go_enter Try.func58, Try.ntmps58
    go_wp2
    go_ret
    exact ⟨ret_bool HF.out.symm, ⟨0, rfl⟩⟩
  · have hd : decide ((3000 : Int) < (rules.length : Int)) = false := decide_eq_false (by omega)
    cases h2 : inB 0 200 vars
    · have HF : Aside0 (okRules rules vars = false) := ⟨by simp [okRules, h2]⟩
      rw [h2] at HW
      clear h2
      go_enter Try.func58, Try.ntmps58
      go_wp2_with ((go_at_call 80; refine (HW.out _).mono ?_; rintro e e1 ⟨rfl, rfl⟩))
      go_ret
      exact ⟨ret_bool HF.out.symm, ⟨0, rfl⟩⟩
    · have HF : Aside0 (okRules rules vars = (List.range rules.length).all (ruleOk rules vars)) := ⟨okRules_eq rules vars h1 h2⟩
      have HV := Aside0.mk (inB_iff h2)
      rw [h2] at HW
      clear h2
      generalize okRules rules vars = res at *
      go_enter Try.func58, Try.ntmps58
      go_wp2_with ((go_at_call 80; refine (HW.out _).mono ?_; rintro e e1 ⟨rfl, rfl⟩))
      go_loopw [5] (fun v5 wr => ∃ k : Nat, k ≤ rules.length ∧ v5 = .int .i64 k ∧ Aside0 (AllOk (ruleOk rules vars) k) ∧ Drawn0 w wr) (fun v5 _ => rules.length - (intOf v5).toNat)
      case atStart => exact ⟨0, Nat.zero_le _, rfl, ⟨fun j hj => by omega⟩, ⟨0, rfl⟩⟩
      case round =>
        obtain ⟨k, hk, rfl, HP, ⟨m, rfl⟩⟩ := hrel
        by_cases hlt : k < rules.length
        · obtain ⟨ad, e1, d0, d1, d2, g1, g2⟩ := HR.out.2 k hlt
          cases e1
          have HC := Aside0.mk (l15Rule_n (ad.add (k * 3)) rules[k].f0 rules[k].f1 rules[k].f2 _ _ _ _ _ _ vars (w.drewN m) HV.out d0 d1 d2 (Kd.C_drewN g1 m) (Kd.C_drewN g2 m))
          have HE : Aside0 (ruleOk rules vars k = okN rules[k].f0 rules[k].f1.length rules[k].f2.length rules[k].f1 rules[k].f2 vars) := ⟨by
            unfold ruleOk
            rw [List.getD_eq_getElem?_getD, List.getElem?_eq_getElem hlt]
            rfl⟩
          rw [← HE.out] at HC
          clear d0 d1 d2 g1 g2 HE
          cases ho : ruleOk rules vars k
          · have HBAD := Aside0.mk ho
            rw [ho] at HC
            clear ho
            go_wp2_with (((with_reducible refine gate_dst (N := 24) rfl ?_); refine goesF (f := 104) (args := #[.pointer (some (ad.add (k * 3))), .int .i64 vars]) rfl rfl rfl (by (try simp only [List.map_toArray, List.map_cons, List.map_nil]); rfl) (Enter.mk Try.func104 (by kernel_rfl) rfl) ?_; refine (HC.out).mono ?_; rintro e e1 ⟨rfl, ⟨m2, rfl⟩⟩; refine ⟨_, rfl, ?_⟩))
            go_ret
            exact ⟨ret_bool (HF.out.trans (not_all hlt HBAD.out)).symm, ⟨_, rfl⟩⟩
          · have HOK := Aside0.mk ho
            rw [ho] at HC
            clear ho
            go_wp2_with (((with_reducible refine gate_dst (N := 24) rfl ?_); refine goesF (f := 104) (args := #[.pointer (some (ad.add (k * 3))), .int .i64 vars]) rfl rfl rfl (by (try simp only [List.map_toArray, List.map_cons, List.map_nil]); rfl) (Enter.mk Try.func104 (by kernel_rfl) rfl) ?_; refine (HC.out).mono ?_; rintro e e1 ⟨rfl, ⟨m2, rfl⟩⟩; refine ⟨_, rfl, ?_⟩))
            exact ⟨⟨k + 1, by omega, by go_num, ⟨HP.out.step HOK.out⟩, ⟨_, rfl⟩⟩, by simp [intOf]; omega⟩
        · go_wp2
          go_ret
          exact ⟨ret_bool (HF.out.trans (HP.out.all (by omega))).symm, ⟨_, rfl⟩⟩
theorem l16Ask_calls {w : World} {A : Option Addr} {c : Nat} {rules : List Rule} (vars budget : Int) (sh : Nat → Sh) (hr : RulesAt A rules sh w) :
    Calls Try.prog 76 #[.slice A rules.length c, .int .i64 vars, .int .i64 budget] w fun e w' => e = .returned (.bool (okRules rules vars && inB 1 5000 budget)) ∧ Drawn0 w w' := by
  have HC := Aside0.mk (l15Rules_calls (c := c) vars sh hr)
  have HW := Aside0.mk (l00In_calls budget 1 5000)
  clear hr
  cases h1 : okRules rules vars
  · rw [h1] at HC
    go_enter Try.func76, Try.ntmps76
    go_wp2_with (((with_reducible refine gate_dst (N := 9) rfl ?_); refine goesF (f := 58) (args := #[.slice A rules.length c, .int .i64 vars]) rfl rfl rfl (by (try simp only [List.map_toArray, List.map_cons, List.map_nil]); rfl) (Enter.mk Try.func58 (by kernel_rfl) rfl) ?_; refine (HC.out).mono ?_; rintro e e1 ⟨rfl, ⟨m2, rfl⟩⟩; refine ⟨_, rfl, ?_⟩))
    go_ret
    exact ⟨rfl, ⟨_, rfl⟩⟩
  · rw [h1] at HC
    generalize inB 1 5000 budget = b at *
    go_enter Try.func76, Try.ntmps76
    go_wp2_with (first
      | ((with_reducible refine gate_dst (N := 9) rfl ?_); refine goesF (f := 58) (args := #[.slice A rules.length c, .int .i64 vars]) rfl rfl rfl (by (try simp only [List.map_toArray, List.map_cons, List.map_nil]); rfl) (Enter.mk Try.func58 (by kernel_rfl) rfl) ?_; refine (HC.out).mono ?_; rintro e e1 ⟨rfl, ⟨m2, rfl⟩⟩; refine ⟨_, rfl, ?_⟩)
      | (go_at_call 80; refine (HW.out _).mono ?_; rintro e e1 ⟨rfl, rfl⟩))
    go_ret
    exact ⟨rfl, ⟨_, rfl⟩⟩
end Go.Proofs.Ytmgmilnoeghgfaa
