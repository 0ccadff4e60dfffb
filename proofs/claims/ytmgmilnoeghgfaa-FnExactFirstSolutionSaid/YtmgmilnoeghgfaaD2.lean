import Derived.Test.YtmgmilnoeghgfaaD1
set_option linter.unusedVariables false
set_option linter.unusedSimpArgs false
namespace Go.Proofs.Ytmgmilnoeghgfaa
open Go.RowKit Go.Proofs.YtmgmilnoeghgfaaW.PrintWords Go.Proofs.YtmgmilnoeghgfaaW.PrintLast Go.Proofs.YtmgmilnoeghgfaaW.PrintMore Go.Proofs.Ytmgmilnoeghgfaa.PFnExactSolveRules

/-- What the spec's search has found: solutions, and their number. -/
abbrev FC := List (List Int) × Nat
def fndS (most : Int) (s : FC) (vs : List Int) : FC × Bool := ((if (s.1.length : Int) < most then s.1 ++ [vs] else s.1, s.2 + 1), most == 0 || decide ((s.2 : Int) + 1 < most))
abbrev cfgS (rules : List Rule) (n : Nat) (budget most : Int) : Cfg FC := { rules, n, budget, fnd := fndS most, tell := fun s _ => s, size := fun s => max s.1.length s.2, M := 1000000000 }
theorem cfgS_ok {rules : List Rule} {n : Nat} {budget most : Int} (h1 : ∀ r ∈ rules, OkRule r n) (h2 : n ≤ 200) (h3 : 1 ≤ budget ∧ budget ≤ 5000) : (cfgS rules n budget most).Ok :=
  ⟨h1, h2, h3, fun s _ => Nat.le_succ _, fun s vs => by
    show max (fndS most s vs).1.1.length (fndS most s vs).1.2 ≤ max s.1.length s.2 + 1
    simp only [fndS]
    split <;> (try simp only [List.length_append, List.length_singleton]) <;> omega⟩
theorem foldl_still {σ : Type} (st : List Frc) (s : σ) : st.foldl (tellF fun s (_ : Node) => s) s = s := by
  induction st with
  | nil => rfl
  | cons f st ih => exact ih
abbrev specB (AR : Option Addr) (len cR : Nat) (budget steps most : Int) (count : Nat) (vL : Value) : Obj :=
  .cells #[.slice AR len cR, .int .i64 budget, .int .i64 steps, .int .i64 most, .int .i64 count, vL] 101
def ResS (AR : Option Addr) (len cR : Nat) (budget most : Int) (bx : Nat) (steps : Int) (s : FC) : HP := Ex fun v => Star [Blk bx (specB AR len cR budget steps most s.2 v), RwL v s.1]
theorem Sat.openS {w0 w : World} {ps : List HP} {AR : Option Addr} {len cR : Nat} {budget most : Int} {bx : Nat} {steps : Int} {s : FC} (S : Sat w0 (ResS AR len cR budget most bx steps s :: ps) w) : ∃ A c, Sat w0 (Blk bx (specB AR len cR budget steps most s.2 (.slice A s.1.length c)) :: RwL (.slice A s.1.length c) s.1 :: ps) w := by
  obtain ⟨v, S1⟩ := S.openEx
  have S2 := S1.openStar
  obtain ⟨A, c, rfl, _, _⟩ := S2.reads 1 rfl
  exact ⟨A, c, S2⟩
theorem Sat.closeS {w0 w : World} {ps : List HP} {AR : Option Addr} {len cR : Nat} {budget most : Int} {bx : Nat} {steps : Int} {s : FC} {v : Value} (S : Sat w0 (Blk bx (specB AR len cR budget steps most s.2 v) :: RwL v s.1 :: ps) w) : Sat w0 (ResS AR len cR budget most bx steps s :: ps) w :=
  Sat.closeEx (v := v) (Sat.closeStar (qs := [Blk bx (specB AR len cR budget steps most s.2 v), RwL v s.1]) S)
theorem box6 {w : World} {b : Nat} {x0 x1 x2 x3 x4 x5 : Value} {t : TypeId} {fr : Nat × Nat} (h : w.heap[b]? = some (.cells #[x0, x1, x2, x3, x4, x5] t fr)) :
    w.cell? ⟨b, 0, none⟩ = some x0 ∧ w.cell? ⟨b, 1, none⟩ = some x1 ∧ w.cell? ⟨b, 2, none⟩ = some x2 ∧ w.cell? ⟨b, 3, none⟩ = some x3 ∧ w.cell? ⟨b, 4, none⟩ = some x4 ∧ w.cell? ⟨b, 5, none⟩ = some x5 := by
  simp [World.cell?, h]
theorem l16Open_calls' (A : Option Addr) (n c : Nat) (xs : List Int) (w : World) (hr : (Kd.int .i64).C w A n xs) :
    Calls Try.prog 125 #[.slice A n c] w fun e w' => e = .returned (.int .i64 (idxOf (· == 0) xs)) ∧ w = w' := by
  obtain rfl := Kd.C_len hr
  exact l16Open_calls A c xs w hr
theorem own_calls' {w0 w : World} {R : List HP} (S : Sat w0 R w) (A : Option Addr) (n c : Nat) (xs : List Int) (hr : (Kd.int .i64).C w A n xs) (hl : n * 8 ≤ 140737488355328) :
    Calls Try.prog 112 #[.slice A n c] w fun e w' => ∃ v, e = .returned v ∧ Sat w0 (RwI v xs :: R) w' := by
  obtain rfl := Kd.C_len hr
  exact own_calls S A c xs hr hl
def SpecOk (w0 : World) (rules : List Rule) (n : Nat) (budget most : Int) (AR : Option Addr) (cR bx : Nat) (sh : Nat → Sh) (d : Nat) : Prop :=
  ∀ (w : World) (R : List HP) (A : Option Addr) (c : Nat) (vs : List Int) (steps : Int) (s : FC),
    Sat w0 (RwI (.slice A n c) vs :: ResS AR rules.length cR budget most bx steps s :: R) w → ReadsRules w0 R AR rules sh → Vals n vs → zeros vs < d → 0 ≤ steps ∧ steps ≤ budget → (cfgS rules n budget most).Room steps s →
    Calls Try.prog 123 #[.pointer (some ⟨bx, 0, none⟩), .slice A n c] w fun e w' => e = .returned (.bool ((cfgS rules n budget most).search d steps s vs).1) ∧
      Sat w0 (ResS AR rules.length cR budget most bx ((cfgS rules n budget most).search d steps s vs).2.1 ((cfgS rules n budget most).search d steps s vs).2.2 :: R) w' ∧
      (cfgS rules n budget most).Fine ((cfgS rules n budget most).search d steps s vs)
set_option maxRecDepth 100000 in
set_option maxHeartbeats 8000000 in
theorem spec_step {w0 : World} {rules : List Rule} {n : Nat} {budget most : Int} {AR : Option Addr} {cR bx : Nat} {sh : Nat → Sh} (hok : (cfgS rules n budget most).Ok)
    (d : Nat) (ih : SpecOk w0 rules n budget most AR cR bx sh d) : SpecOk w0 rules n budget most AR cR bx sh (d + 1) := by
  intro w R A c vs steps s S hrd hv hzd hst hroom
  have hr5 := hok.bud
  have hsa := hst.1
  have hsb := hst.2
  have hba := hr5.1
  have hbb := hr5.2
  dsimp only at hba hbb
  obtain ⟨Af, cf, S0⟩ := (S.front 1 rfl).openS
  obtain ⟨hx0, hx1, hx2, hx3, hx4, hx5⟩ := box6 (S0.blk 0 rfl)
  have hfx := fun i => blk_free (i := i) (S0.blk 0 rfl)
  have hf2 := hfx 2
  clear hfx
  have HS1 : Aside0 (Sat w0 (Blk bx (specB AR rules.length cR budget (steps + 1) most s.2 (.slice Af s.1.length cf)) :: RwL (.slice Af s.1.length cf) s.1 :: RwI (.slice A n c) vs :: R) (w.setCell ⟨bx, 2, none⟩ (.int .i64 (steps + 1)))) :=
    ⟨by simpa using S0.setCell 0 rfl 2 (.int .i64 (steps + 1))⟩
  have HIH := Aside0.mk ih
  have HOK := Aside0.mk hok
  have HRD := Aside0.mk hrd
  have HV := Aside0.mk hv
  have HZD := Aside0.mk hzd
  have HRM := Aside0.mk hroom
  clear S S0 ih hok hrd hv hzd hroom hst hr5
  by_cases hover : budget < steps + 1
  · have hd : decide (budget < steps + 1) = true := decide_eq_true hover
    have HFIN : Aside0 ((cfgS rules n budget most).search (d + 1) steps s vs = (false, steps + 1, s)) := ⟨by simp only [Cfg.search, searchR]; rw [if_pos hover]⟩
    rw [HFIN.out]
    go_enter Try.func123, Try.ntmps123
    go_wp2
    go_quiet (fail)
    go_wp2
    go_ret
    exact ⟨rfl, ((HS1.out.drewN nq).front 2 rfl).tail.closeS, fun h => by simp at h⟩
  · have hd : decide (budget < steps + 1) = false := decide_eq_false hover
    obtain ⟨⟨bad, us, st⟩, hp0⟩ : ∃ x, propR rules (zeros vs + 1) vs [] = x := ⟨_, rfl⟩
    have hun := search_unfold (cfgS rules n budget most) d steps s vs hover hp0
    rw [foldl_still] at hun
    have hpv := prop_vals HOK.out.rule (zeros vs + 1) vs [] HV.out
    dsimp only at hpv
    rw [hp0] at hpv
    have HPV := Aside0.mk hpv
    have HP0 := Aside0.mk hp0
    have HOV : Aside0 (steps + 1 ≤ budget) := ⟨by omega⟩
    have HRM2 : Aside0 ((cfgS rules n budget most).Room (steps + 1) s ∧ max s.1.length s.2 + 202 ≤ 1000000000) := ⟨by have h := HRM.out; unfold Cfg.Room at *; dsimp only at *; constructor <;> omega⟩
    clear hpv hp0
    by_cases hbad : 0 ≤ bad
    · have hd2 : decide (0 ≤ bad) = true := decide_eq_true hbad
      rw [if_pos hbad] at hun
      rw [hun]
      clear hun
      go_enter Try.func123, Try.ntmps123
      go_wp2
      go_quiet (fail)
      go_wp2_with ((with_reducible refine gate_dst (N := 32) rfl ?_); refine goesF (f := 124) (args := #[.slice AR rules.length cR, .slice A n c]) rfl rfl rfl (by (try simp only [List.map_toArray, List.map_cons, List.map_nil]); rfl) (Enter.mk Try.func124 (by kernel_rfl) rfl) ?_; refine (l15Propagate_calls ((HS1.out.drewN nq).front 2 rfl) ((HRD.out.cons _).cons _) HOK.out.rule HV.out HOK.out.small (zeros vs + 1) (Nat.lt_succ_self _)).mono ?_; rintro e e1 ⟨bad2, us2, st2, v5, hp2, rfl, S5, hsz5⟩; refine ⟨_, rfl, ?_⟩; cases HP0.out.symm.trans hp2; clear hp2 hsz5; have HS5 := Aside0.mk S5.tail; clear S5)
      go_ret
      exact ⟨rfl, HS5.out.tail.closeS, fun _ => ⟨⟨show (0 : Int) ≤ steps + 1 by omega, HOV.out⟩, HRM2.out.1⟩⟩
    · have hd2 : decide (0 ≤ bad) = false := decide_eq_false hbad
      rw [if_neg hbad] at hun
      by_cases hix : idxOf (· == 0) us < 0
      · have hd3 : decide (idxOf (· == 0) us < 0) = true := decide_eq_true hix
        rw [if_pos hix] at hun
        replace hun : (cfgS rules n budget most).search (d + 1) steps s vs = ((fndS most s us).2, steps + 1, (fndS most s us).1) := hun
        rw [hun]
        clear hun
        have hsz := HRM2.out.2
        have hcw : IntKind.i64.wrap ((s.2 : Int) + 1) = s.2 + 1 := IntWalk.i64_in _ (by omega)
        have hfin : (cfgS rules n budget most).Fine ((fndS most s us).2, steps + 1, (fndS most s us).1) := fun _ => ⟨⟨show (0 : Int) ≤ steps + 1 by omega, HOV.out⟩, by
          have h := HRM.out
          have h4 := HOK.out.fsz s us
          show (cfgS rules n budget most).Room (steps + 1) (fndS most s us).1
          unfold Cfg.Room at *
          dsimp only at *
          omega⟩
        have HFN := Aside0.mk hfin
        clear hfin
        by_cases hlm : (s.1.length : Int) < most
        · have hd4 : decide ((s.1.length : Int) < most) = true := decide_eq_true hlm
          have HE : Aside0 ((fndS most s us).1 = (s.1 ++ [us], s.2 + 1) ∧ (fndS most s us).2 = (most == 0 || decide ((s.2 : Int) + 1 < most))) := ⟨by simp [fndS, hlm]⟩
          rw [HE.out.1] at HFN ⊢
          go_enter Try.func123, Try.ntmps123
          go_wp2
          go_quiet (fail)
          go_wp2_with (first
            | ((with_reducible refine gate_dst (N := 32) rfl ?_); refine goesF (f := 124) (args := #[.slice AR rules.length cR, .slice A n c]) rfl rfl rfl (by (try simp only [List.map_toArray, List.map_cons, List.map_nil]); rfl) (Enter.mk Try.func124 (by kernel_rfl) rfl) ?_; refine (l15Propagate_calls ((HS1.out.drewN nq).front 2 rfl) ((HRD.out.cons _).cons _) HOK.out.rule HV.out HOK.out.small (zeros vs + 1) (Nat.lt_succ_self _)).mono ?_; rintro e e1 ⟨bad2, us2, st2, v5, hp2, rfl, S5, hsz5⟩; refine ⟨_, rfl, ?_⟩; cases HP0.out.symm.trans hp2; clear hp2 hsz5; have HS5 := Aside0.mk S5.tail; clear S5)
            | ((with_reducible refine gate_dst (N := 38) rfl ?_); refine goesF (f := 125) (args := #[.slice A n c]) rfl rfl rfl (by (try simp only [List.map_toArray, List.map_cons, List.map_nil]); rfl) (Enter.mk Try.func125 (by kernel_rfl) rfl) ?_; refine (l16Open_calls' A n c us _ (HS5.out.readsN 0 rfl)).mono ?_; rintro e e1 ⟨rfl, rfl⟩; refine ⟨_, rfl, ?_⟩; obtain ⟨hy0, hy1, hy2, hy3, hy4, hy5⟩ := box6 (HS5.out.blk 1 rfl); have hf4 := blk_free (i := 4) (HS5.out.blk 1 rfl); have hf5 := blk_free (i := 5) (HS5.out.blk 1 rfl)))
          go_quiet (fail)
          have HS6 := Aside0.mk ((((HS5.out.setCell 1 rfl 4 (.int .i64 (s.2 + 1))).drewN nq).front 1 rfl |>.front 2 rfl).front 2 rfl)
          go_wp2_with ((with_reducible refine gate_builtin (b := .append) (xs := #[.tmp 62, .tmp 64]) rfl ?_); refine Sat.appendIn HS6.out rfl (.tmp 62) (.tmp 64) 27 (.slice none 0 0) 24 rfl Try.underlying27 info24 rfl (by omega) rfl (by first | rfl | (show _ = Value.slice (some ⟨(e1.setCell _ _).heap.size, 0, none⟩) 1 1; rw [World.size_setCell]; rfl)) (by have h := HRM2.out.2; omega) ?_; intro v2 w2 S7; obtain ⟨A7, c7, rfl, hle7, hC7⟩ := S7.reads 0 rfl; clear hle7 hC7; obtain ⟨hz0, hz1, hz2, hz3, hz4, hz5⟩ := box6 (S7.blk 1 rfl); have hg5 := blk_free (i := 5) (S7.blk 1 rfl); have HS7 := Aside0.mk S7; clear S7)
          have HS8 := Aside0.mk ((HS7.out.setCell 1 rfl 5 (.slice A7 (s.1 ++ [us]).length c7)).swap)
          have hq0 := HE.out.2
          cases hm0 : (most == 0)
          · rw [hm0, Bool.false_or] at hq0
            have HQ := Aside0.mk hq0
            clear hq0
            go_quiet (fail)
            go_wp2
            go_ret
            exact ⟨ret_bool HQ.out.symm, by have h := HS8.out.drewN nq; simp only [List.length_append, List.length_singleton] at h; exact Sat.closeS (s := (s.1 ++ [us], s.2 + 1)) (v := .slice A7 (s.1.length + 1) c7) h, HFN.out⟩
          · rw [hm0, Bool.true_or] at hq0
            have HQ := Aside0.mk hq0
            clear hq0
            go_quiet (fail)
            go_wp2
            go_ret
            exact ⟨ret_bool HQ.out.symm, by have h := HS8.out.drewN nq; simp only [List.length_append, List.length_singleton] at h; exact Sat.closeS (s := (s.1 ++ [us], s.2 + 1)) (v := .slice A7 (s.1.length + 1) c7) h, HFN.out⟩
        · have hd4 : decide ((s.1.length : Int) < most) = false := decide_eq_false hlm
          have HE : Aside0 ((fndS most s us).1 = (s.1, s.2 + 1) ∧ (fndS most s us).2 = (most == 0 || decide ((s.2 : Int) + 1 < most))) := ⟨by simp [fndS, hlm]⟩
          rw [HE.out.1] at HFN ⊢
          go_enter Try.func123, Try.ntmps123
          go_wp2
          go_quiet (fail)
          go_wp2_with (first
            | ((with_reducible refine gate_dst (N := 32) rfl ?_); refine goesF (f := 124) (args := #[.slice AR rules.length cR, .slice A n c]) rfl rfl rfl (by (try simp only [List.map_toArray, List.map_cons, List.map_nil]); rfl) (Enter.mk Try.func124 (by kernel_rfl) rfl) ?_; refine (l15Propagate_calls ((HS1.out.drewN nq).front 2 rfl) ((HRD.out.cons _).cons _) HOK.out.rule HV.out HOK.out.small (zeros vs + 1) (Nat.lt_succ_self _)).mono ?_; rintro e e1 ⟨bad2, us2, st2, v5, hp2, rfl, S5, hsz5⟩; refine ⟨_, rfl, ?_⟩; cases HP0.out.symm.trans hp2; clear hp2 hsz5; have HS5 := Aside0.mk S5.tail; clear S5)
            | ((with_reducible refine gate_dst (N := 38) rfl ?_); refine goesF (f := 125) (args := #[.slice A n c]) rfl rfl rfl (by (try simp only [List.map_toArray, List.map_cons, List.map_nil]); rfl) (Enter.mk Try.func125 (by kernel_rfl) rfl) ?_; refine (l16Open_calls' A n c us _ (HS5.out.readsN 0 rfl)).mono ?_; rintro e e1 ⟨rfl, rfl⟩; refine ⟨_, rfl, ?_⟩; obtain ⟨hy0, hy1, hy2, hy3, hy4, hy5⟩ := box6 (HS5.out.blk 1 rfl); have hf4 := blk_free (i := 4) (HS5.out.blk 1 rfl); have hf5 := blk_free (i := 5) (HS5.out.blk 1 rfl)))
          go_quiet (fail)
          have HS6 := Aside0.mk ((((HS5.out.setCell 1 rfl 4 (.int .i64 (s.2 + 1))).drewN nq).front 1 rfl |>.front 2 rfl).front 2 rfl)
          go_wp2
          have HS8 := Aside0.mk HS6.out.tail.swap
          obtain ⟨hz0, hz1, hz2, hz3, hz4, hz5⟩ := box6 (HS8.out.blk 0 rfl)
          have hq0 := HE.out.2
          cases hm0 : (most == 0)
          · rw [hm0, Bool.false_or] at hq0
            have HQ := Aside0.mk hq0
            clear hq0
            go_quiet (fail)
            go_wp2
            go_ret
            exact ⟨ret_bool HQ.out.symm, by have h := HS8.out.drewN nq; rw [World.drewN_drewN] at h; exact Sat.closeS (s := (s.1, s.2 + 1)) (v := .slice Af s.1.length cf) h, HFN.out⟩
          · rw [hm0, Bool.true_or] at hq0
            have HQ := Aside0.mk hq0
            clear hq0
            go_quiet (fail)
            go_wp2
            go_ret
            exact ⟨ret_bool HQ.out.symm, by have h := HS8.out.drewN nq; rw [World.drewN_drewN] at h; exact Sat.closeS (s := (s.1, s.2 + 1)) (v := .slice Af s.1.length cf) h, HFN.out⟩
      · have hd3 : decide (idxOf (· == 0) us < 0) = false := decide_eq_false hix
        rw [if_neg hix] at hun
        replace hun : (cfgS rules n budget most).search (d + 1) steps s vs = if ((cfgS rules n budget most).search d (steps + 1) s (us.set (idxOf (· == 0) us).toNat 1)).1 = false then (cfgS rules n budget most).search d (steps + 1) s (us.set (idxOf (· == 0) us).toNat 1) else (cfgS rules n budget most).search d ((cfgS rules n budget most).search d (steps + 1) s (us.set (idxOf (· == 0) us).toNat 1)).2.1 ((cfgS rules n budget most).search d (steps + 1) s (us.set (idxOf (· == 0) us).toNat 1)).2.2 (us.set (idxOf (· == 0) us).toNat (-1)) := hun
        have hsp := idxOf_spec hix
        obtain ⟨ix, hixe⟩ : ∃ ix, ix = idxOf (· == 0) us := ⟨_, rfl⟩
        rw [← hixe] at hd3 hun hsp hix
        have HIX := Aside0.mk hixe
        clear hixe
        have hi0 := hsp.1
        have HIZ := Aside0.mk hsp.2
        clear hsp
        have HUN := Aside0.mk hun
        clear hun
        obtain ⟨res, hres⟩ : ∃ res, res = (cfgS rules n budget most).search (d + 1) steps s vs := ⟨_, rfl⟩
        rw [← hres]
        have HRES := Aside0.mk hres
        clear hres
        go_enter Try.func123, Try.ntmps123
        go_wp2
        go_quiet (fail)
        go_wp2_with (first
          | ((with_reducible refine gate_dst (N := 32) rfl ?_); refine goesF (f := 124) (args := #[.slice AR rules.length cR, .slice A n c]) rfl rfl rfl (by (try simp only [List.map_toArray, List.map_cons, List.map_nil]); rfl) (Enter.mk Try.func124 (by kernel_rfl) rfl) ?_; refine (l15Propagate_calls ((HS1.out.drewN nq).front 2 rfl) ((HRD.out.cons _).cons _) HOK.out.rule HV.out HOK.out.small (zeros vs + 1) (Nat.lt_succ_self _)).mono ?_; rintro e e1 ⟨bad2, us2, st2, v5, hp2, rfl, S5, hsz5⟩; refine ⟨_, rfl, ?_⟩; cases HP0.out.symm.trans hp2; clear hp2 hsz5; have HS5 := Aside0.mk S5.tail; clear S5)
          | ((with_reducible refine gate_dst (N := 38) rfl ?_); refine goesF (f := 125) (args := #[.slice A n c]) rfl rfl rfl (by (try simp only [List.map_toArray, List.map_cons, List.map_nil]); rfl) (Enter.mk Try.func125 (by kernel_rfl) rfl) ?_; refine (l16Open_calls' A n c us _ (HS5.out.readsN 0 rfl)).mono ?_; rintro e e1 ⟨rfl, rfl⟩; refine ⟨_, rfl, ?_⟩; obtain ⟨hy0, hy1, hy2, hy3, hy4, hy5⟩ := box6 (HS5.out.blk 1 rfl); have hf4 := blk_free (i := 4) (HS5.out.blk 1 rfl); have hf5 := blk_free (i := 5) (HS5.out.blk 1 rfl); rw [← HIX.out]))
        have hixn : ix < (n : Int) := by have h1 := HIZ.out.1; have h2 := HPV.out.1.len; omega
        have HVU := Aside0.mk HPV.out.1
        have HZU : Aside0 (zeros us < d + 1) := ⟨by have := HPV.out.2; have := HZD.out; omega⟩
        have HS7 := Aside0.mk ((HS5.out.front 1 rfl).front 2 rfl |>.swap.closeS)
        clear hy0 hy1 hy2 hy3 hy4 hy5 hf4 hf5 HS5
        go_loopw [8, 9] (fun v8 _ wr => ∃ (k : Nat) (t : Int) (q : FC), k ≤ 2 ∧ v8 = .int .i64 (1 - 2 * (k : Int)) ∧
          Aside0 ((k = 0 → t = steps + 1 ∧ q = s) ∧ (k = 1 → (cfgS rules n budget most).search d (steps + 1) s (us.set ix.toNat 1) = (true, t, q)) ∧ (k = 2 → res = (true, t, q))) ∧
          Aside0 ((0 ≤ t ∧ t ≤ budget) ∧ (cfgS rules n budget most).Room t q) ∧
          Aside0 (Sat w0 (ResS AR rules.length cR budget most bx t q :: RwI (.slice A n c) us :: R) wr)) (fun v8 _ _ => (intOf v8 + 3).toNat)
        case atStart => exact ⟨0, steps + 1, s, by omega, rfl, ⟨fun _ => ⟨rfl, rfl⟩, fun h => by omega, fun h => by omega⟩, ⟨⟨by omega, HOV.out⟩, HRM2.out.1⟩, HS7⟩
        case round =>
        clear HS7
        obtain ⟨k, t, q, hk, rfl, HST, HTB, HS⟩ := hrel
        by_cases hlt : k < 2
        · rcases (show k = 0 ∨ k = 1 by omega) with rfl | rfl
          · have hst0 := HST.out.1 rfl
            obtain ⟨rfl, rfl⟩ := hst0
            obtain ⟨r, hr⟩ : ∃ r, r = (cfgS rules n budget most).search d (steps + 1) q (us.set ix.toNat 1) := ⟨_, rfl⟩
            have HNO : Aside0 (r.1 = false → res = r) := ⟨fun h => by rw [HRES.out, HUN.out, ← hr, if_pos h]⟩
            have HYES : Aside0 (r.1 = true → (cfgS rules n budget most).search d (steps + 1) q (us.set ix.toNat 1) = (true, r.2.1, r.2.2)) := ⟨fun h => by rw [← hr, ← h]⟩
            have HRE := Aside0.mk hr
            have HZN : Aside0 (zeros (us.set ix.toNat (1)) < d) := ⟨by
              have h := zeros_set (vs := us) (k := ix.toNat) (x := 1) (by have := HIZ.out.1; omega) (by have h2 := HIZ.out.2; have h1 := HIZ.out.1; rw [show ix = ((ix.toNat : Nat) : Int) by omega, rd_at us ix.toNat (by omega)] at h2; exact h2) (by decide)
              have := HZU.out
              omega⟩
            clear hr
            cases h1 : r.1
            · have HFW := Aside0.mk (HNO.out h1)
              clear HNO HYES HUN
              have HR1 := Aside0.mk h1
              clear h1
              go_wp2_with (first
              | ((with_reducible refine gate_dst (N := 89) rfl ?_); refine goesF (f := 112) (args := #[.slice A n c]) rfl rfl rfl (by (try simp only [List.map_toArray, List.map_cons, List.map_nil]); rfl) (Enter.mk Try.func112 (by kernel_rfl) rfl) ?_; refine (own_calls' HS.out A n c us (HS.out.readsN 1 rfl) (by have h2 : n ≤ 200 := HOK.out.small; omega)).mono ?_; rintro e e1 ⟨v9, rfl, S8⟩; refine ⟨_, rfl, ?_⟩; obtain ⟨A9, c9, rfl, hle9, hC9⟩ := S8.reads 0 rfl; have hvl : us.length = n := HVU.out.len; rw [hvl] at S8; obtain ⟨g9, hg9, hx9, hf9, hl9⟩ := S8.intAt 0 rfl ix hi0 HIZ.out.1; cases hg9; have HS9 := Aside0.mk (S8.store 0 rfl ix.toNat (1)); clear S8 hle9 hC9; rw [hvl])
              | ((with_reducible refine gate_dst (N := 96) rfl ?_); refine goesF (f := 123) (args := #[.pointer (some ⟨bx, 0, none⟩), .slice (some ⟨g9, 0, none⟩) n c9]) rfl rfl rfl (by (try simp only [List.map_toArray, List.map_cons, List.map_nil]); rfl) (Enter.mk Try.func123 (by kernel_rfl) rfl) ?_; refine (HIH.out _ _ _ c9 (us.set ix.toNat (1)) (steps + 1) q HS9.out (HRD.out.cons _) (HVU.out.set ix.toNat (by simp [unit3])) HZN.out HTB.out.1 HTB.out.2).mono ?_; rintro e e1 ⟨rfl, S11, hfine⟩; refine ⟨_, rfl, ?_⟩; rw [← HRE.out, HR1.out]; rw [← HRE.out] at S11 hfine; have HS11 := Aside0.mk S11; have HFI := Aside0.mk hfine; clear S11 hfine))
              go_ret
              rw [HFW.out]
              exact ⟨by rw [HR1.out]; rfl, (HS11.out.front 1 rfl).tail, HFI.out⟩
            · have HST2 : Aside0 (((1 : Nat) = 0 → r.2.1 = steps + 1 ∧ r.2.2 = q) ∧ ((1 : Nat) = 1 → (cfgS rules n budget most).search d (steps + 1) q (us.set ix.toNat 1) = (true, r.2.1, r.2.2)) ∧ ((1 : Nat) = 2 → res = (true, r.2.1, r.2.2))) := ⟨⟨fun h => by omega, fun _ => HYES.out h1, fun h => by omega⟩⟩
              clear HNO HYES
              have HR1 := Aside0.mk h1
              clear h1
              go_wp2_with (first
              | ((with_reducible refine gate_dst (N := 89) rfl ?_); refine goesF (f := 112) (args := #[.slice A n c]) rfl rfl rfl (by (try simp only [List.map_toArray, List.map_cons, List.map_nil]); rfl) (Enter.mk Try.func112 (by kernel_rfl) rfl) ?_; refine (own_calls' HS.out A n c us (HS.out.readsN 1 rfl) (by have h2 : n ≤ 200 := HOK.out.small; omega)).mono ?_; rintro e e1 ⟨v9, rfl, S8⟩; refine ⟨_, rfl, ?_⟩; obtain ⟨A9, c9, rfl, hle9, hC9⟩ := S8.reads 0 rfl; have hvl : us.length = n := HVU.out.len; rw [hvl] at S8; obtain ⟨g9, hg9, hx9, hf9, hl9⟩ := S8.intAt 0 rfl ix hi0 HIZ.out.1; cases hg9; have HS9 := Aside0.mk (S8.store 0 rfl ix.toNat (1)); clear S8 hle9 hC9; rw [hvl])
              | ((with_reducible refine gate_dst (N := 96) rfl ?_); refine goesF (f := 123) (args := #[.pointer (some ⟨bx, 0, none⟩), .slice (some ⟨g9, 0, none⟩) n c9]) rfl rfl rfl (by (try simp only [List.map_toArray, List.map_cons, List.map_nil]); rfl) (Enter.mk Try.func123 (by kernel_rfl) rfl) ?_; refine (HIH.out _ _ _ c9 (us.set ix.toNat (1)) (steps + 1) q HS9.out (HRD.out.cons _) (HVU.out.set ix.toNat (by simp [unit3])) HZN.out HTB.out.1 HTB.out.2).mono ?_; rintro e e1 ⟨rfl, S11, hfine⟩; refine ⟨_, rfl, ?_⟩; rw [← HRE.out, HR1.out]; rw [← HRE.out] at S11 hfine; have HS11 := Aside0.mk S11; have HFI := Aside0.mk hfine; clear S11 hfine))
              exact ⟨⟨1, r.2.1, r.2.2, by omega, rfl, HST2, ⟨HFI.out HR1.out⟩, ⟨HS11.out⟩⟩, by simp [intOf]⟩
          · have hst0 := HST.out.2.1 rfl
            obtain ⟨r, hr⟩ : ∃ r, r = (cfgS rules n budget most).search d t q (us.set ix.toNat (-1)) := ⟨_, rfl⟩
            have hun2 := HUN.out
            rw [hst0] at hun2
            simp only [Bool.true_eq_false, if_false] at hun2
            have HNO : Aside0 (r.1 = false → res = r) := ⟨fun h => by rw [HRES.out, hun2, ← hr]⟩
            have HYES : Aside0 (r.1 = true → res = (true, r.2.1, r.2.2)) := ⟨fun h => by rw [HRES.out, hun2, ← hr, ← h]⟩
            clear hst0 hun2
            have HRE := Aside0.mk hr
            have HZN : Aside0 (zeros (us.set ix.toNat (-1)) < d) := ⟨by
              have h := zeros_set (vs := us) (k := ix.toNat) (x := -1) (by have := HIZ.out.1; omega) (by have h2 := HIZ.out.2; have h1 := HIZ.out.1; rw [show ix = ((ix.toNat : Nat) : Int) by omega, rd_at us ix.toNat (by omega)] at h2; exact h2) (by decide)
              have := HZU.out
              omega⟩
            clear hr
            cases h1 : r.1
            · have HFW := Aside0.mk (HNO.out h1)
              clear HNO HYES HUN
              have HR1 := Aside0.mk h1
              clear h1
              go_wp2_with (first
              | ((with_reducible refine gate_dst (N := 89) rfl ?_); refine goesF (f := 112) (args := #[.slice A n c]) rfl rfl rfl (by (try simp only [List.map_toArray, List.map_cons, List.map_nil]); rfl) (Enter.mk Try.func112 (by kernel_rfl) rfl) ?_; refine (own_calls' HS.out A n c us (HS.out.readsN 1 rfl) (by have h2 : n ≤ 200 := HOK.out.small; omega)).mono ?_; rintro e e1 ⟨v9, rfl, S8⟩; refine ⟨_, rfl, ?_⟩; obtain ⟨A9, c9, rfl, hle9, hC9⟩ := S8.reads 0 rfl; have hvl : us.length = n := HVU.out.len; rw [hvl] at S8; obtain ⟨g9, hg9, hx9, hf9, hl9⟩ := S8.intAt 0 rfl ix hi0 HIZ.out.1; cases hg9; have HS9 := Aside0.mk (S8.store 0 rfl ix.toNat (-1)); clear S8 hle9 hC9; rw [hvl])
              | ((with_reducible refine gate_dst (N := 96) rfl ?_); refine goesF (f := 123) (args := #[.pointer (some ⟨bx, 0, none⟩), .slice (some ⟨g9, 0, none⟩) n c9]) rfl rfl rfl (by (try simp only [List.map_toArray, List.map_cons, List.map_nil]); rfl) (Enter.mk Try.func123 (by kernel_rfl) rfl) ?_; refine (HIH.out _ _ _ c9 (us.set ix.toNat (-1)) (t) q HS9.out (HRD.out.cons _) (HVU.out.set ix.toNat (by simp [unit3])) HZN.out HTB.out.1 HTB.out.2).mono ?_; rintro e e1 ⟨rfl, S11, hfine⟩; refine ⟨_, rfl, ?_⟩; rw [← HRE.out, HR1.out]; rw [← HRE.out] at S11 hfine; have HS11 := Aside0.mk S11; have HFI := Aside0.mk hfine; clear S11 hfine))
              go_ret
              rw [HFW.out]
              exact ⟨by rw [HR1.out]; rfl, (HS11.out.front 1 rfl).tail, HFI.out⟩
            · have HST2 : Aside0 (((2 : Nat) = 0 → r.2.1 = steps + 1 ∧ r.2.2 = s) ∧ ((2 : Nat) = 1 → (cfgS rules n budget most).search d (steps + 1) s (us.set ix.toNat 1) = (true, r.2.1, r.2.2)) ∧ ((2 : Nat) = 2 → res = (true, r.2.1, r.2.2))) := ⟨⟨fun h => by omega, fun h => by omega, fun _ => HYES.out h1⟩⟩
              clear HNO HYES
              have HR1 := Aside0.mk h1
              clear h1
              go_wp2_with (first
              | ((with_reducible refine gate_dst (N := 89) rfl ?_); refine goesF (f := 112) (args := #[.slice A n c]) rfl rfl rfl (by (try simp only [List.map_toArray, List.map_cons, List.map_nil]); rfl) (Enter.mk Try.func112 (by kernel_rfl) rfl) ?_; refine (own_calls' HS.out A n c us (HS.out.readsN 1 rfl) (by have h2 : n ≤ 200 := HOK.out.small; omega)).mono ?_; rintro e e1 ⟨v9, rfl, S8⟩; refine ⟨_, rfl, ?_⟩; obtain ⟨A9, c9, rfl, hle9, hC9⟩ := S8.reads 0 rfl; have hvl : us.length = n := HVU.out.len; rw [hvl] at S8; obtain ⟨g9, hg9, hx9, hf9, hl9⟩ := S8.intAt 0 rfl ix hi0 HIZ.out.1; cases hg9; have HS9 := Aside0.mk (S8.store 0 rfl ix.toNat (-1)); clear S8 hle9 hC9; rw [hvl])
              | ((with_reducible refine gate_dst (N := 96) rfl ?_); refine goesF (f := 123) (args := #[.pointer (some ⟨bx, 0, none⟩), .slice (some ⟨g9, 0, none⟩) n c9]) rfl rfl rfl (by (try simp only [List.map_toArray, List.map_cons, List.map_nil]); rfl) (Enter.mk Try.func123 (by kernel_rfl) rfl) ?_; refine (HIH.out _ _ _ c9 (us.set ix.toNat (-1)) (t) q HS9.out (HRD.out.cons _) (HVU.out.set ix.toNat (by simp [unit3])) HZN.out HTB.out.1 HTB.out.2).mono ?_; rintro e e1 ⟨rfl, S11, hfine⟩; refine ⟨_, rfl, ?_⟩; rw [← HRE.out, HR1.out]; rw [← HRE.out] at S11 hfine; have HS11 := Aside0.mk S11; have HFI := Aside0.mk hfine; clear S11 hfine))
              exact ⟨⟨2, r.2.1, r.2.2, by omega, rfl, HST2, ⟨HFI.out HR1.out⟩, ⟨HS11.out⟩⟩, by simp [intOf]⟩
        · obtain rfl : k = 2 := by omega
          have HFW := Aside0.mk (HST.out.2.2 rfl)
          go_wp2
          go_ret
          rw [HFW.out]
          exact ⟨rfl, (HS.out.front 1 rfl).tail, fun _ => HTB.out⟩
theorem spec_all {w0 : World} {rules : List Rule} {n : Nat} {budget most : Int} {AR : Option Addr} {cR bx : Nat} {sh : Nat → Sh} (hok : (cfgS rules n budget most).Ok) :
    ∀ d, SpecOk w0 rules n budget most AR cR bx sh d
  | 0 => fun _ _ _ _ _ _ _ _ _ _ h => absurd h (Nat.not_lt_zero _)
  | d + 1 => spec_step hok d (spec_all hok d)
end Go.Proofs.Ytmgmilnoeghgfaa
