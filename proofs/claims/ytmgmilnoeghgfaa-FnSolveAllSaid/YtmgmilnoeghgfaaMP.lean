import Derived.Test.YtmgmilnoeghgfaaMD
set_option linter.unusedVariables false
set_option linter.unusedSimpArgs false
namespace Go.Proofs.Ytmgmilnoeghgfaa
open Go.RowKit Go.Proofs.YtmgmilnoeghgfaaW.PrintWords Go.Proofs.YtmgmilnoeghgfaaW.PrintLast Go.Proofs.YtmgmilnoeghgfaaW.PrintMore Go.Proofs.Ytmgmilnoeghgfaa.PFnExactSolveRules

/-! ### The plain law of the search: what it finds are the solutions, in order -/
/-- us goes on where vs has decided. -/
structure Ext (vs us : List Int) : Prop where
  len : us.length = vs.length
  at_ : ∀ (i : Nat) (h : i < vs.length), vs[i] ≠ 0 → us[i]'(by omega) = vs[i]
theorem Ext.refl (vs : List Int) : Ext vs vs := ⟨rfl, fun _ _ _ => rfl⟩
theorem Ext.trans {a b c : List Int} (h : Ext a b) (k : Ext b c) : Ext a c := ⟨k.len.trans h.len, fun i hi hn => by
  have h1 := h.at_ i hi hn
  have h2 := k.at_ i (by rw [h.len]; exact hi) (by rw [h1]; exact hn)
  rw [h2, h1]⟩
theorem Ext.set {vs us : List Int} (h : Ext vs us) (k : Nat) (hk : k < us.length) : Ext (vs.set k us[k]) us := ⟨by rw [List.length_set]; exact h.len, fun i hi hn => by
  rw [List.getElem_set] at hn ⊢
  split at hn
  · rename_i e
    subst e
    rw [if_pos rfl]
  · rename_i e
    rw [if_neg e]
    exact h.at_ i (by rwa [List.length_set] at hi) hn⟩
theorem Ext.of_set {vs us : List Int} {k : Nat} {x : Int} (hk : k < vs.length) (h0 : vs[k] = 0) (h : Ext (vs.set k x) us) : Ext vs us := ⟨by have := h.len; rwa [List.length_set] at this, fun i hi hn => by
  have h1 : i ≠ k := fun e => hn (by subst e; exact h0)
  have h2 := h.at_ i (by rw [List.length_set]; exact hi) (by rw [List.getElem_set_ne (fun e => h1 e.symm)]; exact hn)
  rw [h2, List.getElem_set_ne (fun e => h1 e.symm)]⟩
/-- All rules hold under us, which decides all. -/
structure Sol (rules : List Rule) (n : Nat) (us : List Int) : Prop where
  len : us.length = n
  unit : ∀ x ∈ us, x = 1 ∨ x = -1
  holds : ∀ r ∈ rules, ¬ holdsRule r us < 0

theorem rd_in {xs : List Int} {v : Int} (h0 : 0 ≤ v) (h1 : v < xs.length) : rd xs v = xs[v.toNat]'(by omega) := by
  obtain ⟨k, rfl⟩ := Int.eq_ofNat_of_zero_le h0
  rw [rd_at xs k (by omega)]
  rfl
/-- The terms of a rule under more decisions. -/
theorem terms_ext {r : Rule} {n : Nat} {vs us : List Int} (hok : OkRule r n) (hv : Vals n vs) (he : Ext vs us) (k : Nat) (hk : k < (terms r.f1 r.f2 vs).length) (hn : (terms r.f1 r.f2 vs)[k] ≠ 0) :
    ∃ h : k < (terms r.f1 r.f2 us).length, (terms r.f1 r.f2 us)[k] = (terms r.f1 r.f2 vs)[k] := by
  have hl : ∀ ws, (terms r.f1 r.f2 ws).length = (terms r.f1 r.f2 vs).length := fun ws => by simp [terms]
  refine ⟨by rw [hl]; exact hk, ?_⟩
  have hk1 : k < r.f1.length := by simp [terms] at hk; omega
  have hk2 : k < r.f2.length := by simp [terms] at hk; omega
  have hg : ∀ (ws : List Int) (h : k < (terms r.f1 r.f2 ws).length), (terms r.f1 r.f2 ws)[k] = rd ws r.f1[k] * r.f2[k] := fun ws h => by simp [terms, term]
  rw [hg] at hn
  rw [hg, hg]
  have hx := hok.idx r.f1[k] (List.getElem_mem _)
  have hlv := hv.len
  have hle := he.len
  rw [rd_in (xs := vs) hx.1 (by omega)] at hn ⊢
  rw [rd_in (xs := us) hx.1 (by omega)]
  rw [he.at_ _ (by omega) (fun e => hn (by rw [e]; simp))]
theorem terms_len (a b vs us : List Int) : (terms a b us).length = (terms a b vs).length := by simp [terms]
/-- Terms that are all decided stay. -/
theorem terms_full {r : Rule} {n : Nat} {vs us : List Int} (hok : OkRule r n) (hv : Vals n vs) (he : Ext vs us) (h0 : ¬ (0 : Int) ∈ terms r.f1 r.f2 vs) : terms r.f1 r.f2 us = terms r.f1 r.f2 vs := by
  refine List.ext_getElem (terms_len _ _ _ _) (fun k h1 h2 => ?_)
  obtain ⟨_, h⟩ := terms_ext hok hv he k h2 (fun e => h0 (e ▸ List.getElem_mem _))
  exact h
theorem cnt_pos {c : Int} {l : List Int} : 0 < cnt c l ↔ c ∈ l := by
  unfold cnt
  rw [List.countP_pos_iff]
  constructor
  · rintro ⟨a, ha, h⟩
    have : a = c := by simpa using h
    exact this ▸ ha
  · exact fun h => ⟨c, h, by simp⟩
theorem cnt_zero {c : Int} {l : List Int} : cnt c l = 0 ↔ ¬ c ∈ l := by
  rw [← cnt_pos]
  omega
theorem terms_mem {r : Rule} {n : Nat} {vs us : List Int} (hok : OkRule r n) (hv : Vals n vs) (he : Ext vs us) {c : Int} (hc : c ≠ 0) (h : c ∈ terms r.f1 r.f2 vs) : c ∈ terms r.f1 r.f2 us := by
  obtain ⟨k, hk, rfl⟩ := List.getElem_of_mem h
  obtain ⟨h1, h2⟩ := terms_ext hok hv he k hk hc
  exact h2 ▸ List.getElem_mem _
theorem prod_zero {l : List Int} (h : (0 : Int) ∈ l) : prod l = 0 := by
  have key : ∀ (l : List Int) (a : Int), (a = 0 ∨ (0 : Int) ∈ l) → l.foldl (· * ·) a = 0 := by
    intro l
    induction l with
    | nil => intro a h; simpa using h
    | cons t l ih =>
      intro a h
      refine ih (a * t) ?_
      rcases h with rfl | h
      · left; simp
      · rcases List.mem_cons.1 h with h | h
        · left; rw [← h]; simp
        · exact .inr h
  exact key l 1 (.inr h)
/-- What is violated stays violated. -/
theorem holds_neg {r : Rule} {n : Nat} {vs us : List Int} (hok : OkRule r n) (hv : Vals n vs) (he : Ext vs us) (h : holdsRule r vs < 0) : holdsRule r us < 0 := by
  by_cases h0 : (0 : Int) ∈ terms r.f1 r.f2 vs
  · unfold holdsRule holdsR at h ⊢
    have hc0 : cnt 0 (terms r.f1 r.f2 vs) ≠ 0 := fun e => cnt_zero.1 e h0
    split at h
    · rename_i hk
      split at h
      · omega
      · omega
    · rename_i hk
      rw [if_neg hk]
      split at h
      · rename_i hk2
        rw [if_pos hk2]
        split at h
        · rename_i hb
          rw [if_pos ⟨cnt_pos.2 (terms_mem hok hv he (by decide) (cnt_pos.1 hb.1)), cnt_pos.2 (terms_mem hok hv he (by decide) (cnt_pos.1 hb.2))⟩]
          decide
        · omega
      · rw [prod_zero h0] at h
        omega
  · unfold holdsRule at *
    rw [terms_full hok hv he h0]
    exact h
/-- What a rule decides holds in every solution. -/
theorem forced_ext {rules : List Rule} {r : Rule} {n : Nat} {vs us : List Int} {v x : Int} (hm : r ∈ rules) (hok : OkRule r n) (hv : Vals n vs) (hf : forcedR r vs = some (v, x)) (hs : Sol rules n us) (he : Ext vs us) : Ext (vs.set v.toNat x) us := by
  have hF := forcedR_some hok hf
  have hlv := hv.len
  have hls := hs.len
  have hi := hF.idx
  have hku : v.toNat < us.length := by omega
  have hne : ∀ y : Int, unit3 y → holdsRule r (vs.set v.toNat y) < 0 → us[v.toNat] ≠ y := fun y hy hlt e => by
    have h1 := he.set v.toNat hku
    rw [e] at h1
    exact hs.holds r hm (holds_neg hok (hv.set v.toNat hy) h1 hlt)
  have hx : us[v.toNat] = x := by
    have hu := hs.unit us[v.toNat] (List.getElem_mem _)
    by_cases h0 : holdsRule r vs = 0
    · rw [forcedR_of h0] at hf
      generalize kept (fun v => rd vs v != 0) r.f1 = ks at *
      match ks, hf with
      | [u], hf =>
        simp only [forcedOf] at hf
        split at hf
        · rename_i hlt
          simp at hf
          obtain ⟨rfl, rfl⟩ := hf
          have := hne (-1) (by simp [unit3]) hlt
          omega
        · split at hf
          · rename_i hlt
            simp at hf
            obtain ⟨rfl, rfl⟩ := hf
            have := hne 1 (by simp [unit3]) hlt
            omega
          · simp at hf
    · rw [forcedR, if_neg h0] at hf
      simp at hf
  have h2 := he.set v.toNat hku
  rw [hx] at h2
  exact h2
theorem Forces.at_ {n : Nat} {vs : List Int} {v x : Int} (h : Forces n vs v x) (hv : Vals n vs) : ∃ hk : v.toNat < vs.length, vs[v.toNat] = 0 := by
  have hl := hv.len
  have hi := h.idx
  refine ⟨by omega, ?_⟩
  have := h.zero
  rw [rd_in hi.1 (by omega)] at this
  exact this
/-- One pass: solutions stay; where it stops no solution is left; where nothing is decided all rules were looked at. -/
theorem pass_law {rules : List Rule} {n : Nat} (hall : ∀ r ∈ rules, OkRule r n) : ∀ (rs : List Rule) (i : Nat) (vs : List Int) (ch : Bool) (st : List Frc) {b : Option Nat} {vs' : List Int} {ch' : Bool} {st' : List Frc}, (∀ r ∈ rs, r ∈ rules) → Vals n vs → passR rs i vs ch st = (b, vs', ch', st') →
    (Ext vs vs') ∧ (∀ us, Sol rules n us → Ext vs us → Ext vs' us) ∧ (b ≠ none → ∀ us, Sol rules n us → ¬ Ext vs us) ∧ (b = none → ch' = false → vs' = vs ∧ ∀ r ∈ rs, ¬ holdsRule r vs < 0) ∧ (ch = true → b = none → ch' = true)
  | [], i, vs, ch, st, b, vs', ch', st', hrs, hv, h => by
    simp only [passR, Prod.mk.injEq] at h
    obtain ⟨rfl, rfl, rfl, rfl⟩ := h
    exact ⟨Ext.refl _, fun _ _ h => h, fun h => absurd rfl h, fun _ _ => ⟨rfl, fun r hr => by simp at hr⟩, fun h _ => h⟩
  | r :: rs, i, vs, ch, st, b, vs', ch', st', hrs, hv, h => by
    have hm := hrs r (by simp)
    have hok := hall r hm
    simp only [passR] at h
    split at h
    · rename_i hneg
      simp only [Prod.mk.injEq] at h
      obtain ⟨rfl, rfl, rfl, rfl⟩ := h
      exact ⟨Ext.refl _, fun _ _ h => h, fun _ us hs he => hs.holds r hm (holds_neg hok hv he hneg), fun h => by simp at h, fun _ h => by simp at h⟩
    · rename_i hneg
      split at h
      · obtain ⟨h1, h2, h3, h4, h5⟩ := pass_law hall rs _ _ _ _ (fun r hr => hrs r (by simp [hr])) hv h
        refine ⟨h1, h2, h3, fun hb hc => ?_, h5⟩
        obtain ⟨h6, h7⟩ := h4 hb hc
        refine ⟨h6, fun q hq => ?_⟩
        rcases List.mem_cons.1 hq with rfl | hq
        · exact hneg
        · exact h7 q hq
      · rename_i v x hf
        have hF := forcedR_some hok hf
        obtain ⟨hk, h0⟩ := hF.at_ hv
        obtain ⟨h1, h2, h3, h4, h5⟩ := pass_law hall rs _ _ _ _ (fun r hr => hrs r (by simp [hr])) (hF.vals hv) h
        refine ⟨(Ext.of_set hk h0 (Ext.refl _)).trans h1, fun us hs he => h2 us hs (forced_ext hm hok hv hf hs he), fun hb us hs he => h3 hb us hs (forced_ext hm hok hv hf hs he), fun hb hc => ?_, fun _ hb => h5 rfl hb⟩
        rw [h5 rfl hb] at hc
        simp at hc
theorem prop_law {rules : List Rule} {n : Nat} (hall : ∀ r ∈ rules, OkRule r n) : ∀ (k : Nat) (vs : List Int) (st : List Frc) {bad : Int} {vs' : List Int} {st' : List Frc}, Vals n vs → propR rules k vs st = (bad, vs', st') →
    Ext vs vs' ∧ (∀ us, Sol rules n us → Ext vs us → Ext vs' us) ∧ (0 ≤ bad → ∀ us, Sol rules n us → ¬ Ext vs us) ∧ (¬ 0 ≤ bad → zeros vs < k → ∀ r ∈ rules, ¬ holdsRule r vs' < 0)
  | 0, vs, st, bad, vs', st', hv, h => by
    simp only [propR, Prod.mk.injEq] at h
    obtain ⟨rfl, rfl, rfl⟩ := h
    exact ⟨Ext.refl _, fun _ _ h => h, fun h => absurd h (by decide), fun _ h => absurd h (Nat.not_lt_zero _)⟩
  | k + 1, vs, st, bad, vs', st', hv, h => by
    rw [propR] at h
    obtain ⟨⟨b, us1, ch1, st1⟩, hpr⟩ : ∃ x, passR rules 0 vs false st = x := ⟨_, rfl⟩
    obtain ⟨h1, h2, h3, h4, h5⟩ := pass_law hall rules 0 vs false st (fun r hr => hr) hv hpr
    have hz := pass_zeros rules 0 vs false st hall hv hpr
    rw [hpr] at h
    cases b with
    | some i =>
      simp only [Prod.mk.injEq] at h
      obtain ⟨rfl, rfl, rfl⟩ := h
      exact ⟨h1, h2, fun _ => h3 (by simp), fun h => absurd (Int.natCast_nonneg i) h⟩
    | none =>
      cases ch1 with
      | false =>
        simp only [Prod.mk.injEq] at h
        obtain ⟨rfl, rfl, rfl⟩ := h
        obtain ⟨rfl, h7⟩ := h4 rfl rfl
        exact ⟨h1, h2, fun h => absurd h (by decide), fun _ _ => h7⟩
      | true =>
        obtain ⟨g1, g2, g3, g4⟩ := prop_law hall k us1 st1 hz.1 h
        have hz3 := hz.2.2 rfl
        exact ⟨h1.trans g1, fun us hs he => g2 us hs (h2 us hs he), fun hb us hs he => g3 hb us hs (h2 us hs he), fun hb hlt => g4 hb (by
          rcases hz3 with h | h
          · simp at h
          · omega)⟩
end Go.Proofs.Ytmgmilnoeghgfaa

set_option linter.unusedVariables false
set_option linter.unusedSimpArgs false
namespace Go.Proofs.Ytmgmilnoeghgfaa
open Go.RowKit Go.Proofs.YtmgmilnoeghgfaaW.PrintWords Go.Proofs.YtmgmilnoeghgfaaW.PrintLast Go.Proofs.YtmgmilnoeghgfaaW.PrintMore Go.Proofs.Ytmgmilnoeghgfaa.PFnExactSolveRules

/-- The first place at which two lists differ says which is ahead. -/
def Before (a b : List Int) : Prop := ∃ (k : Nat) (h1 : k < a.length) (h2 : k < b.length), (∀ (j : Nat) (hj : j < k), a[j] = b[j]) ∧ a[k] > b[k]
theorem zeros_pos {vs : List Int} {k : Nat} (hk : k < vs.length) (h0 : vs[k] = 0) : 0 < zeros vs := List.countP_pos_iff.2 ⟨vs[k], List.getElem_mem hk, by simp [h0]⟩
theorem no_zero {us : List Int} (h : idxOf (· == 0) us < 0) : ∀ x ∈ us, x ≠ 0 := by
  intro x hx e
  unfold idxOf at h
  split at h
  · omega
  · rename_i ha
    exact ha (List.any_eq_true.2 ⟨x, hx, by simpa using e⟩)
theorem idxOf_first {us : List Int} (h : ¬ idxOf (· == 0) us < 0) : ∀ (j : Nat) (hj : j < (idxOf (· == 0) us).toNat) (hl : j < us.length), us[j] ≠ 0 := by
  intro j hj hl e
  unfold idxOf at hj h
  split at hj
  · rename_i ha
    have := List.not_of_lt_findIdx (p := (· == 0)) (xs := us) (i := j) (by omega)
    simp [e] at this
  · rename_i ha
    simp [ha] at h
theorem ext_full {us ws : List Int} (h : ∀ x ∈ us, x ≠ 0) (he : Ext us ws) : ws = us := by
  refine List.ext_getElem he.len (fun i h1 h2 => he.at_ i h2 (h _ (List.getElem_mem _)))
/-- The search, of which the whole is told. -/
theorem search_law {rules : List Rule} {n : Nat} {budget most : Int} (hall : ∀ r ∈ rules, OkRule r n) : ∀ (d : Nat) (steps : Int) (xs : List (List Int)) (vs : List Int), zeros vs < d → Vals n vs →
    ∃ zs, ((cfgL rules n budget most).search d steps xs vs).2.2 = xs ++ zs ∧ (∀ z ∈ zs, Sol rules n z ∧ Ext vs z) ∧ zs.Pairwise Before ∧ steps + 1 ≤ ((cfgL rules n budget most).search d steps xs vs).2.1 ∧
      (((cfgL rules n budget most).search d steps xs vs).1 = true → ((cfgL rules n budget most).search d steps xs vs).2.1 ≤ budget ∧ ∀ u, Sol rules n u → Ext vs u → u ∈ zs) ∧
      (((cfgL rules n budget most).search d steps xs vs).1 = false → budget < ((cfgL rules n budget most).search d steps xs vs).2.1 ∨ most ≤ (((cfgL rules n budget most).search d steps xs vs).2.2.length : Int))
  | 0, _, _, _, h, _ => absurd h (Nat.not_lt_zero _)
  | d + 1, steps, xs, vs, hz, hv => by
    by_cases hover : budget < steps + 1
    · have e2 : (cfgL rules n budget most).search (d + 1) steps xs vs = (false, steps + 1, xs) := by simp only [Cfg.search, searchR]; rw [if_pos hover]
      rw [e2]
      exact ⟨[], by simp, by simp, List.Pairwise.nil, Int.le_refl _, fun h => by simp at h, fun _ => .inl hover⟩
    · obtain ⟨⟨bad, us, st⟩, hp0⟩ : ∃ x, propR rules (zeros vs + 1) vs [] = x := ⟨_, rfl⟩
      obtain ⟨hl1, hl2, hl3, hl4⟩ := prop_law hall (zeros vs + 1) vs [] hv hp0
      have hpv := prop_vals hall (zeros vs + 1) vs [] hv
      rw [hp0] at hpv
      dsimp only at hpv
      have e2 := search_unfold (cfgL rules n budget most) d steps xs vs hover hp0
      rw [foldl_still] at e2
      dsimp only at e2
      by_cases hbad : 0 ≤ bad
      · rw [if_pos hbad] at e2
        rw [e2]
        exact ⟨[], by simp, by simp, List.Pairwise.nil, Int.le_refl _, fun _ => ⟨by show steps + 1 ≤ budget; omega, fun u hs he => absurd he (hl3 hbad u hs)⟩, fun h => by simp at h⟩
      · rw [if_neg hbad] at e2
        by_cases hix : idxOf (· == 0) us < 0
        · rw [if_pos hix] at e2
          rw [e2]
          have hnz := no_zero hix
          have hs : Sol rules n us := ⟨hpv.1.len, fun x hx => by
            rcases hpv.1.val x hx with h | h | h
            · exact .inr h
            · exact absurd h (hnz x hx)
            · exact .inl h, hl4 hbad (Nat.lt_succ_self _)⟩
          refine ⟨[us], rfl, fun z hz => by rw [List.mem_singleton.1 hz]; exact ⟨hs, hl1⟩, List.pairwise_singleton _ _, Int.le_refl _, fun _ => ⟨by show steps + 1 ≤ budget; omega, fun u hu he => by rw [ext_full hnz (hl2 u hu he)]; exact List.mem_singleton.2 rfl⟩, fun h => ?_⟩
          right
          have h2 : ¬ ((xs ++ [us]).length : Int) < most := by simpa [fndL] using h
          show most ≤ ((xs ++ [us]).length : Int)
          omega
        · rw [if_neg hix] at e2
          have hsp := idxOf_spec hix
          have hk : (idxOf (· == 0) us).toNat < us.length := by omega
          have h0 : us[(idxOf (· == 0) us).toNat] = 0 := by
            have h2 := hsp.2.2
            rwa [rd_in hsp.1 (by omega)] at h2
          have hzn : ∀ x : Int, x ≠ 0 → zeros (us.set (idxOf (· == 0) us).toNat x) < d := fun x hx => by
            have h := zeros_set hk h0 hx
            have := hpv.2
            omega
          have hfst := idxOf_first hix
          generalize (idxOf (· == 0) us).toNat = k at *
          obtain ⟨zs1, a1, a2, a3, a4, a5, a6⟩ := search_law hall (budget := budget) (most := most) d (steps + 1) xs (us.set k 1) (hzn 1 (by decide)) (hpv.1.set _ (by simp [unit3]))
          have hat : ∀ (x : Int) (z : List Int), x ≠ 0 → Ext (us.set k x) z → ∃ h : k < z.length, z[k] = x := fun x z hx he => by
            have h1 := he.len
            rw [List.length_set] at h1
            have h2 := he.at_ k (by rw [List.length_set]; exact hk) (by rw [List.getElem_set_self]; exact hx)
            rw [List.getElem_set_self] at h2
            exact ⟨by omega, h2⟩
          rw [e2]
          generalize (cfgL rules n budget most).search d (steps + 1) xs (us.set k 1) = r at *
          obtain ⟨b, t, ys⟩ := r
          dsimp only at a1 a4 a5 a6 ⊢
          subst a1
          cases b with
          | false =>
            refine ⟨zs1, rfl, fun z hz => ⟨(a2 z hz).1, hl1.trans (Ext.of_set hk h0 (a2 z hz).2)⟩, a3, by show steps + 1 ≤ t; omega, fun h => by simp at h, fun _ => a6 rfl⟩
          | true =>
            obtain ⟨zs2, b1, b2, b3, b4, b5, b6⟩ := search_law hall (budget := budget) (most := most) d t (xs ++ zs1) (us.set k (-1)) (hzn (-1) (by decide)) (hpv.1.set _ (by simp [unit3]))
            rw [if_neg (by simp)]
            generalize (cfgL rules n budget most).search d t (xs ++ zs1) (us.set k (-1)) = r at *
            obtain ⟨b, t2, ys⟩ := r
            dsimp only at b1 b4 b5 b6 ⊢
            subst b1
            refine ⟨zs1 ++ zs2, by rw [List.append_assoc], fun z hz => ?_, ?_, by omega, fun h => ⟨(b5 h).1, fun u hu he => ?_⟩, b6⟩
            · rcases List.mem_append.1 hz with hz | hz
              · exact ⟨(a2 z hz).1, hl1.trans (Ext.of_set hk h0 (a2 z hz).2)⟩
              · exact ⟨(b2 z hz).1, hl1.trans (Ext.of_set hk h0 (b2 z hz).2)⟩
            · refine List.pairwise_append.2 ⟨a3, b3, fun x hx y hy => ?_⟩
              obtain ⟨hx1, hx2⟩ := hat 1 x (by decide) (a2 x hx).2
              obtain ⟨hy1, hy2⟩ := hat (-1) y (by decide) (b2 y hy).2
              refine ⟨k, hx1, hy1, fun j hj => ?_, by rw [hx2, hy2]; decide⟩
              have hju : j < us.length := by omega
              have hnz := hfst j hj hju
              have q1 := (Ext.of_set hk h0 (a2 x hx).2).at_ j hju hnz
              have q2 := (Ext.of_set hk h0 (b2 y hy).2).at_ j hju hnz
              rw [q1, q2]
            · have hxu := hl2 u hu he
              have hku : k < u.length := by have := hxu.len; omega
              have h1 := hxu.set k hku
              rcases hu.unit u[k] (List.getElem_mem _) with hq | hq
              · rw [hq] at h1
                exact List.mem_append_left _ ((a5 rfl).2 u hu h1)
              · rw [hq] at h1
                exact List.mem_append_right _ ((b5 h).2 u hu h1)
/-- The search for one alone is the beginning of the search for more. -/
theorem search_one {rules : List Rule} {n : Nat} {budget most : Int} (hall : ∀ r ∈ rules, OkRule r n) (hm : 1 ≤ most) : ∀ (d : Nat) (steps : Int) (vs : List Int), zeros vs < d → Vals n vs →
    (((cfgL rules n budget most).search d steps [] vs).2.2 = [] ∧ (cfgL rules n budget 1).search d steps [] vs = (cfgL rules n budget most).search d steps [] vs) ∨
    (∃ x l t, ((cfgL rules n budget most).search d steps [] vs).2.2 = x :: l ∧ (cfgL rules n budget 1).search d steps [] vs = (false, t, [x]) ∧ t ≤ ((cfgL rules n budget most).search d steps [] vs).2.1)
  | 0, _, _, h, _ => absurd h (Nat.not_lt_zero _)
  | d + 1, steps, vs, hz, hv => by
    by_cases hover : budget < steps + 1
    · have e2 : ∀ m, (cfgL rules n budget m).search (d + 1) steps [] vs = (false, steps + 1, []) := fun m => by simp only [Cfg.search, searchR]; rw [if_pos hover]
      rw [e2, e2]
      exact .inl ⟨rfl, rfl⟩
    · obtain ⟨⟨bad, us, st⟩, hp0⟩ : ∃ x, propR rules (zeros vs + 1) vs [] = x := ⟨_, rfl⟩
      have hpv := prop_vals hall (zeros vs + 1) vs [] hv
      rw [hp0] at hpv
      dsimp only at hpv
      have e2 := search_unfold (cfgL rules n budget most) d steps [] vs hover hp0
      have e3 := search_unfold (cfgL rules n budget 1) d steps [] vs hover hp0
      rw [foldl_still] at e2 e3
      dsimp only at e2 e3
      by_cases hbad : 0 ≤ bad
      · rw [if_pos hbad] at e2 e3
        rw [e2, e3]
        exact .inl ⟨rfl, rfl⟩
      · rw [if_neg hbad] at e2 e3
        by_cases hix : idxOf (· == 0) us < 0
        · rw [if_pos hix] at e2 e3
          rw [e2, e3]
          exact .inr ⟨us, [], steps + 1, rfl, by simp [fndL], Int.le_refl _⟩
        · rw [if_neg hix] at e2 e3
          have hsp := idxOf_spec hix
          have hk : (idxOf (· == 0) us).toNat < us.length := by omega
          have h0 : us[(idxOf (· == 0) us).toNat] = 0 := by
            have h2 := hsp.2.2
            rwa [rd_in hsp.1 (by omega)] at h2
          have hzn : ∀ x : Int, x ≠ 0 → zeros (us.set (idxOf (· == 0) us).toNat x) < d := fun x hx => by
            have h := zeros_set hk h0 hx
            have := hpv.2
            omega
          generalize (idxOf (· == 0) us).toNat = k at *
          have h1 := search_one hall hm (budget := budget) d (steps + 1) (us.set k 1) (hzn 1 (by decide)) (hpv.1.set _ (by simp [unit3]))
          obtain ⟨zs1, a1, a2, a3, a4, a5, a6⟩ := search_law hall (budget := budget) (most := most) d (steps + 1) [] (us.set k 1) (hzn 1 (by decide)) (hpv.1.set _ (by simp [unit3]))
          rw [e2, e3]
          generalize (cfgL rules n budget most).search d (steps + 1) [] (us.set k 1) = r at *
          obtain ⟨b, t, ys⟩ := r
          dsimp only at h1 a1 a4 ⊢
          rcases h1 with ⟨h1, h2⟩ | ⟨x, l, t1, h1, h2, h3⟩
          · subst h1
            rw [h2]
            cases b with
            | false => exact .inl ⟨rfl, rfl⟩
            | true =>
              have h4 := search_one hall hm (budget := budget) d t (us.set k (-1)) (hzn (-1) (by decide)) (hpv.1.set _ (by simp [unit3]))
              exact h4
          · subst h1
            rw [h2]
            simp only [if_true]
            cases b with
            | false => exact .inr ⟨x, l, t1, rfl, rfl, h3⟩
            | true =>
              obtain ⟨zs2, b1, b2, b3, b4, b5, b6⟩ := search_law hall (budget := budget) (most := most) d t (x :: l) (us.set k (-1)) (hzn (-1) (by decide)) (hpv.1.set _ (by simp [unit3]))
              rw [if_neg (by simp)]
              exact .inr ⟨x, l ++ zs2, t1, b1, rfl, by omega⟩
end Go.Proofs.Ytmgmilnoeghgfaa

set_option linter.unusedVariables false
set_option linter.unusedSimpArgs false
namespace Go.Proofs.Ytmgmilnoeghgfaa
open Go.RowKit Go.Proofs.YtmgmilnoeghgfaaW.PrintWords Go.Proofs.YtmgmilnoeghgfaaW.PrintLast Go.Proofs.YtmgmilnoeghgfaaW.PrintMore Go.Proofs.Ytmgmilnoeghgfaa.PFnExactSolveRules

theorem ext_zero {n : Nat} {u : List Int} (h : u.length = n) : Ext (List.replicate n 0) u := ⟨by rw [List.length_replicate]; exact h, fun i hi hn => by simp at hn⟩
/-- What SolveRules and FirstSolution tell of valid rules. -/
theorem solve_law {rules : List Rule} {vars : Int} (hok : okRules rules vars = true) :
    solveR rules vars 5000 100 = ([], 0, 10) ∨ ∃ (list : List (List Int)) (t : Int), solveR rules vars 5000 100 = (list, t, 0) ∧ 0 < t ∧ (∀ z ∈ list, Sol rules vars.toNat z) ∧ list.Pairwise Before ∧ (list.length < 100 → ∀ u, Sol rules vars.toNat u → u ∈ list) ∧
      ((list = [] ∧ firstR rules vars 5000 = ([], 8)) ∨ ∃ x l, list = x :: l ∧ firstR rules vars 5000 = (x, 0)) := by
  obtain ⟨g1, g2, g3⟩ := okRules_good hok
  have e1 : solveR rules vars 5000 100 = if 5000 < (resL rules vars 5000 100).2.1 then ([], 0, 10) else ((resL rules vars 5000 100).2.2, (resL rules vars 5000 100).2.1, 0) := by
    unfold solveR
    rw [if_pos ⟨hok, by decide, by decide⟩]
  have e2 : firstR rules vars 5000 = firstOf 5000 (resL rules vars 5000 1) := by
    unfold firstR firstOf
    rw [if_pos ⟨hok, by decide⟩]
  have hz : zeros (List.replicate vars.toNat 0) < vars.toNat + 1 := by have := zeros_made vars.toNat; omega
  obtain ⟨zs, a1, a2, a3, a4, a5, a6⟩ := search_law (budget := 5000) (most := 100) g3 (vars.toNat + 1) 0 [] (List.replicate vars.toNat 0) hz (vals_made _)
  have h1 := search_one (budget := 5000) (most := 100) g3 (by decide) (vars.toNat + 1) 0 (List.replicate vars.toNat 0) hz (vals_made _)
  have hR : (cfgL rules vars.toNat 5000 100).search (vars.toNat + 1) 0 [] (List.replicate vars.toNat 0) = resL rules vars 5000 100 := rfl
  have hR1 : (cfgL rules vars.toNat 5000 1).search (vars.toNat + 1) 0 [] (List.replicate vars.toNat 0) = resL rules vars 5000 1 := rfl
  rw [hR] at a1 a4 a5 a6 h1
  rw [hR1] at h1
  generalize resL rules vars 5000 100 = r at *
  generalize resL rules vars 5000 1 = r1 at *
  obtain ⟨b, t, ys⟩ := r
  dsimp only at a1 a4 a5 a6 h1 e1
  rw [List.nil_append] at a1
  subst a1
  by_cases ht : 5000 < t
  · left
    rw [e1, if_pos ht]
  · right
    refine ⟨ys, t, by rw [e1, if_neg ht], by omega, fun z hz => (a2 z hz).1, a3, fun hl u hu => ?_, ?_⟩
    · have hb : b = true := by
        cases b with
        | true => rfl
        | false =>
          rcases a6 rfl with h | h
          · exact absurd h ht
          · omega
      exact (a5 hb).2 u hu (ext_zero hu.len)
    · rcases h1 with ⟨h1, h2⟩ | ⟨x, l, t1, h1, h2, h3⟩
      · left
        subst h1
        refine ⟨rfl, ?_⟩
        rw [e2, h2]
        simp [firstOf, ht]
      · right
        refine ⟨x, l, h1, ?_⟩
        rw [e2, h2]
        simp only [firstOf]
        rw [if_neg (by omega)]
end Go.Proofs.Ytmgmilnoeghgfaa
