import Derived.Test.YtmgmilnoeghgfaaC1
set_option linter.unusedVariables false
set_option linter.unusedSimpArgs false
namespace Go.Proofs.Ytmgmilnoeghgfaa
open Go.RowKit Go.Proofs.YtmgmilnoeghgfaaW.PrintWords Go.Proofs.YtmgmilnoeghgfaaW.PrintLast Go.Proofs.YtmgmilnoeghgfaaW.PrintMore Go.Proofs.Ytmgmilnoeghgfaa.PFnExactSolveRules

/-- An element of a row of rows, taken out: the row itself is given up. -/
theorem Sat.take {w0 w : World} {ps : List HP} {α : Type} {d : Kd α} {e e' : Nat} {A : Option Addr} {n c : Nat} {xs : List (List α)} (S : Sat w0 (Rw (Kd.slice e' d) e (.slice A n c) xs :: ps) w) (k : Nat) (hk : k < xs.length) :
    ∃ g v0, A = some ⟨g, 0, none⟩ ∧ w.cell? ⟨g, k, none⟩ = some v0 ∧ Sat w0 (Rw d e' v0 xs[k] :: ps) w := by
  obtain ⟨ok, hl, hb, hu⟩ := S.upd 0 rfl
  have h0 : (Kd.slice e' d).R e w 0 ok (.slice A n c) xs := hl.now
  obtain ⟨h1, inner, ho, hr⟩ := h0
  obtain ⟨hlen, hrep⟩ := hr
  have hel := hrep k xs[k] (by simp [List.getElem?_eq_getElem hk])
  obtain ⟨v0, hv0, hR⟩ := hel
  have hv1 : (inner.drop (k * 1)).take 1 = [v0] := hv0
  have hin : inner[k]? = some v0 := by
    have h3 : ((inner.drop (k * 1)).take 1)[0]? = some v0 := by rw [hv1]; rfl
    rw [List.getElem?_take_of_lt (by omega), List.getElem?_drop] at h3
    simpa using h3
  rcases ho.2 with ⟨h', h2⟩ | ⟨g, cap, cur, h', _⟩
  · have := ho.1
    omega
  · injection h' with hA h2 h3
    subst hA h3
    refine ⟨g, v0, rfl, ?_, ?_⟩
    · have h5 := ho.cells (g := g) rfl k v0 hin
      rwa [add_plain] at h5
    · exact hu w _ (fun k => ok k ∧ some k ≠ (Value.slice (some ⟨g, 0, none⟩) n c).ownBlock) (.refl _ _) (fun k hk => ⟨.inl hk.1, hb k hk.1⟩) (fun w2 h2 => Kd.R_move hR h2)

/-- The rules are read, in every world that holds the frame. -/
def ReadsR (w0 : World) (R : List HP) (A : Option Addr) (rules : List Rule) (sh : Nat → Sh) : Prop := ∀ w, Sat w0 R w → RulesAt A rules sh w ∧ kRule.C w A rules.length rules
theorem ReadsR.cons {w0 : World} {R : List HP} {A : Option Addr} {rules : List Rule} {sh : Nat → Sh} (h : ReadsR w0 R A rules sh) (p : HP) : ReadsR w0 (p :: R) A rules sh := fun w S => h w S.tail
theorem ReadsR.at_ {w0 : World} {R : List HP} {A : Option Addr} {rules : List Rule} {sh : Nat → Sh} (h : ReadsR w0 R A rules sh) : ReadsRules w0 R A rules sh := fun w S => (h w S).1
theorem okRules_good {rules : List Rule} {vars : Int} (h : okRules rules vars = true) : (0 ≤ vars ∧ vars ≤ 200) ∧ rules.length ≤ 3000 ∧ ∀ r ∈ rules, OkRule r vars.toNat := by
  simp only [okRules, Bool.and_eq_true, inB, decide_eq_true_eq, Bool.not_eq_true', List.any_eq_false] at h
  obtain ⟨h1, h2, h3⟩ := h
  refine ⟨h1, by omega, fun r hr => OkRule.of ?_⟩
  have := h3 r hr
  rw [show ((vars.toNat : Nat) : Int) = vars by omega]
  simpa [h1.1, h1.2] using this
abbrev resL (rules : List Rule) (vars budget most : Int) : Bool × Int × List (List Int) := (cfgL rules vars.toNat budget most).all []
def firstR (rules : List Rule) (vars budget : Int) : List Int × Int :=
  if okRules rules vars = true ∧ inB 1 5000 budget = true then
    if budget < (resL rules vars budget 1).2.1 then ([], 10) else match (resL rules vars budget 1).2.2 with | [] => ([], 8) | x :: _ => (x, 0)
  else ([], 1)
def solveR (rules : List Rule) (vars budget most : Int) : List (List Int) × Int × Int :=
  if okRules rules vars = true ∧ inB 1 5000 budget = true ∧ inB 1 100 most = true then
    if budget < (resL rules vars budget most).2.1 then ([], 0, 10) else ((resL rules vars budget most).2.2, (resL rules vars budget most).2.1, 0)
  else ([], 0, 1)
def FirstQ (w0 : World) (R : List HP) (r : List Int × Int) (e : Ending) (w' : World) : Prop := ∃ v, e = .returned (.tuple #[v, .int .i64 r.2]) ∧ Sat w0 (RwI v r.1 :: R) w'
def SolvesQ (w0 : World) (R : List HP) (r : List (List Int) × Int × Int) (e : Ending) (w' : World) : Prop := ∃ v, e = .returned (.tuple #[v, .int .i64 r.2.1, .int .i64 r.2.2]) ∧ Sat w0 (RwL v r.1 :: R) w'
def firstOf (budget : Int) (r : Bool × Int × List (List Int)) : List Int × Int := if budget < r.2.1 then ([], 10) else match r.2.2 with | [] => ([], 8) | x :: _ => (x, 0)

set_option maxRecDepth 100000 in
set_option maxHeartbeats 2000000 in
theorem firstSolution_calls {w0 w : World} {R : List HP} {AR : Option Addr} {cR : Nat} {rules : List Rule} {sh : Nat → Sh} {n : Nat} {budget : Int} (h1 : ∀ r ∈ rules, OkRule r n) (h2 : n ≤ 200) (h3 : 1 ≤ budget ∧ budget ≤ 5000)
    (S : Sat w0 R w) (hrd : ReadsRules w0 R AR rules sh) :
    Calls Try.prog 67 #[.slice AR rules.length cR, .int .i64 n, .int .i64 budget] w (FirstQ w0 R (firstOf budget ((cfgL rules n budget 1).all []))) := by
  have HC := Aside0.mk (solve_calls (cR := cR) (most := 1) h1 h2 h3 S hrd)
  clear S hrd h1 h3
  unfold SolveQ at HC
  generalize (cfgL rules n budget 1).all [] = r at *
  obtain ⟨go, steps, found⟩ := r
  by_cases hsp : budget < steps
  · have hd : decide (budget < steps) = true := decide_eq_true hsp
    have HF : Aside0 (firstOf budget (go, steps, found) = ([], 10)) := ⟨by simp [firstOf, hsp]⟩
    clear hsp
    go_enter Try.func67, Try.ntmps67
    go_wp2_with (first
      | ((with_reducible refine gate_dst (N := 14) rfl ?_); refine goesF (f := 56) (args := #[.slice AR rules.length cR, .int .i64 n, .int .i64 budget, .int .i64 1]) rfl rfl rfl (by (try simp only [List.map_toArray, List.map_cons, List.map_nil]); rfl) (Enter.mk Try.func56 (by kernel_rfl) rfl) ?_; refine (HC.out).mono ?_; rintro e e1 ⟨vL, bx, gF, gT, capsF, capsT, rfl, S2, hf⟩; refine ⟨_, rfl, ?_⟩; have HS2 := Aside0.mk S2; clear S2 hf)
      | ((with_reducible refine gate_dst (N := 19) rfl ?_); refine goesF (f := 57) (args := #[.pointer (some ⟨bx, 0, none⟩)]) rfl rfl rfl (by (try simp only [List.map_toArray, List.map_cons, List.map_nil]); rfl) (Enter.mk Try.func57 (by kernel_rfl) rfl) ?_; refine (isSpent_calls 1 HS2.out rfl).mono ?_; rintro e e1 ⟨rfl, S3⟩; refine ⟨_, rfl, ?_⟩; have HS3 := Aside0.mk S3; clear S3))
    go_ret2
    rw [HF.out]
    exact ⟨_, rfl, (HS3.out.tail.tail).nil _ _⟩
  · have hd : decide (budget < steps) = false := decide_eq_false hsp
    cases found with
    | nil =>
      have HF : Aside0 (firstOf budget (go, steps, []) = ([], 8)) := ⟨by simp [firstOf, hsp]⟩
      clear hsp
      go_enter Try.func67, Try.ntmps67
      go_wp2_with (first
        | ((with_reducible refine gate_dst (N := 14) rfl ?_); refine goesF (f := 56) (args := #[.slice AR rules.length cR, .int .i64 n, .int .i64 budget, .int .i64 1]) rfl rfl rfl (by (try simp only [List.map_toArray, List.map_cons, List.map_nil]); rfl) (Enter.mk Try.func56 (by kernel_rfl) rfl) ?_; refine (HC.out).mono ?_; rintro e e1 ⟨vL, bx, gF, gT, capsF, capsT, rfl, S2, hf⟩; refine ⟨_, rfl, ?_⟩; obtain ⟨A2, c2, rfl, hl2, hC2⟩ := S2.reads 0 rfl; clear hl2 hC2; have HS2 := Aside0.mk S2; clear S2 hf)
        | ((with_reducible refine gate_dst (N := 19) rfl ?_); refine goesF (f := 57) (args := #[.pointer (some ⟨bx, 0, none⟩)]) rfl rfl rfl (by (try simp only [List.map_toArray, List.map_cons, List.map_nil]); rfl) (Enter.mk Try.func57 (by kernel_rfl) rfl) ?_; refine (isSpent_calls 1 HS2.out rfl).mono ?_; rintro e e1 ⟨rfl, S3⟩; refine ⟨_, rfl, ?_⟩; have HS3 := Aside0.mk S3; clear S3))
      go_ret2
      rw [HF.out]
      exact ⟨_, rfl, (HS3.out.tail.tail).nil _ _⟩
    | cons x xs =>
      have HF : Aside0 (firstOf budget (go, steps, x :: xs) = (x, 0)) := ⟨by simp [firstOf, hsp]⟩
      clear hsp
      have hne : (((x :: xs).length : Int) == 0) = false := by simp; omega
      have hpos : 0 < (x :: xs).length := by simp
      go_enter Try.func67, Try.ntmps67
      go_wp2_with (first
        | ((with_reducible refine gate_dst (N := 14) rfl ?_); refine goesF (f := 56) (args := #[.slice AR rules.length cR, .int .i64 n, .int .i64 budget, .int .i64 1]) rfl rfl rfl (by (try simp only [List.map_toArray, List.map_cons, List.map_nil]); rfl) (Enter.mk Try.func56 (by kernel_rfl) rfl) ?_; refine (HC.out).mono ?_; rintro e e1 ⟨vL, bx, gF, gT, capsF, capsT, rfl, S2, hf⟩; refine ⟨_, rfl, ?_⟩; obtain ⟨A2, c2, rfl, hl2, hC2⟩ := S2.reads 0 rfl; clear hl2 hC2; have HS2 := Aside0.mk S2; clear S2 hf)
        | ((with_reducible refine gate_dst (N := 19) rfl ?_); refine goesF (f := 57) (args := #[.pointer (some ⟨bx, 0, none⟩)]) rfl rfl rfl (by (try simp only [List.map_toArray, List.map_cons, List.map_nil]); rfl) (Enter.mk Try.func57 (by kernel_rfl) rfl) ?_; refine (isSpent_calls 1 HS2.out rfl).mono ?_; rintro e e1 ⟨rfl, S3⟩; refine ⟨_, rfl, ?_⟩; obtain ⟨g, v0, rfl, hv0, S4⟩ := S3.take 0 (by simp); have HS3 := Aside0.mk S4; clear S3 S4))
      go_ret2
      rw [HF.out]
      exact ⟨v0, rfl, HS3.out.swap.tail⟩
end Go.Proofs.Ytmgmilnoeghgfaa
