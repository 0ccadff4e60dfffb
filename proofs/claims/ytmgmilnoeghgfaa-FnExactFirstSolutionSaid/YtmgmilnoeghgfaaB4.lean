import Derived.Test.YtmgmilnoeghgfaaB3
import Derived.Deep.LoopGhost
set_option linter.unusedVariables false
set_option linter.unusedSimpArgs false
namespace Go.Proofs.Ytmgmilnoeghgfaa
open Go.RowKit Go.Proofs.YtmgmilnoeghgfaaW.PrintWords Go.Proofs.YtmgmilnoeghgfaaW.PrintLast Go.Proofs.YtmgmilnoeghgfaaW.PrintMore Go.Proofs.Ytmgmilnoeghgfaa.PFnExactSolveRules

/-! ### Drawing conclusions, without Go -/
abbrev Frc := Int × Int × Int
def passR : List Rule → Nat → List Int → Bool → List Frc → Option Nat × List Int × Bool × List Frc
  | [], _, vs, ch, st => (none, vs, ch, st)
  | r :: rs, i, vs, ch, st =>
    if holdsRule r vs < 0 then (some i, vs, ch, st)
    else match forcedR r vs with
      | none => passR rs (i + 1) vs ch st
      | some (v, x) => passR rs (i + 1) (vs.set v.toNat x) true (st ++ [(v, x, (i : Int))])
def propR (rules : List Rule) : Nat → List Int → List Frc → Int × List Int × List Frc
  | 0, vs, st => (-1, vs, st)
  | k + 1, vs, st => match passR rules 0 vs false st with
    | (some i, vs', _, st') => ((i : Int), vs', st')
    | (none, vs', false, st') => (-1, vs', st')
    | (none, vs', true, st') => propR rules k vs' st'
def zeros (vs : List Int) : Nat := vs.countP (· == 0)
theorem zeros_set {vs : List Int} {k : Nat} {x : Int} (hk : k < vs.length) (h0 : vs[k] = 0) (hx : x ≠ 0) : zeros (vs.set k x) + 1 = zeros vs := by
  unfold zeros
  rw [List.countP_set hk]
  have hp : 0 < vs.countP (· == 0) := List.countP_pos_iff.2 ⟨vs[k], List.getElem_mem hk, by simp [h0]⟩
  simp [h0, hx]
  omega
structure Forces (n : Nat) (vs : List Int) (v x : Int) : Prop where
  idx : 0 ≤ v ∧ v < n
  zero : rd vs v = 0
  one : x = 1 ∨ x = -1
theorem forcedR_some {r : Rule} {n : Nat} {vs : List Int} {v x : Int} (hok : OkRule r n) (h : forcedR r vs = some (v, x)) : Forces n vs v x := by
  by_cases h0 : holdsRule r vs = 0
  · rw [forcedR_of h0] at h
    have hm : ∀ u, u ∈ kept (fun v => rd vs v != 0) r.f1 → (0 ≤ u ∧ u < n) ∧ rd vs u = 0 := fun u hu => by
      have := mem_kept hu
      exact ⟨hok.idx u this.1, by simpa using this.2⟩
    generalize kept (fun v => rd vs v != 0) r.f1 = ks at *
    match ks, h with
    | [u], h =>
      simp only [forcedOf] at h
      have hu := hm u (by simp)
      split at h
      · simp at h
        obtain ⟨rfl, rfl⟩ := h
        exact ⟨hu.1, hu.2, .inl rfl⟩
      · split at h
        · simp at h
          obtain ⟨rfl, rfl⟩ := h
          exact ⟨hu.1, hu.2, .inr rfl⟩
        · simp at h
  · rw [forcedR, if_neg h0] at h
    simp at h
theorem Forces.zeros {n : Nat} {vs : List Int} {v x : Int} (h : Forces n vs v x) (hv : Vals n vs) : zeros (vs.set v.toNat x) + 1 = zeros vs := by
  have hl := hv.len
  have hi := h.idx
  have hk : v.toNat < vs.length := by omega
  refine zeros_set hk ?_ (by rcases h.one with e | e <;> omega)
  have := h.zero
  rw [show v = ((v.toNat : Nat) : Int) by omega, rd_at vs v.toNat hk] at this
  exact this
theorem Forces.vals {n : Nat} {vs : List Int} {v x : Int} (h : Forces n vs v x) (hv : Vals n vs) : Vals n (vs.set v.toNat x) :=
  hv.set _ (by rcases h.one with e | e <;> simp [unit3, e])
/-- What a pass leaves of the open variables. -/
theorem pass_zeros {n : Nat} : ∀ (rs : List Rule) (i : Nat) (vs : List Int) (ch : Bool) (st : List Frc) {b : Option Nat} {vs' : List Int} {ch' : Bool} {st' : List Frc}, (∀ r ∈ rs, OkRule r n) → Vals n vs → passR rs i vs ch st = (b, vs', ch', st') →
    Vals n vs' ∧ zeros vs' ≤ zeros vs ∧ (ch' = true → ch = true ∨ zeros vs' < zeros vs)
  | [], i, vs, ch, st, b, vs', ch', st', hok, hv, h => by
    simp only [passR, Prod.mk.injEq] at h
    obtain ⟨rfl, rfl, rfl, rfl⟩ := h
    exact ⟨hv, Nat.le_refl _, .inl⟩
  | r :: rs, i, vs, ch, st, b, vs', ch', st', hok, hv, h => by
    simp only [passR] at h
    split at h
    · simp only [Prod.mk.injEq] at h
      obtain ⟨rfl, rfl, rfl, rfl⟩ := h
      exact ⟨hv, Nat.le_refl _, .inl⟩
    · split at h
      · exact pass_zeros rs _ _ _ _ (fun r hr => hok r (by simp [hr])) hv h
      · rename_i v x hf
        have hF := forcedR_some (hok r (by simp)) hf
        have hz := hF.zeros hv
        obtain ⟨h1, h2, h3⟩ := pass_zeros rs _ _ _ _ (fun r hr => hok r (by simp [hr])) (hF.vals hv) h
        exact ⟨h1, by omega, fun _ => .inr (by omega)⟩
theorem passR_drop (rules : List Rule) (i : Nat) (hi : i < rules.length) (vs : List Int) (ch : Bool) (st : List Frc) :
    passR (rules.drop i) i vs ch st = if holdsRule rules[i] vs < 0 then (some i, vs, ch, st)
    else match forcedR rules[i] vs with
      | none => passR (rules.drop (i + 1)) (i + 1) vs ch st
      | some (v, x) => passR (rules.drop (i + 1)) (i + 1) (vs.set v.toNat x) true (st ++ [(v, x, (i : Int))]) := by
  rw [List.drop_eq_getElem_cons hi]
  rfl

/-! ### The rules, where they lie -/
structure Sh where
  a1 : Option Addr
  c1 : Nat
  a2 : Option Addr
  c2 : Nat
def RulesAt (A : Option Addr) (rules : List Rule) (sh : Nat → Sh) (w : World) : Prop :=
  rules.length ≤ 9223372036854775807 ∧ ∀ k, ∀ hk : k < rules.length, ∃ ad, A = some ad ∧ w.cell? (ad.add (k * 3)) = some (.int .i64 rules[k].f0) ∧ w.cell? ⟨(ad.add (k * 3)).block, (ad.add (k * 3)).off + 1, none⟩ = some (.slice (sh k).a1 rules[k].f1.length (sh k).c1) ∧
    w.cell? ⟨(ad.add (k * 3)).block, (ad.add (k * 3)).off + 2, none⟩ = some (.slice (sh k).a2 rules[k].f2.length (sh k).c2) ∧ (Kd.int .i64).C w (sh k).a1 rules[k].f1.length rules[k].f1 ∧ (Kd.int .i64).C w (sh k).a2 rules[k].f2.length rules[k].f2
theorem RulesAt.of {w : World} {A : Option Addr} {n : Nat} {rules : List Rule} (h : kRule.C w A n rules) : ∃ sh, RulesAt A rules sh w := by
  have hn : rules.length = n := h.1
  have key : ∀ k, ∃ s : Sh, ∀ hk : k < rules.length, ∃ ad, A = some ad ∧ w.cell? (ad.add (k * 3)) = some (.int .i64 rules[k].f0) ∧ w.cell? ⟨(ad.add (k * 3)).block, (ad.add (k * 3)).off + 1, none⟩ = some (.slice s.a1 rules[k].f1.length s.c1) ∧
    w.cell? ⟨(ad.add (k * 3)).block, (ad.add (k * 3)).off + 2, none⟩ = some (.slice s.a2 rules[k].f2.length s.c2) ∧ (Kd.int .i64).C w s.a1 rules[k].f1.length rules[k].f1 ∧ (Kd.int .i64).C w s.a2 rules[k].f2.length rules[k].f2 := by
    intro k
    by_cases hk : k < rules.length
    · obtain ⟨ad, A1, c1, A2, c2, e, h0, h1, h2, g1, g2⟩ := rule_open h k hk
      exact ⟨⟨A1, c1, A2, c2⟩, fun _ => ⟨ad, e, h0, h1, h2, g1, g2⟩⟩
    · exact ⟨⟨none, 0, none, 0⟩, fun h => absurd h hk⟩
  exact ⟨fun k => Classical.choose (key k), by have := Kd.C_max h; omega, fun k hk => Classical.choose_spec (key k) hk⟩
/-- A row of rules, with the places of its rules' rows. -/
def RwR (e : Nat) (v : Value) (A : Option Addr) (rules : List Rule) (sh : Nat → Sh) : HP := fun w ok => kRule.R e w 0 ok v rules ∧ RulesAt A rules sh w
theorem add_blk (ad : Addr) (k : Nat) : (ad.add k).block = ad.block := add_block ad k
theorem Sat.shape {w0 w : World} {ps : List HP} (S : Sat w0 ps w) (i : Nat) {e n c : Nat} {A : Option Addr} {rules : List Rule} (hp : ps[i]? = some (Rw kRule e (.slice A n c) rules)) :
    ∃ sh, Sat w0 (ps.set i (RwR e (.slice A n c) A rules sh)) w := by
  obtain ⟨ok, hl, hb, hu⟩ := S.upd i hp
  have h0 : kRule.R e w 0 ok (.slice A n c) rules := hl.now
  have hC := (Kd.R_reads' h0).2.2
  obtain ⟨sh, hsh⟩ := RulesAt.of hC
  refine ⟨sh, hu w _ ok (.refl _ _) (fun k hk => ⟨.inl hk, hb k hk⟩) (fun w2 h2 => ⟨hl w2 h2, hsh.1, fun k hk => ?_⟩)⟩
  obtain ⟨ad, e1, d0, d1, d2, d3, d4⟩ := hsh.2 k hk
  subst e1
  have hblk : ok ad.block := h0.1 ad.block rfl
  have hC2 := (Kd.R_reads' (hl w2 h2 : kRule.R e w2 0 ok _ rules)).2.2
  obtain ⟨ad', A1', c1', A2', c2', e2, f0, f1, f2, g1, g2⟩ := rule_open hC2 k hk
  cases e2
  have hcell : ∀ a : Addr, a.block = ad.block → w2.cell? a = w.cell? a := fun a ha => by
    have := h2 ad.block hblk
    simp [World.cell?, ha, this]
  have q1' := hcell ⟨(ad.add (k * 3)).block, (ad.add (k * 3)).off + 1, none⟩ (add_blk ad _)
  have q2' := hcell ⟨(ad.add (k * 3)).block, (ad.add (k * 3)).off + 2, none⟩ (add_blk ad _)
  rw [q1'] at f1
  rw [q2'] at f2
  rw [d1] at f1
  rw [d2] at f2
  injection f1 with f1
  injection f1 with q1 _ q2
  injection f2 with f2
  injection f2 with q3 _ q4
  subst q1 q3
  refine ⟨ad, rfl, ?_, ?_, ?_, g1, g2⟩
  · rw [hcell (ad.add (k * 3)) (add_blk ad _)]; exact d0
  · rw [q1']; exact d1
  · rw [q2']; exact d2
end Go.Proofs.Ytmgmilnoeghgfaa
