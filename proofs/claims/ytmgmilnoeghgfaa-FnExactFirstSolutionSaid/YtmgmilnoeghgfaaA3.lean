import Derived.Test.YtmgmilnoeghgfaaA1
set_option linter.unusedVariables false
set_option linter.unusedSimpArgs false
namespace Go.Proofs.Ytmgmilnoeghgfaa
open Go.RowKit Go.Proofs.YtmgmilnoeghgfaaW.PrintWords Go.Proofs.YtmgmilnoeghgfaaW.PrintLast Go.Proofs.YtmgmilnoeghgfaaW.PrintMore Go.Proofs.Ytmgmilnoeghgfaa.PFnExactSolveRules

/-- The value of a rule as it lies in cells. -/
theorem rule_open {w : World} {A : Option Addr} {n : Nat} {xs : List Rule} (h : kRule.C w A n xs) (k : Nat) (hk : k < xs.length) :
    ∃ ad A1 c1 A2 c2, A = some ad ∧ w.cell? (ad.add (k * 3)) = some (.int .i64 xs[k].f0) ∧ w.cell? ⟨(ad.add (k * 3)).block, (ad.add (k * 3)).off + 1, none⟩ = some (.slice A1 xs[k].f1.length c1) ∧
      w.cell? ⟨(ad.add (k * 3)).block, (ad.add (k * 3)).off + 2, none⟩ = some (.slice A2 xs[k].f2.length c2) ∧ (Kd.int .i64).C w A1 xs[k].f1.length xs[k].f1 ∧ (Kd.int .i64).C w A2 xs[k].f2.length xs[k].f2 := by
  have hn : xs.length = n := h.1
  obtain ⟨ad, A1, c1, A2, c2, e, h0, h1, h2, l1, g1, l2, g2⟩ := at_T71 h (k : Int) (by omega) (by omega)
  have hr : rd_T71 xs (k : Int) = xs[k] := by simp [rd_T71, List.getD_eq_getElem?_getD, List.getElem?_eq_getElem hk]
  rw [hr] at h0 h1 h2 g1 g2
  simp only [Int.toNat_natCast] at h0 h1 h2
  exact ⟨ad, A1, c1, A2, c2, e, h0, h1, h2, g1, g2⟩
/-- A callback on rules. -/
def RuleCall (Q : World → World → Prop) (g : FuncId) (caps : Array Value) (p : Rule → Bool) (xs : List Rule) (w : World) : Prop :=
  ∀ (x : Rule) (A1 A2 : Option Addr) (c1 c2 : Nat) (w' : World), x ∈ xs → Q w w' → (Kd.int .i64).C w' A1 x.f1.length x.f1 → (Kd.int .i64).C w' A2 x.f2.length x.f2 →
    Calls Try.prog g (#[.agg #[.int .i64 x.f0, .slice A1 x.f1.length c1, .slice A2 x.f2.length c2]] ++ caps) w' fun e w'' => e = .returned (.bool (p x)) ∧ Q w' w''
theorem indexRule_calls {Q : World → World → Prop} (hQ : Mild Q) (g : FuncId) (caps : Array Value) (p : Rule → Bool) (A : Option Addr) (c : Nat) (xs : List Rule) (w : World)
    (hr : kRule.C w A xs.length xs) (hE : Enter Try.prog g) (hcl : RuleCall Q g caps p xs w) :
    Calls Try.prog 108 #[.slice A xs.length c, .func (.func g) #[] caps] w fun e w' => e = .returned (.int .i64 (idxOf p xs)) ∧ Q w w' := by
  have HR := Aside0.mk hr
  have HCL := Aside0.mk hcl
  have HQ := Aside0.mk hQ
  have hm := Kd.C_max hr
  clear hr hcl hQ
  go_enter Try.func108, Try.ntmps108
  go_wp2
  go_loopw [5, 8] (fun v5 v8 wr => ∃ k : Nat, k ≤ xs.length ∧ v8 = .int .i64 k ∧ Aside0 (AllNo p xs k) ∧ Aside0 (Q w wr)) (fun _ v8 _ => xs.length - (intOf v8).toNat)
  case atStart => exact ⟨0, Nat.zero_le _, rfl, ⟨fun j hj h => by omega⟩, ⟨HQ.out.refl _⟩⟩
  case round =>
    obtain ⟨k, hk, rfl, HP, HB⟩ := hrel
    by_cases hlt : k < xs.length
    · obtain ⟨ad, A1, c1, A2, c2, e1, hx0, hx1, hx2, hg1, hg2⟩ := rule_open (Kd.C_below HR.out (HQ.out.below HB.out)) k hlt
      cases e1
      have HCALL := Aside0.mk (HCL.out xs[k] A1 A2 c1 c2 wr (List.getElem_mem hlt) HB.out hg1 hg2)
      clear hg1 hg2
      generalize hxk : xs[k] = x at *
      have HX0 := Aside0.mk hxk
      clear hxk
      cases hpx : p x
      · go_wp2_with (((with_reducible refine gate_dst (N := 16) rfl ?_); refine goesV (t := 11) (args := #[.agg #[.int .i64 x.f0, .slice A1 x.f1.length c1, .slice A2 x.f2.length c2]] ++ caps) rfl rfl rfl rfl (by (try simp only [List.map_toArray, List.map_cons, List.map_nil]); rfl) hE ?_; refine (HCALL.out).mono ?_; rintro e w1 ⟨rfl, hb⟩; refine ⟨_, rfl, ?_⟩; rw [hpx]; replace hb := Aside0.mk hb))
        exact ⟨⟨k + 1, by omega, by go_num, ⟨HP.out.step hlt (by rw [HX0.out]; exact hpx)⟩, ⟨HQ.out.trans HB.out hb.out⟩⟩, by simp [intOf]; omega⟩
      · go_wp2_with (((with_reducible refine gate_dst (N := 16) rfl ?_); refine goesV (t := 11) (args := #[.agg #[.int .i64 x.f0, .slice A1 x.f1.length c1, .slice A2 x.f2.length c2]] ++ caps) rfl rfl rfl rfl (by (try simp only [List.map_toArray, List.map_cons, List.map_nil]); rfl) hE ?_; refine (HCALL.out).mono ?_; rintro e w1 ⟨rfl, hb⟩; refine ⟨_, rfl, ?_⟩; rw [hpx]; replace hb := Aside0.mk hb))
        go_ret
        exact ⟨ret_num (idxOf_at p xs k hlt HP.out (by rw [HX0.out]; exact hpx)).symm, HQ.out.trans HB.out hb.out⟩
    · go_wp2
      go_ret
      exact ⟨ret_num (idxOf_none p xs (fun j hj => HP.out j hj (by omega))).symm, HB.out⟩
theorem containsRule_calls {Q : World → World → Prop} (hQ : Mild Q) (g : FuncId) (caps : Array Value) (p : Rule → Bool) (A : Option Addr) (c : Nat) (xs : List Rule) (w : World)
    (hr : kRule.C w A xs.length xs) (hE : Enter Try.prog g) (hcl : RuleCall Q g caps p xs w) :
    Calls Try.prog 64 #[.slice A xs.length c, .func (.func g) #[] caps] w fun e w' => e = .returned (.bool (xs.any p)) ∧ Q w w' := by
  have h0 := Aside0.mk (indexRule_calls hQ g caps p A c xs w hr hE hcl)
  have h1 := Aside0.mk (idxOf_ge p xs)
  clear hr hE hcl hQ
  generalize idxOf p xs = i at *
  go_enter Try.func64, Try.ntmps64
  go_wp2_with (((with_reducible refine gate_dst (N := 7) rfl ?_); refine goesF (f := 108) (args := #[.slice A xs.length c, .func (.func g) #[] caps]) rfl rfl rfl (by (try simp only [List.map_toArray, List.map_cons, List.map_nil]); rfl) (Enter.mk Try.func108 (by kernel_rfl) rfl) ?_; refine (h0.out).mono ?_; rintro e w1 ⟨rfl, hb⟩; refine ⟨_, rfl, ?_⟩; replace hb := Aside0.mk hb))
  go_ret
  exact ⟨ret_bool h1.out, hb.out⟩
end Go.Proofs.Ytmgmilnoeghgfaa
