import Derived.Test.YtmgmilnoeghgfaaB4
set_option linter.unusedVariables false
set_option linter.unusedSimpArgs false
namespace Go.Proofs.Ytmgmilnoeghgfaa
open Go.RowKit Go.Proofs.YtmgmilnoeghgfaaW.PrintWords Go.Proofs.YtmgmilnoeghgfaaW.PrintLast Go.Proofs.YtmgmilnoeghgfaaW.PrintMore Go.Proofs.Ytmgmilnoeghgfaa.PFnExactSolveRules

def ReadsRules (w0 : World) (R : List HP) (A : Option Addr) (rules : List Rule) (sh : Nat → Sh) : Prop := ∀ w, Sat w0 R w → RulesAt A rules sh w
theorem ReadsRules.cons {w0 : World} {R : List HP} {A : Option Addr} {rules : List Rule} {sh : Nat → Sh} (h : ReadsRules w0 R A rules sh) (p : HP) : ReadsRules w0 (p :: R) A rules sh := fun w S => h w S.tail
theorem ReadsRules.reads {w0 : World} {R : List HP} {A : Option Addr} {rules : List Rule} {sh : Nat → Sh} (h : ReadsRules w0 R A rules sh) (k : Nat) (hk : k < rules.length) : RuleReads w0 R rules[k] (sh k).a1 (sh k).a2 := fun w S => by
  obtain ⟨_, _, _, _, _, g1, g2⟩ := (h w S).2 k hk
  exact ⟨g1, g2⟩
/-- What the callback that is told of a conclusion does to its own piece. -/
def Tells {σ : Type} (w0 : World) (T : σ → HP) (tl : σ → Frc → σ) (size : σ → Nat) (M : Nat) (g : FuncId) (caps : Array Value) (R : List HP) : Prop :=
  ∀ (w : World) (s : σ) (v : Value) (vs : List Int) (f : Frc), size s < M → Sat w0 (T s :: RwI v vs :: R) w →
    Calls Try.prog g (#[.int .i64 f.1, .int .i64 f.2.1, .int .i64 f.2.2] ++ caps) w fun e w' => e = .returned (.tuple #[]) ∧ Sat w0 (T (tl s f) :: RwI v vs :: R) w'
set_option maxRecDepth 100000 in
set_option maxHeartbeats 4000000 in
theorem propagate_calls {σ : Type} {w0 w : World} {R : List HP} {A AR : Option Addr} {n c cR : Nat} {vs : List Int} {rules : List Rule} {sh : Nat → Sh} (T : σ → HP) (tl : σ → Frc → σ) (size : σ → Nat) (M : Nat) (g : FuncId) (caps : Array Value) (s : σ)
    (S : Sat w0 (RwI (.slice A n c) vs :: T s :: R) w) (hrd : ReadsRules w0 R AR rules sh) (hok : ∀ r ∈ rules, OkRule r n) (hv : Vals n vs)
    (hE : Enter Try.prog g) (hT : Tells w0 T tl size M g caps R) (hsz : ∀ s f, size (tl s f) ≤ size s + 1) (hM : size s + zeros vs ≤ M) (k0 : Nat) (hk0 : zeros vs < k0) :
    Calls Try.prog 166 #[.slice AR rules.length cR, .slice A n c, .func (.func g) #[] caps] w fun e w' =>
      ∃ (bad : Int) (vs' : List Int) (st : List Frc), propR rules k0 vs [] = (bad, vs', st) ∧ e = .returned (.int .i64 bad) ∧ Sat w0 (RwI (.slice A n c) vs' :: T (st.foldl tl s) :: R) w' ∧ size (st.foldl tl s) ≤ size s + zeros vs := by
  obtain ⟨⟨bad, vs', st⟩, hfin⟩ : ∃ x, propR rules k0 vs [] = x := ⟨_, rfl⟩
  have HS := Aside0.mk S
  have HRD := Aside0.mk hrd
  have HOK := Aside0.mk hok
  have HT := Aside0.mk hT
  have HSZ := Aside0.mk hsz
  have HV := Aside0.mk hv
  have HM := Aside0.mk hM
  have HFIN := Aside0.mk hfin
  have HZ := Aside0.mk hk0
  have hrl : rules.length ≤ 9223372036854775807 := (hrd w S.tail.tail).1
  clear S hrd hok hT hsz hM hv hfin hk0
  go_enter Try.func166, Try.ntmps166
  go_wp2
  go_loopg [7, 8, 9, 10, 11, 12] (k0 + 1) (fun kq v7 _ _ _ _ _ wr => ∃ (ch : Bool) (us : List Int) (st0 : List Frc), v7 = .bool ch ∧
    Aside0 ((if ch then propR rules kq.pred us st0 = (bad, vs', st) ∧ zeros us < kq.pred else (-1, us, st0) = (bad, vs', st)) ∧ 0 < kq ∧ Vals n us ∧ size (st0.foldl tl s) + zeros us ≤ size s + zeros vs) ∧
    Aside0 (Sat w0 (RwI (.slice A n c) us :: T (st0.foldl tl s) :: R) wr))
  case atStart => exact ⟨true, vs, [], rfl, ⟨⟨HFIN.out, HZ.out⟩, by omega, HV.out, Nat.le_refl _⟩, HS⟩
  case round =>
    clear HS HZ HV
    obtain ⟨ch, us, st0, rfl, HI, HS⟩ := hrel
    cases ch
    · have hI := HI.out.1
      simp at hI
      obtain ⟨rfl, rfl, rfl⟩ := hI
      have HFE := HI.out.2.2.2
      clear HI
      go_wp2
      go_ret
      exact ⟨_, _, _, HFIN.out, rfl, HS.out, by omega⟩
    · obtain ⟨kp, rfl⟩ : ∃ kp, gk = kp + 2 := ⟨gk - 2, by have := HI.out.1; simp at this; omega⟩
      obtain ⟨⟨b, us1, ch1, st1⟩, hpr⟩ : ∃ x, passR rules 0 us false st0 = x := ⟨_, rfl⟩
      have hzs := pass_zeros rules 0 us false st0 HOK.out HI.out.2.2.1 hpr
      have hI1 := HI.out.1
      simp only [if_true, Nat.pred_succ] at hI1
      have hpk : propR rules (kp + 1) us st0 = (bad, vs', st) := hI1.1
      rw [propR, hpr] at hpk
      have HPK := Aside0.mk hpk
      have HZS := Aside0.mk hzs
      have HZU := Aside0.mk hI1.2
      have HPR := Aside0.mk hpr
      have HI2 := Aside0.mk HI.out.2.2
      clear hpk hzs hI1 hpr HI
      go_wp2
      go_loopw [7, 8, 9, 10, 11, 12, 16] (fun v7 _ _ _ _ _ v16 wr => ∃ (i : Nat) (us2 : List Int) (ch2 : Bool) (st2 : List Frc), i ≤ rules.length ∧ v16 = .int .i64 i ∧ v7 = .bool ch2 ∧
        Aside0 (passR (rules.drop i) i us2 ch2 st2 = (b, us1, ch1, st1) ∧ Vals n us2 ∧ size (st2.foldl tl s) + zeros us2 ≤ size s + zeros vs) ∧
        Aside0 (Sat w0 (RwI (.slice A n c) us2 :: T (st2.foldl tl s) :: R) wr)) (fun _ _ _ _ _ _ v16 _ => rules.length - (intOf v16).toNat)
      case atStart => exact ⟨0, us, false, st0, by omega, rfl, rfl, ⟨HPR.out, HI2.out.1, HI2.out.2⟩, HS⟩
      case round =>
        clear HS
        obtain ⟨i, us2, ch2, st2, hi, rfl, rfl, HJ, HS⟩ := hrel
        by_cases hlt : i < rules.length
        · obtain ⟨ad, e1, d0, d1, d2, g1, g2⟩ := (HRD.out _ HS.out.tail.tail).2 i hlt
          cases e1
          have HR := Aside0.mk (HRD.out.reads i hlt)
          have HO := Aside0.mk (HOK.out rules[i] (List.getElem_mem hlt))
          have HJ1 := HJ.out.1
          rw [passR_drop rules i hlt] at HJ1
          have HP := Aside0.mk HJ1
          have HV2 := Aside0.mk HJ.out.2.1
          have HSZ2 := Aside0.mk HJ.out.2.2
          clear HJ HJ1 g1 g2
          generalize sh i = q at *
          obtain ⟨A1, c1, A2, c2⟩ := q
          generalize rules[i] = r at *
          have HS3 := Aside0.mk (HS.out.alloc (ruleB r A1 A2 c1 c2))
          have hC3 := (HS3.out.readsAt 1 rfl).2.2
          rw [HV2.out.len] at hC3
          have hr3 := HR.out _ HS3.out.tail.tail.tail
          have HC := Aside0.mk (holdsRule_calls A1 A2 A c1 c2 c HO.out HV2.out hr3.1 hr3.2 hC3)
          clear hC3 hr3
          by_cases hneg : holdsRule r us2 < 0
          · have hd : decide (holdsRule r us2 < 0) = true := decide_eq_true hneg
            have hPP := HP.out
            rw [if_pos hneg] at hPP
            have HPP := Aside0.mk hPP
            clear hneg hPP HP
            generalize holdsRule r us2 = z at *
            go_wp2_with (((with_reducible refine gate_dst (N := 23) rfl ?_); refine goesF (f := 66) (args := #[ruleW r A1 A2 c1 c2, .slice A n c]) rfl rfl rfl (by (try simp only [List.map_toArray, List.map_cons, List.map_nil]); rfl) (Enter.mk Try.func66 (by kernel_rfl) rfl) ?_; refine (HC.out).mono ?_; rintro e e1 ⟨rfl, hb⟩; refine ⟨_, rfl, ?_⟩; have HS4 := Aside0.mk (HS3.out.below hb); clear hb))
            go_ret
            have hPP := HPP.out
            simp only [Prod.mk.injEq] at hPP
            obtain ⟨rfl, rfl, rfl, rfl⟩ := hPP
            have hPK := HPK.out
            simp only [Prod.mk.injEq] at hPK
            obtain ⟨rfl, rfl, rfl⟩ := hPK
            exact ⟨_, _, _, HFIN.out, rfl, HS4.out.tail, by have := HSZ2.out; omega⟩
          · have hd : decide (holdsRule r us2 < 0) = false := decide_eq_false hneg
            have hPP := HP.out
            rw [if_neg hneg] at hPP
            have HPP := Aside0.mk hPP
            clear hneg hPP HP
            obtain ⟨z, hz⟩ : ∃ z, z = holdsRule r us2 := ⟨_, rfl⟩
            rw [← hz] at HC hd
            clear hz
            cases hf : forcedR r us2 with
            | none =>
              have HF := Aside0.mk hf
              clear hf
              go_wp2_with (first
                | ((with_reducible refine gate_dst (N := 23) rfl ?_); refine goesF (f := 66) (args := #[ruleW r A1 A2 c1 c2, .slice A n c]) rfl rfl rfl (by (try simp only [List.map_toArray, List.map_cons, List.map_nil]); rfl) (Enter.mk Try.func66 (by kernel_rfl) rfl) ?_; refine (HC.out).mono ?_; rintro e e1 ⟨rfl, hb⟩; refine ⟨_, rfl, ?_⟩; have HS4 := Aside0.mk (HS3.out.below hb); clear hb; obtain ⟨hb0, hb1, hb2⟩ := box3 (HS4.out.blk 0 rfl))
                | ((with_reducible refine gate_dst (N := 29) rfl ?_); refine goesF (f := 176) (args := #[ruleW r A1 A2 c1 c2, .slice A n c]) rfl rfl rfl (by (try simp only [List.map_toArray, List.map_cons, List.map_nil]); rfl) (Enter.mk Try.func176 (by kernel_rfl) rfl) ?_; refine (forced_calls A1 A2 c1 c2 HS4.out.swap ((HR.out.cons _).cons _) HO.out HV2.out).mono ?_; rintro e e1 ⟨rfl, S5⟩; refine ⟨_, rfl, ?_⟩; rw [HF.out]; simp only [forcedW]; have HS5 := Aside0.mk S5.swap.tail; clear S5))
              have hPP := HPP.out
              rw [HF.out] at hPP
              exact ⟨⟨i + 1, us2, ch2, st2, by omega, by go_num, rfl, ⟨hPP, HV2.out, HSZ2.out⟩, HS5⟩, by simp [intOf]; omega⟩
            | some f =>
              obtain ⟨v, x⟩ := f
              have hF := forcedR_some HO.out hf
              have hz := hF.zeros HV2.out
              have HV3 := Aside0.mk (hF.vals HV2.out)
              have HZ3 := Aside0.mk hz
              have hv0 := hF.idx.1
              have hvn := hF.idx.2
              have HF := Aside0.mk hf
              clear hf hF hz
              have hmn : n ≤ 9223372036854775807 := by
                have := Kd.C_max (HS.out.readsAt 0 rfl).2.2
                have := HV2.out.len
                omega
              obtain ⟨g2, hg2, _, _, _⟩ := HS.out.intAt 0 rfl v hv0 (by have := HV2.out.len; omega)
              cases hg2
              go_wp2_with (first
                | ((with_reducible refine gate_dst (N := 23) rfl ?_); refine goesF (f := 66) (args := #[ruleW r A1 A2 c1 c2, .slice (some ⟨g2, 0, none⟩) n c]) rfl rfl rfl (by (try simp only [List.map_toArray, List.map_cons, List.map_nil]); rfl) (Enter.mk Try.func66 (by kernel_rfl) rfl) ?_; refine (HC.out).mono ?_; rintro e e1 ⟨rfl, hb⟩; refine ⟨_, rfl, ?_⟩; have HS4 := Aside0.mk (HS3.out.below hb); clear hb; obtain ⟨hb0, hb1, hb2⟩ := box3 (HS4.out.blk 0 rfl))
                | ((with_reducible refine gate_dst (N := 29) rfl ?_); refine goesF (f := 176) (args := #[ruleW r A1 A2 c1 c2, .slice (some ⟨g2, 0, none⟩) n c]) rfl rfl rfl (by (try simp only [List.map_toArray, List.map_cons, List.map_nil]); rfl) (Enter.mk Try.func176 (by kernel_rfl) rfl) ?_; refine (forced_calls A1 A2 c1 c2 HS4.out.swap ((HR.out.cons _).cons _) HO.out HV2.out).mono ?_; rintro e e1 ⟨rfl, S5⟩; refine ⟨_, rfl, ?_⟩; rw [HF.out]; simp only [forcedW]; have HS5 := Aside0.mk S5.swap.tail; clear S5; obtain ⟨g5, hg5, hx5, hf5, hl5⟩ := HS5.out.intAt 0 rfl v hv0 (by have := HV2.out.len; omega); cases hg5; have HS6 := Aside0.mk (HS5.out.store 0 rfl v.toNat x).swap)
                | ((with_reducible refine gate_dst (N := 42) rfl ?_); refine goesV (t := 38) (args := #[.int .i64 v, .int .i64 x, .int .i64 i] ++ caps) rfl rfl rfl rfl (by (try simp only [List.map_toArray, List.map_cons, List.map_nil]); rfl) hE ?_; refine (HT.out _ _ _ _ (v, x, (i : Int)) (by have := HSZ2.out; have := HZ3.out; have := HM.out; omega) HS6.out).mono ?_; rintro e e1 ⟨rfl, S7⟩; refine ⟨_, rfl, ?_⟩; have HS7 := Aside0.mk S7.swap; clear S7))
              have hPP := HPP.out
              rw [HF.out] at hPP
              refine ⟨⟨i + 1, us2.set v.toNat x, true, st2 ++ [(v, x, (i : Int))], by omega, by go_num, rfl, ⟨hPP, HV3.out, ?_⟩, ?_⟩, by simp [intOf]; omega⟩
              · have h1 := HSZ.out (st2.foldl tl s) (v, x, (i : Int))
                have h2 := HZ3.out
                have h3 := HSZ2.out
                rw [List.foldl_append]
                simp only [List.foldl_cons, List.foldl_nil]
                omega
              · rw [List.foldl_append]
                exact HS7
        · obtain rfl : i = rules.length := by omega
          have hJ := HJ.out.1
          rw [List.drop_length] at hJ
          simp only [passR, Prod.mk.injEq] at hJ
          obtain ⟨rfl, rfl, rfl, rfl⟩ := hJ
          have HV2 := Aside0.mk HJ.out.2.1
          have HSZ2 := Aside0.mk HJ.out.2.2
          clear HJ
          go_wp2
          go_roundg (kp + 1)
          case measure => omega
          case rel =>
            refine ⟨ch2, us2, st2, rfl, ⟨?_, by omega, HV2.out, HSZ2.out⟩, HS⟩
            have hPK := HPK.out
            cases ch2
            · simpa using hPK
            · have h1 := HZS.out.2.2 rfl
              have h2 := HZU.out
              simp at h1
              exact ⟨hPK, by simp; omega⟩
end Go.Proofs.Ytmgmilnoeghgfaa
