import Derived.Test.YtmgmilnoeghgfaaB5
set_option linter.unusedVariables false
set_option linter.unusedSimpArgs false
namespace Go.Proofs.Ytmgmilnoeghgfaa
open Go.RowKit Go.Proofs.YtmgmilnoeghgfaaW.PrintWords Go.Proofs.YtmgmilnoeghgfaaW.PrintLast Go.Proofs.YtmgmilnoeghgfaaW.PrintMore Go.Proofs.Ytmgmilnoeghgfaa.PFnExactSolveRules

theorem ReadsRules.at_ {w0 : World} {R : List HP} {A : Option Addr} {rules : List Rule} {sh : Nat → Sh} (h : ReadsRules w0 R A rules sh) (k : Nat) (hk : k < rules.length) (ad : Addr) (hA : A = some ad) : RuleAt w0 R rules[k] (ad.add (k * 3)) := fun w S => by
  obtain ⟨ad', e, d0, d1, d2, g1, g2⟩ := (h w S).2 k hk
  subst hA
  cases e
  exact ⟨_, _, _, _, d0, d1, d2, g1, g2⟩
/-- A step of the reference: the rule, the variable, the value. -/
def kFrc : Kd Frc := Kd.iso (Kd.pair (Kd.int .i64) (Kd.pair (Kd.int .i64) (Kd.int .i64))) (fun f : Frc => (f.2.2, f.1, f.2.1))
theorem kFrc_M (w : World) (base : Nat) (ok : Nat → Prop) (v x i : Int) : kFrc.M w base ok (v, x, i) [.int .i64 i, .int .i64 v, .int .i64 x] :=
  ⟨[.int .i64 i], [.int .i64 v, .int .i64 x], rfl, rfl, ⟨[.int .i64 v], [.int .i64 x], rfl, rfl, rfl⟩⟩
theorem kFrc_K {w : World} {f : Frc} {cs : List Value} (h : kFrc.K w f cs) : cs = [.int .i64 f.2.2, .int .i64 f.1, .int .i64 f.2.1] := by
  obtain ⟨_, _, rfl, rfl, ⟨_, _, rfl, rfl, rfl⟩⟩ := h
  rfl
theorem info143 : (Try.prog.info? 143).map (fun i => (i.zero, i.size, i.bytes)) = some (some (.agg #[.int .i64 0, .int .i64 0, .int .i64 0]), 3, 24) := by kernel_rfl

set_option maxRecDepth 100000 in
set_option maxHeartbeats 4000000 in
theorem l15Propagate_calls {w0 w : World} {R : List HP} {A AR : Option Addr} {n c cR : Nat} {vs : List Int} {rules : List Rule} {sh : Nat → Sh}
    (S : Sat w0 (RwI (.slice A n c) vs :: R) w) (hrd : ReadsRules w0 R AR rules sh) (hok : ∀ r ∈ rules, OkRule r n) (hv : Vals n vs) (hn : n ≤ 200) (k0 : Nat) (hk0 : zeros vs < k0) :
    Calls Try.prog 124 #[.slice AR rules.length cR, .slice A n c] w fun e w' =>
      ∃ (bad : Int) (vs' : List Int) (st : List Frc) (v : Value), propR rules k0 vs [] = (bad, vs', st) ∧ e = .returned (.tuple #[v, .int .i64 bad]) ∧ Sat w0 (Rw kFrc 143 v st :: RwI (.slice A n c) vs' :: R) w' ∧ st.length ≤ 200 := by
  obtain ⟨⟨bad, vs', st⟩, hfin⟩ : ∃ x, propR rules k0 vs [] = x := ⟨_, rfl⟩
  have hz2 : zeros vs ≤ 200 := by
    have : zeros vs ≤ vs.length := List.countP_le_length
    have := hv.len
    omega
  have HS := Aside0.mk (Sat.lit (n := 0) S kFrc 143 [] (inner := []) (Reps.none _ _) rfl (by omega))
  have HRD := Aside0.mk hrd
  have HOK := Aside0.mk hok
  have HV := Aside0.mk hv
  have HFIN := Aside0.mk hfin
  have HZ := Aside0.mk hk0
  have HZ2 := Aside0.mk hz2
  have hrl : rules.length ≤ 9223372036854775807 := (hrd w S.tail).1
  clear S hrd hok hv hfin hk0 hz2
  go_enter Try.func124, Try.ntmps124
  go_wp2
  go_loopg [6, 7, 8, 9, 10] k0 (fun kq v6 _ _ _ _ wr => ∃ (us : List Int) (st0 : List Frc) (A6 : Option Addr) (c6 : Nat), v6 = .slice A6 st0.length c6 ∧
    Aside0 (propR rules kq us st0 = (bad, vs', st) ∧ zeros us < kq ∧ Vals n us ∧ st0.length + zeros us ≤ zeros vs) ∧
    Aside0 (Sat w0 (Rw kFrc 143 (.slice A6 st0.length c6) st0 :: RwI (.slice A n c) us :: R) wr))
  case atStart => exact ⟨vs, [], some ⟨w.heap.size, 0, none⟩, 0, rfl, ⟨HFIN.out, HZ.out, HV.out, by simp⟩, HS⟩
  case round =>
    clear HS HZ HV
    obtain ⟨us, st0, A6, c6, rfl, HI, HS⟩ := hrel
    obtain ⟨kp, rfl⟩ : ∃ kp, gk = kp + 1 := ⟨gk - 1, by have := HI.out.2.1; omega⟩
    obtain ⟨⟨b, us1, ch1, st1⟩, hpr⟩ : ∃ x, passR rules 0 us false st0 = x := ⟨_, rfl⟩
    have hzs := pass_zeros rules 0 us false st0 HOK.out HI.out.2.2.1 hpr
    have hpk := HI.out.1
    rw [propR, hpr] at hpk
    have HPK := Aside0.mk hpk
    have HZS := Aside0.mk hzs
    have HZU := Aside0.mk HI.out.2.1
    have HPR := Aside0.mk hpr
    have HI2 := Aside0.mk HI.out.2.2
    clear hpk hzs hpr HI
    go_wp2
    go_loopw [6, 7, 8, 9, 10] (fun v6 v7 v8 _ _ wr => ∃ (i : Nat) (us2 : List Int) (ch2 : Bool) (st2 : List Frc) (A6 : Option Addr) (c6 : Nat), i ≤ rules.length ∧ v8 = .int .i64 i ∧ v7 = .bool ch2 ∧ v6 = .slice A6 st2.length c6 ∧
      Aside0 (passR (rules.drop i) i us2 ch2 st2 = (b, us1, ch1, st1) ∧ Vals n us2 ∧ st2.length + zeros us2 ≤ zeros vs) ∧
      Aside0 (Sat w0 (Rw kFrc 143 (.slice A6 st2.length c6) st2 :: RwI (.slice A n c) us2 :: R) wr)) (fun _ _ v8 _ _ _ => rules.length - (intOf v8).toNat)
    case atStart => exact ⟨0, us, false, st0, A6, c6, by omega, rfl, rfl, rfl, ⟨HPR.out, HI2.out.1, HI2.out.2⟩, HS⟩
    case round =>
      clear HS
      obtain ⟨i, us2, ch2, st2, A6, c6, hi, rfl, rfl, rfl, HJ, HS⟩ := hrel
      by_cases hlt : i < rules.length
      · obtain ⟨ad, e1, d0, d1, d2, g1, g2⟩ := (HRD.out _ HS.out.tail.tail).2 i hlt
        cases e1
        have HR := Aside0.mk (HRD.out.at_ i hlt ad rfl)
        have HO := Aside0.mk (HOK.out rules[i] (List.getElem_mem hlt))
        have HJ1 := HJ.out.1
        rw [passR_drop rules i hlt] at HJ1
        have HP := Aside0.mk HJ1
        have HV2 := Aside0.mk HJ.out.2.1
        have HSZ2 := Aside0.mk HJ.out.2.2
        clear HJ HJ1 g1 g2 d0 d1 d2
        generalize rules[i] = r at *
        have hC3 := (HS.out.readsAt 1 rfl).2.2
        rw [HV2.out.len] at hC3
        have HC := Aside0.mk (l15HoldsRule_calls (ps := []) (ad.add (i * 3)) A c HO.out HV2.out HR.out HS.out.tail.tail hC3)
        clear hC3
        by_cases hneg : holdsRule r us2 < 0
        · have hd : decide (holdsRule r us2 < 0) = true := decide_eq_true hneg
          have hPP := HP.out
          rw [if_pos hneg] at hPP
          have HPP := Aside0.mk hPP
          clear hneg hPP HP
          generalize holdsRule r us2 = z at *
          go_wp2_with (((with_reducible refine gate_dst (N := 22) rfl ?_); refine goesF (f := 61) (args := #[.pointer (some (ad.add (i * 3))), .slice A n c]) rfl rfl rfl (by (try simp only [List.map_toArray, List.map_cons, List.map_nil]); rfl) (Enter.mk Try.func61 (by kernel_rfl) rfl) ?_; refine (HC.out).mono ?_; rintro e e1 ⟨rfl, hb⟩; refine ⟨_, rfl, ?_⟩; have HS4 := Aside0.mk (HS.out.drawn hb); clear hb))
          go_ret2
          have hPP := HPP.out
          simp only [Prod.mk.injEq] at hPP
          obtain ⟨rfl, rfl, rfl, rfl⟩ := hPP
          have hPK := HPK.out
          simp only [Prod.mk.injEq] at hPK
          obtain ⟨rfl, rfl, rfl⟩ := hPK
          exact ⟨_, _, _, _, HFIN.out, rfl, HS4.out, by have := HSZ2.out; have := HZ2.out; omega⟩
        · have hd : decide (holdsRule r us2 < 0) = false := decide_eq_false hneg
          have hPP := HP.out
          rw [if_neg hneg] at hPP
          have HPP := Aside0.mk hPP
          clear hneg hPP HP
          obtain ⟨z, hz⟩ : ∃ z, z = holdsRule r us2 := ⟨_, rfl⟩
          rw [← hz] at HC hd
          clear hz
          cases hf : forcedR r us2 with
          | none =>
            have HF := Aside0.mk hf
            clear hf
            go_wp2_with (first
              | ((with_reducible refine gate_dst (N := 22) rfl ?_); refine goesF (f := 61) (args := #[.pointer (some (ad.add (i * 3))), .slice A n c]) rfl rfl rfl (by (try simp only [List.map_toArray, List.map_cons, List.map_nil]); rfl) (Enter.mk Try.func61 (by kernel_rfl) rfl) ?_; refine (HC.out).mono ?_; rintro e e1 ⟨rfl, hb⟩; refine ⟨_, rfl, ?_⟩; have HS4 := Aside0.mk (HS.out.drawn hb); clear hb)
              | ((with_reducible refine gate_dst (N := 31) rfl ?_); refine goesF (f := 152) (args := #[.pointer (some (ad.add (i * 3))), .slice A n c]) rfl rfl rfl (by (try simp only [List.map_toArray, List.map_cons, List.map_nil]); rfl) (Enter.mk Try.func152 (by kernel_rfl) rfl) ?_; refine (l15Forced_calls (ad.add (i * 3)) HS4.out.swap (HR.out.cons _) HO.out HV2.out).mono ?_; rintro e e1 ⟨rfl, S5⟩; refine ⟨_, rfl, ?_⟩; rw [HF.out]; simp only [forcedS]; have HS5 := Aside0.mk S5.swap; clear S5))
            have hPP := HPP.out
            rw [HF.out] at hPP
            exact ⟨⟨i + 1, us2, ch2, st2, A6, c6, by omega, by go_num, rfl, rfl, ⟨hPP, HV2.out, HSZ2.out⟩, HS5⟩, by simp [intOf]; omega⟩
          | some f =>
            obtain ⟨v, x⟩ := f
            have hF := forcedR_some HO.out hf
            have hz := hF.zeros HV2.out
            have HV3 := Aside0.mk (hF.vals HV2.out)
            have HZ3 := Aside0.mk hz
            have hv0 := hF.idx.1
            have hvn := hF.idx.2
            have HF := Aside0.mk hf
            clear hf hF hz
            obtain ⟨g2, hg2, _, _, _⟩ := HS.out.intAt 1 rfl v hv0 (by have := HV2.out.len; omega)
            cases hg2
            have hge : decide (0 ≤ v) = true := decide_eq_true hv0
            go_wp2_with (first
              | ((with_reducible refine gate_dst (N := 22) rfl ?_); refine goesF (f := 61) (args := #[.pointer (some (ad.add (i * 3))), .slice (some ⟨g2, 0, none⟩) n c]) rfl rfl rfl (by (try simp only [List.map_toArray, List.map_cons, List.map_nil]); rfl) (Enter.mk Try.func61 (by kernel_rfl) rfl) ?_; refine (HC.out).mono ?_; rintro e e1 ⟨rfl, hb⟩; refine ⟨_, rfl, ?_⟩; have HS4 := Aside0.mk (HS.out.drawn hb); clear hb)
              | ((with_reducible refine gate_dst (N := 31) rfl ?_); refine goesF (f := 152) (args := #[.pointer (some (ad.add (i * 3))), .slice (some ⟨g2, 0, none⟩) n c]) rfl rfl rfl (by (try simp only [List.map_toArray, List.map_cons, List.map_nil]); rfl) (Enter.mk Try.func152 (by kernel_rfl) rfl) ?_; refine (l15Forced_calls (ad.add (i * 3)) HS4.out.swap (HR.out.cons _) HO.out HV2.out).mono ?_; rintro e e1 ⟨rfl, S5⟩; refine ⟨_, rfl, ?_⟩; rw [HF.out]; simp only [forcedS]; have HS5 := Aside0.mk S5.swap; clear S5; obtain ⟨g5, hg5, hx5, hf5, hl5⟩ := HS5.out.intAt 1 rfl v hv0 (by have := HV2.out.len; omega); cases hg5; have HS6 := Aside0.mk (HS5.out.store 1 rfl v.toNat x))
              | ((with_reducible refine gate_builtin (b := .append) (xs := #[.tmp 40, .tmp 45]) rfl ?_); refine Sat.append1 HS6.out 0 rfl rfl (.tmp 40) (.tmp 45) 139 (.agg #[.int .i64 0, .int .i64 0, .int .i64 0]) 24 rfl Try.underlying139 info143 rfl (by decide) (by omega) (v, x, (i : Int)) [.int .i64 i, .int .i64 v, .int .i64 x] rfl (by first | rfl | (rw [World.size_setCell]; rfl)) (kFrc_M _ _ _ v x i) (by have := HSZ2.out; have := HZ2.out; omega) ?_; intro v1 w1 S7; obtain ⟨A7, c7, rfl, hle7, _⟩ := S7.reads 0 rfl; have HS7 := Aside0.mk S7; clear S7 hle7))
            have hPP := HPP.out
            rw [HF.out] at hPP
            refine ⟨⟨i + 1, us2.set v.toNat x, true, st2 ++ [(v, x, (i : Int))], A7, c7, by omega, by go_num, rfl, by simp, ⟨hPP, HV3.out, ?_⟩, ⟨HS7.out⟩⟩, by simp [intOf]; omega⟩
            have h2 := HZ3.out
            have h3 := HSZ2.out
            simp
            omega
      · obtain rfl : i = rules.length := by omega
        have hJ := HJ.out.1
        rw [List.drop_length] at hJ
        simp only [passR, Prod.mk.injEq] at hJ
        obtain ⟨rfl, rfl, rfl, rfl⟩ := hJ
        have HV2 := Aside0.mk HJ.out.2.1
        have HSZ2 := Aside0.mk HJ.out.2.2
        clear HJ
        cases ch2
        · go_wp2
          go_ret2
          have hPK := HPK.out
          simp only [Prod.mk.injEq] at hPK
          obtain ⟨rfl, rfl, rfl⟩ := hPK
          exact ⟨_, _, _, HFIN.out, _, rfl, HS.out, by have := HSZ2.out; have := HZ2.out; omega⟩
        · go_wp2
          go_roundg kp
          case measure => omega
          case rel =>
            have h1 : True → False ∨ zeros us2 < zeros us := by simpa using HZS.out.2.2
            replace h1 := h1 trivial
            have h2 := HZU.out
            simp at h1
            exact ⟨us2, st2, A6, c6, rfl, ⟨HPK.out, by omega, HV2.out, HSZ2.out⟩, HS⟩
end Go.Proofs.Ytmgmilnoeghgfaa
