import Derived.Test.YtmgmilnoeghgfaaMP
import Derived.Test.YtmgmilnoeghgfaaMX
import Derived.Test.YtmgmilnoeghgfaaMF
set_option linter.unusedVariables false
set_option linter.unusedSimpArgs false
namespace Go.Proofs.Ytmgmilnoeghgfaa
open Go.RowKit Go.Proofs.YtmgmilnoeghgfaaW.PrintWords Go.Proofs.YtmgmilnoeghgfaaW.PrintLast Go.Proofs.YtmgmilnoeghgfaaW.PrintMore Go.Proofs.Ytmgmilnoeghgfaa.PFnExactSolveRules

/-! ### The program's and the reference's IsSolution; the law's own comparisons -/
theorem drawn_trans {a b c : World} (h : Drawn0 a b) (k : Drawn0 b c) : Drawn0 a c := by
  obtain ⟨⟨n, rfl⟩⟩ := h
  obtain ⟨⟨m, rfl⟩⟩ := k
  exact ⟨⟨n + m, by simp⟩⟩
theorem values_l0 {l : List Int} (hu : Units l) (hl : l.length ≤ 1000000) : ∀ (n i k : Nat), i + n = l.length → n < k → spec_l15Values.l0 k l i = some true
  | n, i, 0, _, h => absurd h (Nat.not_lt_zero _)
  | 0, i, k + 1, hi, hk => by rw [spec_l15Values.l0, if_neg (by omega)]
  | n + 1, i, k + 1, hi, hk => by
    have hx := hu l[i] (List.getElem_mem _)
    have e : spec_l00In.f l[i] (-1) 1 = some true := by
      unfold spec_l00In.f
      rcases hx with hx | hx <;> rw [hx] <;> rfl
    rw [spec_l15Values.l0, if_pos (by omega), if_pos (by omega), rd_at l i (by omega), e, Option.bind_some, if_pos rfl, wrap_in (by omega) (by omega), show (i : Int) + 1 = ((i + 1 : Nat) : Int) by omega]
    exact values_l0 hu hl n (i + 1) k (by omega) (by omega)
theorem has_l0 {l : List Int} {y : Int} (hu : ¬ y ∈ l) (hl : l.length ≤ 1000000) : ∀ (n i k : Nat), i + n = l.length → n < k → spec_l00Has.l0 k l y i = some false
  | n, i, 0, _, h => absurd h (Nat.not_lt_zero _)
  | 0, i, k + 1, hi, hk => by rw [spec_l00Has.l0, if_neg (by omega)]
  | n + 1, i, k + 1, hi, hk => by
    rw [spec_l00Has.l0, if_pos (by omega), if_pos (by omega), rd_at l i (by omega), if_neg (fun e => hu (by rw [← e]; exact List.getElem_mem _)), wrap_in (by omega) (by omega), show (i : Int) + 1 = ((i + 1 : Nat) : Int) by omega]
    exact has_l0 hu hl n (i + 1) k (by omega) (by omega)
theorem values_calls {w : World} {A : Option Addr} {n c : Nat} {l : List Int} (hr : (Kd.int .i64).C w A n l) (hc : n ≤ c) (hu : Units l) (hl : l.length ≤ 1000000) :
    Calls Try.prog 59 #[.slice A n c] w fun e w' => e = .returned (.bool true) ∧ Drawn0 w w' := by
  obtain rfl := Kd.C_len hr
  exact spec_l15Values.calls (l.length + 1) A c l true w hr hc (values_l0 hu hl l.length 0 _ (by omega) (by omega))
theorem has0_calls {w : World} {A : Option Addr} {n c : Nat} {l : List Int} (hr : (Kd.int .i64).C w A n l) (hc : n ≤ c) (hu : Units l) (hl : l.length ≤ 1000000) :
    Calls Try.prog 60 #[.slice A n c, .int .i64 0] w fun e w' => e = .returned (.bool false) ∧ Drawn0 w w' := by
  obtain rfl := Kd.C_len hr
  exact spec_l00Has.calls (l.length + 1) A c l 0 false w hr hc (has_l0 (fun h => by rcases hu 0 h with e | e <;> omega) hl l.length 0 _ (by omega) (by omega))
/-- Do all rules hold? -/
def solvesB (rules : List Rule) (vs : List Int) : Bool := !(rules.any fun r => decide (holdsRule r vs < 0))
theorem Units.vals {n : Nat} {vs : List Int} (hl : vs.length = n) (h : Units vs) : Vals n vs := ⟨hl, fun x hx => by rcases h x hx with e | e <;> simp [unit3, e]⟩
theorem solvesB_iff {rules : List Rule} {n : Nat} {vs : List Int} (hl : vs.length = n) (hu : Units vs) : solvesB rules vs = true ↔ Sol rules n vs := by
  simp only [solvesB, Bool.not_eq_true', List.any_eq_false, decide_eq_true_eq]
  exact ⟨fun h => ⟨hl, hu, h⟩, fun h => h.holds⟩
set_option maxRecDepth 100000 in
set_option maxHeartbeats 4000000 in
theorem specIsSol_calls {w0 w : World} {R : List HP} {AR A : Option Addr} {cR n c : Nat} {rules : List Rule} {sh : Nat → Sh} {vs : List Int} (hok : okRules rules n = true) (hv : Vals n vs) (hu : Units vs) (S : Sat w0 R w) (hrd : ReadsRules w0 R AR rules sh)
    (hC : (Kd.int .i64).C w A n vs) (hc : n ≤ c) : Calls Try.prog 12 #[.slice AR rules.length cR, .int .i64 n, .slice A n c] w fun e w' => e = .returned (.bool (solvesB rules vs)) ∧ Drawn0 w w' := by
  obtain ⟨g1, g2, g3⟩ := okRules_good hok
  rw [Int.toNat_natCast] at g3
  have h1 := l15Rules_calls (c := cR) n sh (hrd w S)
  rw [hok] at h1
  have H1 := Aside0.mk h1
  have hlv := hv.len
  have HCC := Aside0.mk (fun w' (h : Drawn0 w w') => Kd.C_below hC h.below)
  have HSS := Aside0.mk (fun w' (h : Drawn0 w w') => S.drawn h)
  have H2 := Aside0.mk (fun w' (h : Drawn0 w w') => values_calls (c := c) (HCC.out w' h) hc hu (by omega))
  have H3 := Aside0.mk (fun w' (h : Drawn0 w w') => has0_calls (c := c) (HCC.out w' h) hc hu (by omega))
  have HOK := Aside0.mk g3
  have HV := Aside0.mk hv
  have HRD := Aside0.mk hrd
  have hmR : rules.length ≤ 9223372036854775807 := by omega
  have HF : Aside0 (solvesB rules vs = !(rules.any fun r => decide (holdsRule r vs < 0))) := ⟨rfl⟩
  generalize solvesB rules vs = res at *
  clear h1 hok hv hu S hrd hC g1 g2 g3 hlv
  go_enter Try.func12, Try.ntmps12
  go_wp2_with (first
    | ((with_reducible refine gate_dst (N := 10) rfl ?_); refine goesF (f := 58) (args := #[.slice AR rules.length cR, .int .i64 n]) rfl rfl rfl (by (try simp only [List.map_toArray, List.map_cons, List.map_nil]); rfl) (Enter.mk Try.func58 (by kernel_rfl) rfl) ?_; refine (H1.out).mono ?_; rintro e e1 ⟨rfl, hq1⟩; refine ⟨_, rfl, ?_⟩; have HQ1 := Aside0.mk hq1; clear hq1)
    | (go_at_call 59; refine (H2.out _ HQ1.out).mono ?_; rintro e e1 ⟨rfl, hq2⟩; have HQ2 := Aside0.mk (drawn_trans HQ1.out hq2); clear hq2)
    | (go_at_call 60; refine (H3.out _ HQ2.out).mono ?_; rintro e e1 ⟨rfl, hq3⟩; have HQ3 := Aside0.mk (drawn_trans HQ2.out hq3); clear hq3))
  go_loopw [7] (fun v7 wr => ∃ k : Nat, k ≤ rules.length ∧ v7 = .int .i64 k ∧ Aside0 (Drawn0 w wr) ∧ Aside0 ((rules.take k).any (fun r => decide (holdsRule r vs < 0)) = false)) (fun v7 _ => rules.length - (intOf v7).toNat)
  case atStart => exact ⟨0, Nat.zero_le _, rfl, HQ3, ⟨by simp⟩⟩
  case round =>
    clear HQ1 HQ2 HQ3 H1 H2 H3
    obtain ⟨k, hk, rfl, HQ, HA⟩ := hrel
    by_cases hlt : k < rules.length
    · obtain ⟨ad, e1, d0, d1, d2, g1, g2⟩ := (HRD.out _ (HSS.out _ HQ.out)).2 k hlt
      cases e1
      have HR := Aside0.mk (HRD.out.at_ k hlt ad rfl)
      have HC := Aside0.mk (l15HoldsRule_calls (ps := []) (ad.add (k * 3)) A c (HOK.out rules[k] (List.getElem_mem hlt)) HV.out HR.out (HSS.out _ HQ.out) (HCC.out _ HQ.out))
      have HNX : Aside0 ((rules.take (k + 1)).any (fun r => decide (holdsRule r vs < 0)) = decide (holdsRule rules[k] vs < 0)) := ⟨by rw [List.take_succ_eq_append_getElem hlt, List.any_append, HA.out]; simp⟩
      have HIN : Aside0 (decide (holdsRule rules[k] vs < 0) = true → rules.any (fun r => decide (holdsRule r vs < 0)) = true) := ⟨fun h => List.any_eq_true.2 ⟨rules[k], List.getElem_mem _, h⟩⟩
      clear d0 d1 d2 g1 g2 HR
      generalize rules[k] = r at *
      generalize holdsRule r vs = z at *
      by_cases hneg : z < 0
      · have hd : decide (z < 0) = true := decide_eq_true hneg
        have HFW : Aside0 (res = false) := ⟨by rw [HF.out, HIN.out hd]; rfl⟩
        go_wp2_with (((with_reducible refine gate_dst (N := 37) rfl ?_); refine goesF (f := 61) (args := #[.pointer (some (ad.add (k * 3))), .slice A n c]) rfl rfl rfl (by (try simp only [List.map_toArray, List.map_cons, List.map_nil]); rfl) (Enter.mk Try.func61 (by kernel_rfl) rfl) ?_; refine (HC.out).mono ?_; rintro e e1 ⟨rfl, hb⟩; refine ⟨_, rfl, ?_⟩; have HQ4 := Aside0.mk (drawn_trans HQ.out hb); clear hb))
        go_ret
        exact ⟨ret_bool HFW.out.symm, HQ4.out⟩
      · have hd : decide (z < 0) = false := decide_eq_false hneg
        rw [hd] at HNX
        go_wp2_with (((with_reducible refine gate_dst (N := 37) rfl ?_); refine goesF (f := 61) (args := #[.pointer (some (ad.add (k * 3))), .slice A n c]) rfl rfl rfl (by (try simp only [List.map_toArray, List.map_cons, List.map_nil]); rfl) (Enter.mk Try.func61 (by kernel_rfl) rfl) ?_; refine (HC.out).mono ?_; rintro e e1 ⟨rfl, hb⟩; refine ⟨_, rfl, ?_⟩; have HQ4 := Aside0.mk (drawn_trans HQ.out hb); clear hb))
        exact ⟨⟨k + 1, by omega, by go_num, HQ4, HNX⟩, by simp [intOf]; omega⟩
    · obtain rfl : k = rules.length := by omega
      have hA := HA.out
      rw [List.take_length] at hA
      have HFW : Aside0 (res = true) := ⟨by rw [HF.out, hA]; rfl⟩
      go_wp2
      go_ret
      exact ⟨ret_bool HFW.out.symm, HQ.out⟩
/-! ### impl.IsSolution -/
set_option maxRecDepth 100000 in
theorem isSolution1_calls {w : World} {b n c : Nat} {A : Option Addr} {vs : List Int} (hv : Vals n vs) (r : Rule) (hok : OkRule r n) (A1 A2 : Option Addr) (c1 c2 : Nat) (hb : w.heap[b]? = some (.cells #[.slice A n c] 24 (0, 0)))
    (hC : (Kd.int .i64).C w A n vs) (h1 : (Kd.int .i64).C w A1 r.f1.length r.f1) (h2 : (Kd.int .i64).C w A2 r.f2.length r.f2) :
    Calls Try.prog 65 (#[.agg #[.int .i64 r.f0, .slice A1 r.f1.length c1, .slice A2 r.f2.length c2]] ++ #[.pointer (some ⟨b, 0, none⟩)]) w fun e w' => e = .returned (.bool (decide (holdsRule r vs < 0))) ∧ Below w.heap.size w w' := by
  show Calls Try.prog 65 #[ruleW r A1 A2 c1 c2, .pointer (some ⟨b, 0, none⟩)] w _
  have hcl := box1 hb
  have hlt := lt_of_block hb
  have HC := Aside0.mk (holdsRule_calls A1 A2 A c1 c2 c hok hv (Kd.C_alloc h1 (ruleB r A1 A2 c1 c2)) (Kd.C_alloc h2 (ruleB r A1 A2 c1 c2)) (Kd.C_alloc hC (ruleB r A1 A2 c1 c2)))
  generalize holdsRule r vs = z at *
  clear h1 h2 hb hC
  go_enter Try.func65, Try.ntmps65
  go_wp2_with ((go_at_call 66; refine (HC.out).mono ?_; rintro e e1 ⟨rfl, hb⟩; have HB := Aside0.mk hb; clear hb))
  go_ret
  exact ⟨rfl, below_then (below_alloc (Below.refl _ _) _) (by simp) HB.out⟩
end Go.Proofs.Ytmgmilnoeghgfaa

set_option linter.unusedVariables false
set_option linter.unusedSimpArgs false
namespace Go.Proofs.Ytmgmilnoeghgfaa
open Go.RowKit Go.Proofs.YtmgmilnoeghgfaaW.PrintWords Go.Proofs.YtmgmilnoeghgfaaW.PrintLast Go.Proofs.YtmgmilnoeghgfaaW.PrintMore Go.Proofs.Ytmgmilnoeghgfaa.PFnExactSolveRules

set_option maxRecDepth 100000 in
set_option maxHeartbeats 4000000 in
theorem implIsSol_calls {w : World} {AR A : Option Addr} {cR n c : Nat} {rules : List Rule} {vs : List Int} (hok : okRules rules n = true) (hv : Vals n vs) (hu : Units vs) (hr : kRule.C w AR rules.length rules)
    (hC : (Kd.int .i64).C w A n vs) (hc : n ≤ c) : Calls Try.prog 15 #[.slice AR rules.length cR, .int .i64 n, .slice A n c] w fun e w' => e = .returned (.bool (solvesB rules vs)) ∧ Below w.heap.size w w' := by
  obtain ⟨g1, g2, g3⟩ := okRules_good hok
  rw [Int.toNat_natCast] at g3
  have hB0 := below_alloc (Below.refl w.heap.size w) (.cells #[.slice A n c] 24)
  have h1 := validRules_calls (c := cR) n (Kd.C_below hr hB0)
  rw [hok] at h1
  have H1 := Aside0.mk h1
  have HB0 := Aside0.mk hB0
  have hall : (vs.all fun x => x == 1 || x == -1) = true := by
    rw [List.all_eq_true]
    intro x hx
    rcases hu x hx with e | e <;> simp [e]
  have hcl : w.heap.size < (w.alloc (.cells #[.slice A n c] 24)).heap.size := by simp
  have HCELL := Aside0.mk (fun (w' : World) (h : Below (w.alloc (.cells #[.slice A n c] 24)).heap.size (w.alloc (.cells #[.slice A n c] 24)) w') => ((h.block _ hcl).trans (heap_alloc_new w (.cells #[.slice A n c] 24)) : w'.heap[w.heap.size]? = some (.cells #[.slice A n c] 24 (0, 0))))
  have hn9 : n ≤ 9223372036854775807 := by omega
  have HUN := Aside0.mk (fun (w' : World) (h : Below (w.alloc (.cells #[.slice A n c] 24)).heap.size (w.alloc (.cells #[.slice A n c] 24)) w') => areUnits_calls' A n c vs w' (Kd.C_below hC (below_then hB0 (by simp) h)))
  rw [hall] at HUN
  have HCF := Aside0.mk (fun (w' : World) (h : Below (w.alloc (.cells #[.slice A n c] 24)).heap.size (w.alloc (.cells #[.slice A n c] 24)) w') =>
    containsRule_calls Mild.new 65 #[.pointer (some ⟨w.heap.size, 0, none⟩)] (fun r => decide (holdsRule r vs < 0)) AR cR rules w' (Kd.C_below hr (below_then hB0 (by simp) h)) (Enter.mk Try.func65 (by kernel_rfl) rfl)
      (fun r A1 A2 c1 c2 w2 hx hq h1 h2 => isSolution1_calls (c := c) hv r (g3 r hx) A1 A2 c1 c2 (by
        have h3 := HCELL.out w' h
        rw [hq.block _ (by have h4 := h.size; simp at h4; omega)]
        exact h3) (Kd.C_below hC (below_then hB0 (by simp) (below_then h (by have := h.size; exact this) hq))) h1 h2))
  have hlv := hv.len
  have HF : Aside0 (solvesB rules vs = !(rules.any fun r => decide (holdsRule r vs < 0))) := ⟨rfl⟩
  generalize solvesB rules vs = res at *
  generalize rules.any (fun r => decide (holdsRule r vs < 0)) = bad at *
  clear h1 hok hv hu hr hC g1 g2 g3 hall hcl hB0
  go_enter Try.func15, Try.ntmps15
  go_wp2_with (first
    | ((with_reducible refine gate_dst (N := 9) rfl ?_); refine goesF (f := 53) (args := #[.slice AR rules.length cR, .int .i64 n]) rfl rfl rfl (by (try simp only [List.map_toArray, List.map_cons, List.map_nil]); rfl) (Enter.mk Try.func53 (by kernel_rfl) rfl) ?_; refine (H1.out).mono ?_; rintro e e1 ⟨rfl, hq1⟩; refine ⟨_, rfl, ?_⟩; have HQ1 := Aside0.mk hq1; have hcell := box1 (HCELL.out _ hq1); clear hq1)
    | (go_at_call 62; refine (length_calls _ _ _ _ hn9).mono ?_; rintro e e1 ⟨rfl, rfl⟩)
    | (go_at_call 63; refine (HUN.out _ HQ1.out).mono ?_; rintro e e1 ⟨rfl, rfl⟩)
    | (go_at_call 64; refine (HCF.out _ HQ1.out).mono ?_; rintro e e1 ⟨rfl, hq4⟩; have HQ4 := Aside0.mk hq4; clear hq4))
  go_ret
  exact ⟨ret_bool HF.out.symm, below_then HB0.out (by simp) (below_then HQ1.out (by have := HQ1.out.size; exact this) HQ4.out)⟩
end Go.Proofs.Ytmgmilnoeghgfaa

set_option linter.unusedVariables false
set_option linter.unusedSimpArgs false
namespace Go.Proofs.Ytmgmilnoeghgfaa
open Go.RowKit Go.Proofs.YtmgmilnoeghgfaaW.PrintWords Go.Proofs.YtmgmilnoeghgfaaW.PrintLast Go.Proofs.YtmgmilnoeghgfaaW.PrintMore Go.Proofs.Ytmgmilnoeghgfaa.PFnExactSolveRules

theorem before_l0 {a b : List Int} (k : Nat) (h1 : k < a.length) (h2 : k < b.length) (heq : ∀ (j : Nat) (hj : j < k), a[j] = b[j]) (hgt : a[k] > b[k]) (hl : a.length ≤ 1000000) : ∀ (m i : Nat), i + m = k → Ev (fun K => laws_d8Before.l0 K a b i) true
  | m, i, hi => by
    refine Ev.step (f := fun K => laws_d8Before.j1 K a b i true) (fun K => by rw [laws_d8Before.l0, if_pos (by omega), decide_eq_true (by omega : (i : Int) < (b.length : Int))]) ?_
    match m, hi with
    | 0, hi =>
      obtain rfl : i = k := by omega
      refine Ev.step (f := fun _ => some true) (fun K => ?_) (Ev.now _)
      rw [laws_d8Before.j1, if_pos rfl, if_pos (by omega), if_pos (by omega), if_pos (by omega), rd_at a i h1, rd_at b i h2, if_neg (by omega), decide_eq_true hgt]
    | m + 1, hi =>
      refine Ev.step (f := fun K => laws_d8Before.l0 K a b ((i + 1 : Nat) : Int)) (fun K => ?_) (before_l0 k h1 h2 heq hgt hl m (i + 1) (by omega))
      rw [laws_d8Before.j1, if_pos rfl, if_pos (by omega), if_pos (by omega), if_pos (by omega), rd_at a i (by omega), rd_at b i (by omega), if_pos (heq i (by omega)), wrap_in (by omega) (by omega)]
      rfl
theorem d8Before_calls {w : World} {A B : Option Addr} {n m c d : Nat} {a b : List Int} (hA : (Kd.int .i64).C w A n a) (hc : n ≤ c) (hB : (Kd.int .i64).C w B m b) (hd : m ≤ d) (h : Before a b) (hl : a.length ≤ 1000000) :
    Calls Try.prog 13 #[.slice A n c, .slice B m d] w fun e w' => e = .returned (.bool true) ∧ Drawn0 w w' := by
  obtain rfl := Kd.C_len hA
  obtain rfl := Kd.C_len hB
  obtain ⟨k, h1, h2, heq, hgt⟩ := h
  obtain ⟨K, hK⟩ := (before_l0 k h1 h2 heq hgt hl k 0 (by omega)).rounds
  exact laws_d8Before.calls K A c a B d b true w hA hc hB hd hK
theorem same_l0 {a b : List Int} (hlen : a.length = b.length) (hl : a.length ≤ 1000000) : ∀ (n i k : Nat), i + n = a.length → n < k → laws_d8Same.l0 k a b i = some (decide (a.drop i = b.drop i))
  | n, i, 0, _, h => absurd h (Nat.not_lt_zero _)
  | 0, i, k + 1, hi, hk => by
    rw [laws_d8Same.l0, if_neg (by omega), List.drop_eq_nil_of_le (by omega), List.drop_eq_nil_of_le (by omega)]
    rfl
  | n + 1, i, k + 1, hi, hk => by
    rw [laws_d8Same.l0, if_pos (by omega), if_pos (by omega), if_pos (by omega), rd_at a i (by omega), rd_at b i (by omega), wrap_in (by omega) (by omega), show (i : Int) + 1 = ((i + 1 : Nat) : Int) by omega, same_l0 hlen hl n (i + 1) k (by omega) (by omega)]
    have e1 := List.drop_eq_getElem_cons (by omega : i < a.length)
    have e2 := List.drop_eq_getElem_cons (by omega : i < b.length)
    by_cases h : a[i] = b[i]
    · rw [if_pos h, e1, e2, h]
      congr 1
      rw [decide_eq_decide]
      exact ⟨fun q => by rw [q], fun q => by injection q⟩
    · rw [if_neg h, e1, e2]
      congr 1
      exact (decide_eq_false (fun q => h (by injection q))).symm
theorem d8Same_calls {w : World} {A B : Option Addr} {n m c d : Nat} {a b : List Int} (hA : (Kd.int .i64).C w A n a) (hc : n ≤ c) (hB : (Kd.int .i64).C w B m b) (hd : m ≤ d) (hl : a.length ≤ 1000000) :
    Calls Try.prog 14 #[.slice A n c, .slice B m d] w fun e w' => e = .returned (.bool (decide (a = b))) ∧ Drawn0 w w' := by
  obtain rfl := Kd.C_len hA
  obtain rfl := Kd.C_len hB
  refine laws_d8Same.calls (a.length + 1) A c a B d b _ w hA hc hB hd ?_
  unfold laws_d8Same.f
  by_cases h : a.length = b.length
  · rw [if_pos (by omega)]
    have h2 := same_l0 h hl a.length 0 (a.length + 1) (by omega) (by omega)
    simpa using h2
  · rw [if_neg (by omega)]
    have : a ≠ b := fun e => h (by rw [e])
    simp [this]
/-- Two rows that a callee has made. -/
theorem Sat.fresh2 {w0 w w' : World} {ps : List HP} (S : Sat w0 ps w) {α β : Type} {d : Kd α} {d2 : Kd β} {e e2 : Nat} {v v2 : Value} {xs : List α} {ys : List β} (hE : d2.E = [])
    (h1 : d.R e w' w.heap.size (fun k => some k ≠ v2.ownBlock) v xs) (h2 : d2.R e2 w' w.heap.size (fun _ => True) v2 ys) (hb : Below w.heap.size w w') : Sat w0 (Rw d2 e2 v2 ys :: Rw d e v xs :: ps) w' := by
  have q1 := Kd.R_bound h1
  have q2 := Kd.R_bound (Kd.R_tight hE h2)
  have S1 : Sat w0 (Star [Rw d2 e2 v2 ys, Rw d e v xs] :: ps) w' := by
    refine S.add (.of_below hb _) (ok' := fun k => w.heap.size ≤ k ∧ k < w'.heap.size) (fun _ hk => hk) (fun w2 hm => ?_)
    refine ⟨fun j => match j with | 0 => (fun k => (w.heap.size ≤ k ∧ k < w'.heap.size) ∧ some k = v2.ownBlock) | 1 => (fun k => (w.heap.size ≤ k ∧ k < w'.heap.size) ∧ some k ≠ v2.ownBlock) | _ => fun _ => False, ?_, ?_, ?_⟩
    · intro j p hp
      match j, hp with
      | 0, hp =>
        simp at hp
        subst hp
        exact Loc.rw (Kd.R_move (Kd.R_lower (Kd.R_mono q2 (fun k hk => ⟨⟨hk.2.1, hk.2.2.1⟩, hk.1⟩)) (Nat.zero_le _)) (fun k hk => hm k hk.1))
      | 1, hp =>
        simp at hp
        subst hp
        exact Loc.rw (Kd.R_move (Kd.R_lower (Kd.R_mono q1 (fun k hk => ⟨⟨hk.2.1, hk.2.2.1⟩, hk.1⟩)) (Nat.zero_le _)) (fun k hk => hm k hk.1))
      | j + 2, hp => simp at hp
    · intro j k hk
      match j, hk with
      | 0, hk => exact hk.1
      | 1, hk => exact hk.1
      | j + 2, hk => exact hk.elim
    · intro a b k ha hb'
      match a, b, ha, hb' with
      | 0, 0, _, _ => rfl
      | 1, 1, _, _ => rfl
      | 0, 1, ha, hb' => exact absurd ha.2 hb'.2
      | 1, 0, ha, hb' => exact absurd hb'.2 ha.2
      | a + 2, _, ha, _ => exact ha.elim
      | _, b + 2, _, hb' => exact hb'.elim
  exact S1.openStar
theorem e8_calls {w0 w : World} {ps : List HP} (S : Sat w0 ps w) {A : Option Addr} {c : Nat} {code : List Int} {rules : List Rule} {vars : Int} {full : List Int} (hr : (Kd.int .u8).C w A code.length code) (hc : code.length ≤ c) (h : ∃ k, spec_E8Rules.f k code = some (rules, vars, full)) :
    Calls Try.prog 10 #[.slice A code.length c] w fun e w' => ∃ v0 v2 : Value, e = .returned (.tuple #[v0, .int .i64 vars, v2]) ∧ Sat w0 (RwI v2 full :: Rw kRule 71 v0 rules :: ps) w' := by
  obtain ⟨k, hk⟩ := h
  refine (spec_E8Rules.calls k A c code rules vars full w hr hc hk).mono ?_
  rintro e w' ⟨v0, v2, rfl, h1, h2, hb⟩
  exact ⟨v0, v2, rfl, S.fresh2 rfl (Kd.S_R h1) h2 hb⟩
end Go.Proofs.Ytmgmilnoeghgfaa

set_option linter.unusedVariables false
set_option linter.unusedSimpArgs false
namespace Go.Proofs.Ytmgmilnoeghgfaa
open Go.RowKit Go.Proofs.YtmgmilnoeghgfaaW.PrintWords Go.Proofs.YtmgmilnoeghgfaaW.PrintLast Go.Proofs.YtmgmilnoeghgfaaW.PrintMore Go.Proofs.Ytmgmilnoeghgfaa.PFnExactSolveRules

/-! ### The law -/
theorem rowG_at {w : World} {g n : Nat} {xs : List (List Int)} (h : (Kd.slice 2 (Kd.int .i64)).C w (some ⟨g, 0, none⟩) n xs) (k : Nat) (hk : k < xs.length) :
    ∃ A0 c0, w.cell? ⟨g, k, none⟩ = some (.slice A0 xs[k].length c0) ∧ xs[k].length ≤ c0 ∧ (Kd.int .i64).C w A0 xs[k].length xs[k] := by
  have hn : xs.length = n := h.1
  obtain ⟨ad, A0, c0, e, h1, h2, h3⟩ := at_L1 h (k : Int) (by omega) (by omega)
  cases e
  have hr := rdL hk
  rw [hr] at h1 h2 h3
  have e0 : (Addr.add ⟨g, 0, none⟩ ((k : Int)).toNat) = ⟨g, k, none⟩ := by simp [Addr.add]; omega
  rw [e0] at h1
  exact ⟨A0, c0, h1, h2, h3⟩
theorem rowL_at {w : World} {A : Option Addr} {n : Nat} {xs : List (List Int)} (h : (Kd.slice 2 (Kd.int .i64)).C w A n xs) (k : Nat) (hk : k < xs.length) :
    ∃ ad A0 c0, A = some ad ∧ w.cell? (ad.add k) = some (.slice A0 xs[k].length c0) ∧ xs[k].length ≤ c0 ∧ (Kd.int .i64).C w A0 xs[k].length xs[k] := by
  have hn : xs.length = n := h.1
  obtain ⟨ad, A0, c0, e, h1, h2, h3⟩ := at_L1 h (k : Int) (by omega) (by omega)
  have hr := rdL hk
  rw [hr] at h1 h2 h3
  exact ⟨ad, A0, c0, e, by simpa using h1, h2, h3⟩
set_option maxRecDepth 100000 in
set_option maxHeartbeats 8000000 in
theorem solveAll_walk (A : Option Addr) (c : Nat) (code : List Int) (w : World) (hr : (Kd.int .u8).C w A code.length code) (hc : code.length ≤ c) (hbytes : ∀ x ∈ code, 0 ≤ x ∧ x < 256) :
    Calls Try.prog 3 #[.slice A code.length c] w fun e w' => e = .returned (.bool true) ∧ Below w.heap.size w w' := by
  have HS0 := Aside0.mk (Sat.start w)
  by_cases hbig : 1048576 < code.length
  · have hd : decide (1048576 < code.length) = true := decide_eq_true hbig
    have hmx := Kd.C_max hr
    clear hr
    go_enter Try.func3, Try.ntmps3
    go_wp2
    go_ret
    exact ⟨rfl, Below.refl _ _⟩
  · have hd : decide (1048576 < code.length) = false := decide_eq_false hbig
    obtain ⟨rules, vars, full, hE8, hok, hvb, hfl, hfu, hrl⟩ := e8_ok (code := code) ⟨by omega, hbytes⟩
    have HE8 := Aside0.mk (e8_calls HS0.out hr hc hE8)
    have HLAW := Aside0.mk (solve_law hok)
    obtain ⟨n, rfl⟩ := Int.eq_ofNat_of_zero_le (show 0 ≤ vars by omega)
    have hfn : full.length = n := by omega
    have HFV := Aside0.mk (Units.vals hfn hfu)
    have HFU := Aside0.mk hfu
    have HOK := Aside0.mk hok
    have hn9 : n ≤ 9 := by omega
    have HN := Aside0.mk hn9
    have HRL := Aside0.mk hrl
    clear hr hc hE8 hok hvb hfl hfu hbytes hfn hn9 hrl
    obtain ⟨rr, hrr⟩ : ∃ rr, rr = solveR rules n 5000 100 := ⟨_, rfl⟩
    have HRR := Aside0.mk hrr
    rw [← hrr] at HLAW
    clear hrr
    rcases HLAW.out with h10 | ⟨list, t, hlt, ht, hsol, hbef, hall, hfirst⟩
    · have H10 := Aside0.mk h10
      clear h10 HLAW
      go_enter Try.func3, Try.ntmps3
      go_wp2_with (first
        | ((with_reducible refine gate_dst (N := 18) rfl ?_); refine goesF (f := 10) (args := #[.slice A code.length c]) rfl rfl rfl (by (try simp only [List.map_toArray, List.map_cons, List.map_nil]); rfl) (Enter.mk Try.func10 (by kernel_rfl) rfl) ?_; refine (HE8.out).mono ?_; rintro e e1 ⟨v0, v2, rfl, S1⟩; refine ⟨_, rfl, ?_⟩; obtain ⟨A1, c1, rfl, hl1, _⟩ := S1.reads 0 rfl; obtain ⟨A2, c2, rfl, hl2, _⟩ := S1.reads 1 rfl; obtain ⟨sh, S2⟩ := S1.shape 1 rfl; have HS2 := Aside0.mk (S2.front 1 rfl); clear S1 S2)
        | ((with_reducible refine gate_dst (N := 25) rfl ?_); refine goesF (f := 11) (args := #[.slice A2 rules.length c2, .int .i64 n, .int .i64 5000, .int .i64 100]) rfl rfl rfl (by (try simp only [List.map_toArray, List.map_cons, List.map_nil]); rfl) (Enter.mk Try.func11 (by kernel_rfl) rfl) ?_; refine (SolveRules_calls HS2.out (ReadsR.of 0 rfl)).mono ?_; rintro e e1 ⟨v3, rfl, S4⟩; refine ⟨_, rfl, ?_⟩; rw [← HRR.out, H10.out] at S4 ⊢; have HS4 := Aside0.mk S4; clear S4))
      go_ret
      exact ⟨rfl, HS4.out.to_below 3 rfl⟩
    · have HHL := Aside0.mk hlt
      have HSOL := Aside0.mk hsol
      have HBEF := Aside0.mk hbef
      have HALL := Aside0.mk hall
      have HFIRST := Aside0.mk hfirst
      have HLS : Aside0 (SmallLL list) := ⟨by have h := solve_len (rules := rules) (vars := n) (budget := 5000) (most := 100); rw [← HRR.out, hlt] at h; exact h⟩
      have hlm : list.length ≤ 1048576 := HLS.out.1
      clear HLAW hlt hsol hbef hall hfirst
      go_enter Try.func3, Try.ntmps3
      go_wp2_with (first
        | ((with_reducible refine gate_dst (N := 18) rfl ?_); refine goesF (f := 10) (args := #[.slice A code.length c]) rfl rfl rfl (by (try simp only [List.map_toArray, List.map_cons, List.map_nil]); rfl) (Enter.mk Try.func10 (by kernel_rfl) rfl) ?_; refine (HE8.out).mono ?_; rintro e e1 ⟨v0, v2, rfl, S1⟩; refine ⟨_, rfl, ?_⟩; obtain ⟨A1, c1, rfl, hl1, _⟩ := S1.reads 0 rfl; obtain ⟨A2, c2, rfl, hl2, _⟩ := S1.reads 1 rfl; obtain ⟨sh, S2⟩ := S1.shape 1 rfl; have HS2 := Aside0.mk (S2.front 1 rfl); clear S1 S2)
        | ((with_reducible refine gate_dst (N := 25) rfl ?_); refine goesF (f := 11) (args := #[.slice A2 rules.length c2, .int .i64 n, .int .i64 5000, .int .i64 100]) rfl rfl rfl (by (try simp only [List.map_toArray, List.map_cons, List.map_nil]); rfl) (Enter.mk Try.func11 (by kernel_rfl) rfl) ?_; refine (SolveRules_calls HS2.out (ReadsR.of 0 rfl)).mono ?_; rintro e e1 ⟨v3, rfl, S4⟩; refine ⟨_, rfl, ?_⟩; rw [← HRR.out, HHL.out] at S4 ⊢; obtain ⟨A3, c3, rfl, hl3, _⟩ := S4.readsS 0 rfl; have HS4 := Aside0.mk S4; clear S4))
      go_loopw [9, 10] (fun v9 v10 wr => ∃ k : Nat, k ≤ list.length ∧ v10 = .int .i64 k ∧ v9 = .bool ((list.take k).any fun z => decide (z = full)) ∧
        Aside0 (Sat w (RwL (.slice A3 list.length c3) list :: RwR 71 (.slice A2 rules.length c2) A2 rules sh :: RwI (.slice A1 full.length c1) full :: Old w :: []) wr)) (fun _ v10 _ => list.length - (intOf v10).toNat)
      case atStart => exact ⟨0, Nat.zero_le _, rfl, by simp, HS4⟩
      case round =>
      clear HS4 HS2 HS0 HE8
      obtain ⟨k, hk, rfl, rfl, HS⟩ := hrel
      by_cases hlt : k < list.length
      · obtain ⟨g, rfl⟩ := HS.out.headS 0 rfl (by omega)
        obtain ⟨B, d, hcell, hled, hCk⟩ := rowG_at (HS.out.readsAtS 0 rfl).2.2 k hlt
        have hzs := HSOL.out list[k] (List.getElem_mem _)
        rw [Int.toNat_natCast] at hzs
        have HIS := Aside0.mk (fun m => quiet_d (specIsSol_calls (cR := c2) HOK.out (Units.vals hzs.len hzs.unit) hzs.unit (HS.out.drewN m) (ReadsR.of 1 rfl).at_ (by rw [← hzs.len]; exact Kd.C_drewN hCk m) (by rw [← hzs.len]; exact hled)))
        have hsolv : solvesB rules list[k] = true := (solvesB_iff hzs.len hzs.unit).2 hzs
        rw [hsolv] at HIS
        have hlen : list[k].length = n := hzs.len
        rw [hlen] at hcell hled hCk
        have HSM := Aside0.mk (fun m => d8Same_calls (Kd.C_drewN hCk m) hled (Kd.C_drewN (HS.out.readsAt 2 rfl).2.2 m) hl1 (by rw [hlen]; have := HN.out; omega))
        have HNX : Aside0 (((list.take (k + 1)).any fun z => decide (z = full)) = (((list.take k).any fun z => decide (z = full)) || decide (list[k] = full))) := ⟨by rw [List.take_succ_eq_append_getElem hlt, List.any_append]; simp⟩
        have hk1 : IntKind.i64.wrap ((k : Int) + 1) = (k : Int) + 1 := IntWalk.i64_in _ (by omega)
        obtain ⟨fk, hfk⟩ : ∃ fk, fk = (list.take k).any fun z => decide (z = full) := ⟨_, rfl⟩
        rw [← hfk] at HNX ⊢
        clear hfk
        by_cases hk0 : 0 < (k : Int)
        · have hd0 : decide (0 < (k : Int)) = true := decide_eq_true hk0
          obtain ⟨j, rfl⟩ : ∃ j, k = j + 1 := ⟨k - 1, by omega⟩
          obtain ⟨B2, d2, hcell2, hled2, hCj⟩ := rowG_at (HS.out.readsAtS 0 rfl).2.2 j (by omega)
          have hzs2 := HSOL.out list[j] (List.getElem_mem _)
          rw [Int.toNat_natCast] at hzs2
          have hlen2 : list[j].length = n := hzs2.len
          rw [hlen2] at hcell2 hled2 hCj
          have HBF := Aside0.mk (fun m => quiet_d (d8Before_calls (Kd.C_drewN hCj m) hled2 (Kd.C_drewN hCk m) hled (List.pairwise_iff_getElem.1 HBEF.out j (j + 1) (by omega) hlt (by omega)) (by rw [hlen2]; have := HN.out; omega)))
          have hk2 : IntKind.i64.wrap (((j + 1 : Nat) : Int) - 1) = (j : Int) := by rw [IntWalk.i64_in _ (by omega)]; omega
          have hj0 : (0 : Int) ≤ (j : Int) := by omega
          have hj1 : (j : Int) < (list.length : Int) := by omega
          clear hsolv hzs hCk hzs2 hCj
          generalize list[j + 1] = z at *
          generalize list[j] = y at *
          cases fk
          · go_wp2
            go_quiet ((first | (go_at_call 12; exact HIS.out _) | (go_at_call 13; exact HBF.out _)))
            go_wp2_with ((go_at_call 14; refine (HSM.out _).mono ?_; rintro e e1 ⟨rfl, hq⟩))
            have HS9 := Aside0.mk ((HS.out.drewN _).drawn hq)
            exact ⟨⟨j + 1 + 1, by omega, by go_num, by rw [HNX.out]; simp, ⟨HS9.out⟩⟩, by simp [intOf]; omega⟩
          · go_wp2
            go_quiet ((first | (go_at_call 12; exact HIS.out _) | (go_at_call 13; exact HBF.out _)))
            go_wp2
            have HS9 := Aside0.mk (HS.out.drewN nq)
            exact ⟨⟨j + 1 + 1, by omega, by go_num, by rw [HNX.out]; simp, ⟨HS9.out⟩⟩, by simp [intOf]; omega⟩
        · obtain rfl : k = 0 := by omega
          clear hsolv hzs hCk hk0
          generalize list[0] = z at *
          cases fk
          · go_wp2
            go_quiet ((go_at_call 12; exact HIS.out _))
            go_wp2_with ((go_at_call 14; refine (HSM.out _).mono ?_; rintro e e1 ⟨rfl, hq⟩))
            have HS9 := Aside0.mk ((HS.out.drewN _).drawn hq)
            exact ⟨⟨1, by omega, rfl, by rw [show (1 : Nat) = 0 + 1 from rfl, HNX.out]; simp, ⟨HS9.out⟩⟩, by simp [intOf]; omega⟩
          · go_wp2
            go_quiet ((go_at_call 12; exact HIS.out _))
            go_wp2
            have HS9 := Aside0.mk (HS.out.drewN nq)
            exact ⟨⟨1, by omega, rfl, by rw [show (1 : Nat) = 0 + 1 from rfl, HNX.out]; simp, ⟨HS9.out⟩⟩, by simp [intOf]; omega⟩
      · obtain rfl : k = list.length := by omega
        rw [List.take_length]
        obtain ⟨fk, hfk⟩ : ∃ fk, fk = list.any fun z => decide (z = full) := ⟨_, rfl⟩
        rw [← hfk]
        have HIM : Aside0 (Calls Try.prog 15 #[.slice A2 rules.length c2, .int .i64 n, .slice A1 full.length c1] wr fun e w' => e = .returned (.bool (solvesB rules full)) ∧ Below wr.heap.size wr w') := ⟨by
          have h := implIsSol_calls (w := wr) (cR := c2) (A := A1) (c := c1) HOK.out HFV.out HFU.out ((ReadsR.of 1 rfl) _ HS.out).2 (by have h3 := (HS.out.readsAt 2 rfl).2.2; rw [HFV.out.len] at h3; exact h3) (by rw [← HFV.out.len]; exact hl1)
          rw [HFV.out.len]
          exact h⟩
        have HEQ : Aside0 (list.length < 100 → fk = solvesB rules full) := ⟨fun hlt => by
          rw [hfk]
          rw [Bool.eq_iff_iff, solvesB_iff HFV.out.len HFU.out, List.any_eq_true]
          constructor
          · rintro ⟨z, hz, he⟩
            have := HSOL.out z hz
            rw [of_decide_eq_true he, Int.toNat_natCast] at this
            exact this
          · intro hs
            exact ⟨full, HALL.out hlt full (by rw [Int.toNat_natCast]; exact hs), by simp⟩⟩
        clear hlt hk
        rcases HFIRST.out with ⟨he, h8⟩ | ⟨x, l, he, h0⟩
        · subst he
          have H8 := Aside0.mk h8
          obtain rfl : fk = false := hfk
          have hs := HEQ.out (by simp)
          rw [← hs] at HIM
          clear h8 HEQ hs HALL HBEF HSOL HLS HFIRST
          go_wp2_with (first
            | (go_at_call 15; refine (HIM.out).mono ?_; rintro e e1 ⟨rfl, hq⟩; have HS5 := Aside0.mk (HS.out.below hq); clear hq)
            | ((with_reducible refine gate_dst (N := 87) rfl ?_); refine goesF (f := 16) (args := #[.slice A2 rules.length c2, .int .i64 n, .int .i64 5000]) rfl rfl rfl (by (try simp only [List.map_toArray, List.map_cons, List.map_nil]); rfl) (Enter.mk Try.func16 (by kernel_rfl) rfl) ?_; refine (FirstSolution_calls HS5.out (ReadsR.of 1 rfl)).mono ?_; rintro e e1 ⟨v5, rfl, S6⟩; refine ⟨_, rfl, ?_⟩; rw [H8.out] at S6 ⊢; have HS6 := Aside0.mk S6; clear S6))
          go_ret
          exact ⟨rfl, HS6.out.to_below 4 rfl⟩
        · have H0 := Aside0.mk h0
          have hlp2 : 0 < list.length := by rw [he]; simp
          have HG : Aside0 (∃ h : 0 < list.length, list[0] = x) := ⟨by subst he; exact ⟨hlp2, rfl⟩⟩
          clear hfk h0 HALL HBEF HFIRST HRR HHL
          have hx1 : x.length ≤ 1000000 := by
            have h1 := (HSOL.out x (by rw [he]; simp)).len
            have := HN.out
            rw [Int.toNat_natCast] at h1
            omega
          have hlp : ((list.length : Int) == 0) = false := beq_eq_false_iff_ne.2 (by omega)
          clear he
          by_cases h100 : list.length < 100
          · have hd : decide (list.length < 100) = true := decide_eq_true h100
            have hs := HEQ.out h100
            rw [← hs] at HIM
            clear HEQ hs
            cases fk
            all_goals
              go_wp2_with (first
                | (go_at_call 15; refine (HIM.out).mono ?_; rintro e e1 ⟨rfl, hq⟩; have HS5 := Aside0.mk (HS.out.below hq); clear hq)
                | ((with_reducible refine gate_dst (N := 87) rfl ?_); refine goesF (f := 16) (args := #[.slice A2 rules.length c2, .int .i64 n, .int .i64 5000]) rfl rfl rfl (by (try simp only [List.map_toArray, List.map_cons, List.map_nil]); rfl) (Enter.mk Try.func16 (by kernel_rfl) rfl) ?_; refine (FirstSolution_calls HS5.out (ReadsR.of 1 rfl)).mono ?_; rintro e e1 ⟨v5, rfl, S6⟩; refine ⟨_, rfl, ?_⟩; rw [H0.out] at S6 ⊢; obtain ⟨A5, c5, rfl, hl5, _⟩ := S6.reads 0 rfl; have HS6 := Aside0.mk S6; clear S6; obtain ⟨g, rfl⟩ := HS6.out.headS 1 rfl hlp2; obtain ⟨B, d, hcell, hled, hCk⟩ := rowG_at (HS6.out.readsAtS 1 rfl).2.2 0 hlp2; rw [HG.out.2] at hcell hled hCk; have HSM := Aside0.mk (d8Same_calls (HS6.out.readsAt 0 rfl).2.2 hl5 hCk hled hx1); rw [decide_eq_true (rfl : x = x)] at HSM)
                | (go_at_call 14; refine (HSM.out).mono ?_; rintro e e1 ⟨rfl, hq⟩; have HS7 := Aside0.mk (HS6.out.drawn hq); clear hq))
              go_ret
              exact ⟨rfl, HS7.out.to_below 4 rfl⟩
          · have hd : decide (list.length < 100) = false := decide_eq_false h100
            have HS5 := HS
            clear HEQ HIM
            go_wp2_with (first
                | ((with_reducible refine gate_dst (N := 87) rfl ?_); refine goesF (f := 16) (args := #[.slice A2 rules.length c2, .int .i64 n, .int .i64 5000]) rfl rfl rfl (by (try simp only [List.map_toArray, List.map_cons, List.map_nil]); rfl) (Enter.mk Try.func16 (by kernel_rfl) rfl) ?_; refine (FirstSolution_calls HS5.out (ReadsR.of 1 rfl)).mono ?_; rintro e e1 ⟨v5, rfl, S6⟩; refine ⟨_, rfl, ?_⟩; rw [H0.out] at S6 ⊢; obtain ⟨A5, c5, rfl, hl5, _⟩ := S6.reads 0 rfl; have HS6 := Aside0.mk S6; clear S6; obtain ⟨g, rfl⟩ := HS6.out.headS 1 rfl hlp2; obtain ⟨B, d, hcell, hled, hCk⟩ := rowG_at (HS6.out.readsAtS 1 rfl).2.2 0 hlp2; rw [HG.out.2] at hcell hled hCk; have HSM := Aside0.mk (d8Same_calls (HS6.out.readsAt 0 rfl).2.2 hl5 hCk hled hx1); rw [decide_eq_true (rfl : x = x)] at HSM)
                | (go_at_call 14; refine (HSM.out).mono ?_; rintro e e1 ⟨rfl, hq⟩; have HS7 := Aside0.mk (HS6.out.drawn hq); clear hq))
            go_ret
            exact ⟨rfl, HS7.out.to_below 4 rfl⟩
end Go.Proofs.Ytmgmilnoeghgfaa
