import Derived.Test.YtmgmilnoeghgfaaMD
import Derived.Test.YtmgmilnoeghgfaaQr
import Derived.Test.YtmgmilnoeghgfaaMS
import Derived.Deep.RegionHeld3
import Derived.Test.YtmgmilnoeghgfaaRg
import Derived.Test.YtmgmilnoeghgfaaME
set_option linter.unusedVariables false
set_option linter.unusedSimpArgs false
namespace Go.Proofs.Ytmgmilnoeghgfaa
open Go.RowKit Go.Proofs.YtmgmilnoeghgfaaW.PrintWords Go.Proofs.YtmgmilnoeghgfaaW.PrintLast Go.Proofs.YtmgmilnoeghgfaaW.PrintMore Go.Proofs.Ytmgmilnoeghgfaa.PFnExactSolveRules

abbrev S110 := PFnExactRefute.S110
abbrev k110 : Kd S110 := PFnExactRefute.k110
def toN (nd : Node) : S110 := ⟨nd.1, nd.2.1, nd.2.2.1, nd.2.2.2⟩
/-- What a refutation has come to: its nodes; is there a solution? -/
abbrev NS := List S110 × Bool
abbrev RwN (v : Value) (xs : List S110) : HP := Rw k110 110 v xs
abbrev cfgN (rules : List Rule) (n : Nat) (budget : Int) : Cfg NS := { rules, n, budget, fnd := fun s _ => ((s.1, true), false), tell := fun s nd => (s.1 ++ [toN nd], s.2), size := fun s => s.1.length, M := 1000000000 }
theorem cfgN_ok {rules : List Rule} {n : Nat} {budget : Int} (h1 : ∀ r ∈ rules, OkRule r n) (h2 : n ≤ 200) (h3 : 1 ≤ budget ∧ budget ≤ 5000) : (cfgN rules n budget).Ok :=
  ⟨h1, h2, h3, fun s nd => by simp, fun s vs => by simp⟩
theorem info110 : (Try.prog.info? 110).map (fun i => (i.zero, i.size, i.bytes)) = some (some (.agg #[.int .i64 0, .int .i64 0, .int .i64 0, .int .i64 0]), 4, 32) := by kernel_rfl
/-- The variables 'nodes' (block b) and 'solved' (block bs). -/
def ResN (b bs : Nat) (s : NS) : HP := Ex fun v => Star [RwN v s.1, Blk b (.cells #[v] 48), Blk bs (.cells #[.bool s.2] 4)]
theorem Sat.openN {w0 w : World} {ps : List HP} {b bs : Nat} {s : NS} (S : Sat w0 (ResN b bs s :: ps) w) : ∃ A c, Sat w0 (RwN (.slice A s.1.length c) s.1 :: Blk b (.cells #[.slice A s.1.length c] 48) :: Blk bs (.cells #[.bool s.2] 4) :: ps) w := by
  obtain ⟨v, S1⟩ := S.openEx
  have S2 := S1.openStar
  obtain ⟨A, c, rfl, _, _⟩ := S2.reads 0 rfl
  exact ⟨A, c, S2⟩
theorem Sat.closeN {w0 w : World} {ps : List HP} {b bs : Nat} {s : NS} {v : Value} (S : Sat w0 (RwN v s.1 :: Blk b (.cells #[v] 48) :: Blk bs (.cells #[.bool s.2] 4) :: ps) w) : Sat w0 (ResN b bs s :: ps) w :=
  Sat.closeEx (v := v) (Sat.closeStar (qs := [RwN v s.1, Blk b (.cells #[v] 48), Blk bs (.cells #[.bool s.2] 4)]) S)

set_option maxRecDepth 100000 in
set_option maxHeartbeats 2000000 in
theorem refute1_calls {w0 : World} {b bs : Nat} : TellsN w0 (ResN b bs) (fun (s : NS) nd => (s.1 ++ [toN nd], s.2)) (fun s => s.1.length) 1000000000 126 #[.pointer (some ⟨b, 0, none⟩)] := by
  intro w s nd ps hsz S
  replace hsz : s.1.length < 1000000000 := hsz
  have HSZ := Aside0.mk hsz
  clear hsz
  obtain ⟨A, c, S1⟩ := S.openN
  have hb := box1 (S1.blk 1 rfl)
  have hfb := blk_free (i := 0) (S1.blk 1 rfl)
  obtain ⟨x0, x1, x2, x3⟩ := nd
  have HS := Aside0.mk (S1.below (below_alloc (Below.refl _ _) (.cells #[.int .i64 x0, .int .i64 x1, .int .i64 x2, .int .i64 x3] 110)))
  have hlt := lt_of_block (S1.blk 1 rfl)
  have hlt2 := lt_of_block (S1.blk 2 rfl)
  clear S S1
  show Calls Try.prog 126 #[.agg #[.int .i64 x0, .int .i64 x1, .int .i64 x2, .int .i64 x3], .pointer (some ⟨b, 0, none⟩)] w _
  go_enter Try.func126, Try.ntmps126
  go_wp2_with ((with_reducible refine gate_builtin (b := .append) (xs := #[.tmp 3, .tmp 5]) rfl ?_); refine Sat.append1 HS.out 0 rfl rfl (.tmp 3) (.tmp 5) 48 (.agg #[.int .i64 0, .int .i64 0, .int .i64 0, .int .i64 0]) 32 rfl Try.underlying48 info110 rfl (by decide) (by omega) (⟨x0, x1, x2, x3⟩ : S110) [.int .i64 x0, .int .i64 x1, .int .i64 x2, .int .i64 x3] rfl (by first | rfl | (simp; rfl)) (PFnExactRefute.k110_mkM _ _ _ ⟨x0, x1, x2, x3⟩) (by have := HSZ.out; omega) ?_; intro v1 w1 S7; obtain ⟨A7, c7, rfl, hle7, _⟩ := S7.reads 0 rfl; have hb7 := box1 (S7.blk 1 rfl); have hfb7 := blk_free (i := 0) (S7.blk 1 rfl); have HS7 := Aside0.mk S7; clear S7 hle7)
  go_end0
  exact ⟨rfl, Sat.closeN (s := (s.1 ++ [(⟨x0, x1, x2, x3⟩ : S110)], s.2)) (v := .slice A7 (s.1.length + 1) c7) (by have h := HS7.out.setCell 1 rfl 0 (.slice A7 (s.1 ++ [(⟨x0, x1, x2, x3⟩ : S110)]).length c7); simpa using h)⟩
set_option maxRecDepth 100000 in
theorem refute2_calls {w0 : World} {b bs : Nat} : Founds w0 (ResN b bs) (fun (s : NS) (_ : List Int) => ((s.1, true), false)) (fun s => s.1.length) 1000000000 127 #[.pointer (some ⟨bs, 0, none⟩)] := by
  intro w s v vs ps hsz S
  obtain ⟨A, c, S1⟩ := S.tail.openN
  have hb := box1 (S1.blk 2 rfl)
  have hfb := blk_free (i := 0) (S1.blk 2 rfl)
  have HS := Aside0.mk (S1.setCell 2 rfl 0 (.bool true))
  clear S S1
  show Calls Try.prog 127 #[v, .pointer (some ⟨bs, 0, none⟩)] w _
  go_enter Try.func127, Try.ntmps127
  go_wp2
  go_ret
  exact ⟨rfl, Sat.closeN (s := (s.1, true)) (v := .slice A s.1.length c) HS.out⟩
def refuteOf (budget : Int) (r : Bool × Int × NS) : List S110 × Int := if r.2.2.2 = true then ([], 6) else if budget < r.2.1 then ([], 10) else if 4000 < r.2.2.1.length then ([], 5) else (r.2.2.1, 0)
def RefQ (w0 : World) (R : List HP) (r : List S110 × Int) (e : Ending) (w' : World) : Prop := ∃ v, e = .returned (.tuple #[v, .int .i64 r.2]) ∧ Sat w0 (RwN v r.1 :: R) w'
set_option maxRecDepth 100000 in
set_option maxHeartbeats 4000000 in
theorem refute_calls {w0 w : World} {R : List HP} {AR : Option Addr} {cR : Nat} {rules : List Rule} {sh : Nat → Sh} {n : Nat} {budget : Int} (h1 : ∀ r ∈ rules, OkRule r n) (h2 : n ≤ 200) (h3 : 1 ≤ budget ∧ budget ≤ 5000)
    (S : Sat w0 R w) (hrd : ReadsRules w0 R AR rules sh) :
    Calls Try.prog 82 #[.slice AR rules.length cR, .int .i64 n, .int .i64 budget] w (RefQ w0 R (refuteOf budget ((cfgN rules n budget).all ([], false)))) := by
  have S1 := ((Sat.closeN (s := ([], false)) ((((S.alloc (.cells #[.slice none 0 0] 48)).alloc (.cells #[.bool false] 4)).swap).nil k110 110))).alloc (solB AR rules.length cR budget 0 127 126 #[.pointer (some ⟨w.heap.size + 1, 0, none⟩)] #[.pointer (some ⟨w.heap.size, 0, none⟩)])
  simp only [World.size_alloc] at S1
  have HC := Aside0.mk (run_calls (C := cfgN rules n budget) (cfgN_ok h1 h2 h3) refute1_calls refute2_calls (Enter.mk Try.func127 (by kernel_rfl) rfl) (Enter.mk Try.func126 (by kernel_rfl) rfl) ([], false) S1 hrd (by simp only [Cfg.Room, List.length_nil]; have := h3.2; omega))
  clear S S1 hrd h1 h3
  generalize (cfgN rules n budget).all ([], false) = r at *
  obtain ⟨go, steps, nodes, solved⟩ := r
  dsimp only at HC
  have HF : Aside0 (refuteOf budget (go, steps, nodes, solved) = if solved = true then ([], 6) else if budget < steps then ([], 10) else if 4000 < nodes.length then ([], 5) else (nodes, 0)) := ⟨rfl⟩
  generalize refuteOf budget (go, steps, nodes, solved) = res at *
  cases solved
  · by_cases hsp : budget < steps
    · have hd : decide (budget < steps) = true := decide_eq_true hsp
      have HF2 : Aside0 (res = ([], 10)) := ⟨by rw [HF.out]; simp [hsp]⟩
      clear HF
      go_enter Try.func82, Try.ntmps82
      go_wp2_with (first
        | ((with_reducible refine gate_dst (N := 25) rfl ?_); refine goesF (f := 103) (args := #[.pointer (some ⟨w.heap.size + 1 + 1, 0, none⟩), .int .i64 n]) rfl rfl rfl (by (try simp only [List.map_toArray, List.map_cons, List.map_nil]); rfl) (Enter.mk Try.func103 (by kernel_rfl) rfl) ?_; refine (HC.out).mono ?_; rintro e e1 ⟨rfl, S2, hf⟩; refine ⟨_, rfl, ?_⟩; obtain ⟨A3, c3, S3⟩ := (S2.front 1 rfl).openN; have HS3 := Aside0.mk S3; clear S2 hf S3; have hb3 := box1 (HS3.out.blk 1 rfl); have hb4 := box1 (HS3.out.blk 2 rfl))
        | ((with_reducible refine gate_dst (N := 30) rfl ?_); refine goesF (f := 57) (args := #[.pointer (some ⟨w.heap.size + 1 + 1, 0, none⟩)]) rfl rfl rfl (by (try simp only [List.map_toArray, List.map_cons, List.map_nil]); rfl) (Enter.mk Try.func57 (by kernel_rfl) rfl) ?_; refine (isSpent_calls 3 HS3.out rfl).mono ?_; rintro e e1 ⟨rfl, S3⟩; refine ⟨_, rfl, ?_⟩; have HS4 := Aside0.mk S3; clear S3))
      go_ret2
      rw [HF2.out]
      exact ⟨_, rfl, HS4.out.tail.tail.tail.tail.nil _ _⟩
    · have hd : decide (budget < steps) = false := decide_eq_false hsp
      by_cases hbig : 4000 < nodes.length
      · have hd2 : decide (4000 < nodes.length) = true := decide_eq_true hbig
        have HF2 : Aside0 (res = ([], 5)) := ⟨by rw [HF.out]; simp [hsp, hbig]⟩
        clear HF
        go_enter Try.func82, Try.ntmps82
        go_wp2_with (first
          | ((with_reducible refine gate_dst (N := 25) rfl ?_); refine goesF (f := 103) (args := #[.pointer (some ⟨w.heap.size + 1 + 1, 0, none⟩), .int .i64 n]) rfl rfl rfl (by (try simp only [List.map_toArray, List.map_cons, List.map_nil]); rfl) (Enter.mk Try.func103 (by kernel_rfl) rfl) ?_; refine (HC.out).mono ?_; rintro e e1 ⟨rfl, S2, hf⟩; refine ⟨_, rfl, ?_⟩; obtain ⟨A3, c3, S3⟩ := (S2.front 1 rfl).openN; have HS3 := Aside0.mk S3; clear S2 hf S3; have hb3 := box1 (HS3.out.blk 1 rfl); have hb4 := box1 (HS3.out.blk 2 rfl))
          | ((with_reducible refine gate_dst (N := 30) rfl ?_); refine goesF (f := 57) (args := #[.pointer (some ⟨w.heap.size + 1 + 1, 0, none⟩)]) rfl rfl rfl (by (try simp only [List.map_toArray, List.map_cons, List.map_nil]); rfl) (Enter.mk Try.func57 (by kernel_rfl) rfl) ?_; refine (isSpent_calls 3 HS3.out rfl).mono ?_; rintro e e1 ⟨rfl, S3⟩; refine ⟨_, rfl, ?_⟩; have HS4 := Aside0.mk S3; clear S3; have hb5 := box1 (HS4.out.blk 1 rfl)))
        go_ret2
        rw [HF2.out]
        exact ⟨_, rfl, HS4.out.tail.tail.tail.tail.nil _ _⟩
      · have hd2 : decide (4000 < nodes.length) = false := decide_eq_false hbig
        have HF2 : Aside0 (res = (nodes, 0)) := ⟨by rw [HF.out]; simp [hsp, hbig]⟩
        clear HF
        go_enter Try.func82, Try.ntmps82
        go_wp2_with (first
          | ((with_reducible refine gate_dst (N := 25) rfl ?_); refine goesF (f := 103) (args := #[.pointer (some ⟨w.heap.size + 1 + 1, 0, none⟩), .int .i64 n]) rfl rfl rfl (by (try simp only [List.map_toArray, List.map_cons, List.map_nil]); rfl) (Enter.mk Try.func103 (by kernel_rfl) rfl) ?_; refine (HC.out).mono ?_; rintro e e1 ⟨rfl, S2, hf⟩; refine ⟨_, rfl, ?_⟩; obtain ⟨A3, c3, S3⟩ := (S2.front 1 rfl).openN; have HS3 := Aside0.mk S3; clear S2 hf S3; have hb3 := box1 (HS3.out.blk 1 rfl); have hb4 := box1 (HS3.out.blk 2 rfl))
          | ((with_reducible refine gate_dst (N := 30) rfl ?_); refine goesF (f := 57) (args := #[.pointer (some ⟨w.heap.size + 1 + 1, 0, none⟩)]) rfl rfl rfl (by (try simp only [List.map_toArray, List.map_cons, List.map_nil]); rfl) (Enter.mk Try.func57 (by kernel_rfl) rfl) ?_; refine (isSpent_calls 3 HS3.out rfl).mono ?_; rintro e e1 ⟨rfl, S3⟩; refine ⟨_, rfl, ?_⟩; have HS4 := Aside0.mk S3; clear S3; have hb5 := box1 (HS4.out.blk 1 rfl)))
        go_ret2
        rw [HF2.out]
        exact ⟨_, rfl, ((HS4.out.front 1 rfl).tail.front 1 rfl).tail.front 1 rfl |>.tail⟩
  · have HF2 : Aside0 (res = ([], 6)) := ⟨by rw [HF.out]; simp⟩
    clear HF
    go_enter Try.func82, Try.ntmps82
    go_wp2_with (first
      | ((with_reducible refine gate_dst (N := 25) rfl ?_); refine goesF (f := 103) (args := #[.pointer (some ⟨w.heap.size + 1 + 1, 0, none⟩), .int .i64 n]) rfl rfl rfl (by (try simp only [List.map_toArray, List.map_cons, List.map_nil]); rfl) (Enter.mk Try.func103 (by kernel_rfl) rfl) ?_; refine (HC.out).mono ?_; rintro e e1 ⟨rfl, S2, hf⟩; refine ⟨_, rfl, ?_⟩; obtain ⟨A3, c3, S3⟩ := (S2.front 1 rfl).openN; have HS3 := Aside0.mk S3; clear S2 hf S3; have hb3 := box1 (HS3.out.blk 1 rfl); have hb4 := box1 (HS3.out.blk 2 rfl)))
    go_ret2
    rw [HF2.out]
    exact ⟨_, rfl, HS3.out.tail.tail.tail.tail.nil _ _⟩
end Go.Proofs.Ytmgmilnoeghgfaa

set_option linter.unusedVariables false
set_option linter.unusedSimpArgs false
namespace Go.Proofs.Ytmgmilnoeghgfaa
open Go.RowKit Go.Proofs.YtmgmilnoeghgfaaW.PrintWords Go.Proofs.YtmgmilnoeghgfaaW.PrintLast Go.Proofs.YtmgmilnoeghgfaaW.PrintMore Go.Proofs.Ytmgmilnoeghgfaa.PFnExactSolveRules

abbrev resN (rules : List Rule) (vars budget : Int) : Bool × Int × NS := (cfgN rules vars.toNat budget).all ([], false)
def refuteR (rules : List Rule) (vars budget : Int) : List S110 × Int := if okRules rules vars = true ∧ inB 1 5000 budget = true then refuteOf budget (resN rules vars budget) else ([], 1)
set_option maxRecDepth 100000 in
set_option maxHeartbeats 2000000 in
theorem Refute_calls {w0 w : World} {R : List HP} {AR : Option Addr} {cR : Nat} {rules : List Rule} {sh : Nat → Sh} {vars budget : Int}
    (S : Sat w0 R w) (hrd : ReadsR w0 R AR rules sh) :
    Calls Try.prog 33 #[.slice AR rules.length cR, .int .i64 vars, .int .i64 budget] w (RefQ w0 R (refuteR rules vars budget)) := by
  have HV := Aside0.mk (validRules_calls (c := cR) vars (hrd w S).2)
  have HS := Aside0.mk S
  cases hv : okRules rules vars
  · have HF : Aside0 (refuteR rules vars budget = ([], 1)) := ⟨by simp [refuteR, hv]⟩
    rw [hv] at HV
    clear S hrd hv
    go_enter Try.func33, Try.ntmps33
    go_wp2_with (((with_reducible refine gate_dst (N := 10) rfl ?_); refine goesF (f := 53) (args := #[.slice AR rules.length cR, .int .i64 vars]) rfl rfl rfl (by (try simp only [List.map_toArray, List.map_cons, List.map_nil]); rfl) (Enter.mk Try.func53 (by kernel_rfl) rfl) ?_; refine (HV.out).mono ?_; rintro e e1 ⟨rfl, hb⟩; refine ⟨_, rfl, ?_⟩; have HS2 := Aside0.mk (HS.out.below hb); clear hb))
    go_ret2
    rw [HF.out]
    exact ⟨_, rfl, HS2.out.nil _ _⟩
  · obtain ⟨g1, g2, g3⟩ := okRules_good hv
    rw [hv] at HV
    have HB := Aside0.mk (isBudget_calls budget)
    cases hb : inB 1 5000 budget
    · have HF : Aside0 (refuteR rules vars budget = ([], 1)) := ⟨by simp [refuteR, hb]⟩
      rw [hb] at HB
      clear S hrd hv g1 g2 g3 hb
      go_enter Try.func33, Try.ntmps33
      go_wp2_with (first
        | ((with_reducible refine gate_dst (N := 10) rfl ?_); refine goesF (f := 53) (args := #[.slice AR rules.length cR, .int .i64 vars]) rfl rfl rfl (by (try simp only [List.map_toArray, List.map_cons, List.map_nil]); rfl) (Enter.mk Try.func53 (by kernel_rfl) rfl) ?_; refine (HV.out).mono ?_; rintro e e1 ⟨rfl, hb⟩; refine ⟨_, rfl, ?_⟩; have HS2 := Aside0.mk (HS.out.below hb); clear hb)
        | (go_at_call 54; refine (HB.out _).mono ?_; rintro e e1 ⟨rfl, rfl⟩))
      go_ret2
      rw [HF.out]
      exact ⟨_, rfl, HS2.out.nil _ _⟩
    · have HF : Aside0 (refuteR rules vars budget = refuteOf budget (resN rules vars budget)) := ⟨by simp [refuteR, hv, hb]⟩
      have hn : ((vars.toNat : Nat) : Int) = vars := by omega
      have HC : Aside0 (∀ w', Sat w0 R w' → Calls Try.prog 82 #[.slice AR rules.length cR, .int .i64 vars, .int .i64 budget] w' (RefQ w0 R (refuteOf budget (resN rules vars budget)))) := ⟨fun w' S' => by
        have h := refute_calls (cR := cR) g3 (by omega) (inB_iff hb) S' hrd.at_
        rwa [hn] at h⟩
      rw [hb] at HB
      clear S hrd hv g1 g2 g3 hb hn
      unfold RefQ at HC
      rw [← HF.out] at HC
      clear HF
      generalize refuteR rules vars budget = r at *
      obtain ⟨r1, r2⟩ := r
      go_enter Try.func33, Try.ntmps33
      go_wp2_with (first
        | ((with_reducible refine gate_dst (N := 10) rfl ?_); refine goesF (f := 53) (args := #[.slice AR rules.length cR, .int .i64 vars]) rfl rfl rfl (by (try simp only [List.map_toArray, List.map_cons, List.map_nil]); rfl) (Enter.mk Try.func53 (by kernel_rfl) rfl) ?_; refine (HV.out).mono ?_; rintro e e1 ⟨rfl, hb⟩; refine ⟨_, rfl, ?_⟩; have HS2 := Aside0.mk (HS.out.below hb); clear hb)
        | (go_at_call 54; refine (HB.out _).mono ?_; rintro e e1 ⟨rfl, rfl⟩)
        | ((with_reducible refine gate_dst (N := 20) rfl ?_); refine goesF (f := 82) (args := #[.slice AR rules.length cR, .int .i64 vars, .int .i64 budget]) rfl rfl rfl (by (try simp only [List.map_toArray, List.map_cons, List.map_nil]); rfl) (Enter.mk Try.func82 (by kernel_rfl) rfl) ?_; refine (HC.out _ HS2.out).mono ?_; rintro e e1 ⟨v, rfl, S3⟩; refine ⟨_, rfl, ?_⟩; have HS3 := Aside0.mk S3; clear S3))
      go_ret2
      exact ⟨v, rfl, HS3.out⟩
end Go.Proofs.Ytmgmilnoeghgfaa

set_option linter.unusedVariables false
set_option linter.unusedSimpArgs false
namespace Go.Proofs.Ytmgmilnoeghgfaa
open Go.RowKit Go.Proofs.YtmgmilnoeghgfaaW.PrintWords Go.Proofs.YtmgmilnoeghgfaaW.PrintLast Go.Proofs.YtmgmilnoeghgfaaW.PrintMore Go.Proofs.Ytmgmilnoeghgfaa.PFnExactSolveRules

/-! ### The refuter's code, and what the search says of it -/
def codeOf (r : Bool × Int × NS) : Int := if r.1 = true then 0 else if r.2.2.2 = true then 6 else 10
def frcN (f : Frc) : S110 := ⟨2, f.1, f.2.1, f.2.2⟩
theorem foldN : ∀ (st : List Frc) (xs : List S110) (b : Bool), st.foldl (tellF fun (s : NS) nd => (s.1 ++ [toN nd], s.2)) (xs, b) = (xs ++ st.map frcN, b)
  | [], xs, b => by simp
  | f :: st, xs, b => by
    rw [List.foldl_cons]
    show st.foldl _ (xs ++ [frcN f], b) = _
    rw [foldN st (xs ++ [frcN f]) b]
    simp
theorem searchN_ok (rules : List Rule) (n : Nat) (budget : Int) : ∀ (d : Nat) (steps : Int) (xs : List S110) (vs : List Int), zeros vs < d → (∀ r ∈ rules, OkRule r n) → Vals n vs →
    (((cfgN rules n budget).search d steps (xs, false) vs).1 = true → ((cfgN rules n budget).search d steps (xs, false) vs).2.2.2 = false ∧ ((cfgN rules n budget).search d steps (xs, false) vs).2.1 ≤ budget) ∧
    (((cfgN rules n budget).search d steps (xs, false) vs).1 = false → ((cfgN rules n budget).search d steps (xs, false) vs).2.2.2 = false → budget < ((cfgN rules n budget).search d steps (xs, false) vs).2.1)
  | 0, _, _, _, h, _, _ => absurd h (Nat.not_lt_zero _)
  | d + 1, steps, xs, vs, hz, hok, hv => by
    by_cases hover : budget < steps + 1
    · have e2 : (cfgN rules n budget).search (d + 1) steps (xs, false) vs = (false, steps + 1, (xs, false)) := by simp only [Cfg.search, searchR]; rw [if_pos hover]
      rw [e2]
      exact ⟨fun h => by simp at h, fun _ _ => hover⟩
    · obtain ⟨⟨bad, us, st⟩, hp0⟩ : ∃ x, propR rules (zeros vs + 1) vs [] = x := ⟨_, rfl⟩
      have hpv := prop_vals hok (zeros vs + 1) vs [] hv
      rw [hp0] at hpv
      have e2 := search_unfold (cfgN rules n budget) d steps (xs, false) vs hover hp0
      rw [foldN] at e2
      dsimp only at e2
      by_cases hbad : 0 ≤ bad
      · rw [if_pos hbad] at e2
        rw [e2]
        exact ⟨fun _ => ⟨rfl, by show steps + 1 ≤ budget; omega⟩, fun h => by simp at h⟩
      · rw [if_neg hbad] at e2
        by_cases hix : idxOf (· == 0) us < 0
        · rw [if_pos hix] at e2
          rw [e2]
          exact ⟨fun h => by simp at h, fun _ h => by simp at h⟩
        · rw [if_neg hix] at e2
          have hsp := idxOf_spec hix
          have hzn : ∀ x : Int, x ≠ 0 → zeros (us.set (idxOf (· == 0) us).toNat x) < d := fun x hx => by
            have h := zeros_set (vs := us) (k := (idxOf (· == 0) us).toNat) (x := x) (by omega) (by
              have h2 := hsp.2.2
              rw [show idxOf (· == 0) us = (((idxOf (· == 0) us).toNat : Nat) : Int) by omega, rd_at us _ (by omega)] at h2
              exact h2) hx
            have := hpv.2
            dsimp only at this
            omega
          have i1 := searchN_ok rules n budget d (steps + 1) (xs ++ st.map frcN ++ [toN (1, idxOf (· == 0) us, 0, 0)]) (us.set (idxOf (· == 0) us).toNat 1) (hzn 1 (by decide)) hok (hpv.1.set _ (by simp [unit3]))
          rw [e2]
          generalize (cfgN rules n budget).search d (steps + 1) (xs ++ st.map frcN ++ [toN (1, idxOf (· == 0) us, 0, 0)], false) (us.set (idxOf (· == 0) us).toNat 1) = r at *
          obtain ⟨b, t, ys, so⟩ := r
          dsimp only at i1 ⊢
          cases b with
          | false => exact i1
          | true =>
            obtain rfl := (i1.1 rfl).1
            exact searchN_ok rules n budget d t ys (us.set (idxOf (· == 0) us).toNat (-1)) (hzn (-1) (by decide)) hok (hpv.1.set _ (by simp [unit3]))
theorem codeOf_no {r : Bool × Int × NS} (h : r.1 = false) : codeOf r = 6 ∨ codeOf r = 10 := by
  unfold codeOf
  rw [h]
  cases r.2.2.2 <;> simp
theorem codeOf_yes {r : Bool × Int × NS} (h : r.1 = true) : codeOf r = 0 := by unfold codeOf; rw [if_pos h]
theorem refuteOf_gen {budget : Int} {r : Bool × Int × NS} (h : (r.1 = true → r.2.2.2 = false ∧ r.2.1 ≤ budget) ∧ (r.1 = false → r.2.2.2 = false → budget < r.2.1)) :
    refuteOf budget r = if codeOf r ≠ 0 then ([], codeOf r) else if 4000 < r.2.2.1.length then ([], 5) else (r.2.2.1, 0) := by
  obtain ⟨b, t, ys, so⟩ := r
  dsimp only at h
  cases b with
  | true =>
    obtain ⟨rfl, h3⟩ := h.1 rfl
    rw [if_neg (by simp [codeOf])]
    simp only [refuteOf]
    rw [if_neg (by simp), if_neg (by omega)]
  | false =>
    cases so with
    | true => simp [refuteOf, codeOf]
    | false =>
      have h3 := h.2 rfl rfl
      simp [refuteOf, codeOf, h3]
theorem refuteOf_code {rules : List Rule} {n : Nat} {budget : Int} (h1 : ∀ r ∈ rules, OkRule r n) :
    refuteOf budget ((cfgN rules n budget).all ([], false)) = if codeOf ((cfgN rules n budget).all ([], false)) ≠ 0 then ([], codeOf ((cfgN rules n budget).all ([], false))) else if 4000 < ((cfgN rules n budget).all ([], false)).2.2.1.length then ([], 5) else (((cfgN rules n budget).all ([], false)).2.2.1, 0) :=
  refuteOf_gen (searchN_ok rules n budget (n + 1) 0 [] (List.replicate n 0) (by have := zeros_made n; omega) h1 (vals_made n))
end Go.Proofs.Ytmgmilnoeghgfaa

set_option linter.unusedVariables false
set_option linter.unusedSimpArgs false
namespace Go.Proofs.Ytmgmilnoeghgfaa
open Go.RowKit Go.Proofs.YtmgmilnoeghgfaaW.PrintWords Go.Proofs.YtmgmilnoeghgfaaW.PrintLast Go.Proofs.YtmgmilnoeghgfaaW.PrintMore Go.Proofs.Ytmgmilnoeghgfaa.PFnExactSolveRules

/-! ### The spec's refuter -/
abbrev refB (AR : Option Addr) (len cR : Nat) (budget steps : Int) (v : Value) (code : Int) : Obj := .cells #[.slice AR len cR, .int .i64 budget, .int .i64 steps, v, .int .i64 code] 106
def ResR (AR : Option Addr) (len cR : Nat) (budget : Int) (bx : Nat) (steps : Int) (nodes : List S110) (code : Int) : HP := Ex fun v => Star [Blk bx (refB AR len cR budget steps v code), RwN v nodes]
theorem Sat.openR {w0 w : World} {ps : List HP} {AR : Option Addr} {len cR : Nat} {budget : Int} {bx : Nat} {steps : Int} {nodes : List S110} {code : Int} (S : Sat w0 (ResR AR len cR budget bx steps nodes code :: ps) w) :
    ∃ A c, Sat w0 (Blk bx (refB AR len cR budget steps (.slice A nodes.length c) code) :: RwN (.slice A nodes.length c) nodes :: ps) w := by
  obtain ⟨v, S1⟩ := S.openEx
  have S2 := S1.openStar
  obtain ⟨A, c, rfl, _, _⟩ := S2.reads 1 rfl
  exact ⟨A, c, S2⟩
theorem Sat.closeR {w0 w : World} {ps : List HP} {AR : Option Addr} {len cR : Nat} {budget : Int} {bx : Nat} {steps : Int} {nodes : List S110} {code : Int} {v : Value} (S : Sat w0 (Blk bx (refB AR len cR budget steps v code) :: RwN v nodes :: ps) w) :
    Sat w0 (ResR AR len cR budget bx steps nodes code :: ps) w :=
  Sat.closeEx (v := v) (Sat.closeStar (qs := [Blk bx (refB AR len cR budget steps v code), RwN v nodes]) S)
theorem Sat.rowHead {w0 w : World} {ps : List HP} (S : Sat w0 ps w) (i : Nat) {α : Type} {d : Kd α} {e : Nat} {A : Option Addr} {n c : Nat} {xs : List α} (hp : ps[i]? = some (Rw d e (.slice A n c) xs)) (h : 0 < xs.length) : ∃ g, A = some ⟨g, 0, none⟩ ∧ g < w.heap.size := by
  obtain ⟨ok, hR, hb⟩ := S.at_ i hp
  obtain ⟨h1, inner, ho, hr⟩ := hR
  rcases ho.2 with ⟨h', h2⟩ | ⟨b, cap, cur, h', _⟩
  · omega
  · injection h' with hA h2 h3
    subst hA
    exact ⟨b, rfl, hb b (h1 b rfl)⟩
theorem Sat.ne_rw {w0 w : World} {ps : List HP} (S : Sat w0 ps w) (i j : Nat) (hij : i ≠ j) {α : Type} {d : Kd α} {e g n c b : Nat} {xs : List α} {o : Obj} (hp : ps[i]? = some (Rw d e (.slice (some ⟨g, 0, none⟩) n c) xs)) (hq : ps[j]? = some (Blk b o)) : ¬ g = b ∧ ¬ b = g := by
  obtain ⟨_, ok, hl, _, hd⟩ := S
  have h1 : ok i g := ((hl i _ hp).now : d.R e w 0 (ok i) _ xs).1 g rfl
  have h2 : ok j b := ((hl j _ hq).now : Blk b o w (ok j)).1
  exact ⟨fun e => hij (hd i j g h1 (e ▸ h2)), fun e => hij (hd i j g h1 (e ▸ h2))⟩
theorem frcCells {w0 w : World} {ps : List HP} (S : Sat w0 ps w) (i : Nat) {gs n c : Nat} {st : List Frc} (hp : ps[i]? = some (Rw kFrc 143 (.slice (some ⟨gs, 0, none⟩) n c) st)) (k : Nat) (hk : k < st.length) :
    w.cell? ⟨gs, k * 3, none⟩ = some (.int .i64 st[k].2.2) ∧ w.cell? ⟨gs, k * 3 + 1, none⟩ = some (.int .i64 st[k].1) ∧ w.cell? ⟨gs, k * 3 + 2, none⟩ = some (.int .i64 st[k].2.1) := by
  obtain ⟨_, _, hCs⟩ := S.readsAt i hp
  obtain ⟨ad, cs', eA, hl', hK, hcell⟩ := ReadsRow.get_ hCs (0, 0, 0) (k : Int) (by omega) (by omega)
  cases eA
  have e0 : st.getD (k : Int).toNat (0, 0, 0) = st[k] := by simp [List.getD_eq_getElem?_getD, List.getElem?_eq_getElem hk]
  rw [e0] at hK
  obtain rfl := kFrc_K hK
  have d0 := hcell 0 _ rfl
  have d1 := hcell 1 _ rfl
  have d2 := hcell 2 _ rfl
  have hz : kFrc.sz = 3 := rfl
  rw [hz] at d0 d1 d2
  simp only [Int.toNat_natCast, Nat.add_zero] at d0 d1 d2
  have f0 : (Addr.add ⟨gs, 0, none⟩ (k * 3)) = ⟨gs, k * 3, none⟩ := by simp [Addr.add]; omega
  have f1 : (Addr.add ⟨gs, 0, none⟩ (k * 3 + 1)) = ⟨gs, k * 3 + 1, none⟩ := by simp [Addr.add]
  have f2 : (Addr.add ⟨gs, 0, none⟩ (k * 3 + 2)) = ⟨gs, k * 3 + 2, none⟩ := by simp [Addr.add]
  rw [f0] at d0
  rw [f1] at d1
  rw [f2] at d2
  exact ⟨d0, d1, d2⟩
def SpecNOk (w0 : World) (rules : List Rule) (n : Nat) (budget : Int) (AR : Option Addr) (cR bx : Nat) (sh : Nat → Sh) (d : Nat) : Prop :=
  ∀ (w : World) (R : List HP) (A : Option Addr) (c : Nat) (vs : List Int) (steps : Int) (nodes : List S110),
    Sat w0 (RwI (.slice A n c) vs :: ResR AR rules.length cR budget bx steps nodes 0 :: R) w → ReadsRules w0 R AR rules sh → Vals n vs → zeros vs < d → 0 ≤ steps ∧ steps ≤ budget → (cfgN rules n budget).Room steps (nodes, false) →
    Calls Try.prog 81 #[.pointer (some ⟨bx, 0, none⟩), .slice A n c] w fun e w' => e = .returned (.tuple #[]) ∧
      Sat w0 (ResR AR rules.length cR budget bx ((cfgN rules n budget).search d steps (nodes, false) vs).2.1 ((cfgN rules n budget).search d steps (nodes, false) vs).2.2.1 (codeOf ((cfgN rules n budget).search d steps (nodes, false) vs)) :: R) w' ∧
      (cfgN rules n budget).Fine ((cfgN rules n budget).search d steps (nodes, false) vs)
set_option maxRecDepth 100000 in
set_option maxHeartbeats 8000000 in
theorem specN_step {w0 : World} {rules : List Rule} {n : Nat} {budget : Int} {AR : Option Addr} {cR bx : Nat} {sh : Nat → Sh} (hok : (cfgN rules n budget).Ok)
    (d : Nat) (ih : SpecNOk w0 rules n budget AR cR bx sh d) : SpecNOk w0 rules n budget AR cR bx sh (d + 1) := by
  intro w R A c vs steps nodes S hrd hv hzd hst hroom
  have hr5 := hok.bud
  have hsa := hst.1
  have hsb := hst.2
  have hba := hr5.1
  have hbb := hr5.2
  dsimp only at hba hbb
  obtain ⟨Af, cf, S0⟩ := (S.front 1 rfl).openR
  obtain ⟨hx0, hx1, hx2, hx3, hx4⟩ := box5 (S0.blk 0 rfl)
  have hfx := fun i => blk_free (i := i) (S0.blk 0 rfl)
  have hf2 := hfx 2
  have hf4 := hfx 4
  clear hfx
  have HS1 : Aside0 (Sat w0 (Blk bx (refB AR rules.length cR budget (steps + 1) (.slice Af nodes.length cf) 0) :: RwN (.slice Af nodes.length cf) nodes :: RwI (.slice A n c) vs :: R) (w.setCell ⟨bx, 2, none⟩ (.int .i64 (steps + 1)))) :=
    ⟨by simpa using S0.setCell 0 rfl 2 (.int .i64 (steps + 1))⟩
  have HIH := Aside0.mk ih
  have HOK := Aside0.mk hok
  have HRD := Aside0.mk hrd
  have HV := Aside0.mk hv
  have HZD := Aside0.mk hzd
  have HRM := Aside0.mk hroom
  clear S S0 ih hok hrd hv hzd hroom hst hr5
  by_cases hover : budget < steps + 1
  · have hd : decide (budget < steps + 1) = true := decide_eq_true hover
    have HFIN : Aside0 ((cfgN rules n budget).search (d + 1) steps (nodes, false) vs = (false, steps + 1, (nodes, false))) := ⟨by simp only [Cfg.search, searchR]; rw [if_pos hover]⟩
    rw [HFIN.out]
    go_enter Try.func81, Try.ntmps81
    go_wp2
    go_quiet (fail)
    go_wp2
    (refine bodyPost_ret (results_none rfl _ _ _) rfl ?_)
    exact ⟨rfl, Sat.closeR (code := 10) (v := .slice Af nodes.length cf) (by have h := ((HS1.out.drewN nq).setCell 0 rfl 4 (.int .i64 10)).front 2 rfl |>.tail; simpa using h), fun h => by simp at h⟩
  · have hd : decide (budget < steps + 1) = false := decide_eq_false hover
    obtain ⟨⟨bad, us, st⟩, hp0⟩ : ∃ x, propR rules (zeros vs + 1) vs [] = x := ⟨_, rfl⟩
    have hun := search_unfold (cfgN rules n budget) d steps (nodes, false) vs hover hp0
    rw [foldN] at hun
    have hpv := prop_vals HOK.out.rule (zeros vs + 1) vs [] HV.out
    dsimp only at hpv
    rw [hp0] at hpv
    have HPV := Aside0.mk hpv
    have HP0 := Aside0.mk hp0
    have HOV : Aside0 (steps + 1 ≤ budget) := ⟨by omega⟩
    have HRM2 : Aside0 ((nodes.length : Int) + 202 * (budget + 1 - steps) ≤ 1000000000) := ⟨by have h := HRM.out; unfold Cfg.Room at *; dsimp only at *; omega⟩
    have HUN := Aside0.mk hun
    clear hpv hp0 hun
    obtain ⟨r, hr⟩ : ∃ r, r = (cfgN rules n budget).search (d + 1) steps (nodes, false) vs := ⟨_, rfl⟩
    rw [← hr] at HUN ⊢
    clear hr
    go_enter Try.func81, Try.ntmps81
    go_wp2
    go_quiet (fail)
    go_wp2_with ((with_reducible refine gate_dst (N := 35) rfl ?_); refine goesF (f := 124) (args := #[.slice AR rules.length cR, .slice A n c]) rfl rfl rfl (by (try simp only [List.map_toArray, List.map_cons, List.map_nil]); rfl) (Enter.mk Try.func124 (by kernel_rfl) rfl) ?_; refine (l15Propagate_calls ((HS1.out.drewN nq).front 2 rfl) ((HRD.out.cons _).cons _) HOK.out.rule HV.out HOK.out.small (zeros vs + 1) (Nat.lt_succ_self _)).mono ?_; rintro e e1 ⟨bad2, us2, st2, v4, hp2, rfl, S5, hsz5⟩; refine ⟨_, rfl, ?_⟩; cases HP0.out.symm.trans hp2; clear hp2; obtain ⟨As, cs, rfl, hles, _⟩ := S5.reads 0 rfl; clear hles; have hsz6 := hsz5; have HSZ5 := Aside0.mk hsz5; clear hsz5; have HS5 := Aside0.mk ((S5.front 2 rfl).front 3 rfl |>.swap); clear S5)
    clear hx0 hx1 hx2 hx3 hx4 hf2 hf4
    go_loopw [6] (fun v6 wr => ∃ (k : Nat) (A1 : Option Addr) (c1 : Nat), k ≤ st.length ∧ v6 = .int .i64 k ∧
      Aside0 (Sat w0 (Blk bx (refB AR rules.length cR budget (steps + 1) (.slice A1 (nodes ++ (st.take k).map frcN).length c1) 0) :: RwN (.slice A1 (nodes ++ (st.take k).map frcN).length c1) (nodes ++ (st.take k).map frcN) :: Rw kFrc 143 (.slice As st.length cs) st :: RwI (.slice A n c) us :: R) wr)) (fun v6 _ => st.length - (intOf v6).toNat)
    case atStart => exact ⟨0, Af, cf, Nat.zero_le _, rfl, ⟨by simpa using HS5.out⟩⟩
    case round =>
    clear HS5
    obtain ⟨k, A1, c1, hk, rfl, HS⟩ := hrel
    by_cases hlt : k < st.length
    · obtain ⟨hx0, hx1, hx2, hx3, hx4⟩ := box5 (HS.out.blk 0 rfl)
      have hf3 := blk_free (i := 3) (HS.out.blk 0 rfl)
      obtain ⟨gs, rfl, hgs⟩ := HS.out.rowHead 2 rfl (by omega)
      obtain ⟨d0, d1, d2⟩ := frcCells HS.out 2 rfl k hlt
      obtain ⟨hne1, hne2⟩ := HS.out.ne_rw 2 0 (by decide) rfl rfl
      have hbx : bx < wr.heap.size := lt_of_block (HS.out.blk 0 rfl)
      have hbx2 : ¬ bx = wr.heap.size := by omega
      have hbx3 : ¬ wr.heap.size = bx := by omega
      have HFC := Aside0.mk (fun (w' : World) (ps : List HP) (S : Sat w0 ps w') (hp : ps[2]? = some (Rw kFrc 143 (.slice (some ⟨gs, 0, none⟩) st.length cs) st)) => frcCells S 2 hp k hlt)
      generalize hq : st[k] = f at *
      obtain ⟨fv, fx, fi⟩ := f
      have HQ := Aside0.mk hq
      clear hq
      dsimp only at d0 d1 d2
      go_wp2
      have hsz7 : (nodes ++ (st.take k).map frcN).length ≤ 1000000100 := by have h1 := HRM2.out; have h2 := HSZ5.out; simp; omega
      have HSZ7 := Aside0.mk hsz7
      clear hsz7
      generalize hL : nodes ++ (st.take k).map frcN = L at *
      have HL := Aside0.mk hL
      clear hL
      refine wp_region_G (fun (b : Bool) (w' : World) => (w'.cell? ⟨gs, k * 3, none⟩ = some (.int .i64 fi) ∧ w'.cell? ⟨gs, k * 3 + 1, none⟩ = some (.int .i64 fv) ∧ w'.cell? ⟨gs, k * 3 + 2, none⟩ = some (.int .i64 fx)) ∧ (match b with | true => True | false => w'.cell? ⟨bx, 3, none⟩ = some (.slice A1 L.length c1))) 22 (by kernel_rfl) ?_ (fun hHeld => ?_)
      · exact ⟨⟨by simpa using d0, by simpa using d1, by simpa using d2⟩, by simpa using hx3⟩
      (refine wpAnyG_take (i := 0) true (c := false) (oi := _) (v := ?_) (fun _ h => ⟨h.1, trivial⟩) rfl (by kernel_rfl) (fun _ _ _ h => h) (by rfl) ?_ (by assumption) ?_; rotate_left; focus ((intro w hSw; (try dsimp only at hSw); go_simp); first | done | with_reducible rfl); try simp only [Act.put, List.setIfInBounds_toArray, List.set_cons_zero, List.set_cons_succ]); (refine wpAnyG_take (i := 1) true (c := false) (oi := _) (v := ?_) (fun _ h => ⟨h.1, trivial⟩) rfl (by kernel_rfl) (fun _ _ _ h => h) (by rfl) ?_ (by assumption) ?_; rotate_left; focus ((intro w hSw; (try dsimp only at hSw); go_simp); first | done | with_reducible rfl); try simp only [Act.put, List.setIfInBounds_toArray, List.set_cons_zero, List.set_cons_succ]); (refine wpAnyG_take (i := 2) true (c := false) (oi := _) (v := ?_) (fun _ h => ⟨h.1, trivial⟩) rfl (by kernel_rfl) (fun _ _ _ h => h) (by rfl) ?_ (by assumption) ?_; rotate_left; focus ((intro w hSw; (try dsimp only at hSw); go_simp); first | done | with_reducible rfl); try simp only [Act.put, List.setIfInBounds_toArray, List.set_cons_zero, List.set_cons_succ]); (refine wpAnyG_take (i := 3) true (c := false) (oi := _) (v := ?_) (fun _ h => ⟨h.1, trivial⟩) rfl (by kernel_rfl) (fun _ _ _ h => h) (by rfl) ?_ (by assumption) ?_; rotate_left; focus ((intro w hSw; (try dsimp only at hSw); go_simp); first | done | with_reducible rfl); try simp only [Act.put, List.setIfInBounds_toArray, List.set_cons_zero, List.set_cons_succ])
      (refine wpAnyG_take (i := 4) false (c := false) (oi := _) (v := ?_) (fun _ h => ⟨h.1, trivial⟩) rfl (by kernel_rfl) (fun _ _ _ h => h) (by rfl) ?_ (by assumption) ?_; rotate_left; focus ((intro w hSw; (try dsimp only at hSw); go_simp); first | done | with_reducible rfl); try simp only [Act.put, List.setIfInBounds_toArray, List.set_cons_zero, List.set_cons_succ])
      (refine wpAnyG_take (i := 5) true (c := false) (oi := _) (v := ?_) (fun _ h => ⟨h.1, trivial⟩) rfl (by kernel_rfl) (fun _ _ _ h => h) (by rfl) ?_ (by assumption) ?_; rotate_left; focus ((intro w hSw; (try dsimp only at hSw); go_simp); first | done | with_reducible rfl); try simp only [Act.put, List.setIfInBounds_toArray, List.set_cons_zero, List.set_cons_succ]); (refine wpAnyG_take (i := 6) true (c := false) (oi := _) (v := ?_) (fun _ h => ⟨h.1, trivial⟩) rfl (by kernel_rfl) (fun _ _ _ h => h) (by rfl) ?_ (by assumption) ?_; rotate_left; focus ((intro w hSw; (try dsimp only at hSw); go_simp); first | done | with_reducible rfl); try simp only [Act.put, List.setIfInBounds_toArray, List.set_cons_zero, List.set_cons_succ]); (refine wpAnyG_take (i := 7) true (c := false) (oi := _) (v := ?_) (fun _ h => ⟨h.1, trivial⟩) rfl (by kernel_rfl) (fun _ _ _ h => h) (by rfl) ?_ (by assumption) ?_; rotate_left; focus ((intro w hSw; (try dsimp only at hSw); go_simp); first | done | with_reducible rfl); try simp only [Act.put, List.setIfInBounds_toArray, List.set_cons_zero, List.set_cons_succ]); (refine wpAnyG_take (i := 8) true (c := false) (oi := _) (v := ?_) (fun _ h => ⟨h.1, trivial⟩) rfl (by kernel_rfl) (fun _ _ _ h => h) (by rfl) ?_ (by assumption) ?_; rotate_left; focus ((intro w hSw; (try dsimp only at hSw); go_simp); first | done | with_reducible rfl); try simp only [Act.put, List.setIfInBounds_toArray, List.set_cons_zero, List.set_cons_succ]); (refine wpAnyG_take (i := 9) true (c := false) (oi := _) (v := ?_) (fun _ h => ⟨h.1, trivial⟩) rfl (by kernel_rfl) (fun _ _ _ h => h) (by rfl) ?_ (by assumption) ?_; rotate_left; focus ((intro w hSw; (try dsimp only at hSw); go_simp); first | done | with_reducible rfl); try simp only [Act.put, List.setIfInBounds_toArray, List.set_cons_zero, List.set_cons_succ]); (refine wpAnyG_take (i := 10) true (c := false) (oi := _) (v := ?_) (fun _ h => ⟨h.1, trivial⟩) rfl (by kernel_rfl) (fun _ _ _ h => h) (by rfl) ?_ (by assumption) ?_; rotate_left; focus ((intro w hSw; (try dsimp only at hSw); go_simp); first | done | with_reducible rfl); try simp only [Act.put, List.setIfInBounds_toArray, List.set_cons_zero, List.set_cons_succ]); (refine wpAnyG_take (i := 11) true (c := false) (oi := _) (v := ?_) (fun _ h => ⟨h.1, trivial⟩) rfl (by kernel_rfl) (fun _ _ _ h => h) (by rfl) ?_ (by assumption) ?_; rotate_left; focus ((intro w hSw; (try dsimp only at hSw); go_simp); first | done | with_reducible rfl); try simp only [Act.put, List.setIfInBounds_toArray, List.set_cons_zero, List.set_cons_succ]); (refine wpAnyG_take (i := 12) true (c := false) (oi := _) (v := ?_) (fun _ h => ⟨h.1, trivial⟩) rfl (by kernel_rfl) (fun _ _ _ h => h) (by rfl) ?_ (by assumption) ?_; rotate_left; focus ((intro w hSw; (try dsimp only at hSw); go_simp); first | done | with_reducible rfl); try simp only [Act.put, List.setIfInBounds_toArray, List.set_cons_zero, List.set_cons_succ]); (refine wpAnyG_take (i := 13) true (c := false) (oi := _) (v := ?_) (fun _ h => ⟨h.1, trivial⟩) rfl (by kernel_rfl) (fun _ _ _ h => h) (by rfl) ?_ (by assumption) ?_; rotate_left; focus ((intro w hSw; (try dsimp only at hSw); go_simp); first | done | with_reducible rfl); try simp only [Act.put, List.setIfInBounds_toArray, List.set_cons_zero, List.set_cons_succ]); (refine wpAnyG_take (i := 14) true (c := false) (oi := _) (v := ?_) (fun _ h => ⟨h.1, trivial⟩) rfl (by kernel_rfl) (fun _ _ _ h => h) (by rfl) ?_ (by assumption) ?_; rotate_left; focus ((intro w hSw; (try dsimp only at hSw); go_simp); first | done | with_reducible rfl); try simp only [Act.put, List.setIfInBounds_toArray, List.set_cons_zero, List.set_cons_succ]); (refine wpAnyG_take (i := 15) true (c := false) (oi := _) (v := ?_) (fun _ h => ⟨h.1, trivial⟩) rfl (by kernel_rfl) (fun _ _ _ h => h) (by rfl) ?_ (by assumption) ?_; rotate_left; focus ((intro w hSw; (try dsimp only at hSw); go_simp); first | done | with_reducible rfl); try simp only [Act.put, List.setIfInBounds_toArray, List.set_cons_zero, List.set_cons_succ]); (refine wpAnyG_take (i := 16) true (c := false) (oi := _) (v := ?_) (fun _ h => ⟨h.1, trivial⟩) rfl (by kernel_rfl) (fun _ _ _ h => h) (by rfl) ?_ (by assumption) ?_; rotate_left; focus ((intro w hSw; (try dsimp only at hSw); go_simp); first | done | with_reducible rfl); try simp only [Act.put, List.setIfInBounds_toArray, List.set_cons_zero, List.set_cons_succ]); (refine wpAnyG_take (i := 17) true (c := false) (oi := _) (v := ?_) (fun _ h => ⟨h.1, trivial⟩) rfl (by kernel_rfl) (fun _ _ _ h => h) (by rfl) ?_ (by assumption) ?_; rotate_left; focus ((intro w hSw; (try dsimp only at hSw); go_simp); first | done | with_reducible rfl); try simp only [Act.put, List.setIfInBounds_toArray, List.set_cons_zero, List.set_cons_succ]); (refine wpAnyG_take (i := 18) true (c := false) (oi := _) (v := ?_) (fun _ h => ⟨h.1, trivial⟩) rfl (by kernel_rfl) (fun _ _ _ h => h) (by rfl) ?_ (by assumption) ?_; rotate_left; focus ((intro w hSw; (try dsimp only at hSw); go_simp); first | done | with_reducible rfl); try simp only [Act.put, List.setIfInBounds_toArray, List.set_cons_zero, List.set_cons_succ]); (refine wpAnyG_take (i := 19) true (c := false) (oi := _) (v := ?_) (fun _ h => ⟨h.1, trivial⟩) rfl (by kernel_rfl) (fun _ _ _ h => h) (by rfl) ?_ (by assumption) ?_; rotate_left; focus ((intro w hSw; (try dsimp only at hSw); go_simp); first | done | with_reducible rfl); try simp only [Act.put, List.setIfInBounds_toArray, List.set_cons_zero, List.set_cons_succ]); (refine wpAnyG_take (i := 20) true (c := false) (oi := _) (v := ?_) (fun _ h => ⟨h.1, trivial⟩) rfl (by kernel_rfl) (fun _ _ _ h => h) (by rfl) ?_ (by assumption) ?_; rotate_left; focus ((intro w hSw; (try dsimp only at hSw); go_simp); first | done | with_reducible rfl); try simp only [Act.put, List.setIfInBounds_toArray, List.set_cons_zero, List.set_cons_succ])
      refine wpAnyG_one (i := 21) false (by kernel_rfl) (by kernel_rfl) rfl (fun K hK => ?_)
      go_simp
      refine hK.out _ _ ?_ (fun hHeld => ?_)
      · go_keep
      clear hK K
      (try simp only [Act.put, List.setIfInBounds_toArray, List.set_cons_zero, List.set_cons_succ])
      refine wpAnyG_one (i := 22) true (by kernel_rfl) (by kernel_rfl) rfl (fun K hK => ?_)
      refine Sat.append1_step (HS.out.drew) 1 rfl (by rfl) (.tmp 48) (.tmp 65) 48 (.agg #[.int .i64 0, .int .i64 0, .int .i64 0, .int .i64 0]) 32 rfl Try.underlying48 info110 rfl (by decide) (by omega) (⟨2, fv, fx, fi⟩ : S110) [.int .i64 2, .int .i64 fv, .int .i64 fx, .int .i64 fi] rfl (by first | rfl | (simp; rfl)) (PFnExactRefute.k110_mkM _ _ _ ⟨2, fv, fx, fi⟩) (by have := HSZ7.out; omega) ?_
      intro v1 w1 S7
      obtain ⟨hz0, hz1, hz2, hz3, hz4⟩ := box5 (S7.blk 0 rfl)
      have hfz := blk_free (i := 3) (S7.blk 0 rfl)
      obtain ⟨dz0, dz1, dz2⟩ := HFC.out _ _ S7 rfl
      obtain ⟨A7, c7, rfl, _, _⟩ := S7.reads 1 rfl
      have HS7 := Aside0.mk S7
      clear S7
      refine hK.out _ _ ?_ (fun hHeld => ?_)
      · exact ⟨⟨dz0, dz1, dz2⟩, trivial⟩
      clear hK K
      (try simp only [Act.put, List.setIfInBounds_toArray, List.set_cons_zero, List.set_cons_succ])
      (refine wpAnyG_take (i := 23) true (c := true) (oi := _) (v := ?_) (fun _ h => ⟨h.1, trivial⟩) rfl (by kernel_rfl) (fun _ _ _ h => h) (by rfl) ?_ (by assumption) ?_; rotate_left; focus ((intro w hSw; (try dsimp only at hSw); go_simp); first | done | with_reducible rfl); try simp only [Act.put, List.setIfInBounds_toArray, List.set_cons_zero, List.set_cons_succ]); (refine wpAnyG_take (i := 24) true (c := true) (oi := _) (v := ?_) (fun _ h => ⟨h.1, trivial⟩) rfl (by kernel_rfl) (fun _ _ _ h => h) (by rfl) ?_ (by assumption) ?_; rotate_left; focus ((intro w hSw; (try dsimp only at hSw); go_simp); first | done | with_reducible rfl); try simp only [Act.put, List.setIfInBounds_toArray, List.set_cons_zero, List.set_cons_succ])
      refine wpAnyG_one (i := 25) true (by kernel_rfl) (by kernel_rfl) rfl (fun K hK => ?_)
      go_simp
      refine hK.out _ _ ?_ (fun hHeld => ?_)
      · go_keep
      clear hK K hHeld
      (try simp only [Act.put, List.setIfInBounds_toArray, List.set_cons_zero, List.set_cons_succ])
      refine wpAnyG_done (by kernel_rfl) ?_
      go_wp2
      have HS8 := Aside0.mk (HS7.out.setCell 0 rfl 3 (.slice A7 (L ++ [(⟨2, fv, fx, fi⟩ : S110)]).length c7))
      have hL2 : nodes ++ (st.take (k + 1)).map frcN = L ++ [(⟨2, fv, fx, fi⟩ : S110)] := by
        rw [List.take_succ_eq_append_getElem hlt, List.map_append, ← List.append_assoc, HL.out, HQ.out]
        rfl
      refine ⟨⟨k + 1, A7, c7, hlt, by go_num, ⟨?_⟩⟩, by simp [intOf]; omega⟩
      rw [hL2]
      have h := HS8.out
      simp only [List.set_cons_zero, List.set_cons_succ, List.length_append, List.length_singleton] at h ⊢
      exact h
    · obtain rfl : k = st.length := by omega
      have HS2 : Aside0 (Sat w0 (Blk bx (refB AR rules.length cR budget (steps + 1) (.slice A1 (nodes ++ st.map frcN).length c1) 0) :: RwN (.slice A1 (nodes ++ st.map frcN).length c1) (nodes ++ st.map frcN) :: RwI (.slice A n c) us :: R) wr) := ⟨by
        have h := HS.out
        rw [List.take_length] at h
        exact (h.front 2 rfl).tail⟩
      have HL : Aside0 ((nodes ++ st.map frcN).length ≤ 1000000000 - 2 ∧ ((nodes ++ st.map frcN).length : Int) + 202 * (budget - steps) ≤ 1000000000 - 2) := ⟨by
        have h1 := HRM2.out
        have h2 := HSZ5.out
        simp only [List.length_append, List.length_map]
        push_cast
        omega⟩
      clear HS hk hlt
      generalize nodes ++ st.map frcN = L at *
      obtain ⟨hx0, hx1, hx2, hx3, hx4⟩ := box5 (HS2.out.blk 0 rfl)
      have hf3 := blk_free (i := 3) (HS2.out.blk 0 rfl)
      have hf4 := blk_free (i := 4) (HS2.out.blk 0 rfl)
      have hbx : bx < wr.heap.size := lt_of_block (HS2.out.blk 0 rfl)
      by_cases hbad : 0 ≤ bad
      · have hd2 : decide (0 ≤ bad) = true := decide_eq_true hbad
        have HFW : Aside0 (r = (true, steps + 1, (L ++ [(⟨3, 0, 0, bad⟩ : S110)], false))) := ⟨by rw [HUN.out, if_pos hbad]; rfl⟩
        clear HUN
        go_wp2_with ((with_reducible refine gate_builtin (b := .append) (xs := #[.tmp 75, .tmp 78]) rfl ?_); refine Sat.append1 HS2.out 1 rfl rfl (.tmp 75) (.tmp 78) 48 (.agg #[.int .i64 0, .int .i64 0, .int .i64 0, .int .i64 0]) 32 rfl Try.underlying48 info110 rfl (by decide) (by omega) (⟨3, 0, 0, bad⟩ : S110) [.int .i64 3, .int .i64 0, .int .i64 0, .int .i64 bad] rfl (by first | rfl | (simp; rfl)) (PFnExactRefute.k110_mkM _ _ _ ⟨3, 0, 0, bad⟩) (by have := HL.out.1; omega) ?_; intro v1 w1 S7; obtain ⟨A7, c7, rfl, hle7, _⟩ := S7.reads 1 rfl; have hb7 := box5 (S7.blk 0 rfl); have hfb7 := blk_free (i := 3) (S7.blk 0 rfl); have HS7 := Aside0.mk S7; clear S7 hle7)
        (refine bodyPost_ret (results_none rfl _ _ _) rfl ?_)
        rw [HFW.out]
        refine ⟨rfl, Sat.closeR (code := 0) (v := .slice A7 (L ++ [(⟨3, 0, 0, bad⟩ : S110)]).length c7) ?_, fun _ => ?_⟩
        · have h := HS7.out.setCell 0 rfl 3 (.slice A7 (L ++ [(⟨3, 0, 0, bad⟩ : S110)]).length c7)
          have h2 := (h.front 2 rfl).tail
          simpa using h2
        · exact ⟨⟨by show 0 ≤ steps + 1; omega, HOV.out⟩, by have h := HL.out.2; show ((L ++ [_]).length : Int) + 202 * (budget + 1 - (steps + 1)) ≤ 1000000000; rw [List.length_append, List.length_singleton]; omega⟩
      · have hd2 : decide (0 ≤ bad) = false := decide_eq_false hbad
        by_cases hix : idxOf (· == 0) us < 0
        · have hd3 : decide (idxOf (· == 0) us < 0) = true := decide_eq_true hix
          have HFW : Aside0 (r = (false, steps + 1, (L, true))) := ⟨by rw [HUN.out, if_neg hbad, if_pos hix]⟩
          clear HUN
          go_wp2_with ((with_reducible refine gate_dst (N := 83) rfl ?_); refine goesF (f := 125) (args := #[.slice A n c]) rfl rfl rfl (by (try simp only [List.map_toArray, List.map_cons, List.map_nil]); rfl) (Enter.mk Try.func125 (by kernel_rfl) rfl) ?_; refine (l16Open_calls' A n c us _ (HS2.out.readsN 2 rfl)).mono ?_; rintro e e1 ⟨rfl, rfl⟩; refine ⟨_, rfl, ?_⟩)
          (refine bodyPost_ret (results_none rfl _ _ _) rfl ?_)
          rw [HFW.out]
          refine ⟨rfl, Sat.closeR (code := 6) (v := .slice A1 L.length c1) ?_, fun h => by simp at h⟩
          have h := HS2.out.setCell 0 rfl 4 (.int .i64 6)
          have h2 := (h.front 2 rfl).tail
          simpa using h2
        · have hd3 : decide (idxOf (· == 0) us < 0) = false := decide_eq_false hix
          have hun := HUN.out
          rw [if_neg hbad, if_neg hix] at hun
          have hsp := idxOf_spec hix
          obtain ⟨ix, hixe⟩ : ∃ ix, ix = idxOf (· == 0) us := ⟨_, rfl⟩
          rw [← hixe] at hd3 hun hsp hix
          have HIX := Aside0.mk hixe
          clear hixe HUN
          have hi0 := hsp.1
          have HIZ := Aside0.mk hsp.2
          have HUN := Aside0.mk hun
          clear hsp hun
          have HVU := Aside0.mk HPV.out.1
          have HZU : Aside0 (zeros us < d + 1) := ⟨by have := HPV.out.2; have := HZD.out; omega⟩
          have hixn : ix < (n : Int) := by have h1 := HIZ.out.1; have h2 := HPV.out.1.len; omega
          have HZN : Aside0 (∀ x : Int, x ≠ 0 → zeros (us.set ix.toNat x) < d) := ⟨fun x hx => by
            have h := zeros_set (vs := us) (k := ix.toNat) (x := x) (by have := HIZ.out.1; omega) (by have h2 := HIZ.out.2; have h1 := HIZ.out.1; rw [show ix = ((ix.toNat : Nat) : Int) by omega, rd_at us ix.toNat (by omega)] at h2; exact h2) hx
            have := HZU.out
            omega⟩
          have HSO := Aside0.mk (searchN_ok rules n budget)
          go_wp2_with (first
            | ((with_reducible refine gate_dst (N := 83) rfl ?_); refine goesF (f := 125) (args := #[.slice A n c]) rfl rfl rfl (by (try simp only [List.map_toArray, List.map_cons, List.map_nil]); rfl) (Enter.mk Try.func125 (by kernel_rfl) rfl) ?_; refine (l16Open_calls' A n c us _ (HS2.out.readsN 2 rfl)).mono ?_; rintro e e1 ⟨rfl, rfl⟩; refine ⟨_, rfl, ?_⟩; rw [← HIX.out])
            | ((with_reducible refine gate_builtin (b := .append) (xs := #[.tmp 93, .tmp 96]) rfl ?_); refine Sat.append1 HS2.out 1 rfl rfl (.tmp 93) (.tmp 96) 48 (.agg #[.int .i64 0, .int .i64 0, .int .i64 0, .int .i64 0]) 32 rfl Try.underlying48 info110 rfl (by decide) (by omega) (⟨1, ix, 0, 0⟩ : S110) [.int .i64 1, .int .i64 ix, .int .i64 0, .int .i64 0] rfl (by first | rfl | (simp; rfl)) (PFnExactRefute.k110_mkM _ _ _ ⟨1, ix, 0, 0⟩) (by have := HL.out.1; omega) ?_; intro v1 w1 S7; obtain ⟨A7, c7, rfl, hle7, _⟩ := S7.reads 1 rfl; have hb7 := box5 (S7.blk 0 rfl); have hfb7 := blk_free (i := 3) (S7.blk 0 rfl); have HS7 := Aside0.mk S7; clear S7 hle7))
          have HS8 : Aside0 (Sat w0 (ResR AR rules.length cR budget bx (steps + 1) (L ++ [(⟨1, ix, 0, 0⟩ : S110)]) 0 :: RwI (.slice A n c) us :: R) (w1.setCell ⟨bx, 3, none⟩ (.slice A7 (L ++ [(⟨1, ix, 0, 0⟩ : S110)]).length c7))) := ⟨Sat.closeR (v := .slice A7 (L ++ [(⟨1, ix, 0, 0⟩ : S110)]).length c7) (by simpa using HS7.out.setCell 0 rfl 3 (.slice A7 (L ++ [(⟨1, ix, 0, 0⟩ : S110)]).length c7))⟩
          have HL2 : Aside0 ((cfgN rules n budget).Room (steps + 1) (L ++ [(⟨1, ix, 0, 0⟩ : S110)], false)) := ⟨by have h := HL.out.2; show ((L ++ [_]).length : Int) + 202 * (budget + 1 - (steps + 1)) ≤ 1000000000; rw [List.length_append, List.length_singleton]; omega⟩
          have hlL : (L ++ [(⟨1, ix, 0, 0⟩ : S110)]).length = L.length + 1 := by simp
          replace HUN : Aside0 (r = if ((cfgN rules n budget).search d (steps + 1) (L ++ [(⟨1, ix, 0, 0⟩ : S110)], false) (us.set ix.toNat 1)).1 = false then (cfgN rules n budget).search d (steps + 1) (L ++ [(⟨1, ix, 0, 0⟩ : S110)], false) (us.set ix.toNat 1) else (cfgN rules n budget).search d ((cfgN rules n budget).search d (steps + 1) (L ++ [(⟨1, ix, 0, 0⟩ : S110)], false) (us.set ix.toNat 1)).2.1 ((cfgN rules n budget).search d (steps + 1) (L ++ [(⟨1, ix, 0, 0⟩ : S110)], false) (us.set ix.toNat 1)).2.2 (us.set ix.toNat (-1))) := HUN
          rw [hlL] at HS8
          clear hb7 hfb7 hx0 hx1 hx2 hx3 hx4 hf3 hf4 HS7 HS2 HL hlL
          generalize L ++ [(⟨1, ix, 0, 0⟩ : S110)] = L1 at *
          go_loopw [8, 9] (fun v8 _ wr => ∃ (k : Nat) (q : Bool × Int × NS), k ≤ 2 ∧ v8 = .int .i64 (1 - 2 * (k : Int)) ∧
            Aside0 ((k = 0 → q = (true, steps + 1, (L1, false))) ∧ (k = 1 → q = (cfgN rules n budget).search d (steps + 1) (L1, false) (us.set ix.toNat 1)) ∧ (k = 2 → q = r)) ∧
            Aside0 ((cfgN rules n budget).Fine q ∧ (q.1 = true → q.2.2.2 = false)) ∧
            Aside0 (Sat w0 (ResR AR rules.length cR budget bx q.2.1 q.2.2.1 (codeOf q) :: RwI (.slice A n c) us :: R) wr)) (fun v8 _ _ => (intOf v8 + 3).toNat)
          case atStart => exact ⟨0, (true, steps + 1, (L1, false)), by omega, rfl, ⟨fun _ => rfl, fun h => by omega, fun h => by omega⟩, ⟨fun _ => ⟨⟨show (0 : Int) ≤ steps + 1 by omega, HOV.out⟩, HL2.out⟩, fun _ => rfl⟩, HS8⟩
          case round =>
          clear HS8
          obtain ⟨k, q, hk, rfl, HQ, HF, HS⟩ := hrel
          obtain ⟨A8, c8, S8⟩ := HS.out.openR
          obtain ⟨hx0, hx1, hx2, hx3, hx4⟩ := box5 (S8.blk 0 rfl)
          clear S8 hx0 hx1 hx2 hx3
          cases hq1 : q.1
          · have HFW : Aside0 (r = q) := ⟨by
              rcases (show k = 0 ∨ k = 1 ∨ k = 2 by omega) with rfl | rfl | rfl
              · rw [HQ.out.1 rfl] at hq1
                simp at hq1
              · rw [HUN.out, ← HQ.out.2.1 rfl, if_pos hq1]
              · exact (HQ.out.2.2 rfl).symm⟩
            have hk0 : k ≠ 0 := fun h => by rw [HQ.out.1 h] at hq1; simp at hq1
            have hcn := codeOf_no hq1
            have HFI := Aside0.mk HF.out.1
            clear HUN HQ HF hq1
            rcases (show k = 1 ∨ k = 2 by omega) with rfl | rfl
            · rcases hcn with hcn | hcn
              all_goals
                rw [hcn] at hx4
                go_wp2
                go_end0
                rw [HFW.out]
                exact ⟨rfl, (HS.out.front 1 rfl).tail, HFI.out⟩
            · clear hcn hx4
              go_wp2
              go_end0
              rw [HFW.out]
              exact ⟨rfl, (HS.out.front 1 rfl).tail, HFI.out⟩
          · rw [codeOf_yes hq1] at hx4
            rcases (show k = 0 ∨ k = 1 ∨ k = 2 by omega) with rfl | rfl | rfl
            · have hq := HQ.out.1 rfl
              subst hq
              obtain ⟨r1, hr⟩ : ∃ r1, r1 = (cfgN rules n budget).search d (steps + 1) (L1, false) (us.set ix.toNat 1) := ⟨_, rfl⟩
              have HRE := Aside0.mk hr
              have HNX : Aside0 (((1 : Nat) = 0 → r1 = (true, steps + 1, (L1, false))) ∧ ((1 : Nat) = 1 → r1 = (cfgN rules n budget).search d (steps + 1) (L1, false) (us.set ix.toNat 1)) ∧ ((1 : Nat) = 2 → r1 = r)) := ⟨fun h => by omega, fun _ => hr, fun h => by omega⟩
              have HSF : Aside0 (r1.1 = true → r1.2.2.2 = false) := ⟨fun h => by have h2 := (HSO.out d (steps + 1) L1 (us.set ix.toNat 1) (HZN.out _ (by decide)) HOK.out.rule (HVU.out.set ix.toNat (by simp [unit3]))).1; rw [← hr] at h2; exact (h2 h).1⟩
              clear hr HUN hq1
              go_wp2_with (first
            | ((with_reducible refine gate_dst (N := 112) rfl ?_); refine goesF (f := 112) (args := #[.slice A n c]) rfl rfl rfl (by (try simp only [List.map_toArray, List.map_cons, List.map_nil]); rfl) (Enter.mk Try.func112 (by kernel_rfl) rfl) ?_; refine (own_calls' HS.out A n c us (HS.out.readsN 1 rfl) (by have h2 : n ≤ 200 := HOK.out.small; omega)).mono ?_; rintro e e1 ⟨v9, rfl, S9⟩; refine ⟨_, rfl, ?_⟩; obtain ⟨A9, c9, rfl, hle9, hC9⟩ := S9.reads 0 rfl; have hvl : us.length = n := HVU.out.len; rw [hvl] at S9; obtain ⟨g9, hg9, hx9, hf9, hl9⟩ := S9.intAt 0 rfl ix hi0 HIZ.out.1; cases hg9; have HS9 := Aside0.mk (S9.store 0 rfl ix.toNat (1)); clear S9 hle9 hC9; rw [hvl])
            | ((with_reducible refine gate_dst (N := 119) rfl ?_); refine goesF (f := 81) (args := #[.pointer (some ⟨bx, 0, none⟩), .slice (some ⟨g9, 0, none⟩) n c9]) rfl rfl rfl (by (try simp only [List.map_toArray, List.map_cons, List.map_nil]); rfl) (Enter.mk Try.func81 (by kernel_rfl) rfl) ?_; refine (HIH.out _ _ _ c9 (us.set ix.toNat (1)) (steps + 1) (L1) HS9.out (HRD.out.cons _) (HVU.out.set ix.toNat (by simp [unit3])) (HZN.out _ (by decide)) ⟨by omega, HOV.out⟩ HL2.out).mono ?_; rintro e e1 ⟨rfl, S11, hfine⟩; refine ⟨_, rfl, ?_⟩; rw [← HRE.out] at S11 hfine; have HS11 := Aside0.mk S11; have HFI := Aside0.mk hfine; clear S11 hfine))
              exact ⟨⟨1, r1, by omega, rfl, HNX, ⟨HFI.out, HSF.out⟩, HS11⟩, by simp [intOf]⟩
            · have hq := HQ.out.2.1 rfl
              have hq2 : q = (true, q.2.1, (q.2.2.1, false)) := by
                have h2 := HF.out.2 hq1
                rw [← hq1, ← h2]
              have hr0 : r = (cfgN rules n budget).search d q.2.1 q.2.2 (us.set ix.toNat (-1)) := by rw [HUN.out, ← hq, if_neg (by rw [hq1]; simp)]
              have HFQ := Aside0.mk (HF.out.1 hq1)
              clear HUN HQ HF
              obtain ⟨b, t, ys, so⟩ := q
              dsimp only at hq1 hr0 HFQ
              obtain rfl : b = true := hq1
              obtain rfl : so = false := by simpa using hq2
              have HRE := Aside0.mk hr0
              have HNX : Aside0 (((2 : Nat) = 0 → r = (true, steps + 1, (L1, false))) ∧ ((2 : Nat) = 1 → r = (cfgN rules n budget).search d (steps + 1) (L1, false) (us.set ix.toNat 1)) ∧ ((2 : Nat) = 2 → r = r)) := ⟨fun h => by omega, fun h => by omega, fun _ => rfl⟩
              have HSF : Aside0 (r.1 = true → r.2.2.2 = false) := ⟨fun h => by have h2 := (HSO.out d t ys (us.set ix.toNat (-1)) (HZN.out _ (by decide)) HOK.out.rule (HVU.out.set ix.toNat (by simp [unit3]))).1; rw [← hr0] at h2; exact (h2 h).1⟩
              clear hr0 hq2 hq
              go_wp2_with (first
            | ((with_reducible refine gate_dst (N := 112) rfl ?_); refine goesF (f := 112) (args := #[.slice A n c]) rfl rfl rfl (by (try simp only [List.map_toArray, List.map_cons, List.map_nil]); rfl) (Enter.mk Try.func112 (by kernel_rfl) rfl) ?_; refine (own_calls' HS.out A n c us (HS.out.readsN 1 rfl) (by have h2 : n ≤ 200 := HOK.out.small; omega)).mono ?_; rintro e e1 ⟨v9, rfl, S9⟩; refine ⟨_, rfl, ?_⟩; obtain ⟨A9, c9, rfl, hle9, hC9⟩ := S9.reads 0 rfl; have hvl : us.length = n := HVU.out.len; rw [hvl] at S9; obtain ⟨g9, hg9, hx9, hf9, hl9⟩ := S9.intAt 0 rfl ix hi0 HIZ.out.1; cases hg9; have HS9 := Aside0.mk (S9.store 0 rfl ix.toNat (-1)); clear S9 hle9 hC9; rw [hvl])
            | ((with_reducible refine gate_dst (N := 119) rfl ?_); refine goesF (f := 81) (args := #[.pointer (some ⟨bx, 0, none⟩), .slice (some ⟨g9, 0, none⟩) n c9]) rfl rfl rfl (by (try simp only [List.map_toArray, List.map_cons, List.map_nil]); rfl) (Enter.mk Try.func81 (by kernel_rfl) rfl) ?_; refine (HIH.out _ _ _ c9 (us.set ix.toNat (-1)) (t) (ys) HS9.out (HRD.out.cons _) (HVU.out.set ix.toNat (by simp [unit3])) (HZN.out _ (by decide)) HFQ.out.1 HFQ.out.2).mono ?_; rintro e e1 ⟨rfl, S11, hfine⟩; refine ⟨_, rfl, ?_⟩; rw [← HRE.out] at S11 hfine; have HS11 := Aside0.mk S11; have HFI := Aside0.mk hfine; clear S11 hfine))
              exact ⟨⟨2, r, by omega, rfl, HNX, ⟨HFI.out, HSF.out⟩, HS11⟩, by simp [intOf]⟩
            · have HFW : Aside0 (r = q) := ⟨(HQ.out.2.2 rfl).symm⟩
              have HFI := Aside0.mk HF.out.1
              clear HUN HQ HF hq1 hx4
              go_wp2
              go_end0
              rw [HFW.out]
              exact ⟨rfl, (HS.out.front 1 rfl).tail, HFI.out⟩
theorem specN_all {w0 : World} {rules : List Rule} {n : Nat} {budget : Int} {AR : Option Addr} {cR bx : Nat} {sh : Nat → Sh} (hok : (cfgN rules n budget).Ok) :
    ∀ d, SpecNOk w0 rules n budget AR cR bx sh d
  | 0 => fun _ _ _ _ _ _ _ _ _ _ h => absurd h (Nat.not_lt_zero _)
  | d + 1 => specN_step hok d (specN_all hok d)
end Go.Proofs.Ytmgmilnoeghgfaa

set_option linter.unusedVariables false
set_option linter.unusedSimpArgs false
namespace Go.Proofs.Ytmgmilnoeghgfaa
open Go.RowKit Go.Proofs.YtmgmilnoeghgfaaW.PrintWords Go.Proofs.YtmgmilnoeghgfaaW.PrintLast Go.Proofs.YtmgmilnoeghgfaaW.PrintMore Go.Proofs.Ytmgmilnoeghgfaa.PFnExactSolveRules

set_option maxRecDepth 100000 in
set_option maxHeartbeats 2000000 in
theorem specRefute_calls {w0 w : World} {R : List HP} {AR : Option Addr} {cR : Nat} {rules : List Rule} {sh : Nat → Sh} {vars budget : Int}
    (S : Sat w0 R w) (hrd : ReadsRules w0 R AR rules sh) :
    Calls Try.prog 32 #[.slice AR rules.length cR, .int .i64 vars, .int .i64 budget] w (RefQ w0 R (refuteR rules vars budget)) := by
  have HV := Aside0.mk (l16Ask_calls (c := cR) vars budget sh (hrd w S))
  have HS := Aside0.mk S
  cases hv : (okRules rules vars && inB 1 5000 budget)
  · have HF : Aside0 (refuteR rules vars budget = ([], 1)) := ⟨by
      unfold refuteR
      rw [if_neg]
      intro h
      rw [h.1, h.2] at hv
      simp at hv⟩
    rw [hv] at HV
    clear S hrd hv
    go_enter Try.func32, Try.ntmps32
    go_wp2_with (((with_reducible refine gate_dst (N := 12) rfl ?_); refine goesF (f := 76) (args := #[.slice AR rules.length cR, .int .i64 vars, .int .i64 budget]) rfl rfl rfl (by (try simp only [List.map_toArray, List.map_cons, List.map_nil]); rfl) (Enter.mk Try.func76 (by kernel_rfl) rfl) ?_; refine (HV.out).mono ?_; rintro e e1 ⟨rfl, ⟨m, rfl⟩⟩; refine ⟨_, rfl, ?_⟩))
    go_ret2
    rw [HF.out]
    exact ⟨_, rfl, (HS.out.drewN _).nil _ _⟩
  · obtain ⟨hv1, hv2⟩ : okRules rules vars = true ∧ inB 1 5000 budget = true := by simpa using hv
    obtain ⟨g1, g2, g3⟩ := okRules_good hv1
    obtain ⟨n, rfl⟩ := Int.eq_ofNat_of_zero_le g1.1
    have hn2 : n ≤ 200 := by omega
    have HF : Aside0 (refuteR rules n budget = refuteOf budget ((cfgN rules n budget).all ([], false))) := ⟨by simp [refuteR, hv1, hv2]; rfl⟩
    rw [Int.toNat_natCast] at g3
    have hbd := inB_iff hv2
    rw [refuteOf_code g3] at HF
    have HS1 : Aside0 (∀ m : Nat, Sat w0 (ResR AR rules.length cR budget w.heap.size 0 [] 0 :: R) ((w.drewN m).alloc (refB AR rules.length cR budget 0 (.slice none 0 0) 0))) := ⟨fun m => Sat.closeR (v := .slice none 0 0) (by have h := ((S.drewN m).nil k110 110).alloc (refB AR rules.length cR budget 0 (.slice none 0 0) 0); simpa using h)⟩
    have hmk := print_make (P := Try.prog) 24 2 .i64 8 Try.underlying24 info2 (by omega) n (by omega)
    have HC : Aside0 (∀ w', Sat w0 (ResR AR rules.length cR budget w.heap.size 0 [] 0 :: R) w' → Calls Try.prog 81 #[.pointer (some ⟨w.heap.size, 0, none⟩), .slice (some ⟨w'.heap.size, 0, none⟩) n n] (w'.alloc (.cells (madeCells #[.int .i64 0] n) 2)) fun e w2 => e = .returned (.tuple #[]) ∧
        Sat w0 (ResR AR rules.length cR budget w.heap.size ((cfgN rules n budget).all ([], false)).2.1 ((cfgN rules n budget).all ([], false)).2.2.1 (codeOf ((cfgN rules n budget).all ([], false))) :: R) w2) := ⟨fun w' S' =>
      (specN_all (cfgN_ok g3 hn2 hbd) (n + 1) _ _ _ _ (List.replicate n 0) 0 [] (S'.made n (by omega)) hrd (vals_made n) (by have := zeros_made n; omega) ⟨by omega, by omega⟩ (by show (([] : List S110).length : Int) + 202 * (budget + 1 - 0) ≤ 1000000000; have := hbd.2; simp; omega)).mono fun e w2 h => ⟨h.1, h.2.1⟩⟩
    rw [hv] at HV
    generalize (cfgN rules n budget).all ([], false) = r at *
    obtain ⟨c, hc⟩ : ∃ c, c = codeOf r := ⟨_, rfl⟩
    rw [← hc] at HF HC
    obtain ⟨L, hL⟩ : ∃ L, L = r.2.2.1 := ⟨_, rfl⟩
    rw [← hL] at HF HC
    have HC2 := Aside0.mk (fun m : Nat => HC.out _ (HS1.out m))
    have hsz2 : ∀ m : Nat, ((w.drewN m).alloc (refB AR rules.length cR budget 0 (.slice none 0 0) 0)).heap.size = w.heap.size + 1 := fun m => by simp
    simp only [hsz2] at HC2
    clear S hrd hv g1 g2 g3 hv1 hv2 hc hL hbd HC hsz2
    by_cases hcz : c = 0
    · subst hcz
      rw [if_neg (by simp)] at HF
      by_cases hbig : 4000 < L.length
      · have hd : decide (4000 < L.length) = true := decide_eq_true hbig
        rw [if_pos hbig] at HF
        go_enter Try.func32, Try.ntmps32
        go_wp2_with (first
          | ((with_reducible refine gate_dst (N := 12) rfl ?_); refine goesF (f := 76) (args := #[.slice AR rules.length cR, .int .i64 n, .int .i64 budget]) rfl rfl rfl (by (try simp only [List.map_toArray, List.map_cons, List.map_nil]); rfl) (Enter.mk Try.func76 (by kernel_rfl) rfl) ?_; refine (HV.out).mono ?_; rintro e e1 ⟨rfl, ⟨m, rfl⟩⟩; refine ⟨_, rfl, ?_⟩)
          | ((with_reducible refine gate_dst (N := 21) rfl ?_); refine goesF (f := 81) (args := #[.pointer (some ⟨w.heap.size, 0, none⟩), .slice (some ⟨w.heap.size + 1, 0, none⟩) n n]) rfl rfl rfl (by (try simp only [List.map_toArray, List.map_cons, List.map_nil]); rfl) (Enter.mk Try.func81 (by kernel_rfl) rfl) ?_; refine (HC2.out m).mono ?_; rintro e e1 ⟨rfl, S2⟩; refine ⟨_, rfl, ?_⟩; obtain ⟨A2, c2, S3⟩ := S2.openR; obtain ⟨hx0, hx1, hx2, hx3, hx4⟩ := box5 (S3.blk 0 rfl); have HS3 := Aside0.mk S3; clear S2 S3))
        go_ret2
        rw [HF.out]
        exact ⟨_, rfl, HS3.out.tail.tail.nil _ _⟩
      · have hd : decide (4000 < L.length) = false := decide_eq_false hbig
        rw [if_neg hbig] at HF
        go_enter Try.func32, Try.ntmps32
        go_wp2_with (first
          | ((with_reducible refine gate_dst (N := 12) rfl ?_); refine goesF (f := 76) (args := #[.slice AR rules.length cR, .int .i64 n, .int .i64 budget]) rfl rfl rfl (by (try simp only [List.map_toArray, List.map_cons, List.map_nil]); rfl) (Enter.mk Try.func76 (by kernel_rfl) rfl) ?_; refine (HV.out).mono ?_; rintro e e1 ⟨rfl, ⟨m, rfl⟩⟩; refine ⟨_, rfl, ?_⟩)
          | ((with_reducible refine gate_dst (N := 21) rfl ?_); refine goesF (f := 81) (args := #[.pointer (some ⟨w.heap.size, 0, none⟩), .slice (some ⟨w.heap.size + 1, 0, none⟩) n n]) rfl rfl rfl (by (try simp only [List.map_toArray, List.map_cons, List.map_nil]); rfl) (Enter.mk Try.func81 (by kernel_rfl) rfl) ?_; refine (HC2.out m).mono ?_; rintro e e1 ⟨rfl, S2⟩; refine ⟨_, rfl, ?_⟩; obtain ⟨A2, c2, S3⟩ := S2.openR; obtain ⟨hx0, hx1, hx2, hx3, hx4⟩ := box5 (S3.blk 0 rfl); have HS3 := Aside0.mk S3; clear S2 S3))
        go_ret2
        rw [HF.out]
        exact ⟨_, rfl, HS3.out.tail⟩
    · have hd : (c == 0) = false := by simpa using hcz
      have hd1 : (c != 0) = true := by simp [bne, hd]
      rw [if_pos hcz] at HF
      go_enter Try.func32, Try.ntmps32
      go_wp2_with (first
        | ((with_reducible refine gate_dst (N := 12) rfl ?_); refine goesF (f := 76) (args := #[.slice AR rules.length cR, .int .i64 n, .int .i64 budget]) rfl rfl rfl (by (try simp only [List.map_toArray, List.map_cons, List.map_nil]); rfl) (Enter.mk Try.func76 (by kernel_rfl) rfl) ?_; refine (HV.out).mono ?_; rintro e e1 ⟨rfl, ⟨m, rfl⟩⟩; refine ⟨_, rfl, ?_⟩)
        | ((with_reducible refine gate_dst (N := 21) rfl ?_); refine goesF (f := 81) (args := #[.pointer (some ⟨w.heap.size, 0, none⟩), .slice (some ⟨w.heap.size + 1, 0, none⟩) n n]) rfl rfl rfl (by (try simp only [List.map_toArray, List.map_cons, List.map_nil]); rfl) (Enter.mk Try.func81 (by kernel_rfl) rfl) ?_; refine (HC2.out m).mono ?_; rintro e e1 ⟨rfl, S2⟩; refine ⟨_, rfl, ?_⟩; obtain ⟨A2, c2, S3⟩ := S2.openR; obtain ⟨hx0, hx1, hx2, hx3, hx4⟩ := box5 (S3.blk 0 rfl); have HS3 := Aside0.mk S3; clear S2 S3))
      go_quiet (fail)
      go_wp2
      go_ret2
      rw [HF.out]
      exact ⟨_, rfl, (HS3.out.tail.tail.drewN _).nil _ _⟩
theorem refute_len {rules : List Rule} {vars budget : Int} : (refuteR rules vars budget).1.length ≤ 4000 := by
  unfold refuteR refuteOf
  split
  · split
    · simp
    · split
      · simp
      · split
        · simp
        · rename_i h
          show (resN rules vars budget).2.2.1.length ≤ 4000
          omega
  · simp
end Go.Proofs.Ytmgmilnoeghgfaa

set_option linter.unusedVariables false
set_option linter.unusedSimpArgs false
namespace Go.Proofs.Ytmgmilnoeghgfaa
open Go.RowKit Go.Proofs.YtmgmilnoeghgfaaW.PrintWords Go.Proofs.YtmgmilnoeghgfaaW.PrintLast Go.Proofs.YtmgmilnoeghgfaaW.PrintMore Go.Proofs.Ytmgmilnoeghgfaa.PFnExactSolveRules Go.Proofs.Ytmgmilnoeghgfaa.PFnExactRefute

/-! ### The nodes: equal to themselves, marked, held -/
theorem rd110 {l : List S110} {i : Nat} (h : i < l.length) : rd_T110 l (i : Int) = l[i] := by simp [rd_T110, List.getD_eq_getElem?_getD, List.getElem?_eq_getElem h]
theorem eqNode_f (x : S110) : laws_eqRefNode.f x.f0 x.f1 x.f2 x.f3 x.f0 x.f1 x.f2 x.f3 = some true := by simp [laws_eqRefNode.f]
theorem eqNodes_l0 {l : List S110} (hl : l.length ≤ 1048576) : ∀ (n i k : Nat), i + n = l.length → n < k → laws_eqRefNodeS.l0 k l l i = some true
  | n, i, 0, _, h => absurd h (Nat.not_lt_zero _)
  | 0, i, k + 1, hi, hk => by rw [laws_eqRefNodeS.l0, if_neg (by omega)]
  | n + 1, i, k + 1, hi, hk => by
    rw [laws_eqRefNodeS.l0, if_pos (by omega), if_pos (by omega), if_pos (by omega), rd110 (by omega), eqNode_f, Option.bind_some, if_pos rfl, wrap_in (by omega) (by omega), show (i : Int) + 1 = ((i + 1 : Nat) : Int) by omega]
    exact eqNodes_l0 hl n (i + 1) k (by omega) (by omega)
theorem eqNodes_calls {w : World} {A A2 : Option Addr} {c c2 : Nat} {xs : List S110} (h1 : PFnExactRefute.k110.C w A xs.length xs) (h2 : PFnExactRefute.k110.C w A2 xs.length xs) (hc : xs.length ≤ c) (hc2 : xs.length ≤ c2) (hl : xs.length ≤ 1048576) :
    Calls Try.prog 34 #[.slice A xs.length c, .slice A2 xs.length c2] w fun e w' => e = .returned (.bool true) ∧ Below w.heap.size w w' :=
  laws_eqRefNodeS.calls (xs.length + 1) A c xs A2 c2 xs true w h1 hc h2 hc2 (by
    unfold laws_eqRefNodeS.f
    rw [if_pos rfl]
    exact eqNodes_l0 hl xs.length 0 _ (by omega) (Nat.lt_succ_self _))
def markN (a : Int) (j : Nat) : S110 := ⟨a + 4 * (j : Int), a + 4 * (j : Int) + 1, a + 4 * (j : Int) + 2, a + 4 * (j : Int) + 3⟩
def marksN (a : Int) (n : Nat) : List S110 := (List.range n).map (markN a)
theorem marksN_length (a : Int) (n : Nat) : (marksN a n).length = n := by simp [marksN]
theorem heldN_l0 {a : Int} {m : Nat} (ha : 0 ≤ a) (ha2 : a ≤ 1048576) (hm : m ≤ 1048576) : ∀ (n i k : Nat), i + n = m → n < k → laws_heldRefNodeS.l0 k (marksN a m) (a + 4 * (i : Int)) i = some (a + 4 * (m : Int))
  | n, i, 0, _, h => absurd h (Nat.not_lt_zero _)
  | 0, i, k + 1, hi, hk => by
    rw [laws_heldRefNodeS.l0, if_neg (by rw [marksN_length]; omega)]
    obtain rfl : i = m := by omega
    rfl
  | n + 1, i, k + 1, hi, hk => by
    have e0 : rd_T110 (marksN a m) (i : Int) = markN a i := by
      rw [rd110 (by rw [marksN_length]; omega)]
      simp [marksN]
    rw [laws_heldRefNodeS.l0, if_pos (by rw [marksN_length]; omega), if_pos (by omega), e0]
    rw [if_pos (show (markN a i).f0 = a + 4 * (i : Int) from rfl), wrap_in (x := a + 4 * (i : Int) + 1) (by omega) (by omega), if_pos (show (markN a i).f1 = a + 4 * (i : Int) + 1 from rfl), wrap_in (x := a + 4 * (i : Int) + 1 + 1) (by omega) (by omega), if_pos (show (markN a i).f2 = a + 4 * (i : Int) + 1 + 1 from by show a + 4 * (i : Int) + 2 = _; omega), wrap_in (x := a + 4 * (i : Int) + 1 + 1 + 1) (by omega) (by omega), if_pos (show (markN a i).f3 = a + 4 * (i : Int) + 1 + 1 + 1 from by show a + 4 * (i : Int) + 3 = _; omega), wrap_in (by omega) (by omega), wrap_in (by omega) (by omega), show (i : Int) + 1 = ((i + 1 : Nat) : Int) by omega, show a + 4 * (i : Int) + 1 + 1 + 1 + 1 = a + 4 * ((i + 1 : Nat) : Int) by omega]
    exact heldN_l0 ha ha2 hm n (i + 1) k (by omega) (by omega)
theorem heldN_calls {w : World} {A : Option Addr} {n c : Nat} (a : Int) (m : Nat) (hr : PFnExactRefute.k110.C w A n (marksN a m)) (hc : n ≤ c) (ha : 0 ≤ a) (ha2 : a ≤ 1048576) (hm : m ≤ 1048576) :
    Calls Try.prog 36 #[.slice A n c, .int .i64 a] w fun e w' => e = .returned (.int .i64 (a + 4 * (m : Int))) ∧ Drawn0 w w' := by
  obtain rfl := Kd.C_len hr
  refine laws_heldRefNodeS.calls (m + 1) A c (marksN a m) a _ w hr hc ?_
  have h := heldN_l0 ha ha2 hm m 0 (m + 1) (by omega) (by omega)
  simpa [laws_heldRefNodeS.f] using h
theorem set_snoc {l : List S110} {i : Nat} (h : i < l.length) (a : Int) (x : S110) : (marksN a i ++ l.drop i).set i x = marksN a i ++ x :: l.drop (i + 1) := by
  rw [List.set_append_right _ _ (by rw [marksN_length]; exact Nat.le_refl _), marksN_length, Nat.sub_self, List.drop_eq_getElem_cons h, List.set_cons_zero]
theorem rd_snoc (a : Int) (i : Nat) (x : S110) (l : List S110) : rd_T110 (marksN a i ++ x :: l) (i : Int) = x := by
  rw [rd110 (by rw [List.length_append, marksN_length, List.length_cons]; omega), List.getElem_append_right (by rw [marksN_length]; exact Nat.le_refl _)]
  simp [marksN_length]
theorem set_snoc2 (a : Int) (i : Nat) (x y : S110) (l : List S110) : (marksN a i ++ x :: l).set i y = marksN a i ++ y :: l := by
  rw [List.set_append_right _ _ (by rw [marksN_length]; exact Nat.le_refl _), marksN_length, Nat.sub_self, List.set_cons_zero]
theorem marks_l0 {l : List S110} {a : Int} (ha : 0 ≤ a) (ha2 : a ≤ 1048576) (hl : l.length ≤ 1048576) : ∀ (n i k : Nat), i + n = l.length → n < k → laws_markRefNodeS.l0 k (marksN a i ++ l.drop i) (a + 4 * (i : Int)) i = some (a + 4 * (l.length : Int), marksN a l.length)
  | n, i, 0, _, h => absurd h (Nat.not_lt_zero _)
  | 0, i, k + 1, hi, hk => by
    obtain rfl : i = l.length := by omega
    rw [laws_markRefNodeS.l0, if_neg (by rw [List.length_append, marksN_length, List.length_drop]; omega), List.drop_length, List.append_nil]
  | n + 1, i, k + 1, hi, hk => by
    have hil : i < l.length := by omega
    rw [laws_markRefNodeS.l0, if_pos (by rw [List.length_append, marksN_length, List.length_drop]; omega), if_pos (by omega)]
    simp only [Option.bind_some, Int.toNat_natCast]
    rw [set_snoc hil]
    simp only [rd_snoc, set_snoc2]
    rw [wrap_in (x := a + 4 * (i : Int) + 1) (by omega) (by omega), wrap_in (x := a + 4 * (i : Int) + 1 + 1) (by omega) (by omega), wrap_in (x := a + 4 * (i : Int) + 1 + 1 + 1) (by omega) (by omega), wrap_in (by omega) (by omega), wrap_in (by omega) (by omega), show (i : Int) + 1 = ((i + 1 : Nat) : Int) by omega, show a + 4 * (i : Int) + 1 + 1 + 1 + 1 = a + 4 * ((i + 1 : Nat) : Int) by omega]
    have h := marks_l0 ha ha2 hl n (i + 1) k (by omega) (by omega)
    have e0 : marksN a (i + 1) ++ l.drop (i + 1) = marksN a i ++ (⟨a + 4 * (i : Int), a + 4 * (i : Int) + 1, a + 4 * (i : Int) + 1 + 1, a + 4 * (i : Int) + 1 + 1 + 1⟩ : S110) :: l.drop (i + 1) := by
      simp [marksN, List.range_succ, markN]
      omega
    rw [e0] at h
    exact h
theorem markN_calls {w0 w : World} {ps : List HP} {v : Value} {xs : List S110} (a : Int) (S : Sat w0 (RwN v xs :: ps) w) (ha : 0 ≤ a) (ha2 : a ≤ 1048576) (hl : xs.length ≤ 1048576) :
    Calls Try.prog 35 #[v, .int .i64 a] w fun e w' => e = .returned (.int .i64 (a + 4 * (xs.length : Int))) ∧ Sat w0 (RwN v (marksN a xs.length) :: ps) w' := by
  obtain ⟨ok, hL, hb, hu⟩ := S.upd 0 rfl
  have h0 : PFnExactRefute.k110.R 110 w 0 ok v xs := hL.now
  have hm := marks_l0 (l := xs) ha ha2 hl xs.length 0 (xs.length + 1) (by omega) (by omega)
  refine (laws_markRefNodeS.calls (xs.length + 1) ok v xs a (a + 4 * (xs.length : Int)) (marksN a xs.length) { w with heap := #[] } w ⟨rfl, rfl, rfl, Nat.zero_le _, fun k hk => absurd hk (Nat.not_lt_zero _)⟩ h0 (by simpa [laws_markRefNodeS.f, marksN] using hm)).mono ?_
  rintro e w' ⟨rfl, hR, hB, hK⟩
  refine ⟨rfl, hu w' _ (fun k => (ok k ∨ w.heap.size ≤ k) ∧ k < w'.heap.size) ⟨⟨hB.os, hB.tape, hB.output⟩, hK.1, hK.2⟩ (fun k hk => hk) (fun w2 h2 => ?_)⟩
  exact Kd.R_move (Kd.R_mono (Kd.R_bound hR) (fun k hk => ⟨hk.1, hk.2.2.1⟩)) h2
end Go.Proofs.Ytmgmilnoeghgfaa

set_option linter.unusedVariables false
set_option linter.unusedSimpArgs false
namespace Go.Proofs.Ytmgmilnoeghgfaa
open Go.RowKit Go.Proofs.YtmgmilnoeghgfaaW.PrintWords Go.Proofs.YtmgmilnoeghgfaaW.PrintLast Go.Proofs.YtmgmilnoeghgfaaW.PrintMore Go.Proofs.Ytmgmilnoeghgfaa.PFnExactSolveRules

theorem Sat.readsD {w0 w : World} {ps : List HP} (S : Sat w0 ps w) (i : Nat) {α : Type} {d : Kd α} {e : Nat} {A : Option Addr} {n c : Nat} {xs : List α} (hp : ps[i]? = some (Rw d e (.slice A n c) xs)) : d.C w A n xs := by
  obtain ⟨h1, _, h3⟩ := S.readsAt i hp
  rw [← h1] at h3
  exact h3
set_option maxRecDepth 100000 in
set_option maxHeartbeats 8000000 in
theorem refuteLaw_walk (A : Option Addr) (c : Nat) (l : List S96) (vars budget : Int) (w : World) (hr : k96.C w A l.length l) (hc : l.length ≤ c) :
    Calls Try.prog 7 #[.slice A l.length c, .int .i64 vars, .int .i64 budget] w fun e w' => e = .returned (.bool true) ∧ Below w.heap.size w w' := by
  have hmax := Kd.C_max hr
  obtain ⟨sz, hsz, hsm⟩ := szRules hmax (inner_max hr)
  have HR := Aside0.mk hr
  have HC := Aside0.mk hc
  have HSZ := Aside0.mk (laws_szRuleS.calls _ A c l _ sz w hr hc hsz)
  have HS0 := Aside0.mk (Sat.start w)
  clear hr hc hsz hmax
  by_cases hneg : sz < 0
  · have hd : decide (sz < 0) = true := decide_eq_true hneg
    go_enter Try.func7, Try.ntmps7
    go_wp2_with (((with_reducible refine gate_dst (N := 20) rfl ?_); refine goesF (f := 25) (args := #[.slice A l.length c, .int .i64 1048576]) rfl rfl rfl (by (try simp only [List.map_toArray, List.map_cons, List.map_nil]); rfl) (Enter.mk Try.func25 (by kernel_rfl) rfl) ?_; refine (HSZ.out).mono ?_; rintro e e1 ⟨rfl, hb⟩; refine ⟨_, rfl, ?_⟩; have HB := Aside0.mk hb; clear hb))
    go_ret
    exact ⟨rfl, HB.out⟩
  · have hd : decide (sz < 0) = false := decide_eq_false hneg
    have HSM := Aside0.mk (hsm.resolve_left hneg)
    have HSR := Aside0.mk HSM.out.conv
    clear hsm
    obtain ⟨rs, hrs⟩ : ∃ rs, rs = l.map conv := ⟨_, rfl⟩
    rw [← hrs] at HSR
    have HRS := Aside0.mk hrs
    clear hrs
    have HT := Aside0.mk (fun (W : World) (ps : List HP) (S : Sat w ps W) (i : Nat) (hi : ps[i]? = some (Old w)) => toRules_calls S (Kd.C_below HR.out (S.to_below i hi)) HC.out HSM.out)
    rw [← HRS.out] at HT
    obtain ⟨⟨want, st⟩, hw⟩ : ∃ r, r = refuteR rs vars budget := ⟨_, rfl⟩
    have HW := Aside0.mk hw
    clear hw
    have HLEN : Aside0 (want.length ≤ 4000) := ⟨by have h := refute_len (rules := rs) (vars := vars) (budget := budget); rw [← HW.out] at h; exact h⟩
    have HL6 : Aside0 (want.length ≤ 1048576) := ⟨by have := HLEN.out; omega⟩
    go_enter Try.func7, Try.ntmps7
    go_wp2_with (first
      | ((with_reducible refine gate_dst (N := 20) rfl ?_); refine goesF (f := 25) (args := #[.slice A l.length c, .int .i64 1048576]) rfl rfl rfl (by (try simp only [List.map_toArray, List.map_cons, List.map_nil]); rfl) (Enter.mk Try.func25 (by kernel_rfl) rfl) ?_; refine (HSZ.out).mono ?_; rintro e e1 ⟨rfl, hb⟩; refine ⟨_, rfl, ?_⟩; have HS1 := Aside0.mk (HS0.out.below hb); clear hb)
      | ((with_reducible refine gate_dst (N := 25) rfl ?_); refine goesF (f := 27) (args := #[.slice A l.length c]) rfl rfl rfl (by (try simp only [List.map_toArray, List.map_cons, List.map_nil]); rfl) (Enter.mk Try.func27 (by kernel_rfl) rfl) ?_; refine (HT.out _ _ HS1.out 0 rfl).mono ?_; rintro e e1 ⟨A1, c1, rfl, hle1, S2⟩; refine ⟨_, rfl, ?_⟩; obtain ⟨sh1, S3⟩ := S2.shape 0 rfl; have HS3 := Aside0.mk S3; have HL1 := Aside0.mk hle1; clear S2 S3 hle1)
      | ((with_reducible refine gate_dst (N := 28) rfl ?_); refine goesF (f := 32) (args := #[.slice A1 rs.length c1, .int .i64 vars, .int .i64 budget]) rfl rfl rfl (by (try simp only [List.map_toArray, List.map_cons, List.map_nil]); rfl) (Enter.mk Try.func32 (by kernel_rfl) rfl) ?_; refine (specRefute_calls HS3.out (ReadsR.of 0 rfl).at_).mono ?_; rintro e e1 ⟨v1, rfl, S4⟩; refine ⟨_, rfl, ?_⟩; rw [← HW.out] at S4 ⊢; obtain ⟨B1, d1, rfl, hle1, _⟩ := S4.reads 0 rfl; have HS4 := Aside0.mk S4; have HM1 := Aside0.mk hle1; clear S4 hle1)
      | ((with_reducible refine gate_dst (N := 32) rfl ?_); refine goesF (f := 27) (args := #[.slice A l.length c]) rfl rfl rfl (by (try simp only [List.map_toArray, List.map_cons, List.map_nil]); rfl) (Enter.mk Try.func27 (by kernel_rfl) rfl) ?_; refine (HT.out _ _ HS4.out 2 rfl).mono ?_; rintro e e1 ⟨A2, c2, rfl, hle1, S2⟩; refine ⟨_, rfl, ?_⟩; obtain ⟨sh2, S3⟩ := S2.shape 0 rfl; have HS5 := Aside0.mk S3; have HL2 := Aside0.mk hle1; clear S2 S3 hle1)
      | ((with_reducible refine gate_dst (N := 37) rfl ?_); refine goesF (f := 33) (args := #[.slice A2 rs.length c2, .int .i64 vars, .int .i64 budget]) rfl rfl rfl (by (try simp only [List.map_toArray, List.map_cons, List.map_nil]); rfl) (Enter.mk Try.func33 (by kernel_rfl) rfl) ?_; refine (Refute_calls HS5.out (ReadsR.of 0 rfl)).mono ?_; rintro e e1 ⟨v1, rfl, S4⟩; refine ⟨_, rfl, ?_⟩; rw [← HW.out] at S4 ⊢; obtain ⟨B2, d2, rfl, hle1, _⟩ := S4.reads 0 rfl; have HS6 := Aside0.mk S4; have HM2 := Aside0.mk hle1; clear S4 hle1)
      | ((with_reducible refine gate_dst (N := 42) rfl ?_); refine goesF (f := 34) (args := #[.slice B2 want.length d2, .slice B1 want.length d1]) rfl rfl rfl (by (try simp only [List.map_toArray, List.map_cons, List.map_nil]); rfl) (Enter.mk Try.func34 (by kernel_rfl) rfl) ?_; refine (eqNodes_calls (HS6.out.readsAt 0 rfl).2.2 (HS6.out.readsAt 2 rfl).2.2 HM2.out HM1.out HL6.out).mono ?_; rintro e e1 ⟨rfl, hq⟩; refine ⟨_, rfl, ?_⟩; have HS7 := Aside0.mk (HS6.out.below hq); clear hq)
      | ((with_reducible refine gate_dst (N := 51) rfl ?_); refine goesF (f := 27) (args := #[.slice A l.length c]) rfl rfl rfl (by (try simp only [List.map_toArray, List.map_cons, List.map_nil]); rfl) (Enter.mk Try.func27 (by kernel_rfl) rfl) ?_; refine (HT.out _ _ HS7.out 4 rfl).mono ?_; rintro e e1 ⟨A3, c3, rfl, hle1, S2⟩; refine ⟨_, rfl, ?_⟩; have HS8 := Aside0.mk S2; have HL3 := Aside0.mk hle1; clear S2 hle1)
      | ((with_reducible refine gate_dst (N := 52) rfl ?_); refine goesF (f := 28) (args := #[.slice A2 rs.length c2, .slice A3 rs.length c3]) rfl rfl rfl (by (try simp only [List.map_toArray, List.map_cons, List.map_nil]); rfl) (Enter.mk Try.func28 (by kernel_rfl) rfl) ?_; refine (eqRules_calls ((ReadsR.of 2 rfl) _ HS8.out).2 (HS8.out.readsAt 0 rfl).2.2 HL2.out HL3.out HSR.out).mono ?_; rintro e e1 ⟨rfl, hb⟩; refine ⟨_, rfl, ?_⟩; have HS9 := Aside0.mk (HS8.out.below hb); clear hb)
      | ((with_reducible refine gate_dst (N := 56) rfl ?_); refine goesF (f := 29) (args := #[.slice A2 rs.length c2, .int .i64 1]) rfl rfl rfl (by (try simp only [List.map_toArray, List.map_cons, List.map_nil]); rfl) (Enter.mk Try.func29 (by kernel_rfl) rfl) ?_; refine (markRules_calls (HS9.out.front 2 rfl) HSR.out).mono ?_; rintro e e1 ⟨m1, rfl, hm1, S2⟩; refine ⟨_, rfl, ?_⟩; have hm1d : decide (m1 < 0) = false := decide_eq_false (by omega); have HS10 := Aside0.mk S2; clear S2)
      | (go_at_call 34; refine (eqNodes_calls (HS10.out.readsAt 1 rfl).2.2 (HS10.out.readsAt 2 rfl).2.2 HM2.out HM1.out HL6.out).mono ?_; rintro e e1 ⟨rfl, hq⟩; have HS11 := Aside0.mk (HS10.out.below hq); clear hq)
      | ((with_reducible refine gate_dst (N := 72) rfl ?_); refine goesF (f := 35) (args := #[.slice B2 want.length d2, .int .i64 1]) rfl rfl rfl (by (try simp only [List.map_toArray, List.map_cons, List.map_nil]); rfl) (Enter.mk Try.func35 (by kernel_rfl) rfl) ?_; refine (markN_calls 1 (HS11.out.front 1 rfl) (by decide) (by decide) HL6.out).mono ?_; rintro e e1 ⟨rfl, S2⟩; refine ⟨_, rfl, ?_⟩; have HS12 := Aside0.mk S2; clear S2)
      | ((with_reducible refine gate_dst (N := 75) rfl ?_); refine goesF (f := 36) (args := #[.slice B2 want.length d2, .int .i64 1]) rfl rfl rfl (by (try simp only [List.map_toArray, List.map_cons, List.map_nil]); rfl) (Enter.mk Try.func36 (by kernel_rfl) rfl) ?_; refine (heldN_calls 1 want.length (HS12.out.readsD 0 rfl) HM2.out (by decide) (by decide) HL6.out).mono ?_; rintro e e1 ⟨rfl, hq⟩; refine ⟨_, rfl, ?_⟩; have HS13 := Aside0.mk (HS12.out.drawn hq); clear hq)
      | ((with_reducible refine gate_dst (N := 83) rfl ?_); refine goesF (f := 27) (args := #[.slice A l.length c]) rfl rfl rfl (by (try simp only [List.map_toArray, List.map_cons, List.map_nil]); rfl) (Enter.mk Try.func27 (by kernel_rfl) rfl) ?_; refine (HT.out _ _ HS13.out 4 rfl).mono ?_; rintro e e1 ⟨A4, c4, rfl, hle1, S2⟩; refine ⟨_, rfl, ?_⟩; obtain ⟨sh4, S3⟩ := S2.shape 0 rfl; have HS14 := Aside0.mk S3; have HL4 := Aside0.mk hle1; clear S2 S3 hle1)
      | ((with_reducible refine gate_dst (N := 86) rfl ?_); refine goesF (f := 33) (args := #[.slice A4 rs.length c4, .int .i64 vars, .int .i64 budget]) rfl rfl rfl (by (try simp only [List.map_toArray, List.map_cons, List.map_nil]); rfl) (Enter.mk Try.func33 (by kernel_rfl) rfl) ?_; refine (Refute_calls HS14.out (ReadsR.of 0 rfl)).mono ?_; rintro e e1 ⟨v1, rfl, S4⟩; refine ⟨_, rfl, ?_⟩; rw [← HW.out] at S4 ⊢; obtain ⟨B3, d3, rfl, hle1, _⟩ := S4.reads 0 rfl; have HS15 := Aside0.mk S4; have HM3 := Aside0.mk hle1; clear S4 hle1)
      | ((with_reducible refine gate_dst (N := 91) rfl ?_); refine goesF (f := 34) (args := #[.slice B3 want.length d3, .slice B1 want.length d1]) rfl rfl rfl (by (try simp only [List.map_toArray, List.map_cons, List.map_nil]); rfl) (Enter.mk Try.func34 (by kernel_rfl) rfl) ?_; refine (eqNodes_calls (HS15.out.readsAt 0 rfl).2.2 (HS15.out.readsAt 4 rfl).2.2 HM3.out HM1.out HL6.out).mono ?_; rintro e e1 ⟨rfl, hq⟩; refine ⟨_, rfl, ?_⟩; have HS16 := Aside0.mk (HS15.out.below hq); clear hq)
      | ((with_reducible refine gate_dst (N := 100) rfl ?_); refine goesF (f := 36) (args := #[.slice B2 want.length d2, .int .i64 1]) rfl rfl rfl (by (try simp only [List.map_toArray, List.map_cons, List.map_nil]); rfl) (Enter.mk Try.func36 (by kernel_rfl) rfl) ?_; refine (heldN_calls 1 want.length (HS16.out.readsD 2 rfl) HM2.out (by decide) (by decide) HL6.out).mono ?_; rintro e e1 ⟨rfl, hq⟩; refine ⟨_, rfl, ?_⟩; have HS17 := Aside0.mk (HS16.out.drawn hq); clear hq))
    go_ret
    exact ⟨rfl, HS17.out.to_below 6 rfl⟩
end Go.Proofs.Ytmgmilnoeghgfaa
