import Derived.Test.YtmgmilnoeghgfaaMB
import Derived.Test.YtmgmilnoeghgfaaMS
import Derived.Laws.EntriesVeiled
set_option linter.unusedVariables false
set_option linter.unusedSimpArgs false
namespace Go.Proofs.Ytmgmilnoeghgfaa
open Go.RowKit Go.Proofs.YtmgmilnoeghgfaaW.PrintWords Go.Proofs.YtmgmilnoeghgfaaW.PrintLast Go.Proofs.YtmgmilnoeghgfaaW.PrintMore Go.Proofs.Ytmgmilnoeghgfaa.PFnExactSolveRules

section
variable {σ : Type}
theorem search_all {w0 : World} {C : Cfg σ} {Res : σ → HP} {gF gT : FuncId} {capsF capsT : Array Value} {AR : Option Addr} {cR bx : Nat} {sh : Nat → Sh} (hok : C.Ok) (hT : TellsN w0 Res C.tell C.size C.M gT capsT) (hF : Founds w0 Res C.fnd C.size C.M gF capsF) (hEF : Enter Try.prog gF) (hET : Enter Try.prog gT) :
    ∀ d, SearchOk w0 C Res gF gT capsF capsT AR cR bx sh d
  | 0 => fun _ _ _ _ _ _ _ _ _ _ h => absurd h (Nat.not_lt_zero _)
  | d + 1 => search_step hok hT hF hEF hET d (search_all hok hT hF hEF hET d)
end
theorem zeros_made (n : Nat) : zeros (List.replicate n 0) ≤ n := by
  unfold zeros
  rw [List.countP_replicate]
  simp
theorem vals_made (n : Nat) : Vals n (List.replicate n 0) := ⟨List.length_replicate, fun x hx => by rw [List.eq_of_mem_replicate hx]; exact .inr (.inl rfl)⟩
/-- make([]int64, n). -/
theorem Sat.made {w0 w : World} {ps : List HP} (S : Sat w0 ps w) (n : Nat) (hn : n ≤ 9223372036854775807) :
    Sat w0 (RwI (.slice (some ⟨w.heap.size, 0, none⟩) n n) (List.replicate n 0) :: ps) (w.alloc (.cells (madeCells #[.int .i64 0] n) 2)) := by
  have h := own_made w 0 2 .i64 n (Nat.zero_le _) hn
  refine S.add (.alloc w _ _) (ok' := fun k => k = w.heap.size) (fun k hk => ⟨by omega, by simp; omega⟩) (fun w2 h2 => ?_)
  refine Kd.R_move (w := w.alloc (.cells (madeCells #[.int .i64 0] n) 2)) (Kd.R_of_own (by rw [List.length_replicate]; exact h) (fun k hk => ?_)) h2
  have : w.heap.size = k := by simpa [Value.ownBlock] using hk
  exact this.symm
section
variable {σ : Type}
/-- The search from nothing. -/
abbrev Cfg.all (C : Cfg σ) (s : σ) : Bool × Int × σ := C.search (C.n + 1) 0 s (List.replicate C.n 0)
set_option maxRecDepth 100000 in
set_option maxHeartbeats 2000000 in
theorem run_calls {w0 w : World} {R : List HP} {C : Cfg σ} {Res : σ → HP} {gF gT : FuncId} {capsF capsT : Array Value} {AR : Option Addr} {cR bx : Nat} {sh : Nat → Sh} (hok : C.Ok) (hT : TellsN w0 Res C.tell C.size C.M gT capsT) (hF : Founds w0 Res C.fnd C.size C.M gF capsF) (hEF : Enter Try.prog gF) (hET : Enter Try.prog gT)
    (s : σ) (S : Sat w0 (Blk bx (solB AR C.rules.length cR C.budget 0 gF gT capsF capsT) :: Res s :: R) w) (hrd : ReadsRules w0 R AR C.rules sh) (hroom : C.Room 0 s) :
    Calls Try.prog 103 #[.pointer (some ⟨bx, 0, none⟩), .int .i64 C.n] w fun e w' => e = .returned (.bool (C.all s).1) ∧
      Sat w0 (Blk bx (solB AR C.rules.length cR C.budget (C.all s).2.1 gF gT capsF capsT) :: Res (C.all s).2.2 :: R) w' ∧ C.Fine (C.all s) := by
  have hn := hok.small
  have HS := Aside0.mk (S.made C.n (by omega))
  have hmk := print_make (P := Try.prog) 24 2 .i64 8 Try.underlying24 info2 (by omega) C.n (by omega)
  have HC := Aside0.mk (search_all hok hT hF hEF hET (C.n + 1) _ _ _ _ _ 0 s HS.out hrd (vals_made C.n) (by have := zeros_made C.n; omega) ⟨by omega, by have := hok.bud; omega⟩ hroom)
  clear S hrd hroom hok hT hF hEF hET
  go_enter Try.func103, Try.ntmps103
  go_wp2_with (((with_reducible refine gate_dst (N := 8) rfl ?_); refine goesF (f := 143) (args := #[.pointer (some ⟨bx, 0, none⟩), .slice (some ⟨w.heap.size, 0, none⟩) C.n C.n]) rfl rfl rfl (by (try simp only [List.map_toArray, List.map_cons, List.map_nil]); rfl) (Enter.mk Try.func143 (by kernel_rfl) rfl) ?_; refine (HC.out).mono ?_; rintro e e1 ⟨rfl, S2, hf⟩; refine ⟨_, rfl, ?_⟩; have HS2 := Aside0.mk S2; have HFI := Aside0.mk hf; clear S2 hf))
  go_ret
  exact ⟨rfl, HS2.out, HFI.out⟩
end
/-! ### solve -/
abbrev RwL (v : Value) (xs : List (List Int)) : HP := RwS (Kd.slice 2 (Kd.int .i64)) 24 v xs
theorem info24 : (Try.prog.info? 24).map (fun i => (i.zero, i.size, i.bytes)) = some (some (.slice none 0 0), 1, 24) := by kernel_rfl
theorem solve1_calls (w : World) (nd : Node) : Calls Try.prog 100 (#[nodeW nd] ++ #[]) w fun e w' => e = .returned (.tuple #[]) ∧ Below w.heap.size w w' := by
  show Calls Try.prog 100 #[nodeW nd] w _
  go_enter Try.func100, Try.ntmps100
  go_wp2
  go_end0
  exact ⟨rfl, below_alloc (Below.refl _ _) _⟩
/-- The solutions so far: a variable (block b) that holds a row; beside it the number that is asked for. -/
def ResL (b bm : Nat) (most : Int) (xs : List (List Int)) : HP := Ex fun v => Star [RwL v xs, Blk b (.cells #[v] 27), Blk bm (.cells #[.int .i64 most] 2)]
theorem Sat.openL {w0 w : World} {ps : List HP} {b bm : Nat} {most : Int} {xs : List (List Int)} (S : Sat w0 (ResL b bm most xs :: ps) w) : ∃ v, Sat w0 (RwL v xs :: Blk b (.cells #[v] 27) :: Blk bm (.cells #[.int .i64 most] 2) :: ps) w := by
  obtain ⟨v, S1⟩ := S.openEx
  exact ⟨v, S1.openStar⟩
theorem Sat.closeL {w0 w : World} {ps : List HP} {b bm : Nat} {most : Int} {xs : List (List Int)} {v : Value} (S : Sat w0 (RwL v xs :: Blk b (.cells #[v] 27) :: Blk bm (.cells #[.int .i64 most] 2) :: ps) w) : Sat w0 (ResL b bm most xs :: ps) w :=
  Sat.closeEx (v := v) (Sat.closeStar (qs := [RwL v xs, Blk b (.cells #[v] 27), Blk bm (.cells #[.int .i64 most] 2)]) S)
theorem lengthL_calls (A : Option Addr) (n c : Nat) (w : World) (hn : n ≤ 9223372036854775807) : Calls Try.prog 102 #[.slice A n c] w fun e w' => e = .returned (.int .i64 n) ∧ w = w' := by
  go_enter Try.func102, Try.ntmps102
  go_wp2
  go_ret
  exact ⟨rfl, rfl⟩
theorem Sat.ne_blks {w0 w : World} {ps : List HP} (S : Sat w0 ps w) (i j : Nat) (hij : i ≠ j) {a b : Nat} {o o' : Obj} (hp : ps[i]? = some (Blk a o')) (hq : ps[j]? = some (Blk b o)) : ¬ a = b ∧ ¬ b = a := by
  obtain ⟨_, ok, hl, _, hd⟩ := S
  have h1 : ok i a := ((hl i _ hp).now : Blk a o' w (ok i)).1
  have h2 : ok j b := ((hl j _ hq).now : Blk b o w (ok j)).1
  exact ⟨fun e => hij (hd i j a h1 (e ▸ h2)), fun e => hij (hd i j a h1 (e ▸ h2))⟩
/-- One more solution; is there one more to find? -/
def fndL (most : Int) (xs : List (List Int)) (vs : List Int) : List (List Int) × Bool := (xs ++ [vs], decide (((xs ++ [vs]).length : Int) < most))
set_option maxRecDepth 100000 in
set_option maxHeartbeats 2000000 in
theorem solve2_calls {w0 : World} {b bm : Nat} {most : Int} : Founds w0 (ResL b bm most) (fndL most) List.length 1000000000 101 #[.pointer (some ⟨b, 0, none⟩), .pointer (some ⟨bm, 0, none⟩)] := by
  intro w s v vs ps hsz S
  obtain ⟨Av, cv, rfl, hlv, hCv⟩ := S.reads 0 rfl
  clear hlv hCv
  obtain ⟨v1, S1⟩ := (S.front 1 rfl).openL
  have S2 := S1.front 3 rfl
  obtain ⟨A1, c1, rfl, hle1, hC1⟩ := S2.readsS 1 rfl
  have hb := box1 (S2.blk 2 rfl)
  have hfb := blk_free (i := 0) (S2.blk 2 rfl)
  have HS := Aside0.mk S2
  have HSZ := Aside0.mk hsz
  clear S S1 S2 hle1 hC1
  show Calls Try.prog 101 #[.slice Av vs.length cv, .pointer (some ⟨b, 0, none⟩), .pointer (some ⟨bm, 0, none⟩)] w _
  unfold fndL
  go_enter Try.func101, Try.ntmps101
  go_wp2_with ((with_reducible refine gate_builtin (b := .append) (xs := #[.tmp 5, .tmp 7]) rfl ?_); refine Sat.appendInS HS.out rfl (.tmp 5) (.tmp 7) 27 (.slice none 0 0) 24 rfl Try.underlying27 info24 rfl (by omega) rfl rfl (by have := HSZ.out; omega) ?_; intro v2 w2 S3; obtain ⟨A2, c2, rfl, hle2, hC2⟩ := S3.readsS 0 rfl; clear hle2 hC2; obtain ⟨hne1, hne2⟩ := S3.ne_blks 1 2 (by decide) rfl rfl; have hbm := box1 (S3.blk 2 rfl); have HS3 := Aside0.mk S3; clear S3; have hb2 := box1 (HS3.out.blk 1 rfl); have hfb2 := blk_free (i := 0) (HS3.out.blk 1 rfl))
  have hm : s.length + 1 ≤ 9223372036854775807 := by omega
  go_quiet ((go_at_call 102; exact quiet_eq (lengthL_calls _ _ _ _ hm)))
  go_wp2
  go_ret
  have S4 := (HS3.out.setCell 1 rfl 0 (.slice A2 (s ++ [vs]).length c2)).drewN nq
  have hlen : (s ++ [vs]).length = s.length + 1 := by simp
  rw [hlen] at S4
  exact ⟨ret_bool (by rw [hlen]; simp), S4.closeL⟩
/-- The configuration of 'solve'. -/
abbrev cfgL (rules : List Rule) (n : Nat) (budget most : Int) : Cfg (List (List Int)) := { rules, n, budget, fnd := fndL most, tell := fun s _ => s, size := List.length, M := 1000000000 }
theorem cfgL_ok {rules : List Rule} {n : Nat} {budget most : Int} (h1 : ∀ r ∈ rules, OkRule r n) (h2 : n ≤ 200) (h3 : 1 ≤ budget ∧ budget ≤ 5000) : (cfgL rules n budget most).Ok :=
  ⟨h1, h2, h3, fun s _ => by simp, fun s vs => by simp [fndL]⟩
theorem tellL {w0 : World} {b bm : Nat} {most : Int} : TellsN w0 (ResL b bm most) (fun s (_ : Node) => s) List.length 1000000000 100 #[] := by
  intro w s nd ps _ S
  exact (solve1_calls w nd).mono fun e w' ⟨h1, h2⟩ => ⟨h1, S.below h2⟩
/-- What 'solve' hands back. -/
def SolveQ (w0 : World) (R : List HP) (AR : Option Addr) (cR : Nat) (rules : List Rule) (n : Nat) (budget most : Int) (e : Ending) (w' : World) : Prop :=
  ∃ (vL : Value) (bx : Nat) (gF gT : FuncId) (capsF capsT : Array Value), e = .returned (.tuple #[vL, .pointer (some ⟨bx, 0, none⟩)]) ∧
    Sat w0 (RwL vL ((cfgL rules n budget most).all []).2.2 :: Blk bx (solB AR rules.length cR budget ((cfgL rules n budget most).all []).2.1 gF gT capsF capsT) :: R) w' ∧ (cfgL rules n budget most).Fine ((cfgL rules n budget most).all [])
set_option maxRecDepth 100000 in
set_option maxHeartbeats 2000000 in
theorem solve_calls {w0 w : World} {R : List HP} {AR : Option Addr} {cR : Nat} {rules : List Rule} {sh : Nat → Sh} {n : Nat} {budget most : Int} (h1 : ∀ r ∈ rules, OkRule r n) (h2 : n ≤ 200) (h3 : 1 ≤ budget ∧ budget ≤ 5000)
    (S : Sat w0 R w) (hrd : ReadsRules w0 R AR rules sh) :
    Calls Try.prog 56 #[.slice AR rules.length cR, .int .i64 n, .int .i64 budget, .int .i64 most] w (SolveQ w0 R AR cR rules n budget most) := by
  have S1 := (((S.alloc (.cells #[.int .i64 most] 2)).alloc (.cells #[.slice none 0 0] 27)).nilS (Kd.slice 2 (Kd.int .i64)) 24).closeL.alloc (solB AR rules.length cR budget 0 101 100 #[.pointer (some ⟨w.heap.size + 1, 0, none⟩), .pointer (some ⟨w.heap.size, 0, none⟩)] #[])
  simp only [World.size_alloc] at S1
  have HC := Aside0.mk (run_calls (C := cfgL rules n budget most) (cfgL_ok h1 h2 h3) tellL solve2_calls (Enter.mk Try.func101 (by kernel_rfl) rfl) (Enter.mk Try.func100 (by kernel_rfl) rfl) [] S1 hrd (by simp only [Cfg.Room, List.length_nil]; have := h3.2; omega))
  clear S S1 hrd
  go_enter Try.func56, Try.ntmps56
  go_wp2_with (((with_reducible refine gate_dst (N := 22) rfl ?_); refine goesF (f := 103) (args := #[.pointer (some ⟨w.heap.size + 1 + 1, 0, none⟩), .int .i64 n]) rfl rfl rfl (by (try simp only [List.map_toArray, List.map_cons, List.map_nil]); rfl) (Enter.mk Try.func103 (by kernel_rfl) rfl) ?_; refine (HC.out).mono ?_; rintro e e1 ⟨rfl, S2, hf⟩; refine ⟨_, rfl, ?_⟩; have HFI := Aside0.mk hf; obtain ⟨v3, S3⟩ := (S2.front 1 rfl).openL; have HS3 := Aside0.mk S3; clear S2 hf S3; have hb3 := box1 (HS3.out.blk 1 rfl)))
  go_ret2
  exact ⟨v3, _, _, _, _, _, rfl, ((HS3.out.front 1 rfl).tail.front 1 rfl).tail, HFI.out⟩

theorem isSpent_calls {w0 w : World} {ps : List HP} {AR : Option Addr} {len cR : Nat} {budget steps : Int} {gF gT : FuncId} {capsF capsT : Array Value} {bx : Nat} (i : Nat) (S : Sat w0 ps w) (hp : ps[i]? = some (Blk bx (solB AR len cR budget steps gF gT capsF capsT))) :
    Calls Try.prog 57 #[.pointer (some ⟨bx, 0, none⟩)] w fun e w' => e = .returned (.bool (decide (budget < steps))) ∧ Sat w0 ps w' := by
  obtain ⟨hx0, hx1, hx2, hx3, hx4⟩ := box5 (S.blk i hp)
  have HS := Aside0.mk S
  clear S
  go_enter Try.func57, Try.ntmps57
  go_wp2
  go_quiet (fail)
  go_wp2
  go_ret
  exact ⟨rfl, HS.out.drewN nq⟩

theorem isBudget_calls (b : Int) (w : World) : Calls Try.prog 54 #[.int .i64 b] w fun e w' => e = .returned (.bool (inB 1 5000 b)) ∧ w = w' := by
  have h0 := within_calls b 1 5000 w
  generalize inB 1 5000 b = x at *
  go_enter Try.func54, Try.ntmps54
  go_wp2_with (((with_reducible refine gate_dst (N := 4) rfl ?_); refine goesF (f := 55) (args := #[.int .i64 b, .int .i64 1, .int .i64 5000]) rfl rfl rfl (by (try simp only [List.map_toArray, List.map_cons, List.map_nil]); rfl) (Enter.mk Try.func55 (by kernel_rfl) rfl) ?_; refine (h0).mono ?_; rintro e e1 ⟨rfl, rfl⟩; refine ⟨_, rfl, ?_⟩))
  go_ret
  exact ⟨rfl, rfl⟩

/-! ### Are the rules valid? -/
def okRules (rules : List Rule) (vars : Int) : Bool := inB 0 200 vars && (decide ((rules.length : Int) ≤ 3000) && !rules.any fun r => !(inB 0 200 vars && okRule r vars))
set_option maxRecDepth 100000 in
theorem validRules1_calls (vars : Int) (b : Nat) (r : Rule) (A1 A2 : Option Addr) (c1 c2 : Nat) (w : World) (hb : w.heap[b]? = some (.cells #[.int .i64 vars] 2 (0, 0)))
    (h1 : (Kd.int .i64).C w A1 r.f1.length r.f1) (h2 : (Kd.int .i64).C w A2 r.f2.length r.f2) :
    Calls Try.prog 98 (#[.agg #[.int .i64 r.f0, .slice A1 r.f1.length c1, .slice A2 r.f2.length c2]] ++ #[.pointer (some ⟨b, 0, none⟩)]) w fun e w' => e = .returned (.bool (!(inB 0 200 vars && okRule r vars))) ∧ Below w.heap.size w w' := by
  show Calls Try.prog 98 #[ruleW r A1 A2 c1 c2, .pointer (some ⟨b, 0, none⟩)] w _
  have hc := box1 hb
  have hlt := lt_of_block hb
  have HC := Aside0.mk (validRule_calls r.f0 r.f1 r.f2 A1 A2 c1 c2 vars (w.alloc (ruleB r A1 A2 c1 c2)) (Kd.C_alloc h1 _) (Kd.C_alloc h2 _))
  have HE : Aside0 (okRule ⟨r.f0, r.f1, r.f2⟩ vars = okRule r vars) := ⟨rfl⟩
  rw [HE.out] at HC
  generalize (inB 0 200 vars && okRule r vars) = x at *
  clear h1 h2 hb HE
  go_enter Try.func98, Try.ntmps98
  go_wp2_with (((with_reducible refine gate_dst (N := 6) rfl ?_); refine goesF (f := 99) (args := #[ruleW r A1 A2 c1 c2, .int .i64 vars]) rfl rfl rfl (by (try simp only [List.map_toArray, List.map_cons, List.map_nil]); rfl) (Enter.mk Try.func99 (by kernel_rfl) rfl) ?_; refine (HC.out).mono ?_; rintro e e1 ⟨rfl, hb⟩; refine ⟨_, rfl, ?_⟩; have HB := Aside0.mk hb; clear hb))
  go_ret
  exact ⟨rfl, below_then (below_alloc (Below.refl _ _) _) (by simp) HB.out⟩
set_option maxRecDepth 100000 in
set_option maxHeartbeats 2000000 in
theorem validRules_calls {w : World} {A : Option Addr} {c : Nat} {rules : List Rule} (vars : Int) (hr : kRule.C w A rules.length rules) :
    Calls Try.prog 53 #[.slice A rules.length c, .int .i64 vars] w fun e w' => e = .returned (.bool (okRules rules vars)) ∧ Below w.heap.size w w' := by
  have hm := Kd.C_max hr
  have HW := Aside0.mk (within_calls vars 0 200 (w.alloc (.cells #[.int .i64 vars] 2)))
  have HB := Aside0.mk (below_alloc (Below.refl w.heap.size w) (.cells #[.int .i64 vars] 2))
  have HC := Aside0.mk (containsRule_calls Mild.new 98 #[.pointer (some ⟨w.heap.size, 0, none⟩)] (fun r => !(inB 0 200 vars && okRule r vars)) A c rules (w.alloc (.cells #[.int .i64 vars] 2)) (Kd.C_alloc hr _) (Enter.mk Try.func98 (by kernel_rfl) rfl)
    (fun r A1 A2 c1 c2 w' hx hq h1 h2 => validRules1_calls vars w.heap.size r A1 A2 c1 c2 w' ((hq.block _ (by simp)).trans (heap_alloc_new w _)) h1 h2))
  have HO : Aside0 (okRules rules vars = (inB 0 200 vars && (decide ((rules.length : Int) ≤ 3000) && !rules.any fun r => !(inB 0 200 vars && okRule r vars)))) := ⟨rfl⟩
  clear hr
  obtain ⟨x, hx⟩ : ∃ x, x = rules.any fun r => !(inB 0 200 vars && okRule r vars) := ⟨_, rfl⟩
  rw [← hx] at HC HO
  clear hx
  cases h1 : inB 0 200 vars
  · rw [h1] at HW HO
    clear h1
    go_enter Try.func53, Try.ntmps53
    go_wp2_with (((with_reducible refine gate_dst (N := 6) rfl ?_); refine goesF (f := 55) (args := #[.int .i64 vars, .int .i64 0, .int .i64 200]) rfl rfl rfl (by (try simp only [List.map_toArray, List.map_cons, List.map_nil]); rfl) (Enter.mk Try.func55 (by kernel_rfl) rfl) ?_; refine (HW.out).mono ?_; rintro e e1 ⟨rfl, rfl⟩; refine ⟨_, rfl, ?_⟩))
    go_ret
    exact ⟨by rw [HO.out]; rfl, HB.out⟩
  · rw [h1] at HW HO
    clear h1
    by_cases h2 : (rules.length : Int) ≤ 3000
    · have hd : decide ((rules.length : Int) ≤ 3000) = true := decide_eq_true h2
      have hd2 : decide (rules.length ≤ 3000) = true := decide_eq_true (by omega)
      rw [hd] at HO
      clear h2
      go_enter Try.func53, Try.ntmps53
      go_wp2_with (first
        | ((with_reducible refine gate_dst (N := 6) rfl ?_); refine goesF (f := 55) (args := #[.int .i64 vars, .int .i64 0, .int .i64 200]) rfl rfl rfl (by (try simp only [List.map_toArray, List.map_cons, List.map_nil]); rfl) (Enter.mk Try.func55 (by kernel_rfl) rfl) ?_; refine (HW.out).mono ?_; rintro e e1 ⟨rfl, rfl⟩; refine ⟨_, rfl, ?_⟩)
        | (go_at_call 64; refine (HC.out).mono ?_; rintro e e1 ⟨rfl, hb⟩; have HB2 := Aside0.mk hb; clear hb))
      go_ret
      exact ⟨by rw [HO.out]; rfl, below_then HB.out (by simp) HB2.out⟩
    · have hd : decide ((rules.length : Int) ≤ 3000) = false := decide_eq_false h2
      have hd2 : decide (rules.length ≤ 3000) = false := decide_eq_false (by omega)
      rw [hd] at HO
      clear h2
      go_enter Try.func53, Try.ntmps53
      go_wp2_with (((with_reducible refine gate_dst (N := 6) rfl ?_); refine goesF (f := 55) (args := #[.int .i64 vars, .int .i64 0, .int .i64 200]) rfl rfl rfl (by (try simp only [List.map_toArray, List.map_cons, List.map_nil]); rfl) (Enter.mk Try.func55 (by kernel_rfl) rfl) ?_; refine (HW.out).mono ?_; rintro e e1 ⟨rfl, rfl⟩; refine ⟨_, rfl, ?_⟩))
      go_ret
      exact ⟨by rw [HO.out]; rfl, HB.out⟩
end Go.Proofs.Ytmgmilnoeghgfaa

set_option linter.unusedVariables false
set_option linter.unusedSimpArgs false
namespace Go.Proofs.Ytmgmilnoeghgfaa
open Go.RowKit Go.Proofs.YtmgmilnoeghgfaaW.PrintWords Go.Proofs.YtmgmilnoeghgfaaW.PrintLast Go.Proofs.YtmgmilnoeghgfaaW.PrintMore Go.Proofs.Ytmgmilnoeghgfaa.PFnExactSolveRules

/-- An element of a row of rows, taken out: the row itself is given up. -/
theorem Sat.take {w0 w : World} {ps : List HP} {α : Type} {d : Kd α} {e e' : Nat} {A : Option Addr} {n c : Nat} {xs : List (List α)} (S : Sat w0 (Rw (Kd.slice e' d) e (.slice A n c) xs :: ps) w) (k : Nat) (hk : k < xs.length) :
    ∃ g v0, A = some ⟨g, 0, none⟩ ∧ w.cell? ⟨g, k, none⟩ = some v0 ∧ Sat w0 (Rw d e' v0 xs[k] :: ps) w := by
  obtain ⟨ok, hl, hb, hu⟩ := S.upd 0 rfl
  have h0 : (Kd.slice e' d).R e w 0 ok (.slice A n c) xs := hl.now
  obtain ⟨h1, inner, ho, hr⟩ := h0
  obtain ⟨hlen, hrep⟩ := hr
  have hel := hrep k xs[k] (by simp [List.getElem?_eq_getElem hk])
  obtain ⟨v0, hv0, hR⟩ := hel
  have hv1 : (inner.drop (k * 1)).take 1 = [v0] := hv0
  have hin : inner[k]? = some v0 := by
    have h3 : ((inner.drop (k * 1)).take 1)[0]? = some v0 := by rw [hv1]; rfl
    rw [List.getElem?_take_of_lt (by omega), List.getElem?_drop] at h3
    simpa using h3
  rcases ho.2 with ⟨h', h2⟩ | ⟨g, cap, cur, h', _⟩
  · have := ho.1
    omega
  · injection h' with hA h2 h3
    subst hA h3
    refine ⟨g, v0, rfl, ?_, ?_⟩
    · have h5 := ho.cells (g := g) rfl k v0 hin
      rwa [add_plain] at h5
    · exact hu w _ (fun k => ok k ∧ some k ≠ (Value.slice (some ⟨g, 0, none⟩) n c).ownBlock) (.refl _ _) (fun k hk => ⟨.inl hk.1, hb k hk.1⟩) (fun w2 h2 => Kd.R_move hR h2)

/-- The rules are read, in every world that holds the frame. -/
def ReadsR (w0 : World) (R : List HP) (A : Option Addr) (rules : List Rule) (sh : Nat → Sh) : Prop := ∀ w, Sat w0 R w → RulesAt A rules sh w ∧ kRule.C w A rules.length rules
theorem ReadsR.cons {w0 : World} {R : List HP} {A : Option Addr} {rules : List Rule} {sh : Nat → Sh} (h : ReadsR w0 R A rules sh) (p : HP) : ReadsR w0 (p :: R) A rules sh := fun w S => h w S.tail
theorem ReadsR.at_ {w0 : World} {R : List HP} {A : Option Addr} {rules : List Rule} {sh : Nat → Sh} (h : ReadsR w0 R A rules sh) : ReadsRules w0 R A rules sh := fun w S => (h w S).1
theorem okRules_good {rules : List Rule} {vars : Int} (h : okRules rules vars = true) : (0 ≤ vars ∧ vars ≤ 200) ∧ rules.length ≤ 3000 ∧ ∀ r ∈ rules, OkRule r vars.toNat := by
  simp only [okRules, Bool.and_eq_true, inB, decide_eq_true_eq, Bool.not_eq_true', List.any_eq_false] at h
  obtain ⟨h1, h2, h3⟩ := h
  refine ⟨h1, by omega, fun r hr => OkRule.of ?_⟩
  have := h3 r hr
  rw [show ((vars.toNat : Nat) : Int) = vars by omega]
  simpa [h1.1, h1.2] using this
abbrev resL (rules : List Rule) (vars budget most : Int) : Bool × Int × List (List Int) := (cfgL rules vars.toNat budget most).all []
def firstR (rules : List Rule) (vars budget : Int) : List Int × Int :=
  if okRules rules vars = true ∧ inB 1 5000 budget = true then
    if budget < (resL rules vars budget 1).2.1 then ([], 10) else match (resL rules vars budget 1).2.2 with | [] => ([], 8) | x :: _ => (x, 0)
  else ([], 1)
def solveR (rules : List Rule) (vars budget most : Int) : List (List Int) × Int × Int :=
  if okRules rules vars = true ∧ inB 1 5000 budget = true ∧ inB 1 100 most = true then
    if budget < (resL rules vars budget most).2.1 then ([], 0, 10) else ((resL rules vars budget most).2.2, (resL rules vars budget most).2.1, 0)
  else ([], 0, 1)
def FirstQ (w0 : World) (R : List HP) (r : List Int × Int) (e : Ending) (w' : World) : Prop := ∃ v, e = .returned (.tuple #[v, .int .i64 r.2]) ∧ Sat w0 (RwI v r.1 :: R) w'
def SolvesQ (w0 : World) (R : List HP) (r : List (List Int) × Int × Int) (e : Ending) (w' : World) : Prop := ∃ v, e = .returned (.tuple #[v, .int .i64 r.2.1, .int .i64 r.2.2]) ∧ Sat w0 (RwL v r.1 :: R) w'
def firstOf (budget : Int) (r : Bool × Int × List (List Int)) : List Int × Int := if budget < r.2.1 then ([], 10) else match r.2.2 with | [] => ([], 8) | x :: _ => (x, 0)

set_option maxRecDepth 100000 in
set_option maxHeartbeats 2000000 in
theorem firstSolution_calls {w0 w : World} {R : List HP} {AR : Option Addr} {cR : Nat} {rules : List Rule} {sh : Nat → Sh} {n : Nat} {budget : Int} (h1 : ∀ r ∈ rules, OkRule r n) (h2 : n ≤ 200) (h3 : 1 ≤ budget ∧ budget ≤ 5000)
    (S : Sat w0 R w) (hrd : ReadsRules w0 R AR rules sh) :
    Calls Try.prog 67 #[.slice AR rules.length cR, .int .i64 n, .int .i64 budget] w (FirstQ w0 R (firstOf budget ((cfgL rules n budget 1).all []))) := by
  have HC := Aside0.mk (solve_calls (cR := cR) (most := 1) h1 h2 h3 S hrd)
  clear S hrd h1 h3
  unfold SolveQ at HC
  generalize (cfgL rules n budget 1).all [] = r at *
  obtain ⟨go, steps, found⟩ := r
  by_cases hsp : budget < steps
  · have hd : decide (budget < steps) = true := decide_eq_true hsp
    have HF : Aside0 (firstOf budget (go, steps, found) = ([], 10)) := ⟨by simp [firstOf, hsp]⟩
    clear hsp
    go_enter Try.func67, Try.ntmps67
    go_wp2_with (first
      | ((with_reducible refine gate_dst (N := 14) rfl ?_); refine goesF (f := 56) (args := #[.slice AR rules.length cR, .int .i64 n, .int .i64 budget, .int .i64 1]) rfl rfl rfl (by (try simp only [List.map_toArray, List.map_cons, List.map_nil]); rfl) (Enter.mk Try.func56 (by kernel_rfl) rfl) ?_; refine (HC.out).mono ?_; rintro e e1 ⟨vL, bx, gF, gT, capsF, capsT, rfl, S2, hf⟩; refine ⟨_, rfl, ?_⟩; have HS2 := Aside0.mk S2; clear S2 hf)
      | ((with_reducible refine gate_dst (N := 19) rfl ?_); refine goesF (f := 57) (args := #[.pointer (some ⟨bx, 0, none⟩)]) rfl rfl rfl (by (try simp only [List.map_toArray, List.map_cons, List.map_nil]); rfl) (Enter.mk Try.func57 (by kernel_rfl) rfl) ?_; refine (isSpent_calls 1 HS2.out rfl).mono ?_; rintro e e1 ⟨rfl, S3⟩; refine ⟨_, rfl, ?_⟩; have HS3 := Aside0.mk S3; clear S3))
    go_ret2
    rw [HF.out]
    exact ⟨_, rfl, (HS3.out.tail.tail).nil _ _⟩
  · have hd : decide (budget < steps) = false := decide_eq_false hsp
    cases found with
    | nil =>
      have HF : Aside0 (firstOf budget (go, steps, []) = ([], 8)) := ⟨by simp [firstOf, hsp]⟩
      clear hsp
      go_enter Try.func67, Try.ntmps67
      go_wp2_with (first
        | ((with_reducible refine gate_dst (N := 14) rfl ?_); refine goesF (f := 56) (args := #[.slice AR rules.length cR, .int .i64 n, .int .i64 budget, .int .i64 1]) rfl rfl rfl (by (try simp only [List.map_toArray, List.map_cons, List.map_nil]); rfl) (Enter.mk Try.func56 (by kernel_rfl) rfl) ?_; refine (HC.out).mono ?_; rintro e e1 ⟨vL, bx, gF, gT, capsF, capsT, rfl, S2, hf⟩; refine ⟨_, rfl, ?_⟩; obtain ⟨A2, c2, rfl, hl2, hC2⟩ := S2.readsS 0 rfl; clear hl2 hC2; have HS2 := Aside0.mk S2; clear S2 hf)
        | ((with_reducible refine gate_dst (N := 19) rfl ?_); refine goesF (f := 57) (args := #[.pointer (some ⟨bx, 0, none⟩)]) rfl rfl rfl (by (try simp only [List.map_toArray, List.map_cons, List.map_nil]); rfl) (Enter.mk Try.func57 (by kernel_rfl) rfl) ?_; refine (isSpent_calls 1 HS2.out rfl).mono ?_; rintro e e1 ⟨rfl, S3⟩; refine ⟨_, rfl, ?_⟩; have HS3 := Aside0.mk S3; clear S3))
      go_ret2
      rw [HF.out]
      exact ⟨_, rfl, (HS3.out.tail.tail).nil _ _⟩
    | cons x xs =>
      have HF : Aside0 (firstOf budget (go, steps, x :: xs) = (x, 0)) := ⟨by simp [firstOf, hsp]⟩
      clear hsp
      have hne : (((x :: xs).length : Int) == 0) = false := by simp; omega
      have hpos : 0 < (x :: xs).length := by simp
      go_enter Try.func67, Try.ntmps67
      go_wp2_with (first
        | ((with_reducible refine gate_dst (N := 14) rfl ?_); refine goesF (f := 56) (args := #[.slice AR rules.length cR, .int .i64 n, .int .i64 budget, .int .i64 1]) rfl rfl rfl (by (try simp only [List.map_toArray, List.map_cons, List.map_nil]); rfl) (Enter.mk Try.func56 (by kernel_rfl) rfl) ?_; refine (HC.out).mono ?_; rintro e e1 ⟨vL, bx, gF, gT, capsF, capsT, rfl, S2, hf⟩; refine ⟨_, rfl, ?_⟩; obtain ⟨A2, c2, rfl, hl2, hC2⟩ := S2.readsS 0 rfl; clear hl2 hC2; have HS2 := Aside0.mk S2; clear S2 hf)
        | ((with_reducible refine gate_dst (N := 19) rfl ?_); refine goesF (f := 57) (args := #[.pointer (some ⟨bx, 0, none⟩)]) rfl rfl rfl (by (try simp only [List.map_toArray, List.map_cons, List.map_nil]); rfl) (Enter.mk Try.func57 (by kernel_rfl) rfl) ?_; refine (isSpent_calls 1 HS2.out rfl).mono ?_; rintro e e1 ⟨rfl, S3⟩; refine ⟨_, rfl, ?_⟩; obtain ⟨g, v0, rfl, hv0, S4⟩ := S3.toR.take 0 (by simp); have HS3 := Aside0.mk S4; clear S3 S4))
      go_ret2
      rw [HF.out]
      exact ⟨v0, rfl, HS3.out.swap.tail⟩
end Go.Proofs.Ytmgmilnoeghgfaa

set_option linter.unusedVariables false
set_option linter.unusedSimpArgs false
namespace Go.Proofs.Ytmgmilnoeghgfaa
open Go.RowKit Go.Proofs.YtmgmilnoeghgfaaW.PrintWords Go.Proofs.YtmgmilnoeghgfaaW.PrintLast Go.Proofs.YtmgmilnoeghgfaaW.PrintMore Go.Proofs.Ytmgmilnoeghgfaa.PFnExactSolveRules

theorem inB_iff {a b x : Int} (h : inB a b x = true) : a ≤ x ∧ x ≤ b := by
  simpa [inB] using h
set_option maxRecDepth 100000 in
set_option maxHeartbeats 2000000 in
theorem FirstSolution_calls {w0 w : World} {R : List HP} {AR : Option Addr} {cR : Nat} {rules : List Rule} {sh : Nat → Sh} {vars budget : Int}
    (S : Sat w0 R w) (hrd : ReadsR w0 R AR rules sh) :
    Calls Try.prog 16 #[.slice AR rules.length cR, .int .i64 vars, .int .i64 budget] w (FirstQ w0 R (firstR rules vars budget)) := by
  have HV := Aside0.mk (validRules_calls (c := cR) vars (hrd w S).2)
  have HS := Aside0.mk S
  cases hv : okRules rules vars
  · have HF : Aside0 (firstR rules vars budget = ([], 1)) := ⟨by simp [firstR, hv]⟩
    rw [hv] at HV
    clear S hrd hv
    go_enter Try.func16, Try.ntmps16
    go_wp2_with (((with_reducible refine gate_dst (N := 10) rfl ?_); refine goesF (f := 53) (args := #[.slice AR rules.length cR, .int .i64 vars]) rfl rfl rfl (by (try simp only [List.map_toArray, List.map_cons, List.map_nil]); rfl) (Enter.mk Try.func53 (by kernel_rfl) rfl) ?_; refine (HV.out).mono ?_; rintro e e1 ⟨rfl, hb⟩; refine ⟨_, rfl, ?_⟩; have HS2 := Aside0.mk (HS.out.below hb); clear hb))
    go_ret2
    rw [HF.out]
    exact ⟨_, rfl, HS2.out.nil _ _⟩
  · obtain ⟨g1, g2, g3⟩ := okRules_good hv
    rw [hv] at HV
    have HB := Aside0.mk (isBudget_calls budget)
    cases hb : inB 1 5000 budget
    · have HF : Aside0 (firstR rules vars budget = ([], 1)) := ⟨by simp [firstR, hb]⟩
      rw [hb] at HB
      clear S hrd hv g1 g2 g3 hb
      go_enter Try.func16, Try.ntmps16
      go_wp2_with (first
        | ((with_reducible refine gate_dst (N := 10) rfl ?_); refine goesF (f := 53) (args := #[.slice AR rules.length cR, .int .i64 vars]) rfl rfl rfl (by (try simp only [List.map_toArray, List.map_cons, List.map_nil]); rfl) (Enter.mk Try.func53 (by kernel_rfl) rfl) ?_; refine (HV.out).mono ?_; rintro e e1 ⟨rfl, hb⟩; refine ⟨_, rfl, ?_⟩; have HS2 := Aside0.mk (HS.out.below hb); clear hb)
        | (go_at_call 54; refine (HB.out _).mono ?_; rintro e e1 ⟨rfl, rfl⟩))
      go_ret2
      rw [HF.out]
      exact ⟨_, rfl, HS2.out.nil _ _⟩
    · have HF : Aside0 (firstR rules vars budget = firstOf budget (resL rules vars budget 1)) := ⟨by simp [firstR, firstOf, hv, hb]⟩
      have hn : ((vars.toNat : Nat) : Int) = vars := by omega
      have HC : Aside0 (∀ w', Sat w0 R w' → Calls Try.prog 67 #[.slice AR rules.length cR, .int .i64 vars, .int .i64 budget] w' (FirstQ w0 R (firstOf budget (resL rules vars budget 1)))) := ⟨fun w' S' => by
        have h := firstSolution_calls (cR := cR) g3 (by omega) (inB_iff hb) S' hrd.at_
        rwa [hn] at h⟩
      rw [hb] at HB
      clear S hrd hv g1 g2 g3 hb hn
      unfold FirstQ at HC
      rw [← HF.out] at HC
      clear HF
      generalize firstR rules vars budget = r at *
      obtain ⟨r1, r2⟩ := r
      go_enter Try.func16, Try.ntmps16
      go_wp2_with (first
        | ((with_reducible refine gate_dst (N := 10) rfl ?_); refine goesF (f := 53) (args := #[.slice AR rules.length cR, .int .i64 vars]) rfl rfl rfl (by (try simp only [List.map_toArray, List.map_cons, List.map_nil]); rfl) (Enter.mk Try.func53 (by kernel_rfl) rfl) ?_; refine (HV.out).mono ?_; rintro e e1 ⟨rfl, hb⟩; refine ⟨_, rfl, ?_⟩; have HS2 := Aside0.mk (HS.out.below hb); clear hb)
        | (go_at_call 54; refine (HB.out _).mono ?_; rintro e e1 ⟨rfl, rfl⟩)
        | ((with_reducible refine gate_dst (N := 20) rfl ?_); refine goesF (f := 67) (args := #[.slice AR rules.length cR, .int .i64 vars, .int .i64 budget]) rfl rfl rfl (by (try simp only [List.map_toArray, List.map_cons, List.map_nil]); rfl) (Enter.mk Try.func67 (by kernel_rfl) rfl) ?_; refine (HC.out _ HS2.out).mono ?_; rintro e e1 ⟨v, rfl, S3⟩; refine ⟨_, rfl, ?_⟩; have HS3 := Aside0.mk S3; clear S3))
      go_ret2
      exact ⟨v, rfl, HS3.out⟩

def solveOf (budget : Int) (r : Bool × Int × List (List Int)) : List (List Int) × Int × Int := if budget < r.2.1 then ([], 0, 10) else (r.2.2, r.2.1, 0)
set_option maxRecDepth 100000 in
set_option maxHeartbeats 2000000 in
theorem SolveRules_calls {w0 w : World} {R : List HP} {AR : Option Addr} {cR : Nat} {rules : List Rule} {sh : Nat → Sh} {vars budget most : Int}
    (S : Sat w0 R w) (hrd : ReadsR w0 R AR rules sh) :
    Calls Try.prog 11 #[.slice AR rules.length cR, .int .i64 vars, .int .i64 budget, .int .i64 most] w (SolvesQ w0 R (solveR rules vars budget most)) := by
  have HV := Aside0.mk (validRules_calls (c := cR) vars (hrd w S).2)
  have HS := Aside0.mk S
  cases hv : okRules rules vars
  · have HF : Aside0 (solveR rules vars budget most = ([], 0, 1)) := ⟨by simp [solveR, hv]⟩
    rw [hv] at HV
    clear S hrd hv
    go_enter Try.func11, Try.ntmps11
    go_wp2_with (((with_reducible refine gate_dst (N := 15) rfl ?_); refine goesF (f := 53) (args := #[.slice AR rules.length cR, .int .i64 vars]) rfl rfl rfl (by (try simp only [List.map_toArray, List.map_cons, List.map_nil]); rfl) (Enter.mk Try.func53 (by kernel_rfl) rfl) ?_; refine (HV.out).mono ?_; rintro e e1 ⟨rfl, hb⟩; refine ⟨_, rfl, ?_⟩; have HS2 := Aside0.mk (HS.out.below hb); clear hb))
    go_ret3
    rw [HF.out]
    exact ⟨_, rfl, HS2.out.nilS _ _⟩
  · obtain ⟨g1, g2, g3⟩ := okRules_good hv
    rw [hv] at HV
    have HB := Aside0.mk (isBudget_calls budget)
    have HM := Aside0.mk (within_calls most 1 100)
    cases hb : inB 1 5000 budget
    · have HF : Aside0 (solveR rules vars budget most = ([], 0, 1)) := ⟨by simp [solveR, hb]⟩
      rw [hb] at HB
      clear S hrd hv g1 g2 g3 hb
      go_enter Try.func11, Try.ntmps11
      go_wp2_with (first
        | ((with_reducible refine gate_dst (N := 15) rfl ?_); refine goesF (f := 53) (args := #[.slice AR rules.length cR, .int .i64 vars]) rfl rfl rfl (by (try simp only [List.map_toArray, List.map_cons, List.map_nil]); rfl) (Enter.mk Try.func53 (by kernel_rfl) rfl) ?_; refine (HV.out).mono ?_; rintro e e1 ⟨rfl, hb⟩; refine ⟨_, rfl, ?_⟩; have HS2 := Aside0.mk (HS.out.below hb); clear hb)
        | (go_at_call 54; refine (HB.out _).mono ?_; rintro e e1 ⟨rfl, rfl⟩))
      go_ret3
      rw [HF.out]
      exact ⟨_, rfl, HS2.out.nilS _ _⟩
    · rw [hb] at HB
      cases hm : inB 1 100 most
      · have HF : Aside0 (solveR rules vars budget most = ([], 0, 1)) := ⟨by simp [solveR, hm]⟩
        rw [hm] at HM
        clear S hrd hv g1 g2 g3 hb hm
        go_enter Try.func11, Try.ntmps11
        go_wp2_with (first
          | ((with_reducible refine gate_dst (N := 15) rfl ?_); refine goesF (f := 53) (args := #[.slice AR rules.length cR, .int .i64 vars]) rfl rfl rfl (by (try simp only [List.map_toArray, List.map_cons, List.map_nil]); rfl) (Enter.mk Try.func53 (by kernel_rfl) rfl) ?_; refine (HV.out).mono ?_; rintro e e1 ⟨rfl, hb⟩; refine ⟨_, rfl, ?_⟩; have HS2 := Aside0.mk (HS.out.below hb); clear hb)
          | (go_at_call 54; refine (HB.out _).mono ?_; rintro e e1 ⟨rfl, rfl⟩)
          | (go_at_call 55; refine (HM.out _).mono ?_; rintro e e1 ⟨rfl, rfl⟩))
        go_ret3
        rw [HF.out]
        exact ⟨_, rfl, HS2.out.nilS _ _⟩
      · rw [hm] at HM
        have hn : ((vars.toNat : Nat) : Int) = vars := by omega
        have HF : Aside0 (solveR rules vars budget most = solveOf budget (resL rules vars budget most)) := ⟨by simp [solveR, solveOf, hv, hb, hm]⟩
        have HC : Aside0 (∀ w', Sat w0 R w' → Calls Try.prog 56 #[.slice AR rules.length cR, .int .i64 vars, .int .i64 budget, .int .i64 most] w' (SolveQ w0 R AR cR rules vars.toNat budget most)) := ⟨fun w' S' => by
          have h := solve_calls (cR := cR) (most := most) g3 (by omega) (inB_iff hb) S' hrd.at_
          rwa [hn] at h⟩
        unfold SolveQ at HC
        unfold resL at HF
        generalize (cfgL rules vars.toNat budget most).all [] = r at *
        obtain ⟨go, steps, found⟩ := r
        dsimp only at HC
        clear S hrd hv g1 g2 g3 hb hn hm
        by_cases hsp : budget < steps
        · have hd : decide (budget < steps) = true := decide_eq_true hsp
          have HF2 : Aside0 (solveR rules vars budget most = ([], 0, 10)) := ⟨by rw [HF.out]; simp [solveOf, hsp]⟩
          clear HF
          go_enter Try.func11, Try.ntmps11
          go_wp2_with (first
            | ((with_reducible refine gate_dst (N := 15) rfl ?_); refine goesF (f := 53) (args := #[.slice AR rules.length cR, .int .i64 vars]) rfl rfl rfl (by (try simp only [List.map_toArray, List.map_cons, List.map_nil]); rfl) (Enter.mk Try.func53 (by kernel_rfl) rfl) ?_; refine (HV.out).mono ?_; rintro e e1 ⟨rfl, hb⟩; refine ⟨_, rfl, ?_⟩; have HS2 := Aside0.mk (HS.out.below hb); clear hb)
            | (go_at_call 54; refine (HB.out _).mono ?_; rintro e e1 ⟨rfl, rfl⟩)
            | (go_at_call 55; refine (HM.out _).mono ?_; rintro e e1 ⟨rfl, rfl⟩)
            | ((with_reducible refine gate_dst (N := 32) rfl ?_); refine goesF (f := 56) (args := #[.slice AR rules.length cR, .int .i64 vars, .int .i64 budget, .int .i64 most]) rfl rfl rfl (by (try simp only [List.map_toArray, List.map_cons, List.map_nil]); rfl) (Enter.mk Try.func56 (by kernel_rfl) rfl) ?_; refine (HC.out _ HS2.out).mono ?_; rintro e e1 ⟨vL, bx, gF, gT, capsF, capsT, rfl, S2, hf⟩; refine ⟨_, rfl, ?_⟩; have HS3 := Aside0.mk S2; clear S2 hf)
            | ((with_reducible refine gate_dst (N := 36) rfl ?_); refine goesF (f := 57) (args := #[.pointer (some ⟨bx, 0, none⟩)]) rfl rfl rfl (by (try simp only [List.map_toArray, List.map_cons, List.map_nil]); rfl) (Enter.mk Try.func57 (by kernel_rfl) rfl) ?_; refine (isSpent_calls 1 HS3.out rfl).mono ?_; rintro e e1 ⟨rfl, S3⟩; refine ⟨_, rfl, ?_⟩; have HS4 := Aside0.mk S3; clear S3))
          go_ret3
          rw [HF2.out]
          exact ⟨_, rfl, (HS4.out.tail.tail).nilS _ _⟩
        · have hd : decide (budget < steps) = false := decide_eq_false hsp
          have HF2 : Aside0 (solveR rules vars budget most = (found, steps, 0)) := ⟨by rw [HF.out]; simp [solveOf, hsp]⟩
          clear HF
          go_enter Try.func11, Try.ntmps11
          go_wp2_with (first
            | ((with_reducible refine gate_dst (N := 15) rfl ?_); refine goesF (f := 53) (args := #[.slice AR rules.length cR, .int .i64 vars]) rfl rfl rfl (by (try simp only [List.map_toArray, List.map_cons, List.map_nil]); rfl) (Enter.mk Try.func53 (by kernel_rfl) rfl) ?_; refine (HV.out).mono ?_; rintro e e1 ⟨rfl, hb⟩; refine ⟨_, rfl, ?_⟩; have HS2 := Aside0.mk (HS.out.below hb); clear hb)
            | (go_at_call 54; refine (HB.out _).mono ?_; rintro e e1 ⟨rfl, rfl⟩)
            | (go_at_call 55; refine (HM.out _).mono ?_; rintro e e1 ⟨rfl, rfl⟩)
            | ((with_reducible refine gate_dst (N := 32) rfl ?_); refine goesF (f := 56) (args := #[.slice AR rules.length cR, .int .i64 vars, .int .i64 budget, .int .i64 most]) rfl rfl rfl (by (try simp only [List.map_toArray, List.map_cons, List.map_nil]); rfl) (Enter.mk Try.func56 (by kernel_rfl) rfl) ?_; refine (HC.out _ HS2.out).mono ?_; rintro e e1 ⟨vL, bx, gF, gT, capsF, capsT, rfl, S2, hf⟩; refine ⟨_, rfl, ?_⟩; have HS3 := Aside0.mk S2; clear S2 hf)
            | ((with_reducible refine gate_dst (N := 36) rfl ?_); refine goesF (f := 57) (args := #[.pointer (some ⟨bx, 0, none⟩)]) rfl rfl rfl (by (try simp only [List.map_toArray, List.map_cons, List.map_nil]); rfl) (Enter.mk Try.func57 (by kernel_rfl) rfl) ?_; refine (isSpent_calls 1 HS3.out rfl).mono ?_; rintro e e1 ⟨rfl, S3⟩; refine ⟨_, rfl, ?_⟩; have HS4 := Aside0.mk S3; clear S3))
          obtain ⟨hx0, hx1, hx2, hx3, hx4⟩ := box5 (HS4.out.blk 1 rfl)
          go_quiet (fail)
          go_wp2
          go_ret3
          rw [HF2.out]
          exact ⟨vL, rfl, (HS4.out.swap.tail).drewN _⟩
end Go.Proofs.Ytmgmilnoeghgfaa
