import Derived.Test.YtmgmilnoeghgfaaB6
set_option linter.unusedVariables false
set_option linter.unusedSimpArgs false
namespace Go.Proofs.Ytmgmilnoeghgfaa
open Go.RowKit Go.Proofs.YtmgmilnoeghgfaaW.PrintWords Go.Proofs.YtmgmilnoeghgfaaW.PrintLast Go.Proofs.YtmgmilnoeghgfaaW.PrintMore Go.Proofs.Ytmgmilnoeghgfaa.PFnExactSolveRules

/-! ### The search, without Go -/
abbrev Node := Int × Int × Int × Int
def forceN (f : Frc) : Node := (2, f.1, f.2.1, f.2.2)
section
variable {σ : Type}
def tellF (tell : σ → Node → σ) (s : σ) (f : Frc) : σ := tell s (forceN f)
def searchR (rules : List Rule) (budget : Int) (fnd : σ → List Int → σ × Bool) (tell : σ → Node → σ) : Nat → Int → σ → List Int → Bool × Int × σ
  | 0, steps, s, _ => (true, steps, s)
  | d + 1, steps, s, vs =>
    if budget < steps + 1 then (false, steps + 1, s)
    else if 0 ≤ (propR rules (zeros vs + 1) vs []).1 then
      (true, steps + 1, tell ((propR rules (zeros vs + 1) vs []).2.2.foldl (tellF tell) s) (3, 0, 0, (propR rules (zeros vs + 1) vs []).1))
    else if idxOf (· == 0) (propR rules (zeros vs + 1) vs []).2.1 < 0 then
      ((fnd ((propR rules (zeros vs + 1) vs []).2.2.foldl (tellF tell) s) (propR rules (zeros vs + 1) vs []).2.1).2, steps + 1, (fnd ((propR rules (zeros vs + 1) vs []).2.2.foldl (tellF tell) s) (propR rules (zeros vs + 1) vs []).2.1).1)
    else
      if (searchR rules budget fnd tell d (steps + 1) (tell ((propR rules (zeros vs + 1) vs []).2.2.foldl (tellF tell) s) (1, idxOf (· == 0) (propR rules (zeros vs + 1) vs []).2.1, 0, 0)) ((propR rules (zeros vs + 1) vs []).2.1.set (idxOf (· == 0) (propR rules (zeros vs + 1) vs []).2.1).toNat 1)).1 = false then
        searchR rules budget fnd tell d (steps + 1) (tell ((propR rules (zeros vs + 1) vs []).2.2.foldl (tellF tell) s) (1, idxOf (· == 0) (propR rules (zeros vs + 1) vs []).2.1, 0, 0)) ((propR rules (zeros vs + 1) vs []).2.1.set (idxOf (· == 0) (propR rules (zeros vs + 1) vs []).2.1).toNat 1)
      else
        searchR rules budget fnd tell d (searchR rules budget fnd tell d (steps + 1) (tell ((propR rules (zeros vs + 1) vs []).2.2.foldl (tellF tell) s) (1, idxOf (· == 0) (propR rules (zeros vs + 1) vs []).2.1, 0, 0)) ((propR rules (zeros vs + 1) vs []).2.1.set (idxOf (· == 0) (propR rules (zeros vs + 1) vs []).2.1).toNat 1)).2.1
          (searchR rules budget fnd tell d (steps + 1) (tell ((propR rules (zeros vs + 1) vs []).2.2.foldl (tellF tell) s) (1, idxOf (· == 0) (propR rules (zeros vs + 1) vs []).2.1, 0, 0)) ((propR rules (zeros vs + 1) vs []).2.1.set (idxOf (· == 0) (propR rules (zeros vs + 1) vs []).2.1).toNat 1)).2.2
          ((propR rules (zeros vs + 1) vs []).2.1.set (idxOf (· == 0) (propR rules (zeros vs + 1) vs []).2.1).toNat (-1))
end
theorem idxOf_spec {xs : List Int} (h : ¬ idxOf (· == 0) xs < 0) : 0 ≤ idxOf (· == 0) xs ∧ idxOf (· == 0) xs < xs.length ∧ rd xs (idxOf (· == 0) xs) = 0 := by
  unfold idxOf at *
  cases ha : xs.any (· == 0)
  · simp [ha] at h
  · simp only [if_true] at *
    have hk : xs.findIdx (· == 0) < xs.length := by
      rw [List.findIdx_lt_length]
      simpa using ha
    have := List.findIdx_getElem (w := hk)
    refine ⟨by omega, by omega, ?_⟩
    rw [rd_at xs _ hk]
    simpa using this
/-- What propagation leaves. -/
theorem prop_vals {n : Nat} {rules : List Rule} (hok : ∀ r ∈ rules, OkRule r n) : ∀ (k : Nat) (vs : List Int) (st : List Frc), Vals n vs → Vals n (propR rules k vs st).2.1 ∧ zeros (propR rules k vs st).2.1 ≤ zeros vs
  | 0, vs, st, hv => ⟨hv, Nat.le_refl _⟩
  | k + 1, vs, st, hv => by
    rw [propR]
    obtain ⟨⟨b, us1, ch1, st1⟩, hpr⟩ : ∃ x, passR rules 0 vs false st = x := ⟨_, rfl⟩
    have hz := pass_zeros rules 0 vs false st hok hv hpr
    rw [hpr]
    cases b with
    | some i => exact ⟨hz.1, hz.2.1⟩
    | none =>
      cases ch1 with
      | false => exact ⟨hz.1, hz.2.1⟩
      | true =>
        have := prop_vals hok k us1 st1 hz.1
        exact ⟨this.1, by have := this.2; have := hz.2.1; simp only; omega⟩
theorem box5 {w : World} {b : Nat} {x0 x1 x2 x3 x4 : Value} {t : TypeId} {fr : Nat × Nat} (h : w.heap[b]? = some (.cells #[x0, x1, x2, x3, x4] t fr)) :
    w.cell? ⟨b, 0, none⟩ = some x0 ∧ w.cell? ⟨b, 1, none⟩ = some x1 ∧ w.cell? ⟨b, 2, none⟩ = some x2 ∧ w.cell? ⟨b, 3, none⟩ = some x3 ∧ w.cell? ⟨b, 4, none⟩ = some x4 := by
  simp [World.cell?, h]
theorem blk_free {w : World} {b i : Nat} {c : Array Value} {t : TypeId} (h : w.heap[b]? = some (.cells c t (0, 0))) : w.frozen? ⟨b, i, none⟩ = false := by
  simp [World.frozen?, h]

abbrev solB (AR : Option Addr) (len cR : Nat) (budget steps : Int) (gF gT : FuncId) (capsF capsT : Array Value) : Obj :=
  .cells #[.slice AR len cR, .int .i64 budget, .int .i64 steps, .func (.func gF) #[] capsF, .func (.func gT) #[] capsT] 83
abbrev nodeW (nd : Node) : Value := .agg #[.int .i64 nd.1, .int .i64 nd.2.1, .int .i64 nd.2.2.1, .int .i64 nd.2.2.2]
section
variable {σ : Type}
def TellsN (w0 : World) (Res : σ → HP) (tell : σ → Node → σ) (size : σ → Nat) (M : Nat) (gT : FuncId) (capsT : Array Value) : Prop :=
  ∀ (w : World) (s : σ) (nd : Node) (ps : List HP), size s < M → Sat w0 (Res s :: ps) w →
    Calls Try.prog gT (#[nodeW nd] ++ capsT) w fun e w' => e = .returned (.tuple #[]) ∧ Sat w0 (Res (tell s nd) :: ps) w'
def Founds (w0 : World) (Res : σ → HP) (fnd : σ → List Int → σ × Bool) (size : σ → Nat) (M : Nat) (gF : FuncId) (capsF : Array Value) : Prop :=
  ∀ (w : World) (s : σ) (v : Value) (vs : List Int) (ps : List HP), size s < M → Sat w0 (RwI v vs :: Res s :: ps) w →
    Calls Try.prog gF (#[v] ++ capsF) w fun e w' => e = .returned (.bool (fnd s vs).2) ∧ Sat w0 (Res (fnd s vs).1 :: ps) w'
set_option maxRecDepth 100000 in
set_option maxHeartbeats 2000000 in
theorem search1_calls {w0 w : World} {ps : List HP} {Res : σ → HP} {tell : σ → Node → σ} {size : σ → Nat} {M : Nat} {AR : Option Addr} {len cR : Nat} {budget steps : Int} {gF gT : FuncId} {capsF capsT : Array Value} {bb bx : Nat} {t : TypeId}
    (hT : TellsN w0 Res tell size M gT capsT) (hE : Enter Try.prog gT) (i j : Nat) (s : σ) (hs : size s < M) (S : Sat w0 (Res s :: ps) w) (hi : ps[i]? = some (Blk bb (.cells #[.pointer (some ⟨bx, 0, none⟩)] t))) (hj : ps[j]? = some (Blk bx (solB AR len cR budget steps gF gT capsF capsT))) (f : Frc) :
    Calls Try.prog 167 (#[.int .i64 f.1, .int .i64 f.2.1, .int .i64 f.2.2] ++ #[.pointer (some ⟨bb, 0, none⟩)]) w fun e w' => e = .returned (.tuple #[]) ∧ Sat w0 (Res (tellF tell s f) :: ps) w' := by
  have hb := box1 (S.tail.blk i hi)
  obtain ⟨hx0, hx1, hx2, hx3, hx4⟩ := box5 (S.tail.blk j hj)
  have HC := Aside0.mk (hT w s (forceN f) ps hs S)
  obtain ⟨v, x, q⟩ := f
  show Calls Try.prog 167 #[.int .i64 v, .int .i64 x, .int .i64 q, .pointer (some ⟨bb, 0, none⟩)] w _
  clear S hT
  go_enter Try.func167, Try.ntmps167
  go_wp2_with (((with_reducible refine gate_dst (N := 15) rfl ?_); refine goesV (t := 10) (args := #[nodeW (2, v, x, q)] ++ capsT) rfl rfl rfl rfl (by (try simp only [List.map_toArray, List.map_cons, List.map_nil]); rfl) hE ?_; refine (HC.out).mono ?_; rintro e e1 ⟨rfl, S2⟩; refine ⟨_, rfl, ?_⟩; have HS2 := Aside0.mk S2; clear S2))
  go_end0
  exact ⟨rfl, HS2.out⟩

structure Cfg (σ : Type) where
  rules : List Rule
  n : Nat
  budget : Int
  fnd : σ → List Int → σ × Bool
  tell : σ → Node → σ
  size : σ → Nat
  M : Nat
structure Cfg.Ok (C : Cfg σ) : Prop where
  rule : ∀ r ∈ C.rules, OkRule r C.n
  small : C.n ≤ 200
  bud : 1 ≤ C.budget ∧ C.budget ≤ 5000
  tsz : ∀ s nd, C.size (C.tell s nd) ≤ C.size s + 1
  fsz : ∀ s vs, C.size (C.fnd s vs).1 ≤ C.size s + 1
/-- There is room for what is still to be told. -/
def Cfg.Room (C : Cfg σ) (steps : Int) (s : σ) : Prop := (C.size s : Int) + 202 * (C.budget + 1 - steps) ≤ C.M
abbrev Cfg.search (C : Cfg σ) (d : Nat) (steps : Int) (s : σ) (vs : List Int) : Bool × Int × σ := searchR C.rules C.budget C.fnd C.tell d steps s vs

abbrev litB : Obj := .cells #[.int .i64 1, .int .i64 (-1)] 2
abbrev ptrB (bx : Nat) : Obj := .cells #[.pointer (some ⟨bx, 0, none⟩)] 76
/-- Where the search goes on, its steps are within the budget, and there is room. -/
def Cfg.Fine (C : Cfg σ) (r : Bool × Int × σ) : Prop := r.1 = true → (0 ≤ r.2.1 ∧ r.2.1 ≤ C.budget) ∧ C.Room r.2.1 r.2.2
def SearchOk (w0 : World) (C : Cfg σ) (Res : σ → HP) (gF gT : FuncId) (capsF capsT : Array Value) (AR : Option Addr) (cR bx : Nat) (sh : Nat → Sh) (d : Nat) : Prop :=
  ∀ (w : World) (R : List HP) (A : Option Addr) (c : Nat) (vs : List Int) (steps : Int) (s : σ),
    Sat w0 (RwI (.slice A C.n c) vs :: Blk bx (solB AR C.rules.length cR C.budget steps gF gT capsF capsT) :: Res s :: R) w → ReadsRules w0 R AR C.rules sh → Vals C.n vs → zeros vs < d → 0 ≤ steps ∧ steps ≤ C.budget → C.Room steps s →
    Calls Try.prog 143 #[.pointer (some ⟨bx, 0, none⟩), .slice A C.n c] w fun e w' => e = .returned (.bool (C.search d steps s vs).1) ∧
      Sat w0 (Blk bx (solB AR C.rules.length cR C.budget (C.search d steps s vs).2.1 gF gT capsF capsT) :: Res (C.search d steps s vs).2.2 :: R) w' ∧
      C.Fine (C.search d steps s vs)
theorem room_fold (C : Cfg σ) (hok : C.Ok) : ∀ (st : List Frc) (s : σ), C.size (st.foldl (tellF C.tell) s) ≤ C.size s + st.length
  | [], s => by simp
  | f :: st, s => by
    have h1 := room_fold C hok st (tellF C.tell s f)
    have h2 := hok.tsz s (forceN f)
    simp only [List.foldl_cons, List.length_cons]
    unfold tellF at *
    omega
theorem clone_calls' {w0 w : World} {R : List HP} (S : Sat w0 R w) (A : Option Addr) (n c : Nat) (xs : List Int) (hr : (Kd.int .i64).C w A n xs) (hl : n * 8 ≤ 140737488355328) :
    Calls Try.prog 120 #[.slice A n c] w fun e w' => ∃ v, e = .returned v ∧ Sat w0 (RwI v xs :: R) w' := by
  obtain rfl := Kd.C_len hr
  exact clone_calls S A c xs hr hl
theorem index0_calls' (A : Option Addr) (n c : Nat) (xs : List Int) (w : World) (hr : (Kd.int .i64).C w A n xs) :
    Calls Try.prog 168 #[.slice A n c, .int .i64 0] w fun e w' => e = .returned (.int .i64 (idxOf (· == 0) xs)) ∧ w = w' := by
  obtain rfl := Kd.C_len hr
  exact index0_calls A c xs w hr
theorem Sat.readsN {w0 w : World} {ps : List HP} (S : Sat w0 ps w) (i : Nat) {A : Option Addr} {n c : Nat} {xs : List Int} (hp : ps[i]? = some (RwI (.slice A n c) xs)) : (Kd.int .i64).C w A n xs := by
  have h := S.readsAt i hp
  have := h.2.2
  rw [← h.1] at this
  exact this
/-- Two pieces lie in different blocks. -/
theorem Sat.ne_blk {w0 w : World} {ps : List HP} (S : Sat w0 ps w) (i j : Nat) (hij : i ≠ j) {g n c b : Nat} {xs : List Int} {o : Obj} (hp : ps[i]? = some (RwI (.slice (some ⟨g, 0, none⟩) n c) xs)) (hq : ps[j]? = some (Blk b o)) : ¬ g = b ∧ ¬ b = g := by
  obtain ⟨_, ok, hl, _, hd⟩ := S
  have h1 : ok i g := ((hl i _ hp).now : (Kd.int .i64).R 2 w 0 (ok i) _ xs).1 g rfl
  have h2 : ok j b := ((hl j _ hq).now : Blk b o w (ok j)).1
  exact ⟨fun e => hij (hd i j g h1 (e ▸ h2)), fun e => hij (hd i j g h1 (e ▸ h2))⟩
theorem search_unfold (C : Cfg σ) (d : Nat) (steps : Int) (s : σ) (vs : List Int) {bad : Int} {us : List Int} {st : List Frc} (hb : ¬ C.budget < steps + 1) (hp : propR C.rules (zeros vs + 1) vs [] = (bad, us, st)) :
    C.search (d + 1) steps s vs = if 0 ≤ bad then (true, steps + 1, C.tell (st.foldl (tellF C.tell) s) (3, 0, 0, bad))
      else if idxOf (· == 0) us < 0 then ((C.fnd (st.foldl (tellF C.tell) s) us).2, steps + 1, (C.fnd (st.foldl (tellF C.tell) s) us).1)
      else if (C.search d (steps + 1) (C.tell (st.foldl (tellF C.tell) s) (1, idxOf (· == 0) us, 0, 0)) (us.set (idxOf (· == 0) us).toNat 1)).1 = false then C.search d (steps + 1) (C.tell (st.foldl (tellF C.tell) s) (1, idxOf (· == 0) us, 0, 0)) (us.set (idxOf (· == 0) us).toNat 1)
      else C.search d (C.search d (steps + 1) (C.tell (st.foldl (tellF C.tell) s) (1, idxOf (· == 0) us, 0, 0)) (us.set (idxOf (· == 0) us).toNat 1)).2.1 (C.search d (steps + 1) (C.tell (st.foldl (tellF C.tell) s) (1, idxOf (· == 0) us, 0, 0)) (us.set (idxOf (· == 0) us).toNat 1)).2.2 (us.set (idxOf (· == 0) us).toNat (-1)) := by
  simp only [Cfg.search]
  rw [searchR, if_neg hb, hp]
set_option maxRecDepth 100000 in
set_option maxHeartbeats 8000000 in
theorem search_step {w0 : World} {C : Cfg σ} {Res : σ → HP} {gF gT : FuncId} {capsF capsT : Array Value} {AR : Option Addr} {cR bx : Nat} {sh : Nat → Sh} (hok : C.Ok) (hT : TellsN w0 Res C.tell C.size C.M gT capsT) (hF : Founds w0 Res C.fnd C.size C.M gF capsF) (hEF : Enter Try.prog gF) (hET : Enter Try.prog gT)
    (d : Nat) (ih : SearchOk w0 C Res gF gT capsF capsT AR cR bx sh d) : SearchOk w0 C Res gF gT capsF capsT AR cR bx sh (d + 1) := by
  intro w R A c vs steps s S hrd hv hzd hst hroom
  have hr5 := hok.bud
  have hsa := hst.1
  have hsb := hst.2
  have hba := hr5.1
  have hbb := hr5.2
  obtain ⟨hx0, hx1, hx2, hx3, hx4⟩ := box5 (S.blk 1 rfl)
  have hfx := fun i => blk_free (i := i) (S.blk 1 rfl)
  have hf2 := hfx 2
  clear hfx
  have HS1 : Aside0 (Sat w0 (Blk w.heap.size (.cells #[.pointer (some ⟨bx, 0, none⟩)] 76) :: RwI (.slice A C.n c) vs :: Blk bx (solB AR C.rules.length cR C.budget (steps + 1) gF gT capsF capsT) :: Res s :: R) ((w.setCell ⟨bx, 2, none⟩ (.int .i64 (steps + 1))).alloc (.cells #[.pointer (some ⟨bx, 0, none⟩)] 76))) :=
    ⟨by simpa using (S.setCell 1 rfl 2 (.int .i64 (steps + 1))).alloc (.cells #[.pointer (some ⟨bx, 0, none⟩)] 76)⟩
  have hbl : bx < w.heap.size := lt_of_block (S.blk 1 rfl)
  have HIH := Aside0.mk ih
  have HOK := Aside0.mk hok
  have HT := Aside0.mk hT
  have HF := Aside0.mk hF
  have HRD := Aside0.mk hrd
  have HV := Aside0.mk hv
  have HZD := Aside0.mk hzd
  have HRM := Aside0.mk hroom
  clear S ih hok hT hF hrd hv hzd hroom hst hr5
  by_cases hover : C.budget < steps + 1
  · have hd : decide (C.budget < steps + 1) = true := decide_eq_true hover
    have HFIN : Aside0 (C.search (d + 1) steps s vs = (false, steps + 1, s)) := ⟨by simp only [Cfg.search, searchR]; rw [if_pos hover]⟩
    rw [HFIN.out]
    clear hover
    go_enter Try.func143, Try.ntmps143
    go_wp2
    go_quiet (fail)
    go_wp2
    go_ret
    exact ⟨rfl, (HS1.out.drewN nq).tail.tail, fun h => by simp at h⟩
  · have hd : decide (C.budget < steps + 1) = false := decide_eq_false hover
    obtain ⟨⟨bad, us, st⟩, hp0⟩ : ∃ x, propR C.rules (zeros vs + 1) vs [] = x := ⟨_, rfl⟩
    have hun := search_unfold C d steps s vs hover hp0
    have hpv := prop_vals HOK.out.rule (zeros vs + 1) vs [] HV.out
    rw [hp0] at hpv
    have HPV := Aside0.mk hpv
    have HP0 := Aside0.mk hp0
    have hz2 : zeros vs ≤ 200 := by
      have h1 : zeros vs ≤ vs.length := List.countP_le_length
      have h2 := HV.out.len
      have h3 := HOK.out.small
      omega
    have HM1 : Aside0 (C.size s + zeros vs ≤ C.M) := ⟨by have h := HRM.out; unfold Cfg.Room at h; omega⟩
    have HZ2 := Aside0.mk hz2
    have HOV : Aside0 (steps + 1 ≤ C.budget) := ⟨by omega⟩
    clear hpv hp0 hz2 hover
    by_cases hbad : 0 ≤ bad
    · have hd2 : decide (0 ≤ bad) = true := decide_eq_true hbad
      rw [if_pos hbad] at hun
      rw [hun]
      clear hun hbad
      go_enter Try.func143, Try.ntmps143
      go_wp2
      go_quiet (fail)
      go_wp2_with (first
        | ((with_reducible refine gate_dst (N := 32) rfl ?_); refine goesF (f := 166) (args := #[.slice AR C.rules.length cR, .slice A C.n c, .func (.func 167) #[] #[.pointer (some ⟨w.heap.size, 0, none⟩)]]) rfl rfl rfl (by (try simp only [List.map_toArray, List.map_cons, List.map_nil]); rfl) (Enter.mk Try.func166 (by kernel_rfl) rfl) ?_; refine (propagate_calls Res (tellF C.tell) C.size C.M 167 _ s (((HS1.out.drewN nq).front 3 rfl).front 2 rfl) ((HRD.out.cons _).cons _) HOK.out.rule HV.out (Enter.mk Try.func167 (by kernel_rfl) rfl) (fun w s v vs f hs S => search1_calls HT.out hET 1 2 s hs S rfl rfl f) (fun s f => HOK.out.tsz s (forceN f)) HM1.out (zeros vs + 1) (Nat.lt_succ_self _)).mono ?_; rintro e e1 ⟨bad2, us2, st2, hp2, rfl, S5, hsz5⟩; refine ⟨_, rfl, ?_⟩; cases HP0.out.symm.trans hp2; clear hp2; have HZ5 := Aside0.mk hsz5; clear hsz5; have HS5 := Aside0.mk S5; clear S5; have hb5 := box1 (HS5.out.blk 2 rfl); obtain ⟨hy0, hy1, hy2, hy3, hy4⟩ := box5 (HS5.out.blk 3 rfl))
        | ((with_reducible refine gate_dst (N := 41) rfl ?_); refine goesV (t := 38) (args := #[nodeW (3, 0, 0, bad)] ++ capsT) rfl rfl rfl rfl (by (try simp only [List.map_toArray, List.map_cons, List.map_nil]); rfl) hET ?_; refine (HT.out _ _ (3, 0, 0, bad) _ (by have h := HRM.out; have h2 := HZ5.out; have h3 := HZ2.out; unfold Cfg.Room at h; omega) HS5.out.swap).mono ?_; rintro e e1 ⟨rfl, S6⟩; refine ⟨_, rfl, ?_⟩; have HS6 := Aside0.mk S6; clear S6))
      go_ret
      refine ⟨rfl, ((HS6.out.swap.tail).swap.tail).swap, fun _ => ⟨⟨show (0 : Int) ≤ steps + 1 by omega, HOV.out⟩, ?_⟩⟩
      have h := HRM.out
      have h2 := HZ5.out
      have h3 := HZ2.out
      have h4 := HOK.out.tsz (st.foldl (tellF C.tell) s) (3, 0, 0, bad)
      show C.Room (steps + 1) (C.tell (st.foldl (tellF C.tell) s) (3, 0, 0, bad))
      unfold Cfg.Room at *
      omega
    · have hd2 : decide (0 ≤ bad) = false := decide_eq_false hbad
      rw [if_neg hbad] at hun
      clear hbad
      by_cases hix : idxOf (· == 0) us < 0
      · have hd3 : decide (idxOf (· == 0) us < 0) = true := decide_eq_true hix
        rw [if_pos hix] at hun
        rw [hun]
        clear hun hix
        go_enter Try.func143, Try.ntmps143
        go_wp2
        go_quiet (fail)
        go_wp2_with (first
          | ((with_reducible refine gate_dst (N := 32) rfl ?_); refine goesF (f := 166) (args := #[.slice AR C.rules.length cR, .slice A C.n c, .func (.func 167) #[] #[.pointer (some ⟨w.heap.size, 0, none⟩)]]) rfl rfl rfl (by (try simp only [List.map_toArray, List.map_cons, List.map_nil]); rfl) (Enter.mk Try.func166 (by kernel_rfl) rfl) ?_; refine (propagate_calls Res (tellF C.tell) C.size C.M 167 _ s (((HS1.out.drewN nq).front 3 rfl).front 2 rfl) ((HRD.out.cons _).cons _) HOK.out.rule HV.out (Enter.mk Try.func167 (by kernel_rfl) rfl) (fun w s v vs f hs S => search1_calls HT.out hET 1 2 s hs S rfl rfl f) (fun s f => HOK.out.tsz s (forceN f)) HM1.out (zeros vs + 1) (Nat.lt_succ_self _)).mono ?_; rintro e e1 ⟨bad2, us2, st2, hp2, rfl, S5, hsz5⟩; refine ⟨_, rfl, ?_⟩; cases HP0.out.symm.trans hp2; clear hp2; have HZ5 := Aside0.mk hsz5; clear hsz5; have HS5 := Aside0.mk S5; clear S5; have hb5 := box1 (HS5.out.blk 2 rfl); obtain ⟨hy0, hy1, hy2, hy3, hy4⟩ := box5 (HS5.out.blk 3 rfl))
          | ((with_reducible refine gate_dst (N := 43) rfl ?_); refine goesF (f := 168) (args := #[.slice A C.n c, .int .i64 0]) rfl rfl rfl (by (try simp only [List.map_toArray, List.map_cons, List.map_nil]); rfl) (Enter.mk Try.func168 (by kernel_rfl) rfl) ?_; refine (index0_calls' A C.n c us _ (HS5.out.readsN 0 rfl)).mono ?_; rintro e e1 ⟨rfl, rfl⟩; refine ⟨_, rfl, ?_⟩)
          | ((with_reducible refine gate_dst (N := 51) rfl ?_); refine goesV (t := 49) (args := #[.slice A C.n c] ++ capsF) rfl rfl rfl rfl (by (try simp only [List.map_toArray, List.map_cons, List.map_nil]); rfl) hEF ?_; refine (HF.out _ _ _ _ _ (by have h := HRM.out; have h2 := HZ5.out; have h3 := HZ2.out; unfold Cfg.Room at h; omega) HS5.out).mono ?_; rintro e e1 ⟨rfl, S6⟩; refine ⟨_, rfl, ?_⟩; have HS6 := Aside0.mk S6; clear S6))
        go_ret
        refine ⟨rfl, (HS6.out.swap.tail).swap, fun _ => ⟨⟨show (0 : Int) ≤ steps + 1 by omega, HOV.out⟩, ?_⟩⟩
        have h := HRM.out
        have h2 := HZ5.out
        have h3 := HZ2.out
        have h4 := HOK.out.fsz (st.foldl (tellF C.tell) s) us
        show C.Room (steps + 1) (C.fnd (st.foldl (tellF C.tell) s) us).1
        unfold Cfg.Room at *
        omega
      · have hd3 : decide (idxOf (· == 0) us < 0) = false := decide_eq_false hix
        rw [if_neg hix] at hun
        have hsp := idxOf_spec hix
        clear hix
        obtain ⟨ix, hixe⟩ : ∃ ix, ix = idxOf (· == 0) us := ⟨_, rfl⟩
        rw [← hixe] at hd3 hun hsp
        have HIX := Aside0.mk hixe
        clear hixe
        have hi0 := hsp.1
        have HIZ := Aside0.mk hsp.2
        clear hsp
        go_enter Try.func143, Try.ntmps143
        go_wp2
        go_quiet (fail)
        go_wp2_with (first
          | ((with_reducible refine gate_dst (N := 32) rfl ?_); refine goesF (f := 166) (args := #[.slice AR C.rules.length cR, .slice A C.n c, .func (.func 167) #[] #[.pointer (some ⟨w.heap.size, 0, none⟩)]]) rfl rfl rfl (by (try simp only [List.map_toArray, List.map_cons, List.map_nil]); rfl) (Enter.mk Try.func166 (by kernel_rfl) rfl) ?_; refine (propagate_calls Res (tellF C.tell) C.size C.M 167 _ s (((HS1.out.drewN nq).front 3 rfl).front 2 rfl) ((HRD.out.cons _).cons _) HOK.out.rule HV.out (Enter.mk Try.func167 (by kernel_rfl) rfl) (fun w s v vs f hs S => search1_calls HT.out hET 1 2 s hs S rfl rfl f) (fun s f => HOK.out.tsz s (forceN f)) HM1.out (zeros vs + 1) (Nat.lt_succ_self _)).mono ?_; rintro e e1 ⟨bad2, us2, st2, hp2, rfl, S5, hsz5⟩; refine ⟨_, rfl, ?_⟩; cases HP0.out.symm.trans hp2; clear hp2; have HZ5 := Aside0.mk hsz5; clear hsz5; have HS5 := Aside0.mk S5; clear S5; have hb5 := box1 (HS5.out.blk 2 rfl); obtain ⟨hy0, hy1, hy2, hy3, hy4⟩ := box5 (HS5.out.blk 3 rfl))
          | ((with_reducible refine gate_dst (N := 43) rfl ?_); refine goesF (f := 168) (args := #[.slice A C.n c, .int .i64 0]) rfl rfl rfl (by (try simp only [List.map_toArray, List.map_cons, List.map_nil]); rfl) (Enter.mk Try.func168 (by kernel_rfl) rfl) ?_; refine (index0_calls' A C.n c us _ (HS5.out.readsN 0 rfl)).mono ?_; rintro e e1 ⟨rfl, rfl⟩; refine ⟨_, rfl, ?_⟩; rw [← HIX.out])
          | ((with_reducible refine gate_dst (N := 58) rfl ?_); refine goesV (t := 55) (args := #[nodeW (1, ix, 0, 0)] ++ capsT) rfl rfl rfl rfl (by (try simp only [List.map_toArray, List.map_cons, List.map_nil]); rfl) hET ?_; refine (HT.out _ _ (1, ix, 0, 0) _ (by have h := HRM.out; have h2 := HZ5.out; have h3 := HZ2.out; unfold Cfg.Room at h; omega) HS5.out.swap).mono ?_; rintro e e1 ⟨rfl, S6⟩; refine ⟨_, rfl, ?_⟩; have HS6 := Aside0.mk S6; clear S6))
        have HS7 := Aside0.mk ((((HS6.out.front 3 rfl).front 3 rfl).front 3 rfl).alloc litB)
        clear HS6
        generalize e1.heap.size = b4 at *
        have hixn : ix < (C.n : Int) := by have h1 := HIZ.out.1; have h2 := HPV.out.1.len; omega
        have HVU := Aside0.mk HPV.out.1
        have HZU : Aside0 (zeros us < d + 1) := ⟨by have := HPV.out.2; have := HZD.out; omega⟩
        have HR2 : Aside0 (C.Room (steps + 1) (C.tell (st.foldl (tellF C.tell) s) (1, ix, 0, 0))) := ⟨by
          have h := HRM.out
          have h2 := HZ5.out
          have h3 := HZ2.out
          have h4 := HOK.out.tsz (st.foldl (tellF C.tell) s) (1, ix, 0, 0)
          unfold Cfg.Room at *
          omega⟩
        clear hb5 hy0 hy1 hy2 hy3 hy4 HS5
        obtain ⟨s2, hs2⟩ : ∃ s2, s2 = C.tell (st.foldl (tellF C.tell) s) (1, ix, 0, 0) := ⟨_, rfl⟩
        rw [← hs2] at hun HR2 HS7
        clear hs2
        have HUN := Aside0.mk hun
        clear hun
        go_loopw [8, 9, 61] (fun _ _ v61 wr => ∃ (k : Nat) (t : Int) (q : σ), k ≤ 2 ∧ v61 = .int .i64 k ∧
          Aside0 ((k = 0 → t = steps + 1 ∧ q = s2) ∧ (k = 1 → C.search d (steps + 1) s2 (us.set ix.toNat 1) = (true, t, q)) ∧ (k = 2 → C.search (d + 1) steps s vs = (true, t, q))) ∧
          Aside0 ((0 ≤ t ∧ t ≤ C.budget) ∧ C.Room t q) ∧
          Aside0 (Sat w0 (Blk b4 litB :: RwI (.slice A C.n c) us :: Blk w.heap.size (ptrB bx) :: Blk bx (solB AR C.rules.length cR C.budget t gF gT capsF capsT) :: Res q :: R) wr)) (fun _ _ v61 _ => 2 - (intOf v61).toNat)
        case atStart => exact ⟨0, steps + 1, s2, by omega, rfl, ⟨fun _ => ⟨rfl, rfl⟩, fun h => by omega, fun h => by omega⟩, ⟨⟨by omega, HOV.out⟩, HR2.out⟩, HS7⟩
        case round =>
        clear HS7
        obtain ⟨k, t, q, hk, rfl, HST, HTB, HS⟩ := hrel
        obtain ⟨hl0, hl1⟩ := box2 (HS.out.blk 0 rfl)
        by_cases hlt : k < 2
        · rcases (show k = 0 ∨ k = 1 by omega) with rfl | rfl
          · have hst0 := HST.out.1 rfl
            obtain ⟨rfl, rfl⟩ := hst0
            obtain ⟨r, hr⟩ : ∃ r, r = C.search d (steps + 1) q (us.set ix.toNat 1) := ⟨_, rfl⟩
            have HNO : Aside0 (r.1 = false → C.search (d + 1) steps s vs = r) := ⟨fun h => by rw [HUN.out, ← hr, if_pos h]⟩
            have HYES : Aside0 (r.1 = true → C.search d (steps + 1) q (us.set ix.toNat 1) = (true, r.2.1, r.2.2)) := ⟨fun h => by rw [← hr, ← h]⟩
            have HRE := Aside0.mk hr
            have HZN : Aside0 (zeros (us.set ix.toNat (1)) < d) := ⟨by
              have h := zeros_set (vs := us) (k := ix.toNat) (x := 1) (by have := HIZ.out.1; omega) (by have h2 := HIZ.out.2; have h1 := HIZ.out.1; rw [show ix = ((ix.toNat : Nat) : Int) by omega, rd_at us ix.toNat (by omega)] at h2; exact h2) (by decide)
              have := HZU.out
              omega⟩
            clear hr
            cases h1 : r.1
            · have HFW := Aside0.mk (HNO.out h1)
              clear HNO HYES HUN
              have HR1 := Aside0.mk h1
              clear h1
              go_wp2_with (first
              | ((with_reducible refine gate_dst (N := 66) rfl ?_); refine goesF (f := 120) (args := #[.slice A C.n c]) rfl rfl rfl (by (try simp only [List.map_toArray, List.map_cons, List.map_nil]); rfl) (Enter.mk Try.func120 (by kernel_rfl) rfl) ?_; refine (clone_calls' HS.out A C.n c us (HS.out.readsN 1 rfl) (by have := HVU.out.len; have := HOK.out.small; omega)).mono ?_; rintro e e1 ⟨v9, rfl, S8⟩; refine ⟨_, rfl, ?_⟩; obtain ⟨A9, c9, rfl, hle9, hC9⟩ := S8.reads 0 rfl; rw [HVU.out.len] at S8; obtain ⟨g9, hg9, hx9, hf9, hl9⟩ := S8.intAt 0 rfl ix hi0 HIZ.out.1; cases hg9; obtain ⟨hne1, hne2⟩ := S8.ne_blk 0 3 (by decide) rfl rfl; have hb9 := box1 (S8.blk 3 rfl); have HS9 := Aside0.mk (((((S8.store 0 rfl ix.toNat (1)).front 5 rfl).front 5 rfl).front 2 rfl)); clear S8 hle9 hC9; rw [HVU.out.len])
              | ((with_reducible refine gate_dst (N := 73) rfl ?_); refine goesF (f := 143) (args := #[.pointer (some ⟨bx, 0, none⟩), .slice (some ⟨g9, 0, none⟩) C.n c9]) rfl rfl rfl (by (try simp only [List.map_toArray, List.map_cons, List.map_nil]); rfl) (Enter.mk Try.func143 (by kernel_rfl) rfl) ?_; refine (HIH.out _ _ _ c9 (us.set ix.toNat (1)) (steps + 1) q HS9.out (((HRD.out.cons _).cons _).cons _) (HVU.out.set ix.toNat (by simp [unit3])) HZN.out HTB.out.1 HTB.out.2).mono ?_; rintro e e1 ⟨rfl, S11, hfine⟩; refine ⟨_, rfl, ?_⟩; rw [← HRE.out, HR1.out]; rw [← HRE.out] at S11 hfine; have HS11 := Aside0.mk S11; have HFI := Aside0.mk hfine; clear S11 hfine))
              go_ret
              rw [HFW.out]
              exact ⟨by rw [HR1.out]; rfl, ((HS11.out.front 2 rfl).tail.front 2 rfl).tail.front 2 rfl |>.tail, HFI.out⟩
            · have HST2 : Aside0 (((1 : Nat) = 0 → r.2.1 = steps + 1 ∧ r.2.2 = q) ∧ ((1 : Nat) = 1 → C.search d (steps + 1) q (us.set ix.toNat 1) = (true, r.2.1, r.2.2)) ∧ ((1 : Nat) = 2 → C.search (d + 1) steps s vs = (true, r.2.1, r.2.2))) := ⟨⟨fun h => by omega, fun _ => HYES.out h1, fun h => by omega⟩⟩
              clear HNO HYES
              have HR1 := Aside0.mk h1
              clear h1
              go_wp2_with (first
              | ((with_reducible refine gate_dst (N := 66) rfl ?_); refine goesF (f := 120) (args := #[.slice A C.n c]) rfl rfl rfl (by (try simp only [List.map_toArray, List.map_cons, List.map_nil]); rfl) (Enter.mk Try.func120 (by kernel_rfl) rfl) ?_; refine (clone_calls' HS.out A C.n c us (HS.out.readsN 1 rfl) (by have := HVU.out.len; have := HOK.out.small; omega)).mono ?_; rintro e e1 ⟨v9, rfl, S8⟩; refine ⟨_, rfl, ?_⟩; obtain ⟨A9, c9, rfl, hle9, hC9⟩ := S8.reads 0 rfl; rw [HVU.out.len] at S8; obtain ⟨g9, hg9, hx9, hf9, hl9⟩ := S8.intAt 0 rfl ix hi0 HIZ.out.1; cases hg9; obtain ⟨hne1, hne2⟩ := S8.ne_blk 0 3 (by decide) rfl rfl; have hb9 := box1 (S8.blk 3 rfl); have HS9 := Aside0.mk (((((S8.store 0 rfl ix.toNat (1)).front 5 rfl).front 5 rfl).front 2 rfl)); clear S8 hle9 hC9; rw [HVU.out.len])
              | ((with_reducible refine gate_dst (N := 73) rfl ?_); refine goesF (f := 143) (args := #[.pointer (some ⟨bx, 0, none⟩), .slice (some ⟨g9, 0, none⟩) C.n c9]) rfl rfl rfl (by (try simp only [List.map_toArray, List.map_cons, List.map_nil]); rfl) (Enter.mk Try.func143 (by kernel_rfl) rfl) ?_; refine (HIH.out _ _ _ c9 (us.set ix.toNat (1)) (steps + 1) q HS9.out (((HRD.out.cons _).cons _).cons _) (HVU.out.set ix.toNat (by simp [unit3])) HZN.out HTB.out.1 HTB.out.2).mono ?_; rintro e e1 ⟨rfl, S11, hfine⟩; refine ⟨_, rfl, ?_⟩; rw [← HRE.out, HR1.out]; rw [← HRE.out] at S11 hfine; have HS11 := Aside0.mk S11; have HFI := Aside0.mk hfine; clear S11 hfine))
              exact ⟨⟨1, r.2.1, r.2.2, by omega, by go_num, HST2, ⟨HFI.out HR1.out⟩, ⟨((HS11.out.front 4 rfl).front 4 rfl).front 4 rfl⟩⟩, by simp [intOf]⟩
          · have hst0 := HST.out.2.1 rfl
            obtain ⟨r, hr⟩ : ∃ r, r = C.search d t q (us.set ix.toNat (-1)) := ⟨_, rfl⟩
            have hun2 := HUN.out
            rw [hst0] at hun2
            simp only [Bool.true_eq_false, if_false] at hun2
            have HNO : Aside0 (r.1 = false → C.search (d + 1) steps s vs = r) := ⟨fun h => by rw [hun2, ← hr]⟩
            have HYES : Aside0 (r.1 = true → C.search (d + 1) steps s vs = (true, r.2.1, r.2.2)) := ⟨fun h => by rw [hun2, ← hr, ← h]⟩
            clear hst0 hun2
            have HRE := Aside0.mk hr
            have HZN : Aside0 (zeros (us.set ix.toNat (-1)) < d) := ⟨by
              have h := zeros_set (vs := us) (k := ix.toNat) (x := -1) (by have := HIZ.out.1; omega) (by have h2 := HIZ.out.2; have h1 := HIZ.out.1; rw [show ix = ((ix.toNat : Nat) : Int) by omega, rd_at us ix.toNat (by omega)] at h2; exact h2) (by decide)
              have := HZU.out
              omega⟩
            clear hr
            cases h1 : r.1
            · have HFW := Aside0.mk (HNO.out h1)
              clear HNO HYES HUN
              have HR1 := Aside0.mk h1
              clear h1
              go_wp2_with (first
              | ((with_reducible refine gate_dst (N := 66) rfl ?_); refine goesF (f := 120) (args := #[.slice A C.n c]) rfl rfl rfl (by (try simp only [List.map_toArray, List.map_cons, List.map_nil]); rfl) (Enter.mk Try.func120 (by kernel_rfl) rfl) ?_; refine (clone_calls' HS.out A C.n c us (HS.out.readsN 1 rfl) (by have := HVU.out.len; have := HOK.out.small; omega)).mono ?_; rintro e e1 ⟨v9, rfl, S8⟩; refine ⟨_, rfl, ?_⟩; obtain ⟨A9, c9, rfl, hle9, hC9⟩ := S8.reads 0 rfl; rw [HVU.out.len] at S8; obtain ⟨g9, hg9, hx9, hf9, hl9⟩ := S8.intAt 0 rfl ix hi0 HIZ.out.1; cases hg9; obtain ⟨hne1, hne2⟩ := S8.ne_blk 0 3 (by decide) rfl rfl; have hb9 := box1 (S8.blk 3 rfl); have HS9 := Aside0.mk (((((S8.store 0 rfl ix.toNat (-1)).front 5 rfl).front 5 rfl).front 2 rfl)); clear S8 hle9 hC9; rw [HVU.out.len])
              | ((with_reducible refine gate_dst (N := 73) rfl ?_); refine goesF (f := 143) (args := #[.pointer (some ⟨bx, 0, none⟩), .slice (some ⟨g9, 0, none⟩) C.n c9]) rfl rfl rfl (by (try simp only [List.map_toArray, List.map_cons, List.map_nil]); rfl) (Enter.mk Try.func143 (by kernel_rfl) rfl) ?_; refine (HIH.out _ _ _ c9 (us.set ix.toNat (-1)) t q HS9.out (((HRD.out.cons _).cons _).cons _) (HVU.out.set ix.toNat (by simp [unit3])) HZN.out HTB.out.1 HTB.out.2).mono ?_; rintro e e1 ⟨rfl, S11, hfine⟩; refine ⟨_, rfl, ?_⟩; rw [← HRE.out, HR1.out]; rw [← HRE.out] at S11 hfine; have HS11 := Aside0.mk S11; have HFI := Aside0.mk hfine; clear S11 hfine))
              go_ret
              rw [HFW.out]
              exact ⟨by rw [HR1.out]; rfl, ((HS11.out.front 2 rfl).tail.front 2 rfl).tail.front 2 rfl |>.tail, HFI.out⟩
            · have HST2 : Aside0 (((2 : Nat) = 0 → r.2.1 = steps + 1 ∧ r.2.2 = s2) ∧ ((2 : Nat) = 1 → C.search d (steps + 1) s2 (us.set ix.toNat 1) = (true, r.2.1, r.2.2)) ∧ ((2 : Nat) = 2 → C.search (d + 1) steps s vs = (true, r.2.1, r.2.2))) := ⟨⟨fun h => by omega, fun h => by omega, fun _ => HYES.out h1⟩⟩
              clear HNO HYES
              have HR1 := Aside0.mk h1
              clear h1
              go_wp2_with (first
              | ((with_reducible refine gate_dst (N := 66) rfl ?_); refine goesF (f := 120) (args := #[.slice A C.n c]) rfl rfl rfl (by (try simp only [List.map_toArray, List.map_cons, List.map_nil]); rfl) (Enter.mk Try.func120 (by kernel_rfl) rfl) ?_; refine (clone_calls' HS.out A C.n c us (HS.out.readsN 1 rfl) (by have := HVU.out.len; have := HOK.out.small; omega)).mono ?_; rintro e e1 ⟨v9, rfl, S8⟩; refine ⟨_, rfl, ?_⟩; obtain ⟨A9, c9, rfl, hle9, hC9⟩ := S8.reads 0 rfl; rw [HVU.out.len] at S8; obtain ⟨g9, hg9, hx9, hf9, hl9⟩ := S8.intAt 0 rfl ix hi0 HIZ.out.1; cases hg9; obtain ⟨hne1, hne2⟩ := S8.ne_blk 0 3 (by decide) rfl rfl; have hb9 := box1 (S8.blk 3 rfl); have HS9 := Aside0.mk (((((S8.store 0 rfl ix.toNat (-1)).front 5 rfl).front 5 rfl).front 2 rfl)); clear S8 hle9 hC9; rw [HVU.out.len])
              | ((with_reducible refine gate_dst (N := 73) rfl ?_); refine goesF (f := 143) (args := #[.pointer (some ⟨bx, 0, none⟩), .slice (some ⟨g9, 0, none⟩) C.n c9]) rfl rfl rfl (by (try simp only [List.map_toArray, List.map_cons, List.map_nil]); rfl) (Enter.mk Try.func143 (by kernel_rfl) rfl) ?_; refine (HIH.out _ _ _ c9 (us.set ix.toNat (-1)) t q HS9.out (((HRD.out.cons _).cons _).cons _) (HVU.out.set ix.toNat (by simp [unit3])) HZN.out HTB.out.1 HTB.out.2).mono ?_; rintro e e1 ⟨rfl, S11, hfine⟩; refine ⟨_, rfl, ?_⟩; rw [← HRE.out, HR1.out]; rw [← HRE.out] at S11 hfine; have HS11 := Aside0.mk S11; have HFI := Aside0.mk hfine; clear S11 hfine))
              exact ⟨⟨2, r.2.1, r.2.2, by omega, by go_num, HST2, ⟨HFI.out HR1.out⟩, ⟨((HS11.out.front 4 rfl).front 4 rfl).front 4 rfl⟩⟩, by simp [intOf]⟩
        · obtain rfl : k = 2 := by omega
          have HFW := Aside0.mk (HST.out.2.2 rfl)
          go_wp2
          go_ret
          rw [HFW.out]
          exact ⟨rfl, HS.out.tail.tail.tail, fun _ => HTB.out⟩
end
end Go.Proofs.Ytmgmilnoeghgfaa
