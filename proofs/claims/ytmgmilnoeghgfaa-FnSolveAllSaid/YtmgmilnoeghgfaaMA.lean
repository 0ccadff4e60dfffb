import Derived.Test.YtmgmilnoeghgfaaQs
import Derived.Test.YtmgmilnoeghgfaaMS
import Derived.Lib.SliceRun
set_option linter.unusedVariables false
set_option linter.unusedSimpArgs false
namespace Go.Proofs.Ytmgmilnoeghgfaa
open Go.RowKit Go.Proofs.YtmgmilnoeghgfaaW.PrintWords Go.Proofs.YtmgmilnoeghgfaaW.PrintLast Go.Proofs.YtmgmilnoeghgfaaW.PrintMore Go.Proofs.Ytmgmilnoeghgfaa.PFnExactSolveRules

abbrev Rule := S71
abbrev kRule : Kd Rule := k71

theorem rd_at (xs : List Int) (k : Nat) (h : k < xs.length) : rd xs k = xs[k] := by simp [rd, List.getD_eq_getElem?_getD, List.getElem?_eq_getElem h]
/-- The first place at which p holds, or -1. -/
def idxOf {α : Type} (p : α → Bool) (xs : List α) : Int := if xs.any p then (xs.findIdx p : Int) else -1
theorem idxOf_none {α : Type} (p : α → Bool) (xs : List α) (h : ∀ j, ∀ hj : j < xs.length, p xs[j] = false) : idxOf p xs = -1 := by
  have : xs.any p = false := by
    rw [List.any_eq_false]
    intro x hx
    obtain ⟨j, hj, rfl⟩ := List.getElem_of_mem hx
    simp [h j hj]
  simp [idxOf, this]
theorem idxOf_at {α : Type} (p : α → Bool) (xs : List α) (k : Nat) (hk : k < xs.length) (h : ∀ j, ∀ hj : j < xs.length, j < k → p xs[j] = false) (hp : p xs[k] = true) : idxOf p xs = k := by
  have h1 : xs.any p = true := List.any_eq_true.2 ⟨xs[k], List.getElem_mem hk, hp⟩
  have h2 : xs.findIdx p = k := by
    rw [List.findIdx_eq hk]
    exact ⟨hp, fun j hj => h j (by omega) hj⟩
  simp [idxOf, h1, h2]
theorem idxOf_ge {α : Type} (p : α → Bool) (xs : List α) : decide (0 ≤ idxOf p xs) = xs.any p := by
  unfold idxOf
  cases xs.any p <;> simp
def AllNo {α : Type} (p : α → Bool) (xs : List α) (k : Nat) : Prop := ∀ j, ∀ hj : j < xs.length, j < k → p xs[j] = false
theorem AllNo.step {α : Type} {p : α → Bool} {xs : List α} {k : Nat} (h : AllNo p xs k) (hk : k < xs.length) (hp : p xs[k] = false) : AllNo p xs (k + 1) := by
  intro j hj h1
  by_cases e : j = k
  · subst e; exact hp
  · exact h j hj (by omega)
theorem ret_num {a b : Int} (h : a = b) : Ending.returned (.int .i64 a) = .returned (.int .i64 b) := by rw [h]
theorem ret_bool {a b : Bool} (h : a = b) : Ending.returned (.bool a) = .returned (.bool b) := by rw [h]

theorem isUnit_calls (x : Int) (w : World) : Calls Try.prog 107 #[.int .i64 x] w fun e w' => e = .returned (.bool (x == 1 || x == -1)) ∧ w = w' := by
  by_cases h1 : x = 1
  · subst h1
    go_enter Try.func107, Try.ntmps107
    go_wp2
    go_ret
    exact ⟨rfl, rfl⟩
  · have h1' : (x == 1) = false := by simpa using h1
    go_enter Try.func107, Try.ntmps107
    go_wp2
    go_ret
    exact ⟨by rw [h1']; rfl, rfl⟩

theorem areUnits1_calls (x : Int) (w : World) : Calls Try.prog 106 #[.int .i64 x] w fun e w' => e = .returned (.bool (!(x == 1 || x == -1))) ∧ w = w' := by
  have h0 := isUnit_calls x w
  generalize (x == 1 || x == -1) = b at *
  go_enter Try.func106, Try.ntmps106
  go_wp2_with (((with_reducible refine gate_dst (N := 4) rfl ?_); refine goesF (f := 107) (args := #[.int .i64 x]) rfl rfl rfl (by (try simp only [List.map_toArray, List.map_cons, List.map_nil]); rfl) (Enter.mk Try.func107 (by kernel_rfl) rfl) ?_; refine (h0).mono ?_; rintro e e1 ⟨rfl, rfl⟩; refine ⟨_, rfl, ?_⟩))
  go_ret
  exact ⟨rfl, rfl⟩

/-- What a callback does to the world: nothing, or new blocks alone. -/
structure Mild (Q : World → World → Prop) : Prop where
  refl : ∀ w, Q w w
  trans : ∀ {a b c}, Q a b → Q b c → Q a c
  below : ∀ {w w'}, Q w w' → Below w.heap.size w w'
theorem Mild.eq : Mild (fun w w' => w = w') := ⟨fun _ => rfl, fun h k => h.trans k, fun h => h ▸ Below.refl _ _⟩
theorem Mild.new : Mild (fun w w' => Below w.heap.size w w') := ⟨fun _ => Below.refl _ _, fun h k => below_then h h.size k, fun h => h⟩

theorem indexFunc_calls {Q : World → World → Prop} (hQ : Mild Q) (g : FuncId) (caps : Array Value) (p : Int → Bool) (A : Option Addr) (c : Nat) (xs : List Int) (w : World)
    (hr : (Kd.int .i64).C w A xs.length xs)
    (hE : Enter Try.prog g) (hcl : ∀ (x : Int) (w' : World), x ∈ xs → Q w w' → Calls Try.prog g (#[.int .i64 x] ++ caps) w' fun e w'' => e = .returned (.bool (p x)) ∧ Q w' w'') :
    Calls Try.prog 145 #[.slice A xs.length c, .func (.func g) #[] caps] w fun e w' => e = .returned (.int .i64 (idxOf p xs)) ∧ Q w w' := by
  have HR := Aside0.mk hr
  have HCL := Aside0.mk hcl
  have HQ := Aside0.mk hQ
  have hm := Kd.C_max hr
  clear hr hcl hQ
  go_enter Try.func145, Try.ntmps145
  go_wp2
  go_loopw [5, 8] (fun v5 v8 wr => ∃ k : Nat, k ≤ xs.length ∧ v8 = .int .i64 k ∧ Aside0 (AllNo p xs k) ∧ Aside0 (Q w wr)) (fun _ v8 _ => xs.length - (intOf v8).toNat)
  case atStart => exact ⟨0, Nat.zero_le _, rfl, ⟨fun j hj h => by omega⟩, ⟨HQ.out.refl _⟩⟩
  case round =>
    obtain ⟨k, hk, rfl, HP, HB⟩ := hrel
    by_cases hlt : k < xs.length
    · obtain ⟨ad, e1, hx⟩ := Kd.at_int (Kd.C_below HR.out (HQ.out.below HB.out)) (k : Int) (by omega) (by omega)
      cases e1
      simp only [Int.toNat_natCast] at hx
      rw [rd_at xs k hlt] at hx
      have HCALL := Aside0.mk (HCL.out xs[k] wr (List.getElem_mem hlt) HB.out)
      generalize hx0 : xs[k] = x at *
      have HX0 := Aside0.mk hx0
      clear hx0
      cases hpx : p x
      · go_wp2_with (((with_reducible refine gate_dst (N := 16) rfl ?_); refine goesV (t := 11) (args := #[.int .i64 x] ++ caps) rfl rfl rfl rfl (by (try simp only [List.map_toArray, List.map_cons, List.map_nil]); rfl) hE ?_; refine (HCALL.out).mono ?_; rintro e e1 ⟨rfl, hb⟩; refine ⟨_, rfl, ?_⟩; rw [hpx]; replace hb := Aside0.mk hb))
        exact ⟨⟨k + 1, by omega, by go_num, ⟨HP.out.step hlt (by rw [HX0.out]; exact hpx)⟩, ⟨HQ.out.trans HB.out hb.out⟩⟩, by simp [intOf]; omega⟩
      · go_wp2_with (((with_reducible refine gate_dst (N := 16) rfl ?_); refine goesV (t := 11) (args := #[.int .i64 x] ++ caps) rfl rfl rfl rfl (by (try simp only [List.map_toArray, List.map_cons, List.map_nil]); rfl) hE ?_; refine (HCALL.out).mono ?_; rintro e e1 ⟨rfl, hb⟩; refine ⟨_, rfl, ?_⟩; rw [hpx]; replace hb := Aside0.mk hb))
        go_ret
        exact ⟨ret_num (idxOf_at p xs k hlt HP.out (by rw [HX0.out]; exact hpx)).symm, HQ.out.trans HB.out hb.out⟩
    · go_wp2
      go_ret
      exact ⟨ret_num (idxOf_none p xs (fun j hj => HP.out j hj (by omega))).symm, HB.out⟩

theorem containsFunc_calls {Q : World → World → Prop} (hQ : Mild Q) (g : FuncId) (caps : Array Value) (p : Int → Bool) (A : Option Addr) (c : Nat) (xs : List Int) (w : World)
    (hr : (Kd.int .i64).C w A xs.length xs)
    (hE : Enter Try.prog g) (hcl : ∀ (x : Int) (w' : World), x ∈ xs → Q w w' → Calls Try.prog g (#[.int .i64 x] ++ caps) w' fun e w'' => e = .returned (.bool (p x)) ∧ Q w' w'') :
    Calls Try.prog 105 #[.slice A xs.length c, .func (.func g) #[] caps] w fun e w' => e = .returned (.bool (xs.any p)) ∧ Q w w' := by
  have h0 := Aside0.mk (indexFunc_calls hQ g caps p A c xs w hr hE hcl)
  have h1 := Aside0.mk (idxOf_ge p xs)
  clear hr hE hcl hQ
  generalize idxOf p xs = i at *
  go_enter Try.func105, Try.ntmps105
  go_wp2_with (((with_reducible refine gate_dst (N := 7) rfl ?_); refine goesF (f := 145) (args := #[.slice A xs.length c, .func (.func g) #[] caps]) rfl rfl rfl (by (try simp only [List.map_toArray, List.map_cons, List.map_nil]); rfl) (Enter.mk Try.func145 (by kernel_rfl) rfl) ?_; refine (h0.out).mono ?_; rintro e e1 ⟨rfl, hb⟩; refine ⟨_, rfl, ?_⟩; replace hb := Aside0.mk hb))
  go_ret
  exact ⟨ret_bool h1.out, hb.out⟩

theorem areUnits_calls (A : Option Addr) (c : Nat) (xs : List Int) (w : World) (hr : (Kd.int .i64).C w A xs.length xs) :
    Calls Try.prog 63 #[.slice A xs.length c] w fun e w' => e = .returned (.bool (xs.all fun x => x == 1 || x == -1)) ∧ w = w' := by
  have h0 := Aside0.mk (containsFunc_calls Mild.eq 106 #[] (fun x => !(x == 1 || x == -1)) A c xs w hr (Enter.mk Try.func106 (by kernel_rfl) rfl) (fun x w' _ _ => areUnits1_calls x w'))
  clear hr
  have h1 : (!xs.any (fun x => !(x == 1 || x == -1))) = xs.all fun x => x == 1 || x == -1 := by rw [List.all_eq_not_any_not]
  generalize (xs.all fun x => x == 1 || x == -1) = b at *
  generalize xs.any (fun x => !(x == 1 || x == -1)) = b' at *
  go_enter Try.func63, Try.ntmps63
  go_wp2_with (((with_reducible refine gate_dst (N := 4) rfl ?_); refine goesF (f := 105) (args := #[.slice A xs.length c, .func (.func 106) #[] #[]]) rfl rfl rfl (by (try simp only [List.map_toArray, List.map_cons, List.map_nil]); rfl) (Enter.mk Try.func105 (by kernel_rfl) rfl) ?_; refine (h0.out).mono ?_; rintro e e1 ⟨rfl, rfl⟩; refine ⟨_, rfl, ?_⟩))
  go_ret
  exact ⟨rfl, rfl⟩

def inB (lo hi x : Int) : Bool := decide (lo ≤ x) && decide (x ≤ hi)
theorem within_calls (x lo hi : Int) (w : World) : Calls Try.prog 55 #[.int .i64 x, .int .i64 lo, .int .i64 hi] w fun e w' => e = .returned (.bool (inB lo hi x)) ∧ w = w' := by
  unfold inB
  by_cases h : lo ≤ x
  · have h1 : decide (lo ≤ x) = true := decide_eq_true h
    go_enter Try.func55, Try.ntmps55
    go_wp2
    go_ret
    exact ⟨ret_bool (by rw [h1, Bool.true_and]), rfl⟩
  · have h1 : decide (lo ≤ x) = false := decide_eq_false h
    clear h
    go_enter Try.func55, Try.ntmps55
    go_wp2
    go_ret
    exact ⟨ret_bool (by rw [h1, Bool.false_and]), rfl⟩
theorem l00In_calls (x lo hi : Int) (w : World) : Calls Try.prog 80 #[.int .i64 x, .int .i64 lo, .int .i64 hi] w fun e w' => e = .returned (.bool (inB lo hi x)) ∧ w = w' := by
  unfold inB
  by_cases h : lo ≤ x
  · have h1 : decide (lo ≤ x) = true := decide_eq_true h
    go_enter Try.func80, Try.ntmps80
    go_wp2
    go_ret
    exact ⟨ret_bool (by rw [h1, Bool.true_and]), rfl⟩
  · have h1 : decide (lo ≤ x) = false := decide_eq_false h
    clear h
    go_enter Try.func80, Try.ntmps80
    go_wp2
    go_ret
    exact ⟨ret_bool (by rw [h1, Bool.false_and]), rfl⟩

/-- Strictly increasing, within bounds. -/
def stepOk (lo hi : Int) (xs : List Int) (i : Nat) : Bool := inB lo hi (rd xs i) && (i == 0 || decide (rd xs (i - 1 : Nat) < rd xs i))
def rises (lo hi : Int) (xs : List Int) : Bool := (List.range xs.length).all (stepOk lo hi xs)
def AllOk (p : Nat → Bool) (k : Nat) : Prop := ∀ j, j < k → p j = true
theorem AllOk.step {p : Nat → Bool} {k : Nat} (h : AllOk p k) (hp : p k = true) : AllOk p (k + 1) := fun j hj => if e : j = k then e ▸ hp else h j (by omega)
theorem AllOk.all {p : Nat → Bool} {n k : Nat} (h : AllOk p k) (hk : n ≤ k) : (List.range n).all p = true := by
  rw [List.all_eq_true]
  intro x hx
  exact h x (by have := List.mem_range.1 hx; omega)
theorem not_all {p : Nat → Bool} {n k : Nat} (hk : k < n) (hp : p k = false) : (List.range n).all p = false := by
  rw [List.all_eq_false]
  exact ⟨k, List.mem_range.2 hk, by simp [hp]⟩
theorem isRising_calls (A : Option Addr) (c : Nat) (xs : List Int) (lo hi : Int) (w : World) (hr : (Kd.int .i64).C w A xs.length xs) :
    Calls Try.prog 142 #[.slice A xs.length c, .int .i64 lo, .int .i64 hi] w fun e w' => e = .returned (.bool (rises lo hi xs)) ∧ w = w' := by
  have HR := Aside0.mk hr
  have hm := Kd.C_max hr
  clear hr
  go_enter Try.func142, Try.ntmps142
  go_wp2
  go_loop [7, 8, 11] (fun v7 v8 v11 => ∃ k : Nat, k ≤ xs.length ∧ v11 = .int .i64 k ∧ Aside0 (AllOk (stepOk lo hi xs) k)) (fun _ _ v11 => xs.length - (intOf v11).toNat)
  case atStart => exact ⟨0, Nat.zero_le _, rfl, ⟨fun j hj => by omega⟩⟩
  case round =>
    obtain ⟨k, hk, rfl, HP⟩ := hrel
    by_cases hlt : k < xs.length
    · obtain ⟨ad, e1, hx⟩ := Kd.at_int HR.out (k : Int) (by omega) (by omega)
      cases e1
      simp only [Int.toNat_natCast] at hx
      have HW := Aside0.mk (within_calls (rd xs k) lo hi w)
      cases h1 : inB lo hi (rd xs k)
      · have HBAD : Aside0 (stepOk lo hi xs k = false) := ⟨by simp [stepOk, h1]⟩
        generalize rd xs k = x at *
        rw [h1] at HW
        clear h1
        go_wp2_with (((with_reducible refine gate_dst (N := 19) rfl ?_); refine goesF (f := 55) (args := #[.int .i64 x, .int .i64 lo, .int .i64 hi]) rfl rfl rfl (by (try simp only [List.map_toArray, List.map_cons, List.map_nil]); rfl) (Enter.mk Try.func55 (by kernel_rfl) rfl) ?_; refine (HW.out).mono ?_; rintro e e1 ⟨rfl, rfl⟩; refine ⟨_, rfl, ?_⟩))
        go_ret
        exact ⟨ret_bool (not_all hlt HBAD.out).symm, rfl⟩
      · by_cases hk0 : k = 0
        · have HOK : Aside0 (stepOk lo hi xs k = true) := ⟨by rw [stepOk, h1, hk0]; rfl⟩
          generalize rd xs k = x at *
          rw [h1] at HW
          clear h1
          subst hk0
          rw [show ad.add 0 = ad from by simp [Addr.add]] at hx
          go_wp2_with (((with_reducible refine gate_dst (N := 19) rfl ?_); refine goesF (f := 55) (args := #[.int .i64 x, .int .i64 lo, .int .i64 hi]) rfl rfl rfl (by (try simp only [List.map_toArray, List.map_cons, List.map_nil]); rfl) (Enter.mk Try.func55 (by kernel_rfl) rfl) ?_; refine (HW.out).mono ?_; rintro e e1 ⟨rfl, rfl⟩; refine ⟨_, rfl, ?_⟩))
          exact ⟨⟨1, by omega, by go_num, ⟨HP.out.step HOK.out⟩⟩, by simp [intOf]; omega⟩
        · obtain ⟨ad2, e2, hy⟩ := Kd.at_int HR.out ((k - 1 : Nat) : Int) (by omega) (by omega)
          cases e2
          simp only [Int.toNat_natCast] at hy
          have hpos : 0 < k := by omega
          have hd : decide (0 < k) = true := decide_eq_true hpos
          have hge : (0 : Int) ≤ (k : Int) - 1 := by omega
          have hlt2 : (k : Int) - 1 < xs.length := by omega
          by_cases hlt3 : rd xs (k - 1 : Nat) < rd xs k
          · have HOK : Aside0 (stepOk lo hi xs k = true) := ⟨by simp [stepOk, h1, hlt3]⟩
            have hd3 : decide (rd xs k ≤ rd xs (k - 1 : Nat)) = false := decide_eq_false (by omega)
            generalize rd xs (k - 1 : Nat) = y at *
            generalize rd xs k = x at *
            rw [h1] at HW
            clear h1 hk0 hlt3
            go_wp2_with (((with_reducible refine gate_dst (N := 19) rfl ?_); refine goesF (f := 55) (args := #[.int .i64 x, .int .i64 lo, .int .i64 hi]) rfl rfl rfl (by (try simp only [List.map_toArray, List.map_cons, List.map_nil]); rfl) (Enter.mk Try.func55 (by kernel_rfl) rfl) ?_; refine (HW.out).mono ?_; rintro e e1 ⟨rfl, rfl⟩; refine ⟨_, rfl, ?_⟩))
            exact ⟨⟨k + 1, by omega, by go_num, ⟨HP.out.step HOK.out⟩⟩, by simp [intOf]; omega⟩
          · have HBAD : Aside0 (stepOk lo hi xs k = false) := ⟨by simp [stepOk, h1, hlt3, hk0]⟩
            have hd3 : decide (rd xs k ≤ rd xs (k - 1 : Nat)) = true := decide_eq_true (by omega)
            generalize rd xs (k - 1 : Nat) = y at *
            generalize rd xs k = x at *
            rw [h1] at HW
            clear h1 hk0 hlt3
            go_wp2_with (((with_reducible refine gate_dst (N := 19) rfl ?_); refine goesF (f := 55) (args := #[.int .i64 x, .int .i64 lo, .int .i64 hi]) rfl rfl rfl (by (try simp only [List.map_toArray, List.map_cons, List.map_nil]); rfl) (Enter.mk Try.func55 (by kernel_rfl) rfl) ?_; refine (HW.out).mono ?_; rintro e e1 ⟨rfl, rfl⟩; refine ⟨_, rfl, ?_⟩))
            go_ret
            exact ⟨ret_bool (not_all hlt HBAD.out).symm, rfl⟩
    · go_wp2
      go_ret
      exact ⟨ret_bool (HP.out.all (by omega)).symm, rfl⟩
end Go.Proofs.Ytmgmilnoeghgfaa

set_option linter.unusedVariables false
set_option linter.unusedSimpArgs false
namespace Go.Proofs.Ytmgmilnoeghgfaa
open Go.RowKit Go.Proofs.YtmgmilnoeghgfaaW.PrintWords Go.Proofs.YtmgmilnoeghgfaaW.PrintLast Go.Proofs.YtmgmilnoeghgfaaW.PrintMore Go.Proofs.Ytmgmilnoeghgfaa.PFnExactSolveRules

/-- The value of a rule as it lies in cells. -/
theorem rule_open {w : World} {A : Option Addr} {n : Nat} {xs : List Rule} (h : kRule.C w A n xs) (k : Nat) (hk : k < xs.length) :
    ∃ ad A1 c1 A2 c2, A = some ad ∧ w.cell? (ad.add (k * 3)) = some (.int .i64 xs[k].f0) ∧ w.cell? ⟨(ad.add (k * 3)).block, (ad.add (k * 3)).off + 1, none⟩ = some (.slice A1 xs[k].f1.length c1) ∧
      w.cell? ⟨(ad.add (k * 3)).block, (ad.add (k * 3)).off + 2, none⟩ = some (.slice A2 xs[k].f2.length c2) ∧ (Kd.int .i64).C w A1 xs[k].f1.length xs[k].f1 ∧ (Kd.int .i64).C w A2 xs[k].f2.length xs[k].f2 := by
  have hn : xs.length = n := h.1
  obtain ⟨ad, A1, c1, A2, c2, e, h0, h1, h2, l1, g1, l2, g2⟩ := at_T71 h (k : Int) (by omega) (by omega)
  have hr : rd_T71 xs (k : Int) = xs[k] := by simp [rd_T71, List.getD_eq_getElem?_getD, List.getElem?_eq_getElem hk]
  rw [hr] at h0 h1 h2 g1 g2
  simp only [Int.toNat_natCast] at h0 h1 h2
  exact ⟨ad, A1, c1, A2, c2, e, h0, h1, h2, g1, g2⟩
/-- A callback on rules. -/
def RuleCall (Q : World → World → Prop) (g : FuncId) (caps : Array Value) (p : Rule → Bool) (xs : List Rule) (w : World) : Prop :=
  ∀ (x : Rule) (A1 A2 : Option Addr) (c1 c2 : Nat) (w' : World), x ∈ xs → Q w w' → (Kd.int .i64).C w' A1 x.f1.length x.f1 → (Kd.int .i64).C w' A2 x.f2.length x.f2 →
    Calls Try.prog g (#[.agg #[.int .i64 x.f0, .slice A1 x.f1.length c1, .slice A2 x.f2.length c2]] ++ caps) w' fun e w'' => e = .returned (.bool (p x)) ∧ Q w' w''
theorem indexRule_calls {Q : World → World → Prop} (hQ : Mild Q) (g : FuncId) (caps : Array Value) (p : Rule → Bool) (A : Option Addr) (c : Nat) (xs : List Rule) (w : World)
    (hr : kRule.C w A xs.length xs) (hE : Enter Try.prog g) (hcl : RuleCall Q g caps p xs w) :
    Calls Try.prog 108 #[.slice A xs.length c, .func (.func g) #[] caps] w fun e w' => e = .returned (.int .i64 (idxOf p xs)) ∧ Q w w' := by
  have HR := Aside0.mk hr
  have HCL := Aside0.mk hcl
  have HQ := Aside0.mk hQ
  have hm := Kd.C_max hr
  clear hr hcl hQ
  go_enter Try.func108, Try.ntmps108
  go_wp2
  go_loopw [5, 8] (fun v5 v8 wr => ∃ k : Nat, k ≤ xs.length ∧ v8 = .int .i64 k ∧ Aside0 (AllNo p xs k) ∧ Aside0 (Q w wr)) (fun _ v8 _ => xs.length - (intOf v8).toNat)
  case atStart => exact ⟨0, Nat.zero_le _, rfl, ⟨fun j hj h => by omega⟩, ⟨HQ.out.refl _⟩⟩
  case round =>
    obtain ⟨k, hk, rfl, HP, HB⟩ := hrel
    by_cases hlt : k < xs.length
    · obtain ⟨ad, A1, c1, A2, c2, e1, hx0, hx1, hx2, hg1, hg2⟩ := rule_open (Kd.C_below HR.out (HQ.out.below HB.out)) k hlt
      cases e1
      have HCALL := Aside0.mk (HCL.out xs[k] A1 A2 c1 c2 wr (List.getElem_mem hlt) HB.out hg1 hg2)
      clear hg1 hg2
      generalize hxk : xs[k] = x at *
      have HX0 := Aside0.mk hxk
      clear hxk
      cases hpx : p x
      · go_wp2_with (((with_reducible refine gate_dst (N := 16) rfl ?_); refine goesV (t := 11) (args := #[.agg #[.int .i64 x.f0, .slice A1 x.f1.length c1, .slice A2 x.f2.length c2]] ++ caps) rfl rfl rfl rfl (by (try simp only [List.map_toArray, List.map_cons, List.map_nil]); rfl) hE ?_; refine (HCALL.out).mono ?_; rintro e e1 ⟨rfl, hb⟩; refine ⟨_, rfl, ?_⟩; rw [hpx]; replace hb := Aside0.mk hb))
        exact ⟨⟨k + 1, by omega, by go_num, ⟨HP.out.step hlt (by rw [HX0.out]; exact hpx)⟩, ⟨HQ.out.trans HB.out hb.out⟩⟩, by simp [intOf]; omega⟩
      · go_wp2_with (((with_reducible refine gate_dst (N := 16) rfl ?_); refine goesV (t := 11) (args := #[.agg #[.int .i64 x.f0, .slice A1 x.f1.length c1, .slice A2 x.f2.length c2]] ++ caps) rfl rfl rfl rfl (by (try simp only [List.map_toArray, List.map_cons, List.map_nil]); rfl) hE ?_; refine (HCALL.out).mono ?_; rintro e e1 ⟨rfl, hb⟩; refine ⟨_, rfl, ?_⟩; rw [hpx]; replace hb := Aside0.mk hb))
        go_ret
        exact ⟨ret_num (idxOf_at p xs k hlt HP.out (by rw [HX0.out]; exact hpx)).symm, HQ.out.trans HB.out hb.out⟩
    · go_wp2
      go_ret
      exact ⟨ret_num (idxOf_none p xs (fun j hj => HP.out j hj (by omega))).symm, HB.out⟩
theorem containsRule_calls {Q : World → World → Prop} (hQ : Mild Q) (g : FuncId) (caps : Array Value) (p : Rule → Bool) (A : Option Addr) (c : Nat) (xs : List Rule) (w : World)
    (hr : kRule.C w A xs.length xs) (hE : Enter Try.prog g) (hcl : RuleCall Q g caps p xs w) :
    Calls Try.prog 64 #[.slice A xs.length c, .func (.func g) #[] caps] w fun e w' => e = .returned (.bool (xs.any p)) ∧ Q w w' := by
  have h0 := Aside0.mk (indexRule_calls hQ g caps p A c xs w hr hE hcl)
  have h1 := Aside0.mk (idxOf_ge p xs)
  clear hr hE hcl hQ
  generalize idxOf p xs = i at *
  go_enter Try.func64, Try.ntmps64
  go_wp2_with (((with_reducible refine gate_dst (N := 7) rfl ?_); refine goesF (f := 108) (args := #[.slice A xs.length c, .func (.func g) #[] caps]) rfl rfl rfl (by (try simp only [List.map_toArray, List.map_cons, List.map_nil]); rfl) (Enter.mk Try.func108 (by kernel_rfl) rfl) ?_; refine (h0.out).mono ?_; rintro e e1 ⟨rfl, hb⟩; refine ⟨_, rfl, ?_⟩; replace hb := Aside0.mk hb))
  go_ret
  exact ⟨ret_bool h1.out, hb.out⟩
end Go.Proofs.Ytmgmilnoeghgfaa

set_option linter.unusedVariables false
set_option linter.unusedSimpArgs false
namespace Go.Proofs.Ytmgmilnoeghgfaa
open Go.RowKit Go.Proofs.YtmgmilnoeghgfaaW.PrintWords Go.Proofs.YtmgmilnoeghgfaaW.PrintLast Go.Proofs.YtmgmilnoeghgfaaW.PrintMore Go.Proofs.Ytmgmilnoeghgfaa.PFnExactSolveRules

theorem l16Open_calls (A : Option Addr) (c : Nat) (xs : List Int) (w : World) (hr : (Kd.int .i64).C w A xs.length xs) :
    Calls Try.prog 125 #[.slice A xs.length c] w fun e w' => e = .returned (.int .i64 (idxOf (· == 0) xs)) ∧ w = w' := by
  have HR := Aside0.mk hr
  have hm := Kd.C_max hr
  clear hr
  go_enter Try.func125, Try.ntmps125
  go_wp2
  go_loop [3] (fun v3 => ∃ k : Nat, k ≤ xs.length ∧ v3 = .int .i64 k ∧ Aside0 (AllNo (· == 0) xs k)) (fun v3 => xs.length - (intOf v3).toNat)
  case atStart => exact ⟨0, Nat.zero_le _, rfl, ⟨fun j hj h => by omega⟩⟩
  case round =>
    obtain ⟨k, hk, rfl, HP⟩ := hrel
    by_cases hlt : k < xs.length
    · obtain ⟨ad, e1, hx⟩ := Kd.at_int HR.out (k : Int) (by omega) (by omega)
      cases e1
      simp only [Int.toNat_natCast] at hx
      rw [rd_at xs k hlt] at hx
      generalize hx0 : xs[k] = x at *
      have HX0 := Aside0.mk hx0
      clear hx0
      cases hpx : (x == 0)
      · go_wp2
        exact ⟨⟨k + 1, by omega, by go_num, ⟨HP.out.step hlt (by rw [HX0.out]; exact hpx)⟩⟩, by simp [intOf]; omega⟩
      · go_wp2
        go_ret
        exact ⟨ret_num (idxOf_at (· == 0) xs k hlt HP.out (by rw [HX0.out]; exact hpx)).symm, rfl⟩
    · go_wp2
      go_ret
      exact ⟨ret_num (idxOf_none (· == 0) xs (fun j hj => HP.out j hj (by omega))).symm, rfl⟩

theorem index0_calls (A : Option Addr) (c : Nat) (xs : List Int) (w : World) (hr : (Kd.int .i64).C w A xs.length xs) :
    Calls Try.prog 168 #[.slice A xs.length c, .int .i64 0] w fun e w' => e = .returned (.int .i64 (idxOf (· == 0) xs)) ∧ w = w' := by
  have HR := Aside0.mk hr
  have hm := Kd.C_max hr
  clear hr
  go_enter Try.func168, Try.ntmps168
  go_wp2
  go_loop [5, 8] (fun v5 v8 => ∃ k : Nat, k ≤ xs.length ∧ v8 = .int .i64 k ∧ Aside0 (AllNo (· == 0) xs k)) (fun _ v8 => xs.length - (intOf v8).toNat)
  case atStart => exact ⟨0, Nat.zero_le _, rfl, ⟨fun j hj h => by omega⟩⟩
  case round =>
    obtain ⟨k, hk, rfl, HP⟩ := hrel
    by_cases hlt : k < xs.length
    · obtain ⟨ad, e1, hx⟩ := Kd.at_int HR.out (k : Int) (by omega) (by omega)
      cases e1
      simp only [Int.toNat_natCast] at hx
      rw [rd_at xs k hlt] at hx
      generalize hx0 : xs[k] = x at *
      have HX0 := Aside0.mk hx0
      clear hx0
      cases hpx : (x == 0)
      · have hq : ((0 : Int) == x) = false := by
          have h : x ≠ 0 := by simpa using hpx
          simpa using (Ne.symm h)
        go_wp2
        exact ⟨⟨k + 1, by omega, by go_num, ⟨HP.out.step hlt (by rw [HX0.out]; exact hpx)⟩⟩, by simp [intOf]; omega⟩
      · have hq : ((0 : Int) == x) = true := by
          have h : x = 0 := by simpa using hpx
          simp [h]
        go_wp2
        go_ret
        exact ⟨ret_num (idxOf_at (· == 0) xs k hlt HP.out (by rw [HX0.out]; exact hpx)).symm, rfl⟩
    · go_wp2
      go_ret
      exact ⟨ret_num (idxOf_none (· == 0) xs (fun j hj => HP.out j hj (by omega))).symm, rfl⟩

theorem info2 : (Try.prog.info? 2).map (fun i => (i.zero, i.size, i.bytes)) = some (some (.int .i64 0), 1, 8) := by kernel_rfl
theorem own_calls {w0 w : World} {R : List HP} (S : Sat w0 R w) (A : Option Addr) (c : Nat) (xs : List Int) (hr : (Kd.int .i64).C w A xs.length xs) (hl : xs.length * 8 ≤ 140737488355328) :
    Calls Try.prog 112 #[.slice A xs.length c] w fun e w' => ∃ v, e = .returned v ∧ Sat w0 (Rw (Kd.int .i64) 2 v xs :: R) w' := by
  have HR := Aside0.mk hr
  have HL := Aside0.mk hl
  have hm := Kd.C_max hr
  have S0 := Aside0.mk (Sat.lit (n := 0) S (Kd.int .i64) 2 [] (inner := []) (Reps.none _ _) rfl (by omega))
  clear hr hl S
  go_enter Try.func112, Try.ntmps112
  go_wp2_with ((with_reducible refine gate_builtin (b := .append) (xs := #[.tmp 3, .tmp 4]) rfl ?_); refine Sat.appendRow S0.out 0 0 rfl rfl (.tmp 3) (.tmp 4) 24 (.int .i64 0) 8 rfl Try.underlying24 info2 rfl (by omega) xs A xs.length c rfl rfl (Kd.C_alloc HR.out _) (by simpa using HL.out) ?_; intro v1 w1 S1 _; replace S1 := Aside0.mk S1)
  go_ret
  exact ⟨v1, rfl, S1.out⟩

theorem clone_calls {w0 w : World} {R : List HP} (S : Sat w0 R w) (A : Option Addr) (c : Nat) (xs : List Int) (hr : (Kd.int .i64).C w A xs.length xs) (hl : xs.length * 8 ≤ 140737488355328) :
    Calls Try.prog 120 #[.slice A xs.length c] w fun e w' => ∃ v, e = .returned v ∧ Sat w0 (Rw (Kd.int .i64) 2 v xs :: R) w' := by
  have HR := Aside0.mk hr
  have HL := Aside0.mk hl
  have hm := Kd.C_max hr
  have HS := Aside0.mk S
  have S0 := Aside0.mk (Sat.lit (n := 0) S (Kd.int .i64) 2 [] (inner := []) (Reps.none _ _) rfl (by omega))
  clear hr hl S
  rcases A with _ | ad
  · have hx : xs = [] := by
      have h := HR.out
      rcases xs with _ | ⟨x, xs⟩
      · rfl
      · obtain ⟨ad, h1, _⟩ := h.2.2 (by simp)
        cases h1
    subst hx
    have hnil := fun (w : World) => Lib.run_eql_slice_nil (P := Try.prog) w 24 2 none 0 c 0 0 Try.underlying24
    go_enter Try.func120, Try.ntmps120
    go_wp2
    go_ret
    exact ⟨_, rfl, HS.out.nil _ _⟩
  · have hnil := fun (w : World) => Lib.run_eql_slice_nil (P := Try.prog) w 24 2 (some ad) xs.length c 0 0 Try.underlying24
    go_enter Try.func120, Try.ntmps120
    go_wp2_with ((with_reducible refine gate_builtin (b := .append) (xs := #[.tmp 5, .tmp 6]) rfl ?_); refine Sat.appendRow S0.out 0 0 rfl rfl (.tmp 5) (.tmp 6) 24 (.int .i64 0) 8 rfl Try.underlying24 info2 rfl (by omega) xs (some ad) xs.length c rfl rfl (Kd.C_alloc HR.out _) (by simpa using HL.out) ?_; intro v1 w1 S1 _; replace S1 := Aside0.mk S1)
    go_ret
    exact ⟨v1, rfl, S1.out⟩
end Go.Proofs.Ytmgmilnoeghgfaa

set_option linter.unusedVariables false
set_option linter.unusedSimpArgs false
namespace Go.Proofs.Ytmgmilnoeghgfaa
open Go.RowKit Go.Proofs.YtmgmilnoeghgfaaW.PrintWords Go.Proofs.YtmgmilnoeghgfaaW.PrintLast Go.Proofs.YtmgmilnoeghgfaaW.PrintMore Go.Proofs.Ytmgmilnoeghgfaa.PFnExactSolveRules

def term (vs : List Int) (v s : Int) : Int := rd vs v * s
def cnt (c : Int) (l : List Int) : Nat := l.countP (· == c)
def prod (l : List Int) : Int := l.foldl (· * ·) 1
def terms (vars signs vs : List Int) : List Int := List.zipWith (term vs) vars signs

theorem cnt_snoc (c : Int) (l : List Int) (x : Int) : cnt c (l ++ [x]) = cnt c l + if x = c then 1 else 0 := by
  unfold cnt
  rw [List.countP_append]
  by_cases h : x = c <;> simp [List.countP_cons, h]
theorem prod_snoc (l : List Int) (x : Int) : prod (l ++ [x]) = prod l * x := by simp [prod, List.foldl_append]

structure GoodVars (vars signs vs : List Int) : Prop where
  len : signs.length = vars.length
  small : vars.length ≤ 4
  idx : ∀ v ∈ vars, 0 ≤ v ∧ v < vs.length
  sgn : ∀ s ∈ signs, s = 1 ∨ s = -1
  val : ∀ x ∈ vs, x = -1 ∨ x = 0 ∨ x = 1

structure St (ts : List Int) (c0 c1 c2 : Nat) (p : Int) : Prop where
  h0 : c0 = cnt 0 ts
  h1 : c1 = cnt 1 ts
  h2 : c2 = cnt (-1) ts
  hp : p = prod ts
theorem St.snoc {ts : List Int} {c0 c1 c2 : Nat} {p : Int} (h : St ts c0 c1 c2 p) (t : Int) : St (ts ++ [t]) (c0 + if t = 0 then 1 else 0) (c1 + if t = 1 then 1 else 0) (c2 + if t = -1 then 1 else 0) (p * t) :=
  ⟨by rw [cnt_snoc, h.h0], by rw [cnt_snoc, h.h1], by rw [cnt_snoc, h.h2], by rw [prod_snoc, h.hp]⟩
theorem terms_snoc (vars signs vs : List Int) (k : Nat) (h1 : k < vars.length) (h2 : k < signs.length) :
    terms (vars.take (k + 1)) (signs.take (k + 1)) vs = terms (vars.take k) (signs.take k) vs ++ [rd vs (rd vars k) * rd signs k] := by
  unfold terms
  rw [List.take_succ_eq_append_getElem h1, List.take_succ_eq_append_getElem h2, List.zipWith_append (by simp; omega)]
  simp [term, rd, List.getD_eq_getElem?_getD, List.getElem?_eq_getElem h1, List.getElem?_eq_getElem h2]
def unit3 (x : Int) : Prop := x = -1 ∨ x = 0 ∨ x = 1
theorem unit3.mul {x y : Int} (h : unit3 x) (k : unit3 y) : unit3 (x * y) := by
  rcases h with rfl | rfl | rfl <;> rcases k with rfl | rfl | rfl <;> simp [unit3]
theorem unit3.wrap {x : Int} (h : unit3 x) : wrap64 x = x := by unfold wrap64; rcases h with rfl | rfl | rfl <;> omega
theorem GoodVars.t3 {vars signs vs : List Int} (h : GoodVars vars signs vs) (k : Nat) (hk : k < vars.length) : unit3 (rd vs (rd vars k) * rd signs k) := by
  have h2 : k < signs.length := by have := h.len; omega
  have hv := h.idx (rd vars k) (by simp [rd, List.getD_eq_getElem?_getD, List.getElem?_eq_getElem hk])
  have h3 : (rd vars k).toNat < vs.length := by omega
  refine unit3.mul (h.val _ ?_) ?_
  · unfold rd
    simp only [List.getD_eq_getElem?_getD]
    rw [List.getElem?_eq_getElem (by simpa [rd, List.getD_eq_getElem?_getD] using h3)]
    simp
  · have := h.sgn (rd signs k) (by simp [rd, List.getD_eq_getElem?_getD, List.getElem?_eq_getElem h2])
    rcases this with h | h <;> simp [unit3, h]
def holdsR (kind : Int) (ts : List Int) : Int :=
  if kind = 3 then (if 0 < cnt 1 ts ∧ 0 < cnt (-1) ts then 1 else if cnt 0 ts = 0 then -1 else 0)
  else if kind = 2 then (if 0 < cnt 1 ts ∧ 0 < cnt (-1) ts then -1 else if cnt 0 ts = 0 then 1 else 0)
  else prod ts
set_option maxHeartbeats 1000000 in
theorem l15Holds_calls (A1 A2 A3 : Option Addr) (kind : Int) (vars signs vs : List Int) (c1 c2 c3 : Nat) (a0 : Addr) (w : World)
    (hk : w.cell? a0 = some (.int .i64 kind))
    (h1 : w.cell? ⟨a0.block, a0.off + 1, none⟩ = some (.slice A1 vars.length c1)) (hc1 : (Kd.int .i64).C w A1 vars.length vars)
    (h2 : w.cell? ⟨a0.block, a0.off + 2, none⟩ = some (.slice A2 signs.length c2)) (hc2 : (Kd.int .i64).C w A2 signs.length signs)
    (hc3 : (Kd.int .i64).C w A3 vs.length vs)
    (hg : GoodVars vars signs vs) :
    Calls Try.prog 61 #[.pointer (some a0), .slice A3 vs.length c3] w fun e w' => e = .returned (.int .i64 (holdsR kind (terms vars signs vs))) ∧ Drawn0 w w' := by
  have HG := Aside0.mk hg
  have HC1 := Aside0.mk hc1
  have HC2 := Aside0.mk hc2
  have HC3 := Aside0.mk hc3
  have hsm := hg.small
  clear hg hc1 hc2 hc3
  go_enter Try.func61, Try.ntmps61
  go_wp2
  go_loopw [5, 6, 7, 8, 9, 10] (fun v5 v6 v7 v8 v9 v10 wr => ∃ (k c0 c1 c2 : Nat) (p : Int), k ≤ vars.length ∧ c0 ≤ k ∧ c1 ≤ k ∧ c2 ≤ k ∧ v9 = .int .i64 k ∧ v5 = .int .i64 c0 ∧ v7 = .int .i64 c1 ∧ v8 = .int .i64 c2 ∧ v6 = .int .i64 p ∧ Aside0 (St (terms (vars.take k) (signs.take k) vs) c0 c1 c2 p ∧ unit3 p) ∧ Drawn0 w wr) (fun _ _ _ _ v9 _ _ => vars.length - (intOf v9).toNat)
  case atStart => exact ⟨0, 0, 0, 0, 1, Nat.zero_le _, Nat.le_refl _, Nat.le_refl _, Nat.le_refl _, rfl, rfl, rfl, rfl, rfl, ⟨⟨rfl, rfl, rfl, rfl⟩, .inr (.inr rfl)⟩, Drawn0.refl _⟩
  case round =>
    obtain ⟨k, c0, c1, c2, p, hk, hb0, hb1, hb2, rfl, rfl, rfl, rfl, rfl, HS, ⟨m, rfl⟩⟩ := hrel
    by_cases hlt : k < vars.length
    · obtain ⟨ad1, e1, hx1⟩ := Kd.at_int HC1.out (k : Int) (by omega) (by omega)
      obtain ⟨ad2, e2, hx2⟩ := Kd.at_int HC2.out (k : Int) (by omega) (by have := HG.out.len; omega)
      have hr1 : 0 ≤ rd vars k ∧ rd vars k < vs.length := HG.out.idx _ (by simp [rd, List.getD_eq_getElem?_getD, List.getElem?_eq_getElem hlt])
      obtain ⟨ad3, e3, hx3⟩ := Kd.at_int HC3.out (rd vars k) hr1.1 hr1.2
      cases e1
      cases e2
      cases e3
      obtain ⟨hr1a, hr1b⟩ := hr1
      have hlt2 : k < signs.length := by have := HG.out.len; omega
      have ht := HG.out.t3 k hlt
      have hsn := (HS.out.1.snoc (rd vs (rd vars k) * rd signs k))
      rw [← terms_snoc vars signs vs k hlt hlt2] at hsn
      have hwt := ht.wrap
      have hpt := unit3.mul HS.out.2 ht
      have hwp := hpt.wrap
      simp only [Int.toNat_natCast] at hx1 hx2
      generalize hv : rd vars k = v0 at *
      generalize ht0 : rd vs v0 * rd signs k = t at *
      generalize hp0 : p * t = pt at *
      have HV := Aside0.mk (And.intro hv (And.intro ht0 hp0))
      have HT := Aside0.mk (And.intro ht hpt)
      have HN := Aside0.mk hsn
      rw [← ht0] at hwt
      rw [← hp0] at hwp
      clear hv ht hsn hpt
      simp only [ht0, hp0] at hwt hwp
      have hwt' : wrap64 (rd vs v0 * rd signs ↑k) = t := by rw [ht0]; exact hwt
      have hwp' : wrap64 (p * t) = pt := by rw [hp0]; exact hwp
      clear ht0 hp0 hwt hwp
      go_wp2
      go_quiet (fail)
      go_wp2
      · have e0 : t = 0 := by simpa using ‹(t == 0) = true›
        have hn := HN.out
        subst e0
        simp at hn
        exact ⟨⟨k + 1, c0 + 1, c1, c2, pt, by omega, by omega, by omega, by omega, by go_num, by go_num, rfl, rfl, by rw [hwp'], ⟨hn, HT.out.2⟩, ⟨_, rfl⟩⟩, by simp [intOf]; omega⟩
      · have e0 : t = 1 := by simpa using ‹(t == 1) = true›
        have hn := HN.out
        subst e0
        simp at hn
        exact ⟨⟨k + 1, c0, c1 + 1, c2, pt, by omega, by omega, by omega, by omega, by go_num, rfl, by go_num, rfl, by rw [hwp'], ⟨hn, HT.out.2⟩, ⟨_, rfl⟩⟩, by simp [intOf]; omega⟩
      · have e0 : t = -1 := by
          have h0 : t ≠ 0 := by simpa using ‹(t == 0) = false›
          have h1 : t ≠ 1 := by simpa using ‹(t == 1) = false›
          rcases HT.out.1 with h | h | h <;> omega
        have hn := HN.out
        subst e0
        simp at hn
        exact ⟨⟨k + 1, c0, c1, c2 + 1, pt, by omega, by omega, by omega, by omega, by go_num, rfl, rfl, by go_num, by rw [hwp'], ⟨hn, HT.out.2⟩, ⟨_, rfl⟩⟩, by simp [intOf]; omega⟩
    · obtain rfl : k = vars.length := by omega
      have hS := HS.out.1
      rw [List.take_length, List.take_of_length_le (by have := HG.out.len; omega)] at hS
      have HR := Aside0.mk hS
      clear hS HS
      go_wp2
      all_goals
        go_ret
        refine ⟨congrArg (fun z => Ending.returned (.int .i64 z)) ?_, ⟨_, rfl⟩⟩
        obtain ⟨e0, e1, e2, e3⟩ := HR.out
        clear HR HC1 HC2 HC3 HG hk h1 h2
        grind [holdsR]
end Go.Proofs.Ytmgmilnoeghgfaa

set_option linter.unusedVariables false
set_option linter.unusedSimpArgs false
namespace Go.Proofs.Ytmgmilnoeghgfaa
open Go.RowKit Go.Proofs.YtmgmilnoeghgfaaW.PrintWords Go.Proofs.YtmgmilnoeghgfaaW.PrintLast Go.Proofs.YtmgmilnoeghgfaaW.PrintMore Go.Proofs.Ytmgmilnoeghgfaa.PFnExactSolveRules


theorem setCell_drewN (w : World) (n : Nat) (a : Addr) (v : Value) : (w.drewN n).setCell a v = (w.setCell a v).drewN n := rfl
attribute [local go_sem] setCell_drewN
theorem goodVars_lt {vars signs vs : List Int} (h : GoodVars vars signs vs) (k : Nat) (hk : k < vars.length) : 0 ≤ rd vars k ∧ rd vars k < vs.length := h.idx _ (by rw [rd_at vars k hk]; exact List.getElem_mem hk)
def holdsI (kind : Int) (q1 q2 : Nat) (p : Int) : Int :=
  if kind = 1 ∨ kind = 4 ∨ kind = 2 then p else if 0 < q2 ∧ 0 < q1 then 1 else if q2 = 3 ∨ q1 = 3 then -1 else 0
theorem holdsI_eq (kind : Int) (ts : List Int) (hl : (ts.length : Int) = kind) (h1 : 1 ≤ kind) (h4 : kind ≤ 4) (h3 : ∀ t ∈ ts, unit3 t) :
    holdsI kind (cnt 1 ts) (cnt (-1) ts) (prod ts) = holdsR kind ts := by
  by_cases e2 : kind = 2
  · subst e2
    match ts, hl, h3 with
    | [a, b], _, h3 =>
      have ha := h3 a (by simp)
      have hb := h3 b (by simp)
      rcases ha with rfl | rfl | rfl <;> rcases hb with rfl | rfl | rfl <;> decide
  · by_cases e3 : kind = 3
    · subst e3
      match ts, hl, h3 with
      | [a, b, c], _, h3 =>
        have ha := h3 a (by simp)
        have hb := h3 b (by simp)
        have hc := h3 c (by simp)
        rcases ha with rfl | rfl | rfl <;> rcases hb with rfl | rfl | rfl <;> rcases hc with rfl | rfl | rfl <;> decide
    · have : kind = 1 ∨ kind = 4 := by omega
      simp only [holdsI, holdsR]
      rw [if_neg e3, if_neg e2, if_pos (by omega)]
theorem terms_unit {vars signs vs : List Int} (h : GoodVars vars signs vs) : ∀ t ∈ terms vars signs vs, unit3 t := by
  intro t ht
  obtain ⟨k, hk, rfl⟩ := List.getElem_of_mem ht
  have hk' : k < vars.length := by simp [terms] at hk; omega
  have hk2 : k < signs.length := by have := h.len; omega
  have := h.t3 k hk'
  rw [rd_at vars k hk', rd_at signs k hk2] at this
  simpa [terms, term] using this
theorem terms_length {vars signs vs : List Int} (h : GoodVars vars signs vs) : (terms vars signs vs).length = vars.length := by
  have := h.len
  simp [terms]
  omega
set_option maxHeartbeats 2000000 in
theorem holds_calls (A1 A2 A3 : Option Addr) (kind : Int) (vars signs vs : List Int) (c1 c2 c3 : Nat) (w : World)
    (hc1 : (Kd.int .i64).C w A1 vars.length vars) (hc2 : (Kd.int .i64).C w A2 signs.length signs) (hc3 : (Kd.int .i64).C w A3 vs.length vs)
    (hg : GoodVars vars signs vs) (hkind : (vars.length : Int) = kind ∧ 1 ≤ kind) :
    Calls Try.prog 66 #[.agg #[.int .i64 kind, .slice A1 vars.length c1, .slice A2 signs.length c2], .slice A3 vs.length c3] w fun e w' => e = .returned (.int .i64 (holdsR kind (terms vars signs vs))) ∧ Below w.heap.size w w' := by
  have HG := Aside0.mk hg
  have HC1 := Aside0.mk hc1
  have HC2 := Aside0.mk hc2
  have HC3 := Aside0.mk hc3
  have HK := Aside0.mk hkind
  have hsm := hg.small
  clear hg hc1 hc2 hc3 hkind
  go_enter Try.func66, Try.ntmps66
  go_wp2
  go_loopw [6, 7, 8, 9, 13] (fun v6 v7 v8 v9 v13 wr => ∃ (k q0 q1 q2 : Nat) (p : Int), k ≤ vars.length ∧ q0 ≤ k ∧ q1 ≤ k ∧ q2 ≤ k ∧ v13 = .int .i64 k ∧ v6 = .int .i64 p ∧ Aside0 (St (terms (vars.take k) (signs.take k) vs) q0 q1 q2 p ∧ unit3 p) ∧
      ∃ m, wr = (((w.alloc (.cells #[.int .i64 kind, .slice A1 vars.length c1, .slice A2 signs.length c2] 71)).alloc (.cells #[.int .i64 q2, .int .i64 q0, .int .i64 q1] 130)).drewN m)) (fun _ _ _ _ v13 _ => vars.length - (intOf v13).toNat)
  case atStart => exact ⟨0, 0, 0, 0, 1, Nat.zero_le _, Nat.le_refl _, Nat.le_refl _, Nat.le_refl _, rfl, rfl, ⟨⟨rfl, rfl, rfl, rfl⟩, .inr (.inr rfl)⟩, 0, rfl⟩
  case round =>
    obtain ⟨k, q0, q1, q2, p, hk, hb0, hb1, hb2, rfl, rfl, HS, m, rfl⟩ := hrel
    by_cases hlt : k < vars.length
    · obtain ⟨ad1, e1, hx1⟩ := Kd.at_int HC1.out (k : Int) (by omega) (by omega)
      obtain ⟨ad2, e2, hx2⟩ := Kd.at_int HC2.out (k : Int) (by omega) (by have := HG.out.len; omega)
      have hr1 : 0 ≤ rd vars k ∧ rd vars k < vs.length := goodVars_lt HG.out k hlt
      obtain ⟨ad3, e3, hx3⟩ := Kd.at_int HC3.out (rd vars k) hr1.1 hr1.2
      cases e1
      cases e2
      cases e3
      obtain ⟨hr1a, hr1b⟩ := hr1
      have hlt2 : k < signs.length := by have := HG.out.len; omega
      have ht := HG.out.t3 k hlt
      have hsn := (HS.out.1.snoc (rd vs (rd vars k) * rd signs k))
      rw [← terms_snoc vars signs vs k hlt hlt2] at hsn
      have hp3 := HS.out.2
      have hpa : -1 ≤ p := by rcases hp3 with h | h | h <;> omega
      have hpb : p ≤ 1 := by rcases hp3 with h | h | h <;> omega
      clear hp3
      simp only [Int.toNat_natCast] at hx1 hx2
      generalize hv : rd vars k = v0 at *
      have HV := Aside0.mk hv
      clear hv
      have HP3 := Aside0.mk HS.out.2
      have hlc1 : (ad1.add k).block < w.heap.size := World.block_lt_of_cell? w _ hx1
      have hlc2 : (ad2.add k).block < w.heap.size := World.block_lt_of_cell? w _ hx2
      have hlc3 : (ad3.add v0.toNat).block < w.heap.size := World.block_lt_of_cell? w _ hx3
      rcases ht with ht | ht | ht
      · have hwt : wrap64 (rd vs v0 * rd signs ↑k) = -1 := by rw [ht]; unfold wrap64; omega
        rw [ht] at hsn
        clear ht
        simp at hsn
        have HN := Aside0.mk hsn
        clear hsn
        go_wp2
        go_quiet (fail)
        go_wp2
        exact ⟨⟨k + 1, q0, q1, q2 + 1, -p, by omega, by omega, by omega, by omega, by go_num, by simp, ⟨HN.out, by rcases HP3.out with h | h | h <;> simp [unit3, h]⟩, m + nq, by simp⟩, by simp [intOf]; omega⟩
      · have hwt : wrap64 (rd vs v0 * rd signs ↑k) = 0 := by rw [ht]; unfold wrap64; omega
        rw [ht] at hsn
        clear ht
        simp at hsn
        have HN := Aside0.mk hsn
        clear hsn
        go_wp2
        go_quiet (fail)
        go_wp2
        exact ⟨⟨k + 1, q0 + 1, q1, q2, 0, by omega, by omega, by omega, by omega, by go_num, by simp, ⟨HN.out, by simp [unit3]⟩, m + nq, by simp⟩, by simp [intOf]; omega⟩
      · have hwt : wrap64 (rd vs v0 * rd signs ↑k) = 1 := by rw [ht]; unfold wrap64; omega
        rw [ht] at hsn
        clear ht
        simp at hsn
        have HN := Aside0.mk hsn
        clear hsn
        go_wp2
        go_quiet (fail)
        go_wp2
        exact ⟨⟨k + 1, q0, q1 + 1, q2, p, by omega, by omega, by omega, by omega, by go_num, by simp, ⟨HN.out, HP3.out⟩, m + nq, by simp⟩, by simp [intOf]; omega⟩
    · obtain rfl : k = vars.length := by omega
      have hS := HS.out.1
      rw [List.take_length, List.take_of_length_le (by have := HG.out.len; omega)] at hS
      have HR := Aside0.mk hS
      clear hS HS
      go_wp2
      all_goals
        go_ret
        refine ⟨ret_num ?_, pw_below_drewN (below_alloc (below_alloc (Below.refl _ _) _) _) _⟩
        have hI := holdsI_eq kind (terms vars signs vs) (by rw [terms_length HG.out]; exact HK.out.1) HK.out.2 (by have := HK.out.1; omega) (terms_unit HG.out)
        rw [← HR.out.h1, ← HR.out.h2, ← HR.out.hp] at hI
        rw [← hI]
        clear hI HR HC1 HC2 HC3 HG
        grind [holdsI]
end Go.Proofs.Ytmgmilnoeghgfaa

set_option linter.unusedVariables false
set_option linter.unusedSimpArgs false
namespace Go.Proofs.Ytmgmilnoeghgfaa
open Go.RowKit Go.Proofs.YtmgmilnoeghgfaaW.PrintWords Go.Proofs.YtmgmilnoeghgfaaW.PrintLast Go.Proofs.YtmgmilnoeghgfaaW.PrintMore Go.Proofs.Ytmgmilnoeghgfaa.PFnExactSolveRules

theorem quiet_eq {P : Program} {f : FuncId} {args : Array Value} {w : World} {n : Nat} {v : Value}
    (h : Calls P f args (w.drewN n) fun e w' => e = .returned v ∧ w.drewN n = w') : Calls P f args (w.drewN n) fun e w'' => e = .returned v ∧ ∃ m, w'' = w.drewN m :=
  h.mono fun _ _ ⟨he, hm⟩ => ⟨he, n, hm.symm⟩

theorem length_calls (A : Option Addr) (n c : Nat) (w : World) (hn : n ≤ 9223372036854775807) : Calls Try.prog 62 #[.slice A n c] w fun e w' => e = .returned (.int .i64 n) ∧ w = w' := by
  go_enter Try.func62, Try.ntmps62
  go_wp2
  go_ret
  exact ⟨rfl, rfl⟩

/-- A rule that is valid for so many variables. -/
def okRule (r : Rule) (vars : Int) : Bool :=
  inB 1 4 r.f0 && (((r.f1.length : Int) == r.f0) && (((r.f2.length : Int) == (r.f1.length : Int)) && (rises 0 (vars - 1) r.f1 && r.f2.all fun x => x == 1 || x == -1)))

theorem isRising_calls' (A : Option Addr) (n c : Nat) (xs : List Int) (lo hi : Int) (w : World) (hr : (Kd.int .i64).C w A n xs) :
    Calls Try.prog 142 #[.slice A n c, .int .i64 lo, .int .i64 hi] w fun e w' => e = .returned (.bool (rises lo hi xs)) ∧ w = w' := by
  obtain rfl := Kd.C_len hr
  exact isRising_calls A c xs lo hi w hr
theorem areUnits_calls' (A : Option Addr) (n c : Nat) (xs : List Int) (w : World) (hr : (Kd.int .i64).C w A n xs) :
    Calls Try.prog 63 #[.slice A n c] w fun e w' => e = .returned (.bool (xs.all fun x => x == 1 || x == -1)) ∧ w = w' := by
  obtain rfl := Kd.C_len hr
  exact areUnits_calls A c xs w hr
set_option maxHeartbeats 8000000 in
theorem validRule_n (k : Int) (vs ss : List Int) (A1 A2 : Option Addr) (n1 n2 c1 c2 : Nat) (vars : Int) (w : World)
    (h1 : (Kd.int .i64).C w A1 n1 vs) (h2 : (Kd.int .i64).C w A2 n2 ss) :
    Calls Try.prog 99 #[.agg #[.int .i64 k, .slice A1 n1 c1, .slice A2 n2 c2], .int .i64 vars] w fun e w' => e = .returned (.bool (inB 0 200 vars && (inB 1 4 k && (((n1 : Int) == k) && (((n2 : Int) == (n1 : Int)) && (rises 0 (vars - 1) vs && ss.all fun x => x == 1 || x == -1)))))) ∧ Below w.heap.size w w' := by
  have HC1 := Aside0.mk h1
  have HC2 := Aside0.mk h2
  have hm1 := Kd.C_max h1
  have hm2 := Kd.C_max h2
  clear h1 h2
  have hb := fun (n : Nat) => pw_below_drewN (below_alloc (Below.refl w.heap.size w) (.cells #[.int .i64 k, .slice A1 n1 c1, .slice A2 n2 c2] 71)) n
  have HB := Aside0.mk hb
  clear hb
  cases hv1 : inB 0 200 vars
  · go_enter Try.func99, Try.ntmps99
    go_wp2
    go_quiet ((first | (go_at_call 55; exact quiet_eq (within_calls _ _ _ _)) | (go_at_call 62; exact quiet_eq (length_calls _ _ _ _ hm1)) | (go_at_call 142; exact quiet_eq (isRising_calls' _ _ _ _ _ _ _ (Kd.C_drewN (Kd.C_alloc HC1.out _) _))) | (go_at_call 63; exact quiet_eq (areUnits_calls' _ _ _ _ _ (Kd.C_drewN (Kd.C_alloc HC2.out _) _)))))
    go_wp2
    go_ret
    exact ⟨rfl, HB.out _⟩
  · have hr1 : 0 ≤ vars ∧ vars ≤ 200 := by simpa [inB] using hv1
    have hra := hr1.1
    have hrb := hr1.2
    clear hr1
    have hwr : IntKind.i64.wrap (vars - 1) = vars - 1 := IntWalk.i64_in _ (by omega)
    cases hv2 : inB 1 4 k
    · go_enter Try.func99, Try.ntmps99
      go_wp2
      go_quiet ((first | (go_at_call 55; exact quiet_eq (within_calls _ _ _ _)) | (go_at_call 62; exact quiet_eq (length_calls _ _ _ _ hm1)) | (go_at_call 142; exact quiet_eq (isRising_calls' _ _ _ _ _ _ _ (Kd.C_drewN (Kd.C_alloc HC1.out _) _))) | (go_at_call 63; exact quiet_eq (areUnits_calls' _ _ _ _ _ (Kd.C_drewN (Kd.C_alloc HC2.out _) _)))))
      go_wp2
      go_ret
      exact ⟨rfl, HB.out _⟩
    · cases hv3 : ((n1 : Int) == k)
      · go_enter Try.func99, Try.ntmps99
        go_wp2
        go_quiet ((first | (go_at_call 55; exact quiet_eq (within_calls _ _ _ _)) | (go_at_call 62; exact quiet_eq (length_calls _ _ _ _ hm1)) | (go_at_call 142; exact quiet_eq (isRising_calls' _ _ _ _ _ _ _ (Kd.C_drewN (Kd.C_alloc HC1.out _) _))) | (go_at_call 63; exact quiet_eq (areUnits_calls' _ _ _ _ _ (Kd.C_drewN (Kd.C_alloc HC2.out _) _)))))
        go_wp2
        go_ret
        exact ⟨rfl, HB.out _⟩
      · obtain rfl : (n1 : Int) = k := by simpa using hv3
        clear hv3
        have hs1 : ((n1 : Int) == (n1 : Int)) = true := by simp
        cases hv4 : ((n2 : Int) == (n1 : Int))
        · go_enter Try.func99, Try.ntmps99
          go_wp2
          go_quiet ((first | (go_at_call 55; exact quiet_eq (within_calls _ _ _ _)) | (go_at_call 62; exact quiet_eq (length_calls _ _ _ _ hm1)) | (go_at_call 142; exact quiet_eq (isRising_calls' _ _ _ _ _ _ _ (Kd.C_drewN (Kd.C_alloc HC1.out _) _))) | (go_at_call 63; exact quiet_eq (areUnits_calls' _ _ _ _ _ (Kd.C_drewN (Kd.C_alloc HC2.out _) _)))))
          go_wp2
          go_ret
          exact ⟨rfl, HB.out _⟩
        · obtain rfl : n2 = n1 := by
            have : (n2 : Int) = n1 := by simpa using hv4
            omega
          clear hv4
          cases hv5 : rises 0 (vars - 1) vs
          · go_enter Try.func99, Try.ntmps99
            go_wp2
            go_quiet ((first | (go_at_call 55; exact quiet_eq (within_calls _ _ _ _)) | (go_at_call 62; exact quiet_eq (length_calls _ _ _ _ hm1)) | (go_at_call 142; exact quiet_eq (isRising_calls' _ _ _ _ _ _ _ (Kd.C_drewN (Kd.C_alloc HC1.out _) _))) | (go_at_call 63; exact quiet_eq (areUnits_calls' _ _ _ _ _ (Kd.C_drewN (Kd.C_alloc HC2.out _) _)))))
            go_wp2
            go_ret
            exact ⟨rfl, HB.out _⟩
          · go_enter Try.func99, Try.ntmps99
            go_wp2
            go_quiet ((first | (go_at_call 55; exact quiet_eq (within_calls _ _ _ _)) | (go_at_call 62; exact quiet_eq (length_calls _ _ _ _ hm1)) | (go_at_call 142; exact quiet_eq (isRising_calls' _ _ _ _ _ _ _ (Kd.C_drewN (Kd.C_alloc HC1.out _) _))) | (go_at_call 63; exact quiet_eq (areUnits_calls' _ _ _ _ _ (Kd.C_drewN (Kd.C_alloc HC2.out _) _)))))
            go_wp2
            go_ret
            exact ⟨rfl, HB.out _⟩
theorem validRule_calls (k : Int) (vs ss : List Int) (A1 A2 : Option Addr) (c1 c2 : Nat) (vars : Int) (w : World)
    (h1 : (Kd.int .i64).C w A1 vs.length vs) (h2 : (Kd.int .i64).C w A2 ss.length ss) :
    Calls Try.prog 99 #[.agg #[.int .i64 k, .slice A1 vs.length c1, .slice A2 ss.length c2], .int .i64 vars] w fun e w' => e = .returned (.bool (inB 0 200 vars && okRule ⟨k, vs, ss⟩ vars)) ∧ Below w.heap.size w w' :=
  validRule_n k vs ss A1 A2 _ _ c1 c2 vars w h1 h2
end Go.Proofs.Ytmgmilnoeghgfaa
