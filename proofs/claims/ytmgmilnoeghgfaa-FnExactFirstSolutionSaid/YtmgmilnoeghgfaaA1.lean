import Derived.Test.YtmgmilnoeghgfaaQs
import Derived.Test.YtmgmilnoeghgfaaSep
set_option linter.unusedVariables false
set_option linter.unusedSimpArgs false
namespace Go.Proofs.Ytmgmilnoeghgfaa
open Go.RowKit Go.Proofs.YtmgmilnoeghgfaaW.PrintWords Go.Proofs.YtmgmilnoeghgfaaW.PrintLast Go.Proofs.YtmgmilnoeghgfaaW.PrintMore Go.Proofs.Ytmgmilnoeghgfaa.PFnExactSolveRules

abbrev Rule := S71
abbrev kRule : Kd Rule := k71

theorem rd_at (xs : List Int) (k : Nat) (h : k < xs.length) : rd xs k = xs[k] := by simp [rd, List.getD_eq_getElem?_getD, List.getElem?_eq_getElem h]
/-- The first place at which p holds, or -1. -/
def idxOf {α : Type} (p : α → Bool) (xs : List α) : Int := if xs.any p then (xs.findIdx p : Int) else -1
theorem idxOf_none {α : Type} (p : α → Bool) (xs : List α) (h : ∀ j, ∀ hj : j < xs.length, p xs[j] = false) : idxOf p xs = -1 := by
  have : xs.any p = false := by
    rw [List.any_eq_false]
    intro x hx
    obtain ⟨j, hj, rfl⟩ := List.getElem_of_mem hx
    simp [h j hj]
  simp [idxOf, this]
theorem idxOf_at {α : Type} (p : α → Bool) (xs : List α) (k : Nat) (hk : k < xs.length) (h : ∀ j, ∀ hj : j < xs.length, j < k → p xs[j] = false) (hp : p xs[k] = true) : idxOf p xs = k := by
  have h1 : xs.any p = true := List.any_eq_true.2 ⟨xs[k], List.getElem_mem hk, hp⟩
  have h2 : xs.findIdx p = k := by
    rw [List.findIdx_eq hk]
    exact ⟨hp, fun j hj => h j (by omega) hj⟩
  simp [idxOf, h1, h2]
theorem idxOf_ge {α : Type} (p : α → Bool) (xs : List α) : decide (0 ≤ idxOf p xs) = xs.any p := by
  unfold idxOf
  cases xs.any p <;> simp
def AllNo {α : Type} (p : α → Bool) (xs : List α) (k : Nat) : Prop := ∀ j, ∀ hj : j < xs.length, j < k → p xs[j] = false
theorem AllNo.step {α : Type} {p : α → Bool} {xs : List α} {k : Nat} (h : AllNo p xs k) (hk : k < xs.length) (hp : p xs[k] = false) : AllNo p xs (k + 1) := by
  intro j hj h1
  by_cases e : j = k
  · subst e; exact hp
  · exact h j hj (by omega)
theorem ret_num {a b : Int} (h : a = b) : Ending.returned (.int .i64 a) = .returned (.int .i64 b) := by rw [h]
theorem ret_bool {a b : Bool} (h : a = b) : Ending.returned (.bool a) = .returned (.bool b) := by rw [h]

theorem isUnit_calls (x : Int) (w : World) : Calls Try.prog 107 #[.int .i64 x] w fun e w' => e = .returned (.bool (x == 1 || x == -1)) ∧ w = w' := by
  by_cases h1 : x = 1
  · subst h1
    go_enter Try.func107, Try.ntmps107
    go_wp2
    go_ret
    exact ⟨rfl, rfl⟩
  · have h1' : (x == 1) = false := by simpa using h1
    go_enter Try.func107, Try.ntmps107
    go_wp2
    go_ret
    exact ⟨by rw [h1']; rfl, rfl⟩

theorem areUnits1_calls (x : Int) (w : World) : Calls Try.prog 106 #[.int .i64 x] w fun e w' => e = .returned (.bool (!(x == 1 || x == -1))) ∧ w = w' := by
  have h0 := isUnit_calls x w
  generalize (x == 1 || x == -1) = b at *
  go_enter Try.func106, Try.ntmps106
  go_wp2_with (((with_reducible refine gate_dst (N := 4) rfl ?_); refine goesF (f := 107) (args := #[.int .i64 x]) rfl rfl rfl (by (try simp only [List.map_toArray, List.map_cons, List.map_nil]); rfl) (Enter.mk Try.func107 (by kernel_rfl) rfl) ?_; refine (h0).mono ?_; rintro e w1 ⟨rfl, rfl⟩; refine ⟨_, rfl, ?_⟩))
  go_ret
  exact ⟨rfl, rfl⟩

/-- What a callback does to the world: nothing, or new blocks alone. -/
structure Mild (Q : World → World → Prop) : Prop where
  refl : ∀ w, Q w w
  trans : ∀ {a b c}, Q a b → Q b c → Q a c
  below : ∀ {w w'}, Q w w' → Below w.heap.size w w'
theorem Mild.eq : Mild (fun w w' => w = w') := ⟨fun _ => rfl, fun h k => h.trans k, fun h => h ▸ Below.refl _ _⟩
theorem Mild.new : Mild (fun w w' => Below w.heap.size w w') := ⟨fun _ => Below.refl _ _, fun h k => below_then h h.size k, fun h => h⟩

theorem indexFunc_calls {Q : World → World → Prop} (hQ : Mild Q) (g : FuncId) (caps : Array Value) (p : Int → Bool) (A : Option Addr) (c : Nat) (xs : List Int) (w : World)
    (hr : (Kd.int .i64).C w A xs.length xs)
    (hE : Enter Try.prog g) (hcl : ∀ (x : Int) (w' : World), x ∈ xs → Q w w' → Calls Try.prog g (#[.int .i64 x] ++ caps) w' fun e w'' => e = .returned (.bool (p x)) ∧ Q w' w'') :
    Calls Try.prog 145 #[.slice A xs.length c, .func (.func g) #[] caps] w fun e w' => e = .returned (.int .i64 (idxOf p xs)) ∧ Q w w' := by
  have HR := Aside0.mk hr
  have HCL := Aside0.mk hcl
  have HQ := Aside0.mk hQ
  have hm := Kd.C_max hr
  clear hr hcl hQ
  go_enter Try.func145, Try.ntmps145
  go_wp2
  go_loopw [5, 8] (fun v5 v8 wr => ∃ k : Nat, k ≤ xs.length ∧ v8 = .int .i64 k ∧ Aside0 (AllNo p xs k) ∧ Aside0 (Q w wr)) (fun _ v8 _ => xs.length - (intOf v8).toNat)
  case atStart => exact ⟨0, Nat.zero_le _, rfl, ⟨fun j hj h => by omega⟩, ⟨HQ.out.refl _⟩⟩
  case round =>
    obtain ⟨k, hk, rfl, HP, HB⟩ := hrel
    by_cases hlt : k < xs.length
    · obtain ⟨ad, e1, hx⟩ := Kd.at_int (Kd.C_below HR.out (HQ.out.below HB.out)) (k : Int) (by omega) (by omega)
      cases e1
      simp only [Int.toNat_natCast] at hx
      rw [rd_at xs k hlt] at hx
      have HCALL := Aside0.mk (HCL.out xs[k] wr (List.getElem_mem hlt) HB.out)
      generalize hx0 : xs[k] = x at *
      have HX0 := Aside0.mk hx0
      clear hx0
      cases hpx : p x
      · go_wp2_with (((with_reducible refine gate_dst (N := 16) rfl ?_); refine goesV (t := 11) (args := #[.int .i64 x] ++ caps) rfl rfl rfl rfl (by (try simp only [List.map_toArray, List.map_cons, List.map_nil]); rfl) hE ?_; refine (HCALL.out).mono ?_; rintro e w1 ⟨rfl, hb⟩; refine ⟨_, rfl, ?_⟩; rw [hpx]; replace hb := Aside0.mk hb))
        exact ⟨⟨k + 1, by omega, by go_num, ⟨HP.out.step hlt (by rw [HX0.out]; exact hpx)⟩, ⟨HQ.out.trans HB.out hb.out⟩⟩, by simp [intOf]; omega⟩
      · go_wp2_with (((with_reducible refine gate_dst (N := 16) rfl ?_); refine goesV (t := 11) (args := #[.int .i64 x] ++ caps) rfl rfl rfl rfl (by (try simp only [List.map_toArray, List.map_cons, List.map_nil]); rfl) hE ?_; refine (HCALL.out).mono ?_; rintro e w1 ⟨rfl, hb⟩; refine ⟨_, rfl, ?_⟩; rw [hpx]; replace hb := Aside0.mk hb))
        go_ret
        exact ⟨ret_num (idxOf_at p xs k hlt HP.out (by rw [HX0.out]; exact hpx)).symm, HQ.out.trans HB.out hb.out⟩
    · go_wp2
      go_ret
      exact ⟨ret_num (idxOf_none p xs (fun j hj => HP.out j hj (by omega))).symm, HB.out⟩

theorem containsFunc_calls {Q : World → World → Prop} (hQ : Mild Q) (g : FuncId) (caps : Array Value) (p : Int → Bool) (A : Option Addr) (c : Nat) (xs : List Int) (w : World)
    (hr : (Kd.int .i64).C w A xs.length xs)
    (hE : Enter Try.prog g) (hcl : ∀ (x : Int) (w' : World), x ∈ xs → Q w w' → Calls Try.prog g (#[.int .i64 x] ++ caps) w' fun e w'' => e = .returned (.bool (p x)) ∧ Q w' w'') :
    Calls Try.prog 105 #[.slice A xs.length c, .func (.func g) #[] caps] w fun e w' => e = .returned (.bool (xs.any p)) ∧ Q w w' := by
  have h0 := Aside0.mk (indexFunc_calls hQ g caps p A c xs w hr hE hcl)
  have h1 := Aside0.mk (idxOf_ge p xs)
  clear hr hE hcl hQ
  generalize idxOf p xs = i at *
  go_enter Try.func105, Try.ntmps105
  go_wp2_with (((with_reducible refine gate_dst (N := 7) rfl ?_); refine goesF (f := 145) (args := #[.slice A xs.length c, .func (.func g) #[] caps]) rfl rfl rfl (by (try simp only [List.map_toArray, List.map_cons, List.map_nil]); rfl) (Enter.mk Try.func145 (by kernel_rfl) rfl) ?_; refine (h0.out).mono ?_; rintro e w1 ⟨rfl, hb⟩; refine ⟨_, rfl, ?_⟩; replace hb := Aside0.mk hb))
  go_ret
  exact ⟨ret_bool h1.out, hb.out⟩

theorem areUnits_calls (A : Option Addr) (c : Nat) (xs : List Int) (w : World) (hr : (Kd.int .i64).C w A xs.length xs) :
    Calls Try.prog 63 #[.slice A xs.length c] w fun e w' => e = .returned (.bool (xs.all fun x => x == 1 || x == -1)) ∧ w = w' := by
  have h0 := Aside0.mk (containsFunc_calls Mild.eq 106 #[] (fun x => !(x == 1 || x == -1)) A c xs w hr (Enter.mk Try.func106 (by kernel_rfl) rfl) (fun x w' _ _ => areUnits1_calls x w'))
  clear hr
  have h1 : (!xs.any (fun x => !(x == 1 || x == -1))) = xs.all fun x => x == 1 || x == -1 := by rw [List.all_eq_not_any_not]
  generalize (xs.all fun x => x == 1 || x == -1) = b at *
  generalize xs.any (fun x => !(x == 1 || x == -1)) = b' at *
  go_enter Try.func63, Try.ntmps63
  go_wp2_with (((with_reducible refine gate_dst (N := 4) rfl ?_); refine goesF (f := 105) (args := #[.slice A xs.length c, .func (.func 106) #[] #[]]) rfl rfl rfl (by (try simp only [List.map_toArray, List.map_cons, List.map_nil]); rfl) (Enter.mk Try.func105 (by kernel_rfl) rfl) ?_; refine (h0.out).mono ?_; rintro e w1 ⟨rfl, rfl⟩; refine ⟨_, rfl, ?_⟩))
  go_ret
  exact ⟨rfl, rfl⟩

def inB (lo hi x : Int) : Bool := decide (lo ≤ x) && decide (x ≤ hi)
theorem within_calls (x lo hi : Int) (w : World) : Calls Try.prog 55 #[.int .i64 x, .int .i64 lo, .int .i64 hi] w fun e w' => e = .returned (.bool (inB lo hi x)) ∧ w = w' := by
  unfold inB
  by_cases h : lo ≤ x
  · have h1 : decide (lo ≤ x) = true := decide_eq_true h
    go_enter Try.func55, Try.ntmps55
    go_wp2
    go_ret
    exact ⟨ret_bool (by rw [h1, Bool.true_and]), rfl⟩
  · have h1 : decide (lo ≤ x) = false := decide_eq_false h
    clear h
    go_enter Try.func55, Try.ntmps55
    go_wp2
    go_ret
    exact ⟨ret_bool (by rw [h1, Bool.false_and]), rfl⟩
theorem l00In_calls (x lo hi : Int) (w : World) : Calls Try.prog 80 #[.int .i64 x, .int .i64 lo, .int .i64 hi] w fun e w' => e = .returned (.bool (inB lo hi x)) ∧ w = w' := by
  unfold inB
  by_cases h : lo ≤ x
  · have h1 : decide (lo ≤ x) = true := decide_eq_true h
    go_enter Try.func80, Try.ntmps80
    go_wp2
    go_ret
    exact ⟨ret_bool (by rw [h1, Bool.true_and]), rfl⟩
  · have h1 : decide (lo ≤ x) = false := decide_eq_false h
    clear h
    go_enter Try.func80, Try.ntmps80
    go_wp2
    go_ret
    exact ⟨ret_bool (by rw [h1, Bool.false_and]), rfl⟩

/-- Strictly increasing, within bounds. -/
def stepOk (lo hi : Int) (xs : List Int) (i : Nat) : Bool := inB lo hi (rd xs i) && (i == 0 || decide (rd xs (i - 1 : Nat) < rd xs i))
def rises (lo hi : Int) (xs : List Int) : Bool := (List.range xs.length).all (stepOk lo hi xs)
def AllOk (p : Nat → Bool) (k : Nat) : Prop := ∀ j, j < k → p j = true
theorem AllOk.step {p : Nat → Bool} {k : Nat} (h : AllOk p k) (hp : p k = true) : AllOk p (k + 1) := fun j hj => if e : j = k then e ▸ hp else h j (by omega)
theorem AllOk.all {p : Nat → Bool} {n k : Nat} (h : AllOk p k) (hk : n ≤ k) : (List.range n).all p = true := by
  rw [List.all_eq_true]
  intro x hx
  exact h x (by have := List.mem_range.1 hx; omega)
theorem not_all {p : Nat → Bool} {n k : Nat} (hk : k < n) (hp : p k = false) : (List.range n).all p = false := by
  rw [List.all_eq_false]
  exact ⟨k, List.mem_range.2 hk, by simp [hp]⟩
theorem isRising_calls (A : Option Addr) (c : Nat) (xs : List Int) (lo hi : Int) (w : World) (hr : (Kd.int .i64).C w A xs.length xs) :
    Calls Try.prog 142 #[.slice A xs.length c, .int .i64 lo, .int .i64 hi] w fun e w' => e = .returned (.bool (rises lo hi xs)) ∧ w = w' := by
  have HR := Aside0.mk hr
  have hm := Kd.C_max hr
  clear hr
  go_enter Try.func142, Try.ntmps142
  go_wp2
  go_loop [7, 8, 11] (fun v7 v8 v11 => ∃ k : Nat, k ≤ xs.length ∧ v11 = .int .i64 k ∧ Aside0 (AllOk (stepOk lo hi xs) k)) (fun _ _ v11 => xs.length - (intOf v11).toNat)
  case atStart => exact ⟨0, Nat.zero_le _, rfl, ⟨fun j hj => by omega⟩⟩
  case round =>
    obtain ⟨k, hk, rfl, HP⟩ := hrel
    by_cases hlt : k < xs.length
    · obtain ⟨ad, e1, hx⟩ := Kd.at_int HR.out (k : Int) (by omega) (by omega)
      cases e1
      simp only [Int.toNat_natCast] at hx
      have HW := Aside0.mk (within_calls (rd xs k) lo hi w)
      cases h1 : inB lo hi (rd xs k)
      · have HBAD : Aside0 (stepOk lo hi xs k = false) := ⟨by simp [stepOk, h1]⟩
        generalize rd xs k = x at *
        rw [h1] at HW
        clear h1
        go_wp2_with (((with_reducible refine gate_dst (N := 19) rfl ?_); refine goesF (f := 55) (args := #[.int .i64 x, .int .i64 lo, .int .i64 hi]) rfl rfl rfl (by (try simp only [List.map_toArray, List.map_cons, List.map_nil]); rfl) (Enter.mk Try.func55 (by kernel_rfl) rfl) ?_; refine (HW.out).mono ?_; rintro e w1 ⟨rfl, rfl⟩; refine ⟨_, rfl, ?_⟩))
        go_ret
        exact ⟨ret_bool (not_all hlt HBAD.out).symm, rfl⟩
      · by_cases hk0 : k = 0
        · have HOK : Aside0 (stepOk lo hi xs k = true) := ⟨by rw [stepOk, h1, hk0]; rfl⟩
          generalize rd xs k = x at *
          rw [h1] at HW
          clear h1
          subst hk0
          rw [show ad.add 0 = ad from by simp [Addr.add]] at hx
          go_wp2_with (((with_reducible refine gate_dst (N := 19) rfl ?_); refine goesF (f := 55) (args := #[.int .i64 x, .int .i64 lo, .int .i64 hi]) rfl rfl rfl (by (try simp only [List.map_toArray, List.map_cons, List.map_nil]); rfl) (Enter.mk Try.func55 (by kernel_rfl) rfl) ?_; refine (HW.out).mono ?_; rintro e w1 ⟨rfl, rfl⟩; refine ⟨_, rfl, ?_⟩))
          exact ⟨⟨1, by omega, by go_num, ⟨HP.out.step HOK.out⟩⟩, by simp [intOf]; omega⟩
        · obtain ⟨ad2, e2, hy⟩ := Kd.at_int HR.out ((k - 1 : Nat) : Int) (by omega) (by omega)
          cases e2
          simp only [Int.toNat_natCast] at hy
          have hpos : 0 < k := by omega
          have hd : decide (0 < k) = true := decide_eq_true hpos
          have hge : (0 : Int) ≤ (k : Int) - 1 := by omega
          have hlt2 : (k : Int) - 1 < xs.length := by omega
          by_cases hlt3 : rd xs (k - 1 : Nat) < rd xs k
          · have HOK : Aside0 (stepOk lo hi xs k = true) := ⟨by simp [stepOk, h1, hlt3]⟩
            have hd3 : decide (rd xs k ≤ rd xs (k - 1 : Nat)) = false := decide_eq_false (by omega)
            generalize rd xs (k - 1 : Nat) = y at *
            generalize rd xs k = x at *
            rw [h1] at HW
            clear h1 hk0 hlt3
            go_wp2_with (((with_reducible refine gate_dst (N := 19) rfl ?_); refine goesF (f := 55) (args := #[.int .i64 x, .int .i64 lo, .int .i64 hi]) rfl rfl rfl (by (try simp only [List.map_toArray, List.map_cons, List.map_nil]); rfl) (Enter.mk Try.func55 (by kernel_rfl) rfl) ?_; refine (HW.out).mono ?_; rintro e w1 ⟨rfl, rfl⟩; refine ⟨_, rfl, ?_⟩))
            exact ⟨⟨k + 1, by omega, by go_num, ⟨HP.out.step HOK.out⟩⟩, by simp [intOf]; omega⟩
          · have HBAD : Aside0 (stepOk lo hi xs k = false) := ⟨by simp [stepOk, h1, hlt3, hk0]⟩
            have hd3 : decide (rd xs k ≤ rd xs (k - 1 : Nat)) = true := decide_eq_true (by omega)
            generalize rd xs (k - 1 : Nat) = y at *
            generalize rd xs k = x at *
            rw [h1] at HW
            clear h1 hk0 hlt3
            go_wp2_with (((with_reducible refine gate_dst (N := 19) rfl ?_); refine goesF (f := 55) (args := #[.int .i64 x, .int .i64 lo, .int .i64 hi]) rfl rfl rfl (by (try simp only [List.map_toArray, List.map_cons, List.map_nil]); rfl) (Enter.mk Try.func55 (by kernel_rfl) rfl) ?_; refine (HW.out).mono ?_; rintro e w1 ⟨rfl, rfl⟩; refine ⟨_, rfl, ?_⟩))
            go_ret
            exact ⟨ret_bool (not_all hlt HBAD.out).symm, rfl⟩
    · go_wp2
      go_ret
      exact ⟨ret_bool (HP.out.all (by omega)).symm, rfl⟩
end Go.Proofs.Ytmgmilnoeghgfaa
