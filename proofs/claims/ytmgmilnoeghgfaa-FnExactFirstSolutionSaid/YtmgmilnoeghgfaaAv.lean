import Derived.Test.YtmgmilnoeghgfaaA1
set_option linter.unusedVariables false
set_option linter.unusedSimpArgs false
namespace Go.Proofs.Ytmgmilnoeghgfaa
open Go.RowKit Go.Proofs.YtmgmilnoeghgfaaW.PrintWords Go.Proofs.YtmgmilnoeghgfaaW.PrintLast Go.Proofs.YtmgmilnoeghgfaaW.PrintMore Go.Proofs.Ytmgmilnoeghgfaa.PFnExactSolveRules

theorem quiet_eq {P : Program} {f : FuncId} {args : Array Value} {w : World} {n : Nat} {v : Value}
    (h : Calls P f args (w.drewN n) fun e w' => e = .returned v ∧ w.drewN n = w') : Calls P f args (w.drewN n) fun e w'' => e = .returned v ∧ ∃ m, w'' = w.drewN m :=
  h.mono fun _ _ ⟨he, hm⟩ => ⟨he, n, hm.symm⟩

theorem length_calls (A : Option Addr) (n c : Nat) (w : World) (hn : n ≤ 9223372036854775807) : Calls Try.prog 62 #[.slice A n c] w fun e w' => e = .returned (.int .i64 n) ∧ w = w' := by
  go_enter Try.func62, Try.ntmps62
  go_wp2
  go_ret
  exact ⟨rfl, rfl⟩

/-- A rule that is valid for so many variables. -/
def okRule (r : Rule) (vars : Int) : Bool :=
  inB 1 4 r.f0 && (((r.f1.length : Int) == r.f0) && (((r.f2.length : Int) == (r.f1.length : Int)) && (rises 0 (vars - 1) r.f1 && r.f2.all fun x => x == 1 || x == -1)))

theorem isRising_calls' (A : Option Addr) (n c : Nat) (xs : List Int) (lo hi : Int) (w : World) (hr : (Kd.int .i64).C w A n xs) :
    Calls Try.prog 142 #[.slice A n c, .int .i64 lo, .int .i64 hi] w fun e w' => e = .returned (.bool (rises lo hi xs)) ∧ w = w' := by
  obtain rfl := Kd.C_len hr
  exact isRising_calls A c xs lo hi w hr
theorem areUnits_calls' (A : Option Addr) (n c : Nat) (xs : List Int) (w : World) (hr : (Kd.int .i64).C w A n xs) :
    Calls Try.prog 63 #[.slice A n c] w fun e w' => e = .returned (.bool (xs.all fun x => x == 1 || x == -1)) ∧ w = w' := by
  obtain rfl := Kd.C_len hr
  exact areUnits_calls A c xs w hr
set_option maxHeartbeats 8000000 in
theorem validRule_n (k : Int) (vs ss : List Int) (A1 A2 : Option Addr) (n1 n2 c1 c2 : Nat) (vars : Int) (w : World)
    (h1 : (Kd.int .i64).C w A1 n1 vs) (h2 : (Kd.int .i64).C w A2 n2 ss) :
    Calls Try.prog 99 #[.agg #[.int .i64 k, .slice A1 n1 c1, .slice A2 n2 c2], .int .i64 vars] w fun e w' => e = .returned (.bool (inB 0 200 vars && (inB 1 4 k && (((n1 : Int) == k) && (((n2 : Int) == (n1 : Int)) && (rises 0 (vars - 1) vs && ss.all fun x => x == 1 || x == -1)))))) ∧ Below w.heap.size w w' := by
  have HC1 := Aside0.mk h1
  have HC2 := Aside0.mk h2
  have hm1 := Kd.C_max h1
  have hm2 := Kd.C_max h2
  clear h1 h2
  have hb := fun (n : Nat) => pw_below_drewN (below_alloc (Below.refl w.heap.size w) (.cells #[.int .i64 k, .slice A1 n1 c1, .slice A2 n2 c2] 71)) n
  have HB := Aside0.mk hb
  clear hb
  cases hv1 : inB 0 200 vars
  · go_enter Try.func99, Try.ntmps99
    go_wp2
    go_quiet ((first | (go_at_call 55; exact quiet_eq (within_calls _ _ _ _)) | (go_at_call 62; exact quiet_eq (length_calls _ _ _ _ hm1)) | (go_at_call 142; exact quiet_eq (isRising_calls' _ _ _ _ _ _ _ (Kd.C_drewN (Kd.C_alloc HC1.out _) _))) | (go_at_call 63; exact quiet_eq (areUnits_calls' _ _ _ _ _ (Kd.C_drewN (Kd.C_alloc HC2.out _) _)))))
    go_wp2
    go_ret
    exact ⟨rfl, HB.out _⟩
  · have hr1 : 0 ≤ vars ∧ vars ≤ 200 := by simpa [inB] using hv1
    have hra := hr1.1
    have hrb := hr1.2
    clear hr1
    have hwr : IntKind.i64.wrap (vars - 1) = vars - 1 := IntWalk.i64_in _ (by omega)
    cases hv2 : inB 1 4 k
    · go_enter Try.func99, Try.ntmps99
      go_wp2
      go_quiet ((first | (go_at_call 55; exact quiet_eq (within_calls _ _ _ _)) | (go_at_call 62; exact quiet_eq (length_calls _ _ _ _ hm1)) | (go_at_call 142; exact quiet_eq (isRising_calls' _ _ _ _ _ _ _ (Kd.C_drewN (Kd.C_alloc HC1.out _) _))) | (go_at_call 63; exact quiet_eq (areUnits_calls' _ _ _ _ _ (Kd.C_drewN (Kd.C_alloc HC2.out _) _)))))
      go_wp2
      go_ret
      exact ⟨rfl, HB.out _⟩
    · cases hv3 : ((n1 : Int) == k)
      · go_enter Try.func99, Try.ntmps99
        go_wp2
        go_quiet ((first | (go_at_call 55; exact quiet_eq (within_calls _ _ _ _)) | (go_at_call 62; exact quiet_eq (length_calls _ _ _ _ hm1)) | (go_at_call 142; exact quiet_eq (isRising_calls' _ _ _ _ _ _ _ (Kd.C_drewN (Kd.C_alloc HC1.out _) _))) | (go_at_call 63; exact quiet_eq (areUnits_calls' _ _ _ _ _ (Kd.C_drewN (Kd.C_alloc HC2.out _) _)))))
        go_wp2
        go_ret
        exact ⟨rfl, HB.out _⟩
      · obtain rfl : (n1 : Int) = k := by simpa using hv3
        clear hv3
        have hs1 : ((n1 : Int) == (n1 : Int)) = true := by simp
        cases hv4 : ((n2 : Int) == (n1 : Int))
        · go_enter Try.func99, Try.ntmps99
          go_wp2
          go_quiet ((first | (go_at_call 55; exact quiet_eq (within_calls _ _ _ _)) | (go_at_call 62; exact quiet_eq (length_calls _ _ _ _ hm1)) | (go_at_call 142; exact quiet_eq (isRising_calls' _ _ _ _ _ _ _ (Kd.C_drewN (Kd.C_alloc HC1.out _) _))) | (go_at_call 63; exact quiet_eq (areUnits_calls' _ _ _ _ _ (Kd.C_drewN (Kd.C_alloc HC2.out _) _)))))
          go_wp2
          go_ret
          exact ⟨rfl, HB.out _⟩
        · obtain rfl : n2 = n1 := by
            have : (n2 : Int) = n1 := by simpa using hv4
            omega
          clear hv4
          cases hv5 : rises 0 (vars - 1) vs
          · go_enter Try.func99, Try.ntmps99
            go_wp2
            go_quiet ((first | (go_at_call 55; exact quiet_eq (within_calls _ _ _ _)) | (go_at_call 62; exact quiet_eq (length_calls _ _ _ _ hm1)) | (go_at_call 142; exact quiet_eq (isRising_calls' _ _ _ _ _ _ _ (Kd.C_drewN (Kd.C_alloc HC1.out _) _))) | (go_at_call 63; exact quiet_eq (areUnits_calls' _ _ _ _ _ (Kd.C_drewN (Kd.C_alloc HC2.out _) _)))))
            go_wp2
            go_ret
            exact ⟨rfl, HB.out _⟩
          · go_enter Try.func99, Try.ntmps99
            go_wp2
            go_quiet ((first | (go_at_call 55; exact quiet_eq (within_calls _ _ _ _)) | (go_at_call 62; exact quiet_eq (length_calls _ _ _ _ hm1)) | (go_at_call 142; exact quiet_eq (isRising_calls' _ _ _ _ _ _ _ (Kd.C_drewN (Kd.C_alloc HC1.out _) _))) | (go_at_call 63; exact quiet_eq (areUnits_calls' _ _ _ _ _ (Kd.C_drewN (Kd.C_alloc HC2.out _) _)))))
            go_wp2
            go_ret
            exact ⟨rfl, HB.out _⟩
theorem validRule_calls (k : Int) (vs ss : List Int) (A1 A2 : Option Addr) (c1 c2 : Nat) (vars : Int) (w : World)
    (h1 : (Kd.int .i64).C w A1 vs.length vs) (h2 : (Kd.int .i64).C w A2 ss.length ss) :
    Calls Try.prog 99 #[.agg #[.int .i64 k, .slice A1 vs.length c1, .slice A2 ss.length c2], .int .i64 vars] w fun e w' => e = .returned (.bool (inB 0 200 vars && okRule ⟨k, vs, ss⟩ vars)) ∧ Below w.heap.size w w' :=
  validRule_n k vs ss A1 A2 _ _ c1 c2 vars w h1 h2
end Go.Proofs.Ytmgmilnoeghgfaa
