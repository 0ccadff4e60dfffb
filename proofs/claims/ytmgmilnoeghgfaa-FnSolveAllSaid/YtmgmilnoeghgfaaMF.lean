import Derived.Test.YtmgmilnoeghgfaaME
set_option linter.unusedVariables false
set_option linter.unusedSimpArgs false
namespace Go.Proofs.Ytmgmilnoeghgfaa
open Go.RowKit Go.Proofs.YtmgmilnoeghgfaaW.PrintWords Go.Proofs.YtmgmilnoeghgfaaW.PrintLast Go.Proofs.YtmgmilnoeghgfaaW.PrintMore Go.Proofs.Ytmgmilnoeghgfaa.PFnExactSolveRules

/-! ### Rows of rows: equal to themselves, marked, held -/
def SmallLL (l : List (List Int)) : Prop := l.length ≤ 1048576 ∧ ∀ x ∈ l, x.length ≤ 1048576
theorem rdL {l : List (List Int)} {i : Nat} (h : i < l.length) : rd_L1 l (i : Int) = l[i] := by simp [rd_L1, List.getD_eq_getElem?_getD, List.getElem?_eq_getElem h]
theorem eqSS_l0 {l : List (List Int)} (hs : SmallLL l) : ∀ (n i k : Nat), i + n = l.length → n + 1048577 < k → laws_eqInt64SS.l0 k l l i = some true
  | n, i, 0, _, h => absurd h (Nat.not_lt_zero _)
  | 0, i, k + 1, hi, hk => by rw [laws_eqInt64SS.l0, if_neg (by omega)]
  | n + 1, i, k + 1, hi, hk => by
    have hx := hs.2 l[i] (List.getElem_mem _)
    have hl := hs.1
    rw [laws_eqInt64SS.l0, if_pos (by omega), if_pos (by omega), if_pos (by omega), rdL (by omega), eqInt_f (by omega) (by omega), Option.bind_some, if_pos rfl, wrap_in (by omega) (by omega), show (i : Int) + 1 = ((i + 1 : Nat) : Int) by omega]
    exact eqSS_l0 hs n (i + 1) k (by omega) (by omega)
theorem eqSS_calls {w : World} {A A2 : Option Addr} {c c2 : Nat} {xs : List (List Int)} (h1 : (Kd.slice 2 (Kd.int .i64)).C w A xs.length xs) (h2 : (Kd.slice 2 (Kd.int .i64)).C w A2 xs.length xs) (hc : xs.length ≤ c) (hc2 : xs.length ≤ c2) (hl : SmallLL xs) :
    Calls Try.prog 20 #[.slice A xs.length c, .slice A2 xs.length c2] w fun e w' => e = .returned (.bool true) ∧ Drawn0 w w' :=
  laws_eqInt64SS.calls (xs.length + 1048578) A c xs A2 c2 xs true w h1 hc h2 hc2 (by
    unfold laws_eqInt64SS.f
    rw [if_pos rfl]
    exact eqSS_l0 hl xs.length 0 _ (by omega) (by omega))
def tot : List (List Int) → Int
  | [] => 0
  | x :: xs => x.length + tot xs
def marksSS (a : Int) : List (List Int) → List (List Int)
  | [] => []
  | x :: xs => marks a x.length :: marksSS (a + x.length) xs
theorem marksSS_length (a : Int) (l : List (List Int)) : (marksSS a l).length = l.length := by
  induction l generalizing a with
  | nil => rfl
  | cons x l ih => simp [marksSS, ih]
theorem tot_append (l k : List (List Int)) : tot (l ++ k) = tot l + tot k := by
  induction l with
  | nil => simp [tot]
  | cons x l ih => simp only [List.cons_append, tot, ih]; omega
theorem tot_take (l : List (List Int)) (i : Nat) (h : i < l.length) : tot (l.take (i + 1)) = tot (l.take i) + l[i].length := by
  rw [List.take_succ_eq_append_getElem h, tot_append]
  simp [tot]
theorem marksSS_snoc (a : Int) (l : List (List Int)) (y : List Int) : marksSS a (l ++ [y]) = marksSS a l ++ [marks (a + tot l) y.length] := by
  induction l generalizing a with
  | nil => simp [marksSS, tot]
  | cons x l ih => simp only [List.cons_append, marksSS, ih, tot]; rw [show a + (x.length : Int) + tot l = a + (x.length + tot l) by omega]
theorem marksSS_get (a : Int) (l : List (List Int)) (i : Nat) (h : i < l.length) : (marksSS a l)[i]'(by rw [marksSS_length]; exact h) = marks (a + tot (l.take i)) l[i].length := by
  induction l generalizing a i with
  | nil => simp at h
  | cons x l ih =>
    cases i with
    | zero => simp [marksSS, tot]
    | succ i =>
      simp only [marksSS, List.getElem_cons_succ, List.take_succ_cons, tot]
      rw [ih (a + x.length) i (by simpa using h), show a + (x.length : Int) + tot (l.take i) = a + (x.length + tot (l.take i)) by omega]
theorem tot_bd {l : List (List Int)} (hs : SmallLL l) (i : Nat) : 0 ≤ tot (l.take i) ∧ tot (l.take i) ≤ 1099511627776 := by
  have key : ∀ (k : List (List Int)), (∀ x ∈ k, x.length ≤ 1048576) → 0 ≤ tot k ∧ tot k ≤ 1048576 * (k.length : Int) := by
    intro k
    induction k with
    | nil => intro _; simp [tot]
    | cons x k ih =>
      intro hk
      have h1 := ih (fun y hy => hk y (List.mem_cons_of_mem _ hy))
      have h2 := hk x List.mem_cons_self
      simp only [tot, List.length_cons]
      omega
  have h := key (l.take i) (fun x hx => hs.2 x (List.mem_of_mem_take hx))
  have h2 : (l.take i).length ≤ l.length := List.length_take_le' _ _
  have h3 := hs.1
  omega
theorem heldSS_l0 {l : List (List Int)} {a : Int} (ha : 0 ≤ a) (ha2 : a ≤ 1048576) (hs : SmallLL l) : ∀ (n i k : Nat), i + n = l.length → n + 1048577 < k → laws_heldInt64SS.l0 k (marksSS a l) (a + tot (l.take i)) i = some (a + tot l)
  | n, i, 0, _, h => absurd h (Nat.not_lt_zero _)
  | 0, i, k + 1, hi, hk => by
    rw [laws_heldInt64SS.l0, if_neg (by rw [marksSS_length]; omega)]
    obtain rfl : i = l.length := by omega
    rw [List.take_length]
  | n + 1, i, k + 1, hi, hk => by
    have hil : i < l.length := by omega
    have hx := hs.2 l[i] (List.getElem_mem _)
    have hl := hs.1
    have hb := tot_bd hs i
    rw [laws_heldInt64SS.l0, if_pos (by rw [marksSS_length]; omega), if_pos (by omega), rdL (by rw [marksSS_length]; omega), marksSS_get a l i hil, held_f (by omega) (by omega) (by omega), Option.bind_some, if_neg (by omega), wrap_in (by omega) (by omega), show (i : Int) + 1 = ((i + 1 : Nat) : Int) by omega, show a + tot (l.take i) + (l[i].length : Int) = a + tot (l.take (i + 1)) by rw [tot_take l i hil]; omega]
    exact heldSS_l0 ha ha2 hs n (i + 1) k (by omega) (by omega)
theorem heldSS_calls {w : World} {A : Option Addr} {n c : Nat} (a : Int) (l : List (List Int)) (hr : (Kd.slice 2 (Kd.int .i64)).C w A n (marksSS a l)) (hc : n ≤ c) (ha : 0 ≤ a) (ha2 : a ≤ 1048576) (hs : SmallLL l) :
    Calls Try.prog 24 #[.slice A n c, .int .i64 a] w fun e w' => e = .returned (.int .i64 (a + tot l)) ∧ Drawn0 w w' := by
  obtain rfl := Kd.C_len hr
  refine laws_heldInt64SS.calls (l.length + 1048578) A c (marksSS a l) a _ w hr hc ?_
  have h := heldSS_l0 ha ha2 hs l.length 0 (l.length + 1048578) (by omega) (by omega)
  simpa [laws_heldInt64SS.f, tot] using h
theorem Sat.headS {w0 w : World} {ps : List HP} (S : Sat w0 ps w) (i : Nat) {α : Type} {d : Kd α} {e : Nat} {A : Option Addr} {n c : Nat} {xs : List α} (hp : ps[i]? = some (RwS d e (.slice A n c) xs)) (h : 0 < xs.length) : ∃ g, A = some ⟨g, 0, none⟩ := by
  obtain ⟨ok, hR, hb⟩ := S.at_ i hp
  obtain ⟨g, cap, h1, _⟩ := Kd.S_form hR h
  injection h1 with hA
  exact ⟨g, hA⟩
set_option maxHeartbeats 2000000 in
theorem markSS_calls {w0 w : World} {ps : List HP} {A : Option Addr} {n c : Nat} {l : List (List Int)} (a : Int) (S : Sat w0 (RwS (Kd.slice 2 (Kd.int .i64)) 24 (.slice A n c) l :: ps) w) (ha : 0 ≤ a) (ha2 : a ≤ 1048576) (hs : SmallLL l) :
    Calls Try.prog 23 #[.slice A n c, .int .i64 a] w fun e w' => e = .returned (.int .i64 (a + tot l)) ∧ Sat w0 (RwS (Kd.slice 2 (Kd.int .i64)) 24 (.slice A n c) (marksSS a l) :: ps) w' := by
  have hn := (S.readsAtS 0 rfl).1
  subst hn
  have hll := hs.1
  have HSM := Aside0.mk hs
  have HS0 := Aside0.mk S
  clear S hs
  go_enter Try.func23, Try.ntmps23
  go_wp2
  go_loopw [1, 5] (fun v1 v5 wr => ∃ k : Nat, k ≤ l.length ∧ v1 = .int .i64 (a + tot (l.take k)) ∧ v5 = .int .i64 k ∧ Aside0 (Sat w0 (RwS (Kd.slice 2 (Kd.int .i64)) 24 (.slice A l.length c) (marksSS a (l.take k) ++ l.drop k) :: ps) wr)) (fun _ v5 _ => l.length - (intOf v5).toNat)
  case atStart => exact ⟨0, Nat.zero_le _, by simp [tot], rfl, by simpa [marksSS] using HS0⟩
  case round =>
    clear HS0
    obtain ⟨k, hk, rfl, rfl, HS⟩ := hrel
    have htb := tot_bd HSM.out k
    by_cases hlt : k < l.length
    · have hlk : (l.take k).length = k := by simp; omega
      have hlen : (marksSS a (l.take k) ++ l.drop k).length = l.length := by rw [List.length_append, marksSS_length, List.length_drop]; omega
      obtain ⟨g, rfl⟩ := HS.out.headS 0 rfl (by omega)
      obtain ⟨u, hu, S2⟩ := HS.out.lendS k (by omega)
      have hget : (marksSS a (l.take k) ++ l.drop k)[k]'(by omega) = l[k] := by
        rw [List.getElem_append_right (by rw [marksSS_length]; omega)]
        simp [marksSS_length, hlk]
      rw [hget] at S2
      obtain ⟨Au, cu, rfl, _, _⟩ := S2.reads 0 rfl
      have HS2 := Aside0.mk S2
      have HXB : Aside0 ((l[k].length : Int) ≤ 1048576) := ⟨by have := HSM.out.2 l[k] (List.getElem_mem _); omega⟩
      have HEQ : Aside0 ((marksSS a (l.take k) ++ l.drop k).set k (marks (a + tot (l.take k)) l[k].length) = marksSS a (l.take (k + 1)) ++ l.drop (k + 1) ∧ tot (l.take (k + 1)) = tot (l.take k) + l[k].length) := ⟨by
        rw [List.set_append_right _ _ (by rw [marksSS_length]; omega), marksSS_length, hlk, Nat.sub_self, List.drop_eq_getElem_cons hlt, List.set_cons_zero, List.take_succ_eq_append_getElem hlt, marksSS_snoc, List.append_assoc]
        rfl, tot_take l k hlt⟩
      clear S2 hget hlen hlk
      generalize hxk : l[k] = x at *
      clear hxk
      go_wp2_with (((with_reducible refine gate_dst (N := 17) rfl ?_); refine goesF (f := 22) (args := #[.slice Au x.length cu, .int .i64 (a + tot (l.take k))]) rfl rfl rfl (by (try simp only [List.map_toArray, List.map_cons, List.map_nil]); rfl) (Enter.mk Try.func22 (by kernel_rfl) rfl) ?_; refine (markInt_calls (a + tot (l.take k)) HS2.out (by omega) (by have := HXB.out; omega)).mono ?_; rintro e e1 ⟨rfl, S3⟩; refine ⟨_, rfl, ?_⟩; have HS3 := Aside0.mk S3.backS; clear S3))
      refine ⟨⟨k + 1, by omega, by rw [HEQ.out.2]; go_num, by go_num, ⟨?_⟩⟩, by simp [intOf]; omega⟩
      rw [← HEQ.out.1]
      exact HS3.out
    · obtain rfl : k = l.length := by omega
      go_wp2
      go_ret
      have h := HS.out
      rw [List.drop_length, List.append_nil, List.take_length] at h
      exact ⟨by rw [List.take_length]; rfl, h⟩
end Go.Proofs.Ytmgmilnoeghgfaa

set_option linter.unusedVariables false
set_option linter.unusedSimpArgs false
namespace Go.Proofs.Ytmgmilnoeghgfaa
open Go.RowKit Go.Proofs.YtmgmilnoeghgfaaW.PrintWords Go.Proofs.YtmgmilnoeghgfaaW.PrintLast Go.Proofs.YtmgmilnoeghgfaaW.PrintMore Go.Proofs.Ytmgmilnoeghgfaa.PFnExactSolveRules

/-- No more are found than are asked for. -/
theorem search_count {rules : List Rule} {n : Nat} {budget most : Int} : ∀ (d : Nat) (steps : Int) (xs : List (List Int)) (vs : List Int), (xs.length : Int) < most →
    (((cfgL rules n budget most).search d steps xs vs).1 = true → (((cfgL rules n budget most).search d steps xs vs).2.2.length : Int) < most) ∧ (((cfgL rules n budget most).search d steps xs vs).2.2.length : Int) ≤ most
  | 0, steps, xs, vs, h => ⟨fun _ => h, by show (xs.length : Int) ≤ most; omega⟩
  | d + 1, steps, xs, vs, h => by
    by_cases hover : budget < steps + 1
    · have e2 : (cfgL rules n budget most).search (d + 1) steps xs vs = (false, steps + 1, xs) := by simp only [Cfg.search, searchR]; rw [if_pos hover]
      rw [e2]
      exact ⟨fun h => by simp at h, by show (xs.length : Int) ≤ most; omega⟩
    · obtain ⟨⟨bad, us, st⟩, hp0⟩ : ∃ x, propR rules (zeros vs + 1) vs [] = x := ⟨_, rfl⟩
      have e2 := search_unfold (cfgL rules n budget most) d steps xs vs hover hp0
      rw [foldl_still] at e2
      dsimp only at e2
      by_cases hbad : 0 ≤ bad
      · rw [if_pos hbad] at e2
        rw [e2]
        exact ⟨fun _ => h, by show (xs.length : Int) ≤ most; omega⟩
      · rw [if_neg hbad] at e2
        by_cases hix : idxOf (· == 0) us < 0
        · rw [if_pos hix] at e2
          rw [e2]
          refine ⟨fun h2 => by simpa [fndL] using h2, ?_⟩
          show ((xs ++ [us]).length : Int) ≤ most
          rw [List.length_append, List.length_singleton]
          omega
        · rw [if_neg hix] at e2
          have i1 := search_count (rules := rules) (n := n) (budget := budget) (most := most) d (steps + 1) xs (us.set (idxOf (· == 0) us).toNat 1) h
          rw [e2]
          split
          · exact i1
          · rename_i hne
            exact search_count d _ _ _ (i1.1 (by simpa using hne))
theorem solve_len {rules : List Rule} {vars budget most : Int} : SmallLL (solveR rules vars budget most).1 := by
  unfold solveR
  split
  · rename_i hv
    obtain ⟨g1, g2, g3⟩ := okRules_good hv.1
    have hm := inB_iff hv.2.2
    have h := search_len (budget := budget) (most := most) g3 (vars.toNat + 1) 0 [] (List.replicate vars.toNat 0) (vals_made _) (by simp)
    have h2 := (search_count (rules := rules) (n := vars.toNat) (budget := budget) (most := most) (vars.toNat + 1) 0 [] (List.replicate vars.toNat 0) (by simp; omega)).2
    split
    · exact ⟨by simp, fun x hx => by simp at hx⟩
    · refine ⟨?_, fun x hx => ?_⟩
      · have h3 : ((resL rules vars budget most).2.2.length : Int) ≤ most := h2
        show (resL rules vars budget most).2.2.length ≤ 1048576
        omega
      · have := h x hx
        omega
  · exact ⟨by simp, fun x hx => by simp at hx⟩
theorem Sat.readsSS {w0 w : World} {ps : List HP} (S : Sat w0 ps w) (i : Nat) {α : Type} {d : Kd α} {e : Nat} {A : Option Addr} {n c : Nat} {xs : List α} (hp : ps[i]? = some (RwS d e (.slice A n c) xs)) : d.C w A n xs := by
  obtain ⟨h1, _, h3⟩ := S.readsAtS i hp
  rw [← h1] at h3
  exact h3
set_option maxRecDepth 100000 in
set_option maxHeartbeats 8000000 in
theorem solveLaw_walk (A : Option Addr) (c : Nat) (l : List S96) (vars budget most : Int) (w : World) (hr : k96.C w A l.length l) (hc : l.length ≤ c) :
    Calls Try.prog 6 #[.slice A l.length c, .int .i64 vars, .int .i64 budget, .int .i64 most] w fun e w' => e = .returned (.bool true) ∧ Below w.heap.size w w' := by
  have hmax := Kd.C_max hr
  obtain ⟨sz, hsz, hsm⟩ := szRules hmax (inner_max hr)
  have HR := Aside0.mk hr
  have HC := Aside0.mk hc
  have HSZ := Aside0.mk (laws_szRuleS.calls _ A c l _ sz w hr hc hsz)
  have HS0 := Aside0.mk (Sat.start w)
  clear hr hc hsz hmax
  by_cases hneg : sz < 0
  · have hd : decide (sz < 0) = true := decide_eq_true hneg
    go_enter Try.func6, Try.ntmps6
    go_wp2_with (((with_reducible refine gate_dst (N := 25) rfl ?_); refine goesF (f := 25) (args := #[.slice A l.length c, .int .i64 1048576]) rfl rfl rfl (by (try simp only [List.map_toArray, List.map_cons, List.map_nil]); rfl) (Enter.mk Try.func25 (by kernel_rfl) rfl) ?_; refine (HSZ.out).mono ?_; rintro e e1 ⟨rfl, hb⟩; refine ⟨_, rfl, ?_⟩; have HB := Aside0.mk hb; clear hb))
    go_ret
    exact ⟨rfl, HB.out⟩
  · have hd : decide (sz < 0) = false := decide_eq_false hneg
    have HSM := Aside0.mk (hsm.resolve_left hneg)
    have HSR := Aside0.mk HSM.out.conv
    clear hsm
    obtain ⟨rs, hrs⟩ : ∃ rs, rs = l.map conv := ⟨_, rfl⟩
    rw [← hrs] at HSR
    have HRS := Aside0.mk hrs
    clear hrs
    have HT := Aside0.mk (fun (W : World) (ps : List HP) (S : Sat w ps W) (i : Nat) (hi : ps[i]? = some (Old w)) => toRules_calls S (Kd.C_below HR.out (S.to_below i hi)) HC.out HSM.out)
    rw [← HRS.out] at HT
    obtain ⟨⟨want, st, cd⟩, hw⟩ : ∃ r, r = solveR rs vars budget most := ⟨_, rfl⟩
    have HW := Aside0.mk hw
    clear hw
    have HLEN : Aside0 (SmallLL want) := ⟨by have h := solve_len (rules := rs) (vars := vars) (budget := budget) (most := most); rw [← HW.out] at h; exact h⟩
    have htot : Aside0 (0 ≤ tot want ∧ tot want ≤ 1099511627776) := ⟨by have h := tot_bd HLEN.out want.length; rw [List.take_length] at h; exact h⟩
    have hqd : decide (1 + tot want < 0) = false := decide_eq_false (by have := htot.out; omega)
    go_enter Try.func6, Try.ntmps6
    go_wp2_with (first
      | ((with_reducible refine gate_dst (N := 25) rfl ?_); refine goesF (f := 25) (args := #[.slice A l.length c, .int .i64 1048576]) rfl rfl rfl (by (try simp only [List.map_toArray, List.map_cons, List.map_nil]); rfl) (Enter.mk Try.func25 (by kernel_rfl) rfl) ?_; refine (HSZ.out).mono ?_; rintro e e1 ⟨rfl, hb⟩; refine ⟨_, rfl, ?_⟩; have HS1 := Aside0.mk (HS0.out.below hb); clear hb)
      | ((with_reducible refine gate_dst (N := 30) rfl ?_); refine goesF (f := 27) (args := #[.slice A l.length c]) rfl rfl rfl (by (try simp only [List.map_toArray, List.map_cons, List.map_nil]); rfl) (Enter.mk Try.func27 (by kernel_rfl) rfl) ?_; refine (HT.out _ _ HS1.out 0 rfl).mono ?_; rintro e e1 ⟨A1, c1, rfl, hle1, S2⟩; refine ⟨_, rfl, ?_⟩; obtain ⟨sh1, S3⟩ := S2.shape 0 rfl; have HS3 := Aside0.mk S3; have HL1 := Aside0.mk hle1; clear S2 S3 hle1)
      | ((with_reducible refine gate_dst (N := 34) rfl ?_); refine goesF (f := 31) (args := #[.slice A1 rs.length c1, .int .i64 vars, .int .i64 budget, .int .i64 most]) rfl rfl rfl (by (try simp only [List.map_toArray, List.map_cons, List.map_nil]); rfl) (Enter.mk Try.func31 (by kernel_rfl) rfl) ?_; refine (specSolve_calls HS3.out (ReadsR.of 0 rfl).at_).mono ?_; rintro e e1 ⟨v1, rfl, S4⟩; refine ⟨_, rfl, ?_⟩; rw [← HW.out] at S4 ⊢; obtain ⟨B1, d1, rfl, hle1, _⟩ := S4.readsS 0 rfl; have HS4 := Aside0.mk S4; have HM1 := Aside0.mk hle1; clear S4 hle1)
      | ((with_reducible refine gate_dst (N := 39) rfl ?_); refine goesF (f := 27) (args := #[.slice A l.length c]) rfl rfl rfl (by (try simp only [List.map_toArray, List.map_cons, List.map_nil]); rfl) (Enter.mk Try.func27 (by kernel_rfl) rfl) ?_; refine (HT.out _ _ HS4.out 2 rfl).mono ?_; rintro e e1 ⟨A2, c2, rfl, hle1, S2⟩; refine ⟨_, rfl, ?_⟩; obtain ⟨sh2, S3⟩ := S2.shape 0 rfl; have HS5 := Aside0.mk S3; have HL2 := Aside0.mk hle1; clear S2 S3 hle1)
      | ((with_reducible refine gate_dst (N := 45) rfl ?_); refine goesF (f := 11) (args := #[.slice A2 rs.length c2, .int .i64 vars, .int .i64 budget, .int .i64 most]) rfl rfl rfl (by (try simp only [List.map_toArray, List.map_cons, List.map_nil]); rfl) (Enter.mk Try.func11 (by kernel_rfl) rfl) ?_; refine (SolveRules_calls HS5.out (ReadsR.of 0 rfl)).mono ?_; rintro e e1 ⟨v1, rfl, S4⟩; refine ⟨_, rfl, ?_⟩; rw [← HW.out] at S4 ⊢; obtain ⟨B2, d2, rfl, hle1, _⟩ := S4.readsS 0 rfl; have HS6 := Aside0.mk S4; have HM2 := Aside0.mk hle1; clear S4 hle1)
      | ((with_reducible refine gate_dst (N := 51) rfl ?_); refine goesF (f := 20) (args := #[.slice B2 want.length d2, .slice B1 want.length d1]) rfl rfl rfl (by (try simp only [List.map_toArray, List.map_cons, List.map_nil]); rfl) (Enter.mk Try.func20 (by kernel_rfl) rfl) ?_; refine (eqSS_calls (HS6.out.readsAtS 0 rfl).2.2 (HS6.out.readsAtS 2 rfl).2.2 HM2.out HM1.out HLEN.out).mono ?_; rintro e e1 ⟨rfl, hq⟩; refine ⟨_, rfl, ?_⟩; have HS7 := Aside0.mk (HS6.out.drawn hq); clear hq)
      | ((with_reducible refine gate_dst (N := 65) rfl ?_); refine goesF (f := 27) (args := #[.slice A l.length c]) rfl rfl rfl (by (try simp only [List.map_toArray, List.map_cons, List.map_nil]); rfl) (Enter.mk Try.func27 (by kernel_rfl) rfl) ?_; refine (HT.out _ _ HS7.out 4 rfl).mono ?_; rintro e e1 ⟨A3, c3, rfl, hle1, S2⟩; refine ⟨_, rfl, ?_⟩; have HS8 := Aside0.mk S2; have HL3 := Aside0.mk hle1; clear S2 hle1)
      | ((with_reducible refine gate_dst (N := 66) rfl ?_); refine goesF (f := 28) (args := #[.slice A2 rs.length c2, .slice A3 rs.length c3]) rfl rfl rfl (by (try simp only [List.map_toArray, List.map_cons, List.map_nil]); rfl) (Enter.mk Try.func28 (by kernel_rfl) rfl) ?_; refine (eqRules_calls ((ReadsR.of 2 rfl) _ HS8.out).2 (HS8.out.readsAt 0 rfl).2.2 HL2.out HL3.out HSR.out).mono ?_; rintro e e1 ⟨rfl, hb⟩; refine ⟨_, rfl, ?_⟩; have HS9 := Aside0.mk (HS8.out.below hb); clear hb)
      | ((with_reducible refine gate_dst (N := 70) rfl ?_); refine goesF (f := 29) (args := #[.slice A2 rs.length c2, .int .i64 1]) rfl rfl rfl (by (try simp only [List.map_toArray, List.map_cons, List.map_nil]); rfl) (Enter.mk Try.func29 (by kernel_rfl) rfl) ?_; refine (markRules_calls (HS9.out.front 2 rfl) HSR.out).mono ?_; rintro e e1 ⟨m1, rfl, hm1, S2⟩; refine ⟨_, rfl, ?_⟩; have hm1d : decide (m1 < 0) = false := decide_eq_false (by omega); have HS10 := Aside0.mk S2; clear S2)
      | (go_at_call 20; refine (eqSS_calls (HS10.out.readsAtS 1 rfl).2.2 (HS10.out.readsAtS 2 rfl).2.2 HM2.out HM1.out HLEN.out).mono ?_; rintro e e1 ⟨rfl, hq⟩; have HS11 := Aside0.mk (HS10.out.drawn hq); clear hq)
      | ((with_reducible refine gate_dst (N := 91) rfl ?_); refine goesF (f := 23) (args := #[.slice B2 want.length d2, .int .i64 1]) rfl rfl rfl (by (try simp only [List.map_toArray, List.map_cons, List.map_nil]); rfl) (Enter.mk Try.func23 (by kernel_rfl) rfl) ?_; refine (markSS_calls 1 (HS11.out.front 1 rfl) (by decide) (by decide) HLEN.out).mono ?_; rintro e e1 ⟨rfl, S2⟩; refine ⟨_, rfl, ?_⟩; have HS12 := Aside0.mk S2; clear S2)
      | ((with_reducible refine gate_dst (N := 94) rfl ?_); refine goesF (f := 24) (args := #[.slice B2 want.length d2, .int .i64 1]) rfl rfl rfl (by (try simp only [List.map_toArray, List.map_cons, List.map_nil]); rfl) (Enter.mk Try.func24 (by kernel_rfl) rfl) ?_; refine (heldSS_calls 1 want (HS12.out.readsSS 0 rfl) HM2.out (by decide) (by decide) HLEN.out).mono ?_; rintro e e1 ⟨rfl, hq⟩; refine ⟨_, rfl, ?_⟩; have HS13 := Aside0.mk (HS12.out.drawn hq); clear hq)
      | ((with_reducible refine gate_dst (N := 101) rfl ?_); refine goesF (f := 27) (args := #[.slice A l.length c]) rfl rfl rfl (by (try simp only [List.map_toArray, List.map_cons, List.map_nil]); rfl) (Enter.mk Try.func27 (by kernel_rfl) rfl) ?_; refine (HT.out _ _ HS13.out 4 rfl).mono ?_; rintro e e1 ⟨A4, c4, rfl, hle1, S2⟩; refine ⟨_, rfl, ?_⟩; obtain ⟨sh4, S3⟩ := S2.shape 0 rfl; have HS14 := Aside0.mk S3; have HL4 := Aside0.mk hle1; clear S2 S3 hle1)
      | ((with_reducible refine gate_dst (N := 102) rfl ?_); refine goesF (f := 27) (args := #[.slice A l.length c]) rfl rfl rfl (by (try simp only [List.map_toArray, List.map_cons, List.map_nil]); rfl) (Enter.mk Try.func27 (by kernel_rfl) rfl) ?_; refine (HT.out _ _ HS13.out 4 rfl).mono ?_; rintro e e1 ⟨A4, c4, rfl, hle1, S2⟩; refine ⟨_, rfl, ?_⟩; obtain ⟨sh4, S3⟩ := S2.shape 0 rfl; have HS14 := Aside0.mk S3; have HL4 := Aside0.mk hle1; clear S2 S3 hle1)
      | ((with_reducible refine gate_dst (N := 106) rfl ?_); refine goesF (f := 11) (args := #[.slice A4 rs.length c4, .int .i64 vars, .int .i64 budget, .int .i64 most]) rfl rfl rfl (by (try simp only [List.map_toArray, List.map_cons, List.map_nil]); rfl) (Enter.mk Try.func11 (by kernel_rfl) rfl) ?_; refine (SolveRules_calls HS14.out (ReadsR.of 0 rfl)).mono ?_; rintro e e1 ⟨v1, rfl, S4⟩; refine ⟨_, rfl, ?_⟩; rw [← HW.out] at S4 ⊢; obtain ⟨B3, d3, rfl, hle1, _⟩ := S4.readsS 0 rfl; have HS15 := Aside0.mk S4; have HM3 := Aside0.mk hle1; clear S4 hle1)
      | ((with_reducible refine gate_dst (N := 112) rfl ?_); refine goesF (f := 20) (args := #[.slice B3 want.length d3, .slice B1 want.length d1]) rfl rfl rfl (by (try simp only [List.map_toArray, List.map_cons, List.map_nil]); rfl) (Enter.mk Try.func20 (by kernel_rfl) rfl) ?_; refine (eqSS_calls (HS15.out.readsAtS 0 rfl).2.2 (HS15.out.readsAtS 4 rfl).2.2 HM3.out HM1.out HLEN.out).mono ?_; rintro e e1 ⟨rfl, hq⟩; refine ⟨_, rfl, ?_⟩; have HS16 := Aside0.mk (HS15.out.drawn hq); clear hq)
      | ((with_reducible refine gate_dst (N := 126) rfl ?_); refine goesF (f := 24) (args := #[.slice B2 want.length d2, .int .i64 1]) rfl rfl rfl (by (try simp only [List.map_toArray, List.map_cons, List.map_nil]); rfl) (Enter.mk Try.func24 (by kernel_rfl) rfl) ?_; refine (heldSS_calls 1 want (HS16.out.readsSS 2 rfl) HM2.out (by decide) (by decide) HLEN.out).mono ?_; rintro e e1 ⟨rfl, hq⟩; refine ⟨_, rfl, ?_⟩; have HS17 := Aside0.mk (HS16.out.drawn hq); clear hq))
    go_ret
    exact ⟨rfl, HS17.out.to_below 6 rfl⟩
end Go.Proofs.Ytmgmilnoeghgfaa
