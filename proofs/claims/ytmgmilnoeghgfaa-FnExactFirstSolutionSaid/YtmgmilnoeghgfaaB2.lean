import Derived.Test.YtmgmilnoeghgfaaB1
import Derived.StillTailTactics
set_option linter.unusedVariables false
set_option linter.unusedSimpArgs false
namespace Go.Proofs.Ytmgmilnoeghgfaa
open Go.RowKit Go.Proofs.YtmgmilnoeghgfaaW.PrintWords Go.Proofs.YtmgmilnoeghgfaaW.PrintLast Go.Proofs.YtmgmilnoeghgfaaW.PrintMore Go.Proofs.Ytmgmilnoeghgfaa.PFnExactSolveRules

/-- The variable that a rule decides, and its value. -/
def forcedR (r : Rule) (vs : List Int) : Option (Int × Int) :=
  if holdsRule r vs = 0 then
    match kept (fun v => rd vs v != 0) r.f1 with
    | [v] => if holdsRule r (vs.set v.toNat (-1)) < 0 then some (v, 1) else if holdsRule r (vs.set v.toNat 1) < 0 then some (v, -1) else none
    | _ => none
  else none
def forcedW : Option (Int × Int) → Value
  | some (v, x) => .tuple #[.int .i64 v, .int .i64 x, .bool true]
  | none => .tuple #[.int .i64 0, .int .i64 0, .bool false]
theorem box3 {w : World} {b : Nat} {x y z : Value} {t : TypeId} {fr : Nat × Nat} (h : w.heap[b]? = some (.cells #[x, y, z] t fr)) : w.cell? ⟨b, 0, none⟩ = some x ∧ w.cell? ⟨b, 1, none⟩ = some y ∧ w.cell? ⟨b, 2, none⟩ = some z := by
  simp [World.cell?, h]
theorem box2 {w : World} {b : Nat} {x y : Value} {t : TypeId} {fr : Nat × Nat} (h : w.heap[b]? = some (.cells #[x, y] t fr)) : w.cell? ⟨b, 0, none⟩ = some x ∧ w.cell? ⟨b, 1, none⟩ = some y := by
  simp [World.cell?, h]
theorem box1 {w : World} {b : Nat} {x : Value} {t : TypeId} {fr : Nat × Nat} (h : w.heap[b]? = some (.cells #[x] t fr)) : w.cell? ⟨b, 0, none⟩ = some x := by
  simp [World.cell?, h]
theorem mem_kept {p : Int → Bool} {xs : List Int} {v : Int} (h : v ∈ kept p xs) : v ∈ xs ∧ p v = false := by
  simpa [kept] using h

abbrev ruleW (r : Rule) (A1 A2 : Option Addr) (c1 c2 : Nat) : Value := .agg #[.int .i64 r.f0, .slice A1 r.f1.length c1, .slice A2 r.f2.length c2]
abbrev ruleB (r : Rule) (A1 A2 : Option Addr) (c1 c2 : Nat) : Obj := .cells #[.int .i64 r.f0, .slice A1 r.f1.length c1, .slice A2 r.f2.length c2] 71
abbrev fps (b4 b g4 : Nat) (c' : Nat) (v : Int) (A : Option Addr) (n c : Nat) (r : Rule) (A1 A2 : Option Addr) (c1 c2 : Nat) (vs : List Int) (R : List HP) : List HP :=
  Blk b4 (.cells #[.int .i64 1, .int .i64 (-1)] 2) :: RwI (.slice (some ⟨g4, 0, none⟩) 1 c') [v] :: Blk (b + 1) (.cells #[.slice A n c] 24) :: Blk b (ruleB r A1 A2 c1 c2) :: RwI (.slice A n c) vs :: R
theorem forced1_app {w0 w : World} {ps : List HP} {A : Option Addr} {n c b : Nat} {vs : List Int} (i j : Nat) (S : Sat w0 ps w) (hp : ps[i]? = some (RwI (.slice A n c) vs)) {t : TypeId}
    (hq : ps[j]? = some (Blk b (.cells #[.slice A n c] t))) (v : Int) (h0 : 0 ≤ v) (h1 : v < n) :
    Calls Try.prog 180 (#[.int .i64 v] ++ #[.pointer (some ⟨b, 0, none⟩)]) w fun e w' => e = .returned (.bool (rd vs v != 0)) ∧ w = w' := by
  have h := forced1_calls i j S hp hq v h0 h1
  exact h
set_option maxRecDepth 100000 in
set_option maxHeartbeats 4000000 in
theorem forced_calls {w0 w : World} {R : List HP} {A : Option Addr} {n c : Nat} {vs : List Int} {r : Rule} (A1 A2 : Option Addr) (c1 c2 : Nat)
    (S : Sat w0 (RwI (.slice A n c) vs :: R) w) (hrd : RuleReads w0 R r A1 A2) (hok : OkRule r n) (hv : Vals n vs) :
    Calls Try.prog 176 #[ruleW r A1 A2 c1 c2, .slice A n c] w fun e w' => e = .returned (forcedW (forcedR r vs)) ∧ Sat w0 (RwI (.slice A n c) vs :: R) w' := by
  have S1 := (S.alloc (ruleB r A1 A2 c1 c2)).alloc (.cells #[.slice A n c] 24)
  simp only [World.size_alloc] at S1
  have HRD := Aside0.mk hrd
  have hrd1 := hrd _ S1.tail.tail.tail
  have hC := (S1.readsAt 2 rfl).2.2
  rw [hv.len] at hC
  have HCALL := Aside0.mk (holdsRule_calls A1 A2 A c1 c2 c hok hv hrd1.1 hrd1.2 hC)
  have HS1 := Aside0.mk S1
  have HOK := Aside0.mk hok
  have HV := Aside0.mk hv
  clear S1 hC hrd1 hrd hv hok S
  by_cases h0 : holdsRule r vs = 0
  · have hne : ((holdsRule r vs) != 0) = false := by simp [h0]
    have HF : Aside0 (forcedR r vs = match kept (fun v => rd vs v != 0) r.f1 with
      | [v] => if holdsRule r (vs.set v.toNat (-1)) < 0 then some (v, 1) else if holdsRule r (vs.set v.toNat 1) < 0 then some (v, -1) else none
      | _ => none) := ⟨by rw [forcedR, if_pos h0]⟩
    have HMEM := Aside0.mk (fun v (h : v ∈ kept (fun v => rd vs v != 0) r.f1) => (mem_kept h).1)
    obtain ⟨ks, hks⟩ : ∃ ks, ks = kept (fun v => rd vs v != 0) r.f1 := ⟨_, rfl⟩
    rw [← hks] at HF HMEM
    have HKS := Aside0.mk hks
    clear hks
    generalize holdsRule r vs = z at *
    clear h0
    by_cases hl : ks.length = 1
    · obtain ⟨v, rfl⟩ : ∃ v, ks = [v] := by
        match ks, hl with
        | [v], _ => exact ⟨v, rfl⟩
      clear hl
      have HFV : Aside0 (forcedR r vs = if holdsRule r (vs.set v.toNat (-1)) < 0 then some (v, 1) else if holdsRule r (vs.set v.toNat 1) < 0 then some (v, -1) else none) := HF
      have hvi := HOK.out.idx v (HMEM.out v (by simp))
      obtain ⟨hva, hvb⟩ := hvi
      clear HF HMEM
      go_enter Try.func176, Try.ntmps176
      go_wp2_with (first
        | ((with_reducible refine gate_dst (N := 12) rfl ?_); refine goesF (f := 66) (args := #[.agg #[.int .i64 r.f0, .slice A1 r.f1.length c1, .slice A2 r.f2.length c2], .slice A n c]) rfl rfl rfl (by (try simp only [List.map_toArray, List.map_cons, List.map_nil]); rfl) (Enter.mk Try.func66 (by kernel_rfl) rfl) ?_; refine (HCALL.out).mono ?_; rintro e e1 ⟨rfl, hb⟩; refine ⟨_, rfl, ?_⟩; have HS2 := Aside0.mk (HS1.out.below hb); clear hb; obtain ⟨hb0, hb1, hb2⟩ := box3 (HS2.out.blk 1 rfl))
        | ((with_reducible refine gate_dst (N := 16) rfl ?_); refine goesF (f := 120) (args := #[.slice A1 r.f1.length c1]) rfl rfl rfl (by (try simp only [List.map_toArray, List.map_cons, List.map_nil]); rfl) (Enter.mk Try.func120 (by kernel_rfl) rfl) ?_; refine (clone_calls HS2.out A1 c1 r.f1 (HRD.out _ HS2.out.tail.tail.tail).1 (by have := HOK.out.len1; have := HOK.out.kind.2; omega)).mono ?_; rintro e e1 ⟨v1, rfl, S3⟩; refine ⟨_, rfl, ?_⟩; obtain ⟨A', c', rfl, hle', hC'⟩ := S3.reads 0 rfl; have HS3 := Aside0.mk S3; clear S3 hle' hC')
        | ((with_reducible refine gate_dst (N := 18) rfl ?_); refine goesF (f := 179) (args := #[.slice A' r.f1.length c', .func (.func 180) #[] #[.pointer (some ⟨w.heap.size + 1, 0, none⟩)]]) rfl rfl rfl (by (try simp only [List.map_toArray, List.map_cons, List.map_nil]); rfl) (Enter.mk Try.func179 (by kernel_rfl) rfl) ?_; refine (deleteFunc_calls HS3.out 180 _ (fun v => rd vs v != 0) (Enter.mk Try.func180 (by kernel_rfl) rfl) (fun x ys w' hx S' => forced1_app (A := A) (n := n) (c := c) (vs := vs) (b := w.heap.size + 1) (t := 24) 3 1 S' rfl rfl x (HOK.out.idx x hx).1 (HOK.out.idx x hx).2)).mono ?_; rintro e e1 ⟨v2, rfl, S4⟩; refine ⟨_, rfl, ?_⟩; rw [← HKS.out] at S4; obtain ⟨A'', c'', rfl, hle', hC'⟩ := S4.reads 0 rfl; have HS4 := Aside0.mk S4; clear S4 hle' hC' hb0 hb1 hb2))
      obtain ⟨g4, hg4, _⟩ := HS4.out.intAt 0 rfl 0 (by omega) (by simp)
      cases hg4
      have HS5 := Aside0.mk (HS4.out.alloc (.cells #[.int .i64 1, .int .i64 (-1)] 2))
      generalize e1.heap.size = b4 at *
      go_loopw [4, 5, 6, 9, 24] (fun _ _ _ _ v24 wr => ∃ k : Nat, k ≤ 2 ∧ v24 = .int .i64 k ∧ Aside0 ((1 ≤ k → ¬ holdsRule r (vs.set v.toNat (-1)) < 0) ∧ (2 ≤ k → ¬ holdsRule r (vs.set v.toNat 1) < 0)) ∧
        Aside0 (Sat w0 (fps b4 w.heap.size g4 c'' v A n c r A1 A2 c1 c2 vs R) wr)) (fun _ _ _ _ v24 _ => 2 - (intOf v24).toNat)
      case atStart => exact ⟨0, by omega, rfl, ⟨fun h => by omega, fun h => by omega⟩, HS5⟩
      case round =>
        clear HS5 HS4
        obtain ⟨k, hk, rfl, HNO, HS5⟩ := hrel
        by_cases hlt : k < 2
        · rcases (show k = 0 ∨ k = 1 by omega) with rfl | rfl
          · obtain ⟨hq0, hq1⟩ := box2 (HS5.out.blk 0 rfl)
            obtain ⟨hb0, hb1, hb2⟩ := box3 (HS5.out.blk 3 rfl)
            have hb3 := box1 (HS5.out.blk 2 rfl)
            obtain ⟨g5, hg5, hv5, _, _⟩ := HS5.out.intAt 1 rfl 0 (by omega) (by simp)
            cases hg5
            rw [show rd [v] 0 = v from rfl] at hv5
            simp only [Int.toNat_zero] at hv5
            have HWC := Aside0.mk (with_calls A1 A2 c1 c2 v (-1) (HS5.out.drew.front 4 rfl) ((((HRD.out.cons _).cons _).cons _).cons _) HOK.out HV.out ⟨hva, hvb⟩ (by simp [unit3]))
            by_cases hh : holdsRule r (vs.set v.toNat (-1)) < 0
            · have hd : decide (holdsRule r (vs.set v.toNat (-1)) < 0) = true := decide_eq_true hh
              have HH := Aside0.mk hh
              have HFW : Aside0 (forcedR r vs = some (v, 1)) := ⟨by rw [HFV.out, if_pos hh]⟩
              clear hh HFV HNO
              generalize holdsRule r (vs.set v.toNat (-1)) = z1 at *
              go_wp2
              go_still_tail 7, (by kernel_rfl)
              change wpList _ _ _ _ _ wr.drew
              go_wp2_with (((with_reducible refine gate_dst (N := 35) rfl ?_); refine goesF (f := 154) (args := #[ruleW r A1 A2 c1 c2, .slice A n c, .int .i64 v, .int .i64 (-1)]) rfl rfl rfl (by (try simp only [List.map_toArray, List.map_cons, List.map_nil]); rfl) (Enter.mk Try.func154 (by kernel_rfl) rfl) ?_; refine (HWC.out).mono ?_; rintro e e1 ⟨rfl, S6⟩; refine ⟨_, rfl, ?_⟩; have HS6 : Aside0 (Sat w0 (fps b4 w.heap.size g4 c'' v A n c r A1 A2 c1 c2 vs R) e1) := ⟨S6.back 4 (by simp)⟩; clear S6; obtain ⟨g5, hg5, hv5, _, _⟩ := HS6.out.intAt 1 rfl 0 (by omega) (by simp); cases hg5; rw [show rd [v] 0 = v from rfl] at hv5; simp only [Int.toNat_zero] at hv5))
              go_ret3
              exact ⟨by rw [HFW.out]; rfl, HS6.out.tail.tail.tail.tail⟩
            · have hd : decide (holdsRule r (vs.set v.toNat (-1)) < 0) = false := decide_eq_false hh
              have HH := Aside0.mk hh
              clear hh
              obtain ⟨z1, hz1⟩ : ∃ z1, z1 = holdsRule r (vs.set v.toNat (-1)) := ⟨_, rfl⟩
              rw [← hz1] at hd HWC
              clear hz1
              go_wp2
              go_still_tail 7, (by kernel_rfl)
              change wpList _ _ _ _ _ wr.drew
              go_wp2_with (((with_reducible refine gate_dst (N := 35) rfl ?_); refine goesF (f := 154) (args := #[ruleW r A1 A2 c1 c2, .slice A n c, .int .i64 v, .int .i64 (-1)]) rfl rfl rfl (by (try simp only [List.map_toArray, List.map_cons, List.map_nil]); rfl) (Enter.mk Try.func154 (by kernel_rfl) rfl) ?_; refine (HWC.out).mono ?_; rintro e e1 ⟨rfl, S6⟩; refine ⟨_, rfl, ?_⟩; have HS6 : Aside0 (Sat w0 (fps b4 w.heap.size g4 c'' v A n c r A1 A2 c1 c2 vs R) e1) := ⟨S6.back 4 (by simp)⟩; clear S6))
              exact ⟨⟨1, by omega, by go_num, ⟨fun _ => by have := HH.out; omega, fun _ => by omega⟩, HS6⟩, by simp [intOf]⟩
          · obtain ⟨hq0, hq1⟩ := box2 (HS5.out.blk 0 rfl)
            obtain ⟨hb0, hb1, hb2⟩ := box3 (HS5.out.blk 3 rfl)
            have hb3 := box1 (HS5.out.blk 2 rfl)
            obtain ⟨g5, hg5, hv5, _, _⟩ := HS5.out.intAt 1 rfl 0 (by omega) (by simp)
            cases hg5
            rw [show rd [v] 0 = v from rfl] at hv5
            simp only [Int.toNat_zero] at hv5
            have HWC := Aside0.mk (with_calls A1 A2 c1 c2 v (1) (HS5.out.drew.front 4 rfl) ((((HRD.out.cons _).cons _).cons _).cons _) HOK.out HV.out ⟨hva, hvb⟩ (by simp [unit3]))
            by_cases hh : holdsRule r (vs.set v.toNat (1)) < 0
            · have hd : decide (holdsRule r (vs.set v.toNat (1)) < 0) = true := decide_eq_true hh
              have HH := Aside0.mk hh
              have HFW : Aside0 (forcedR r vs = some (v, -1)) := ⟨by rw [HFV.out, if_neg (HNO.out.1 (by omega)), if_pos hh]⟩
              clear hh HFV HNO
              generalize holdsRule r (vs.set v.toNat (1)) = z1 at *
              go_wp2
              go_still_tail 7, (by kernel_rfl)
              change wpList _ _ _ _ _ wr.drew
              go_wp2_with (((with_reducible refine gate_dst (N := 35) rfl ?_); refine goesF (f := 154) (args := #[ruleW r A1 A2 c1 c2, .slice A n c, .int .i64 v, .int .i64 (1)]) rfl rfl rfl (by (try simp only [List.map_toArray, List.map_cons, List.map_nil]); rfl) (Enter.mk Try.func154 (by kernel_rfl) rfl) ?_; refine (HWC.out).mono ?_; rintro e e1 ⟨rfl, S6⟩; refine ⟨_, rfl, ?_⟩; have HS6 : Aside0 (Sat w0 (fps b4 w.heap.size g4 c'' v A n c r A1 A2 c1 c2 vs R) e1) := ⟨S6.back 4 (by simp)⟩; clear S6; obtain ⟨g5, hg5, hv5, _, _⟩ := HS6.out.intAt 1 rfl 0 (by omega) (by simp); cases hg5; rw [show rd [v] 0 = v from rfl] at hv5; simp only [Int.toNat_zero] at hv5))
              go_ret3
              exact ⟨by rw [HFW.out]; rfl, HS6.out.tail.tail.tail.tail⟩
            · have hd : decide (holdsRule r (vs.set v.toNat (1)) < 0) = false := decide_eq_false hh
              have HH := Aside0.mk hh
              clear hh
              obtain ⟨z1, hz1⟩ : ∃ z1, z1 = holdsRule r (vs.set v.toNat (1)) := ⟨_, rfl⟩
              rw [← hz1] at hd HWC
              clear hz1
              go_wp2
              go_still_tail 7, (by kernel_rfl)
              change wpList _ _ _ _ _ wr.drew
              go_wp2_with (((with_reducible refine gate_dst (N := 35) rfl ?_); refine goesF (f := 154) (args := #[ruleW r A1 A2 c1 c2, .slice A n c, .int .i64 v, .int .i64 (1)]) rfl rfl rfl (by (try simp only [List.map_toArray, List.map_cons, List.map_nil]); rfl) (Enter.mk Try.func154 (by kernel_rfl) rfl) ?_; refine (HWC.out).mono ?_; rintro e e1 ⟨rfl, S6⟩; refine ⟨_, rfl, ?_⟩; have HS6 : Aside0 (Sat w0 (fps b4 w.heap.size g4 c'' v A n c r A1 A2 c1 c2 vs R) e1) := ⟨S6.back 4 (by simp)⟩; clear S6))
              exact ⟨⟨2, by omega, by go_num, ⟨fun _ => by have := HNO.out.1 (by omega); omega, fun _ => by have := HH.out; omega⟩, HS6⟩, by simp [intOf]⟩
        · obtain rfl : k = 2 := by omega
          have HFW : Aside0 (forcedR r vs = none) := ⟨by rw [HFV.out, if_neg (HNO.out.1 (by omega)), if_neg (HNO.out.2 (by omega))]⟩
          go_wp2
          go_ret3
          exact ⟨by rw [HFW.out]; rfl, HS5.out.tail.tail.tail.tail⟩
    · have HFW : Aside0 (forcedR r vs = none) := ⟨by
        rw [HF.out]
        match ks, hl with
        | [], _ => rfl
        | [v], h => exact absurd rfl h
        | _ :: _ :: _, _ => rfl⟩
      have hl2 : ((ks.length : Int) != 1) = true := by
        have : (ks.length : Int) ≠ 1 := by omega
        simpa using this
      clear hl HF
      go_enter Try.func176, Try.ntmps176
      go_wp2_with (first
        | ((with_reducible refine gate_dst (N := 12) rfl ?_); refine goesF (f := 66) (args := #[.agg #[.int .i64 r.f0, .slice A1 r.f1.length c1, .slice A2 r.f2.length c2], .slice A n c]) rfl rfl rfl (by (try simp only [List.map_toArray, List.map_cons, List.map_nil]); rfl) (Enter.mk Try.func66 (by kernel_rfl) rfl) ?_; refine (HCALL.out).mono ?_; rintro e e1 ⟨rfl, hb⟩; refine ⟨_, rfl, ?_⟩; have HS2 := Aside0.mk (HS1.out.below hb); clear hb; obtain ⟨hb0, hb1, hb2⟩ := box3 (HS2.out.blk 1 rfl))
        | ((with_reducible refine gate_dst (N := 16) rfl ?_); refine goesF (f := 120) (args := #[.slice A1 r.f1.length c1]) rfl rfl rfl (by (try simp only [List.map_toArray, List.map_cons, List.map_nil]); rfl) (Enter.mk Try.func120 (by kernel_rfl) rfl) ?_; refine (clone_calls HS2.out A1 c1 r.f1 (HRD.out _ HS2.out.tail.tail.tail).1 (by have := HOK.out.len1; have := HOK.out.kind.2; omega)).mono ?_; rintro e e1 ⟨v1, rfl, S3⟩; refine ⟨_, rfl, ?_⟩; obtain ⟨A', c', rfl, hle', hC'⟩ := S3.reads 0 rfl; have HS3 := Aside0.mk S3; clear S3 hle' hC')
        | ((with_reducible refine gate_dst (N := 18) rfl ?_); refine goesF (f := 179) (args := #[.slice A' r.f1.length c', .func (.func 180) #[] #[.pointer (some ⟨w.heap.size + 1, 0, none⟩)]]) rfl rfl rfl (by (try simp only [List.map_toArray, List.map_cons, List.map_nil]); rfl) (Enter.mk Try.func179 (by kernel_rfl) rfl) ?_; refine (deleteFunc_calls HS3.out 180 _ (fun v => rd vs v != 0) (Enter.mk Try.func180 (by kernel_rfl) rfl) (fun x ys w' hx S' => forced1_app (A := A) (n := n) (c := c) (vs := vs) (b := w.heap.size + 1) (t := 24) 3 1 S' rfl rfl x (HOK.out.idx x hx).1 (HOK.out.idx x hx).2)).mono ?_; rintro e e1 ⟨v2, rfl, S4⟩; refine ⟨_, rfl, ?_⟩; rw [← HKS.out] at S4; obtain ⟨A'', c'', rfl, hle', hC'⟩ := S4.reads 0 rfl; have HS4 := Aside0.mk S4; clear S4 hle' hC' hb0 hb1 hb2))
      go_ret3
      exact ⟨by rw [HFW.out]; rfl, HS4.out.tail.tail.tail⟩
  · have HF : Aside0 (forcedR r vs = none) := ⟨by simp [forcedR, h0]⟩
    have hne : ((holdsRule r vs) != 0) = true := by simpa using h0
    generalize holdsRule r vs = z at *
    clear h0
    go_enter Try.func176, Try.ntmps176
    go_wp2_with (((with_reducible refine gate_dst (N := 12) rfl ?_); refine goesF (f := 66) (args := #[.agg #[.int .i64 r.f0, .slice A1 r.f1.length c1, .slice A2 r.f2.length c2], .slice A n c]) rfl rfl rfl (by (try simp only [List.map_toArray, List.map_cons, List.map_nil]); rfl) (Enter.mk Try.func66 (by kernel_rfl) rfl) ?_; refine (HCALL.out).mono ?_; rintro e e1 ⟨rfl, hb⟩; refine ⟨_, rfl, ?_⟩; have HS2 := Aside0.mk (HS1.out.below hb); clear hb))
    go_ret3
    exact ⟨by rw [HF.out]; rfl, HS2.out.tail.tail⟩
end Go.Proofs.Ytmgmilnoeghgfaa
