import Derived.Test.YtmgmilnoeghgfaaA5
set_option linter.unusedVariables false
set_option linter.unusedSimpArgs false
namespace Go.Proofs.Ytmgmilnoeghgfaa
open Go.RowKit Go.Proofs.YtmgmilnoeghgfaaW.PrintWords Go.Proofs.YtmgmilnoeghgfaaW.PrintLast Go.Proofs.YtmgmilnoeghgfaaW.PrintMore Go.Proofs.Ytmgmilnoeghgfaa.PFnExactSolveRules


theorem setCell_drewN (w : World) (n : Nat) (a : Addr) (v : Value) : (w.drewN n).setCell a v = (w.setCell a v).drewN n := rfl
attribute [local go_sem] setCell_drewN
theorem goodVars_lt {vars signs vs : List Int} (h : GoodVars vars signs vs) (k : Nat) (hk : k < vars.length) : 0 ≤ rd vars k ∧ rd vars k < vs.length := h.idx _ (by rw [rd_at vars k hk]; exact List.getElem_mem hk)
def holdsI (kind : Int) (q1 q2 : Nat) (p : Int) : Int :=
  if kind = 1 ∨ kind = 4 ∨ kind = 2 then p else if 0 < q2 ∧ 0 < q1 then 1 else if q2 = 3 ∨ q1 = 3 then -1 else 0
theorem holdsI_eq (kind : Int) (ts : List Int) (hl : (ts.length : Int) = kind) (h1 : 1 ≤ kind) (h4 : kind ≤ 4) (h3 : ∀ t ∈ ts, unit3 t) :
    holdsI kind (cnt 1 ts) (cnt (-1) ts) (prod ts) = holdsR kind ts := by
  by_cases e2 : kind = 2
  · subst e2
    match ts, hl, h3 with
    | [a, b], _, h3 =>
      have ha := h3 a (by simp)
      have hb := h3 b (by simp)
      rcases ha with rfl | rfl | rfl <;> rcases hb with rfl | rfl | rfl <;> decide
  · by_cases e3 : kind = 3
    · subst e3
      match ts, hl, h3 with
      | [a, b, c], _, h3 =>
        have ha := h3 a (by simp)
        have hb := h3 b (by simp)
        have hc := h3 c (by simp)
        rcases ha with rfl | rfl | rfl <;> rcases hb with rfl | rfl | rfl <;> rcases hc with rfl | rfl | rfl <;> decide
    · have : kind = 1 ∨ kind = 4 := by omega
      simp only [holdsI, holdsR]
      rw [if_neg e3, if_neg e2, if_pos (by omega)]
theorem terms_unit {vars signs vs : List Int} (h : GoodVars vars signs vs) : ∀ t ∈ terms vars signs vs, unit3 t := by
  intro t ht
  obtain ⟨k, hk, rfl⟩ := List.getElem_of_mem ht
  have hk' : k < vars.length := by simp [terms] at hk; omega
  have hk2 : k < signs.length := by have := h.len; omega
  have := h.t3 k hk'
  rw [rd_at vars k hk', rd_at signs k hk2] at this
  simpa [terms, term] using this
theorem terms_length {vars signs vs : List Int} (h : GoodVars vars signs vs) : (terms vars signs vs).length = vars.length := by
  have := h.len
  simp [terms]
  omega
set_option maxHeartbeats 2000000 in
theorem holds_calls (A1 A2 A3 : Option Addr) (kind : Int) (vars signs vs : List Int) (c1 c2 c3 : Nat) (w : World)
    (hc1 : (Kd.int .i64).C w A1 vars.length vars) (hc2 : (Kd.int .i64).C w A2 signs.length signs) (hc3 : (Kd.int .i64).C w A3 vs.length vs)
    (hg : GoodVars vars signs vs) (hkind : (vars.length : Int) = kind ∧ 1 ≤ kind) :
    Calls Try.prog 66 #[.agg #[.int .i64 kind, .slice A1 vars.length c1, .slice A2 signs.length c2], .slice A3 vs.length c3] w fun e w' => e = .returned (.int .i64 (holdsR kind (terms vars signs vs))) ∧ Below w.heap.size w w' := by
  have HG := Aside0.mk hg
  have HC1 := Aside0.mk hc1
  have HC2 := Aside0.mk hc2
  have HC3 := Aside0.mk hc3
  have HK := Aside0.mk hkind
  have hsm := hg.small
  clear hg hc1 hc2 hc3 hkind
  go_enter Try.func66, Try.ntmps66
  go_wp2
  go_loopw [6, 7, 8, 9, 13] (fun v6 v7 v8 v9 v13 wr => ∃ (k q0 q1 q2 : Nat) (p : Int), k ≤ vars.length ∧ q0 ≤ k ∧ q1 ≤ k ∧ q2 ≤ k ∧ v13 = .int .i64 k ∧ v6 = .int .i64 p ∧ Aside0 (St (terms (vars.take k) (signs.take k) vs) q0 q1 q2 p ∧ unit3 p) ∧
      ∃ m, wr = (((w.alloc (.cells #[.int .i64 kind, .slice A1 vars.length c1, .slice A2 signs.length c2] 71)).alloc (.cells #[.int .i64 q2, .int .i64 q0, .int .i64 q1] 130)).drewN m)) (fun _ _ _ _ v13 _ => vars.length - (intOf v13).toNat)
  case atStart => exact ⟨0, 0, 0, 0, 1, Nat.zero_le _, Nat.le_refl _, Nat.le_refl _, Nat.le_refl _, rfl, rfl, ⟨⟨rfl, rfl, rfl, rfl⟩, .inr (.inr rfl)⟩, 0, rfl⟩
  case round =>
    obtain ⟨k, q0, q1, q2, p, hk, hb0, hb1, hb2, rfl, rfl, HS, m, rfl⟩ := hrel
    by_cases hlt : k < vars.length
    · obtain ⟨ad1, e1, hx1⟩ := Kd.at_int HC1.out (k : Int) (by omega) (by omega)
      obtain ⟨ad2, e2, hx2⟩ := Kd.at_int HC2.out (k : Int) (by omega) (by have := HG.out.len; omega)
      have hr1 : 0 ≤ rd vars k ∧ rd vars k < vs.length := goodVars_lt HG.out k hlt
      obtain ⟨ad3, e3, hx3⟩ := Kd.at_int HC3.out (rd vars k) hr1.1 hr1.2
      cases e1
      cases e2
      cases e3
      obtain ⟨hr1a, hr1b⟩ := hr1
      have hlt2 : k < signs.length := by have := HG.out.len; omega
      have ht := HG.out.t3 k hlt
      have hsn := (HS.out.1.snoc (rd vs (rd vars k) * rd signs k))
      rw [← terms_snoc vars signs vs k hlt hlt2] at hsn
      have hp3 := HS.out.2
      have hpa : -1 ≤ p := by rcases hp3 with h | h | h <;> omega
      have hpb : p ≤ 1 := by rcases hp3 with h | h | h <;> omega
      clear hp3
      simp only [Int.toNat_natCast] at hx1 hx2
      generalize hv : rd vars k = v0 at *
      have HV := Aside0.mk hv
      clear hv
      have HP3 := Aside0.mk HS.out.2
      have hlc1 : (ad1.add k).block < w.heap.size := World.block_lt_of_cell? w _ hx1
      have hlc2 : (ad2.add k).block < w.heap.size := World.block_lt_of_cell? w _ hx2
      have hlc3 : (ad3.add v0.toNat).block < w.heap.size := World.block_lt_of_cell? w _ hx3
      rcases ht with ht | ht | ht
      · have hwt : wrap64 (rd vs v0 * rd signs ↑k) = -1 := by rw [ht]; unfold wrap64; omega
        rw [ht] at hsn
        clear ht
        simp at hsn
        have HN := Aside0.mk hsn
        clear hsn
        go_wp2
        go_quiet (fail)
        go_wp2
        exact ⟨⟨k + 1, q0, q1, q2 + 1, -p, by omega, by omega, by omega, by omega, by go_num, by simp, ⟨HN.out, by rcases HP3.out with h | h | h <;> simp [unit3, h]⟩, m + nq, by simp⟩, by simp [intOf]; omega⟩
      · have hwt : wrap64 (rd vs v0 * rd signs ↑k) = 0 := by rw [ht]; unfold wrap64; omega
        rw [ht] at hsn
        clear ht
        simp at hsn
        have HN := Aside0.mk hsn
        clear hsn
        go_wp2
        go_quiet (fail)
        go_wp2
        exact ⟨⟨k + 1, q0 + 1, q1, q2, 0, by omega, by omega, by omega, by omega, by go_num, by simp, ⟨HN.out, by simp [unit3]⟩, m + nq, by simp⟩, by simp [intOf]; omega⟩
      · have hwt : wrap64 (rd vs v0 * rd signs ↑k) = 1 := by rw [ht]; unfold wrap64; omega
        rw [ht] at hsn
        clear ht
        simp at hsn
        have HN := Aside0.mk hsn
        clear hsn
        go_wp2
        go_quiet (fail)
        go_wp2
        exact ⟨⟨k + 1, q0, q1 + 1, q2, p, by omega, by omega, by omega, by omega, by go_num, by simp, ⟨HN.out, HP3.out⟩, m + nq, by simp⟩, by simp [intOf]; omega⟩
    · obtain rfl : k = vars.length := by omega
      have hS := HS.out.1
      rw [List.take_length, List.take_of_length_le (by have := HG.out.len; omega)] at hS
      have HR := Aside0.mk hS
      clear hS HS
      go_wp2
      all_goals
        go_ret
        refine ⟨ret_num ?_, pw_below_drewN (below_alloc (below_alloc (Below.refl _ _) _) _) _⟩
        have hI := holdsI_eq kind (terms vars signs vs) (by rw [terms_length HG.out]; exact HK.out.1) HK.out.2 (by have := HK.out.1; omega) (terms_unit HG.out)
        rw [← HR.out.h1, ← HR.out.h2, ← HR.out.hp] at hI
        rw [← hI]
        clear hI HR HC1 HC2 HC3 HG
        grind [holdsI]
end Go.Proofs.Ytmgmilnoeghgfaa
