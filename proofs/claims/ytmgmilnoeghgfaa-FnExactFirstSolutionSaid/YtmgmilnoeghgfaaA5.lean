import Derived.Test.YtmgmilnoeghgfaaA4
set_option linter.unusedVariables false
set_option linter.unusedSimpArgs false
namespace Go.Proofs.Ytmgmilnoeghgfaa
open Go.RowKit Go.Proofs.YtmgmilnoeghgfaaW.PrintWords Go.Proofs.YtmgmilnoeghgfaaW.PrintLast Go.Proofs.YtmgmilnoeghgfaaW.PrintMore Go.Proofs.Ytmgmilnoeghgfaa.PFnExactSolveRules

def term (vs : List Int) (v s : Int) : Int := rd vs v * s
def cnt (c : Int) (l : List Int) : Nat := l.countP (· == c)
def prod (l : List Int) : Int := l.foldl (· * ·) 1
def terms (vars signs vs : List Int) : List Int := List.zipWith (term vs) vars signs

theorem cnt_snoc (c : Int) (l : List Int) (x : Int) : cnt c (l ++ [x]) = cnt c l + if x = c then 1 else 0 := by
  unfold cnt
  rw [List.countP_append]
  by_cases h : x = c <;> simp [List.countP_cons, h]
theorem prod_snoc (l : List Int) (x : Int) : prod (l ++ [x]) = prod l * x := by simp [prod, List.foldl_append]

structure GoodVars (vars signs vs : List Int) : Prop where
  len : signs.length = vars.length
  small : vars.length ≤ 4
  idx : ∀ v ∈ vars, 0 ≤ v ∧ v < vs.length
  sgn : ∀ s ∈ signs, s = 1 ∨ s = -1
  val : ∀ x ∈ vs, x = -1 ∨ x = 0 ∨ x = 1

structure St (ts : List Int) (c0 c1 c2 : Nat) (p : Int) : Prop where
  h0 : c0 = cnt 0 ts
  h1 : c1 = cnt 1 ts
  h2 : c2 = cnt (-1) ts
  hp : p = prod ts
theorem St.snoc {ts : List Int} {c0 c1 c2 : Nat} {p : Int} (h : St ts c0 c1 c2 p) (t : Int) : St (ts ++ [t]) (c0 + if t = 0 then 1 else 0) (c1 + if t = 1 then 1 else 0) (c2 + if t = -1 then 1 else 0) (p * t) :=
  ⟨by rw [cnt_snoc, h.h0], by rw [cnt_snoc, h.h1], by rw [cnt_snoc, h.h2], by rw [prod_snoc, h.hp]⟩
theorem terms_snoc (vars signs vs : List Int) (k : Nat) (h1 : k < vars.length) (h2 : k < signs.length) :
    terms (vars.take (k + 1)) (signs.take (k + 1)) vs = terms (vars.take k) (signs.take k) vs ++ [rd vs (rd vars k) * rd signs k] := by
  unfold terms
  rw [List.take_succ_eq_append_getElem h1, List.take_succ_eq_append_getElem h2, List.zipWith_append (by simp; omega)]
  simp [term, rd, List.getD_eq_getElem?_getD, List.getElem?_eq_getElem h1, List.getElem?_eq_getElem h2]
def unit3 (x : Int) : Prop := x = -1 ∨ x = 0 ∨ x = 1
theorem unit3.mul {x y : Int} (h : unit3 x) (k : unit3 y) : unit3 (x * y) := by
  rcases h with rfl | rfl | rfl <;> rcases k with rfl | rfl | rfl <;> simp [unit3]
theorem unit3.wrap {x : Int} (h : unit3 x) : wrap64 x = x := by unfold wrap64; rcases h with rfl | rfl | rfl <;> omega
theorem GoodVars.t3 {vars signs vs : List Int} (h : GoodVars vars signs vs) (k : Nat) (hk : k < vars.length) : unit3 (rd vs (rd vars k) * rd signs k) := by
  have h2 : k < signs.length := by have := h.len; omega
  have hv := h.idx (rd vars k) (by simp [rd, List.getD_eq_getElem?_getD, List.getElem?_eq_getElem hk])
  have h3 : (rd vars k).toNat < vs.length := by omega
  refine unit3.mul (h.val _ ?_) ?_
  · unfold rd
    simp only [List.getD_eq_getElem?_getD]
    rw [List.getElem?_eq_getElem (by simpa [rd, List.getD_eq_getElem?_getD] using h3)]
    simp
  · have := h.sgn (rd signs k) (by simp [rd, List.getD_eq_getElem?_getD, List.getElem?_eq_getElem h2])
    rcases this with h | h <;> simp [unit3, h]
def holdsR (kind : Int) (ts : List Int) : Int :=
  if kind = 3 then (if 0 < cnt 1 ts ∧ 0 < cnt (-1) ts then 1 else if cnt 0 ts = 0 then -1 else 0)
  else if kind = 2 then (if 0 < cnt 1 ts ∧ 0 < cnt (-1) ts then -1 else if cnt 0 ts = 0 then 1 else 0)
  else prod ts
set_option maxHeartbeats 1000000 in
theorem l15Holds_calls (A1 A2 A3 : Option Addr) (kind : Int) (vars signs vs : List Int) (c1 c2 c3 : Nat) (a0 : Addr) (w : World)
    (hk : w.cell? a0 = some (.int .i64 kind))
    (h1 : w.cell? ⟨a0.block, a0.off + 1, none⟩ = some (.slice A1 vars.length c1)) (hc1 : (Kd.int .i64).C w A1 vars.length vars)
    (h2 : w.cell? ⟨a0.block, a0.off + 2, none⟩ = some (.slice A2 signs.length c2)) (hc2 : (Kd.int .i64).C w A2 signs.length signs)
    (hc3 : (Kd.int .i64).C w A3 vs.length vs)
    (hg : GoodVars vars signs vs) :
    Calls Try.prog 61 #[.pointer (some a0), .slice A3 vs.length c3] w fun e w' => e = .returned (.int .i64 (holdsR kind (terms vars signs vs))) ∧ Drawn0 w w' := by
  have HG := Aside0.mk hg
  have HC1 := Aside0.mk hc1
  have HC2 := Aside0.mk hc2
  have HC3 := Aside0.mk hc3
  have hsm := hg.small
  clear hg hc1 hc2 hc3
  go_enter Try.func61, Try.ntmps61
  go_wp2
  go_loopw [5, 6, 7, 8, 9, 10] (fun v5 v6 v7 v8 v9 v10 wr => ∃ (k c0 c1 c2 : Nat) (p : Int), k ≤ vars.length ∧ c0 ≤ k ∧ c1 ≤ k ∧ c2 ≤ k ∧ v9 = .int .i64 k ∧ v5 = .int .i64 c0 ∧ v7 = .int .i64 c1 ∧ v8 = .int .i64 c2 ∧ v6 = .int .i64 p ∧ Aside0 (St (terms (vars.take k) (signs.take k) vs) c0 c1 c2 p ∧ unit3 p) ∧ Drawn0 w wr) (fun _ _ _ _ v9 _ _ => vars.length - (intOf v9).toNat)
  case atStart => exact ⟨0, 0, 0, 0, 1, Nat.zero_le _, Nat.le_refl _, Nat.le_refl _, Nat.le_refl _, rfl, rfl, rfl, rfl, rfl, ⟨⟨rfl, rfl, rfl, rfl⟩, .inr (.inr rfl)⟩, Drawn0.refl _⟩
  case round =>
    obtain ⟨k, c0, c1, c2, p, hk, hb0, hb1, hb2, rfl, rfl, rfl, rfl, rfl, HS, ⟨m, rfl⟩⟩ := hrel
    by_cases hlt : k < vars.length
    · obtain ⟨ad1, e1, hx1⟩ := Kd.at_int HC1.out (k : Int) (by omega) (by omega)
      obtain ⟨ad2, e2, hx2⟩ := Kd.at_int HC2.out (k : Int) (by omega) (by have := HG.out.len; omega)
      have hr1 : 0 ≤ rd vars k ∧ rd vars k < vs.length := HG.out.idx _ (by simp [rd, List.getD_eq_getElem?_getD, List.getElem?_eq_getElem hlt])
      obtain ⟨ad3, e3, hx3⟩ := Kd.at_int HC3.out (rd vars k) hr1.1 hr1.2
      cases e1
      cases e2
      cases e3
      obtain ⟨hr1a, hr1b⟩ := hr1
      have hlt2 : k < signs.length := by have := HG.out.len; omega
      have ht := HG.out.t3 k hlt
      have hsn := (HS.out.1.snoc (rd vs (rd vars k) * rd signs k))
      rw [← terms_snoc vars signs vs k hlt hlt2] at hsn
      have hwt := ht.wrap
      have hpt := unit3.mul HS.out.2 ht
      have hwp := hpt.wrap
      simp only [Int.toNat_natCast] at hx1 hx2
      generalize hv : rd vars k = v0 at *
      generalize ht0 : rd vs v0 * rd signs k = t at *
      generalize hp0 : p * t = pt at *
      have HV := Aside0.mk (And.intro hv (And.intro ht0 hp0))
      have HT := Aside0.mk (And.intro ht hpt)
      have HN := Aside0.mk hsn
      rw [← ht0] at hwt
      rw [← hp0] at hwp
      clear hv ht hsn hpt
      simp only [ht0, hp0] at hwt hwp
      have hwt' : wrap64 (rd vs v0 * rd signs ↑k) = t := by rw [ht0]; exact hwt
      have hwp' : wrap64 (p * t) = pt := by rw [hp0]; exact hwp
      clear ht0 hp0 hwt hwp
      go_wp2
      go_quiet (fail)
      go_wp2
      · have e0 : t = 0 := by simpa using ‹(t == 0) = true›
        have hn := HN.out
        subst e0
        simp at hn
        exact ⟨⟨k + 1, c0 + 1, c1, c2, pt, by omega, by omega, by omega, by omega, by go_num, by go_num, rfl, rfl, by rw [hwp'], ⟨hn, HT.out.2⟩, ⟨_, rfl⟩⟩, by simp [intOf]; omega⟩
      · have e0 : t = 1 := by simpa using ‹(t == 1) = true›
        have hn := HN.out
        subst e0
        simp at hn
        exact ⟨⟨k + 1, c0, c1 + 1, c2, pt, by omega, by omega, by omega, by omega, by go_num, rfl, by go_num, rfl, by rw [hwp'], ⟨hn, HT.out.2⟩, ⟨_, rfl⟩⟩, by simp [intOf]; omega⟩
      · have e0 : t = -1 := by
          have h0 : t ≠ 0 := by simpa using ‹(t == 0) = false›
          have h1 : t ≠ 1 := by simpa using ‹(t == 1) = false›
          rcases HT.out.1 with h | h | h <;> omega
        have hn := HN.out
        subst e0
        simp at hn
        exact ⟨⟨k + 1, c0, c1, c2 + 1, pt, by omega, by omega, by omega, by omega, by go_num, rfl, rfl, by go_num, by rw [hwp'], ⟨hn, HT.out.2⟩, ⟨_, rfl⟩⟩, by simp [intOf]; omega⟩
    · obtain rfl : k = vars.length := by omega
      have hS := HS.out.1
      rw [List.take_length, List.take_of_length_le (by have := HG.out.len; omega)] at hS
      have HR := Aside0.mk hS
      clear hS HS
      go_wp2
      all_goals
        go_ret
        refine ⟨congrArg (fun z => Ending.returned (.int .i64 z)) ?_, ⟨_, rfl⟩⟩
        obtain ⟨e0, e1, e2, e3⟩ := HR.out
        clear HR HC1 HC2 HC3 HG hk h1 h2
        grind [holdsR]
end Go.Proofs.Ytmgmilnoeghgfaa
