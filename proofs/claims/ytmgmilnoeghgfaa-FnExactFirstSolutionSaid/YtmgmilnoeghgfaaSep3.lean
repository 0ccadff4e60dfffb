import Derived.Test.YtmgmilnoeghgfaaSep2
set_option linter.unusedVariables false
set_option linter.unusedSimpArgs false
namespace Go.Proofs.Ytmgmilnoeghgfaa
open Go.RowKit Go.Proofs.YtmgmilnoeghgfaaW.PrintWords Go.Proofs.YtmgmilnoeghgfaaW.PrintLast Go.Proofs.YtmgmilnoeghgfaaW.PrintMore

/-- Some value of which the piece speaks. -/
def Ex {α : Type} (p : α → HP) : HP := fun w ok => ∃ v, Loc (p v) w ok
/-- Several pieces as one. -/
def Star (qs : List HP) : HP := fun w ok => ∃ okf : Nat → Nat → Prop, (∀ i p, qs[i]? = some p → Loc p w (okf i)) ∧ (∀ i k, okf i k → ok k) ∧ (∀ i j k, okf i k → okf j k → i = j)
section
variable {w0 w : World} {ps qs : List HP}
theorem Sat.openEx {α : Type} {p : α → HP} (S : Sat w0 (Ex p :: ps) w) : ∃ v, Sat w0 (p v :: ps) w := by
  obtain ⟨hc, ok, hl, hb, hd⟩ := S
  obtain ⟨v, hv⟩ : Ex p w (ok 0) := (hl 0 _ rfl).now
  refine ⟨v, hc, ok, fun i q hq => ?_, hb, hd⟩
  cases i with
  | zero => simp at hq; subst hq; exact hv
  | succ i => exact hl (i + 1) q (by simpa using hq)
theorem Sat.closeEx {α : Type} {p : α → HP} {v : α} (S : Sat w0 (p v :: ps) w) : Sat w0 (Ex p :: ps) w := by
  obtain ⟨hc, ok, hl, hb, hd⟩ := S
  refine ⟨hc, ok, fun i q hq => ?_, hb, hd⟩
  cases i with
  | zero => simp at hq; subst hq; exact fun w2 h2 => ⟨v, (hl 0 _ rfl).move h2⟩
  | succ i => exact hl (i + 1) q (by simpa using hq)
theorem Sat.openStar (S : Sat w0 (Star qs :: ps) w) : Sat w0 (qs ++ ps) w := by
  obtain ⟨hc, ok, hl, hb, hd⟩ := S
  obtain ⟨okf, h1, h2, h3⟩ : Star qs w (ok 0) := (hl 0 _ rfl).now
  refine ⟨hc, fun j k => if j < qs.length then okf j k else ok (j - qs.length + 1) k, ?_, ?_, ?_⟩
  · intro i q hq
    by_cases hi : i < qs.length
    · rw [List.getElem?_append_left hi] at hq
      simp only [hi, if_true]
      exact h1 i q hq
    · rw [List.getElem?_append_right (by omega)] at hq
      simp only [hi, if_false]
      exact hl (i - qs.length + 1) q (by simpa using hq)
  · intro i k hk
    by_cases hi : i < qs.length
    · simp only [hi, if_true] at hk
      exact hb 0 k (h2 i k hk)
    · simp only [hi, if_false] at hk
      exact hb _ k hk
  · intro i j k hik hjk
    by_cases hi : i < qs.length <;> by_cases hj : j < qs.length
    · simp only [hi, if_true] at hik
      simp only [hj, if_true] at hjk
      exact h3 i j k hik hjk
    · simp only [hi, if_true] at hik
      simp only [hj, if_false] at hjk
      have := hd _ _ k (h2 i k hik) hjk
      omega
    · simp only [hi, if_false] at hik
      simp only [hj, if_true] at hjk
      have := hd _ _ k (h2 j k hjk) hik
      omega
    · simp only [hi, if_false] at hik
      simp only [hj, if_false] at hjk
      have := hd _ _ k hik hjk
      omega
theorem Sat.closeStar (S : Sat w0 (qs ++ ps) w) : Sat w0 (Star qs :: ps) w := by
  obtain ⟨hc, ok, hl, hb, hd⟩ := S
  have hq : ∀ i q, qs[i]? = some q → Loc q w (ok i) := fun i q h => hl i q (by rw [List.getElem?_append_left (List.getElem?_eq_some_iff.1 h).1]; exact h)
  refine ⟨hc, fun j k => match j with | 0 => (∃ i, i < qs.length ∧ ok i k) | j + 1 => ok (j + qs.length) k, ?_, ?_, ?_⟩
  · intro i q h
    cases i with
    | zero =>
      simp at h
      subst h
      refine fun w2 h2 => ⟨fun i k => i < qs.length ∧ ok i k, fun i p hp => ?_, fun i k hk => ⟨i, hk.1, hk.2⟩, fun i j k h3 h4 => hd i j k h3.2 h4.2⟩
      have hi := (List.getElem?_eq_some_iff.1 hp).1
      intro w3 h3
      have h5 := hq i p hp w3 (fun k hk => (h3 k ⟨hi, hk⟩).trans (h2 k ⟨i, hi, hk⟩))
      have : (fun k => i < qs.length ∧ ok i k) = ok i := by funext k; simp [hi]
      rw [← this] at h5
      exact h5
    | succ i => exact hl (i + qs.length) q (by rw [List.getElem?_append_right (by omega)]; simpa using h)
  · intro i k hk
    cases i with
    | zero => obtain ⟨j, _, hj⟩ := hk; exact hb j k hj
    | succ i => exact hb _ k hk
  · intro i j k h1 h2
    cases i <;> cases j
    · rfl
    · obtain ⟨l, hl1, hl2⟩ := h1
      have := hd _ _ k hl2 h2
      omega
    · obtain ⟨l, hl1, hl2⟩ := h2
      have := hd _ _ k h1 hl2
      omega
    · have := hd _ _ k h1 h2
      omega
end
end Go.Proofs.Ytmgmilnoeghgfaa
