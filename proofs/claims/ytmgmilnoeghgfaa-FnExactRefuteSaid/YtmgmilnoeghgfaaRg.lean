import Derived.Deep.RegionHeld3
set_option linter.unusedVariables false
set_option linter.unusedSimpArgs false
namespace Go.Proofs.Ytmgmilnoeghgfaa

/-! ### Regions that draw their order: loads are taken first under a condition that holds only till operation d has come up -/
section
variable {P : Program} {ops : Array Oper} {Q : Exit → Act → World → Prop} {md : Region.Mode} {S : Bool → World → Prop} {d : Nat}

/-- Operation j waits for operation i, at once or through others. -/
def needs (md : Region.Mode) (ops : Array Oper) : Nat → Nat → Nat → Bool
  | 0, _, _ => false
  | f + 1, j, i => match ops[j]? with
    | some oj => oj.after.any fun e => Region.binds md e && (e.on == i || needs md ops f e.on i)
    | none => false
def Closed (md : Region.Mode) (ops : Array Oper) (l : Array Bool) : Prop :=
  l.size = ops.size ∧ ∀ j oj, ops[j]? = some oj → l.getD j false = true → ∀ e ∈ oj.after, Region.binds md e = true → l.getD e.on false = true
def closedB (md : Region.Mode) (ops : Array Oper) (l : Array Bool) : Bool :=
  l.size == ops.size && (List.range ops.size).all fun j => match ops[j]? with
    | some oj => !l.getD j false || oj.after.all fun e => !Region.binds md e || l.getD e.on false
    | none => true
theorem closedB_spec {l : Array Bool} (h : closedB md ops l = true) : Closed md ops l := by
  unfold closedB at h
  simp only [Bool.and_eq_true, beq_iff_eq] at h
  refine ⟨h.1, fun j oj hj hl e he hb => ?_⟩
  have hlt : j < ops.size := (Array.getElem?_eq_some_iff.1 hj).1
  have h2 := List.all_eq_true.1 h.2 j (List.mem_range.2 hlt)
  rw [hj] at h2
  simp only [hl, Bool.not_true, Bool.false_or] at h2
  have h3 := (Array.all_eq_true'.1 h2) e he
  simpa [hb] using h3
theorem Closed.set {i : Nat} {l : Array Bool} (inv : Closed md ops l) (hi : i ∈ Region.ready md ops l) : Closed md ops (l.setIfInBounds i true) := by
  obtain ⟨_, oi, hoi, hall⟩ := mem_ready.1 hi
  refine ⟨by simp [inv.1], fun j oj hj hl e he hb => ?_⟩
  by_cases hij : i = j
  · subst hij
    have : oj = oi := Option.some.inj (hj.symm.trans hoi)
    subst this
    exact getD_set_true (hall e he hb)
  · rw [getD_set_ne false hij] at hl
    exact getD_set_true (inv.2 j oj hj hl e he hb)
theorem needs_listed {l : Array Bool} (inv : Closed md ops l) {i : Nat} : ∀ (f j : Nat), needs md ops f j i = true → l.getD j false = true → l.getD i false = true
  | 0, _, h, _ => by cases h
  | f + 1, j, h, hl => by
    unfold needs at h
    split at h
    · rename_i oj hj
      obtain ⟨e, he, hb⟩ := Array.any_eq_true'.1 h
      simp only [Bool.and_eq_true, Bool.or_eq_true, beq_iff_eq] at hb
      have h1 := inv.2 j oj hj hl e he hb.1
      rcases hb.2 with h2 | h2
      · rw [← h2]; exact h1
      · exact needs_listed inv f e.on h2 h1
    · cases h
theorem needs_lt {f j i : Nat} (h : needs md ops f j i = true) : j < ops.size := by
  cases f with
  | zero => cases h
  | succ f =>
    unfold needs at h
    split at h
    · rename_i oj hj
      exact (Array.getElem?_eq_some_iff.1 hj).1
    · cases h
theorem getD_false_of {l : Array Bool} {j : Nat} (hlt : j < l.size) (h : l.getD j false = false) : l.getD j true = false := by
  simp [hlt] at h ⊢; exact h
theorem getD_false_to {l : Array Bool} {j : Nat} (h : l.getD j true = false) : l.getD j false = false := by
  rcases Nat.lt_or_ge j l.size with h' | h'
  · simp [h'] at h ⊢; exact h
  · simp [Array.getElem?_eq_none h'] at h

/-- Whatever order is picked from here on; behind each operation S holds: S false till d has come up, S true from then on. -/
def wpAnyG (P : Program) (md : Region.Mode) (ops : Array Oper) (Q : Exit → Act → World → Prop) (S : Bool → World → Prop) (d : Nat) : Nat → Array Bool → Act → World → Prop
  | 0, l, a, w => Region.ready md ops l = [] ∧ Q .normal a w
  | fuel + 1, l, a, w =>
    (Region.ready md ops l = [] → Q .normal a w) ∧
    ∀ i ∈ Region.ready md ops l, wpOp P ops Q i (fun a' w' => S ((l.setIfInBounds i true).getD d true) w' ∧ wpAnyG P md ops Q S d fuel (l.setIfInBounds i true) a' w') a w
theorem wpAny_of_G : ∀ (fuel : Nat) (l : Array Bool) (a : Act) (w : World), wpAnyG P md ops Q S d fuel l a w → wpAny P md ops Q fuel l a w
  | 0, _, _, _, h => h
  | fuel + 1, _, _, _, h => ⟨h.1, fun i hi => wpOp_mono (fun a' w' h' => wpAny_of_G fuel _ a' w' h'.2) (h.2 i hi)⟩

/-- Does the take under S b stand? -/
def takesAt (md : Region.Mode) (ops : Array Oper) (d i : Nat) (b : Bool) : Bool := i != d && (b || needs md ops ops.size d i)
theorem holds_at {i : Nat} {b : Bool} (ht : takesAt md ops d i b = true) (hm : ∀ w, S false w → S true w) {l : Array Bool} {w : World} (inv : Closed md ops l) (hun : l.getD i true = false) (hS : S (l.getD d true) w) : S b w := by
  unfold takesAt at ht
  cases b with
  | true =>
    cases h : l.getD d true with
    | true => rw [h] at hS; exact hS
    | false => rw [h] at hS; exact hm w hS
  | false =>
    simp at ht
    have hlt := needs_lt ht.2
    have h0 : l.getD d false = false := by
      cases h : l.getD d false with
      | false => rfl
      | true => have := needs_listed inv _ _ ht.2 h; rw [getD_false_to hun] at this; cases this
    rw [getD_false_of (by rw [inv.1]; exact hlt) h0] at hS
    exact hS
theorem wpAnyG_first {i : Nat} {oi : Oper} {v : Value} {b : Bool} (hi : ops[i]? = some oi) (hsel : ∀ (j : Nat) (o : Oper) cs b, ops[j]? = some o → o.op ≠ .select cs b)
    (hQ : ∀ c a w, Q (.panic c) (a.put oi.dst v) w → Q (.panic c) a w) (ht : takesAt md ops d i b = true) (hm : ∀ w, S false w → S true w) :
    ∀ (fuel : Nat) (l : Array Bool) (a : Act) (w : World), Closed md ops l →
      (∀ j oj, ops[j]? = some oj → j ≠ i → l.getD j true = false → (∀ e ∈ oj.after, Region.binds md e = true → e.on ≠ i) → oi.apart ops oj = true) →
      i ∈ Region.ready md ops l → YieldsIf P ops (S b) oi v a → S (l.getD d true) w →
      wpAnyG P md ops Q S d fuel (l.setIfInBounds i true) (a.put oi.dst v) w → wpAnyG P md ops Q S d (fuel + 1) l a w := by
  have hid : i ≠ d := by unfold takesAt at ht; simp at ht; exact ht.1
  intro fuel
  induction fuel with
  | zero =>
    intro l a w inv _ hr hy hS H
    refine ⟨fun h => (by rw [h] at hr; cases hr), fun j hj => ?_⟩
    by_cases hji : j = i
    · subst hji; exact hy.wpOp hi (holds_at ht hm inv (mem_ready.1 hr).1 hS) ⟨by rw [getD_set_ne true hid]; exact hS, H⟩
    · have := ready_mono hj hji
      rw [H.1] at this
      cases this
  | succ fuel ih =>
    intro l a w inv hfree hr hy hS H
    refine ⟨fun h => (by rw [h] at hr; cases hr), fun j hj => ?_⟩
    by_cases hji : j = i
    · subst hji; exact hy.wpOp hi (holds_at ht hm inv (mem_ready.1 hr).1 hS) ⟨by rw [getD_set_ne true hid]; exact hS, H⟩
    · have h1 := H.2 j (ready_mono hj hji)
      obtain ⟨hjun, oj, hoj, hall⟩ := mem_ready.1 hj
      have hnot : ∀ e ∈ oj.after, Region.binds md e = true → e.on ≠ i := fun e he hb heq => by
        have h1 := hall e he hb
        have h0 := (mem_ready.1 hr).1
        rw [heq] at h1
        rcases Nat.lt_or_ge i l.size with h' | h'
        · simp [h'] at h0 h1; rw [h0] at h1; cases h1
        · simp [Array.getElem?_eq_none h'] at h1
      have h2 := wpOp_putIf hoj (hfree j oj hoj hji hjun hnot) (fun cs b => hsel i oi cs b hi) (fun cs b => hsel j oj cs b hoj) hQ hy h1
      have hfree' : ∀ k ok, ops[k]? = some ok → k ≠ i → (l.setIfInBounds j true).getD k true = false →
          (∀ e ∈ ok.after, Region.binds md e = true → e.on ≠ i) → oi.apart ops ok = true := fun k ok hk hki hun hno => by
        refine hfree k ok hk hki ?_ hno
        by_cases hjk : j = k
        · subst hjk; exact hjun
        · rw [getD_set_ne true hjk] at hun; exact hun
      have hset : ((l.setIfInBounds i true).setIfInBounds j true).getD d true = (l.setIfInBounds j true).getD d true := by
        rw [← Array.setIfInBounds_comm _ _ hji, getD_set_ne true hid]
      refine wpOp_mono (fun a' w' h3 => ?_) h2
      have hS' : S ((l.setIfInBounds j true).getD d true) w' := by have h4 := h3.2.1; rw [hset] at h4; exact h4
      refine ⟨hS', ih (l.setIfInBounds j true) a' w' (inv.set hj) hfree' (ready_mono hr (Ne.symm hji)) h3.1 hS' ?_⟩
      rw [Array.setIfInBounds_comm _ _ hji]
      exact h3.2.2

/-- Take number i first. -/
theorem wpAnyG_take {i : Nat} (b : Bool) {c : Bool} {oi : Oper} {v : Value} {fuel : Nat} {l : Array Bool} {a : Act} {w : World} (hm : ∀ w, S false w → S true w) (hi : ops[i]? = some oi)
    (hs : (Region.noSelect ops && (takesAt md ops d i b && (closedB md ops l && (l.getD d true == c && (Region.free md ops l i && (Region.ready md ops l).contains i))))) = true)
    (hQ : ∀ c a w, Q (.panic c) (a.put oi.dst v) w → Q (.panic c) a w) (hw : Region.wanted oi (yielded ops a.tmps) = true) (hy : ∀ w, S b w → (execOp a.eval oi).run P w = .ok (.value v) w) (hS : S c w)
    (h : wpAnyG P md ops Q S d fuel (l.setIfInBounds i true) (a.put oi.dst v) w) : wpAnyG P md ops Q S d (fuel + 1) l a w := by
  simp only [Bool.and_eq_true] at hs
  exact wpAnyG_first hi (Region.noSelect_spec hs.1) hQ hs.2.1 hm fuel l a w (closedB_spec hs.2.2.1) (Region.free_spec hi hs.2.2.2.2.1) (by simpa using hs.2.2.2.2.2) (.inl ⟨hw, hy⟩) (by rw [beq_iff_eq.1 hs.2.2.2.1]; exact hS) h
/-- One alone may come up. -/
theorem wpAnyG_one {i : Nat} (c : Bool) {o : Oper} {fuel : Nat} {l : Array Bool} {a : Act} {w : World} (hr : Region.ready md ops l = [i]) (hc : (l.setIfInBounds i true).getD d true = c) (ho : ops[i]? = some o)
    (h : ∀ K' : Act → World → Prop, Shut (∀ a w, S c w → (S c w → wpAnyG P md ops Q S d fuel (l.setIfInBounds i true) a w) → K' a w) → if Region.wanted o (yielded ops a.tmps) = true then Oper.wp P o a w K' Q else K' (a.put o.dst undef) w) :
    wpAnyG P md ops Q S d (fuel + 1) l a w := by
  refine ⟨fun h0 => (by rw [hr] at h0; cases h0), fun j hj => ?_⟩
  rw [hr] at hj
  obtain rfl := List.mem_singleton.1 hj
  refine wpOp_step ho (fun K' hK => h K' (fun a w hS hW => hK a w ⟨?_, hW hS⟩))
  rw [hc]
  exact hS
theorem wpAnyG_done {fuel : Nat} {l : Array Bool} {a : Act} {w : World} (hr : Region.ready md ops l = []) (h : Q .normal a w) : wpAnyG P md ops Q S d fuel l a w := by
  cases fuel with
  | zero => exact ⟨hr, h⟩
  | succ f => exact ⟨fun _ => h, by rw [hr]; simp⟩
theorem wp_region_G {id : Nat} {a : Act} {w : World} (S : Bool → World → Prop) (d : Nat) (hm : P.follows .mixedOrders = true) (hS : S false w.drew)
    (h : S false w.drew → wpAnyG P .any ops Q S d ops.size (Array.replicate ops.size false) a w.drew) : (Code.region id ops true).wp P Q a w :=
  wp_region_any hm (wpAny_of_G _ _ _ _ (h hS))
end
end Go.Proofs.Ytmgmilnoeghgfaa
