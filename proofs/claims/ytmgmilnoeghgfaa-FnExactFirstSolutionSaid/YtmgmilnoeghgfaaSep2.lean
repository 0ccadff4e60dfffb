import Derived.Test.YtmgmilnoeghgfaaSep
import Derived.Lib.SliceRun
set_option linter.unusedVariables false
set_option linter.unusedSimpArgs false
namespace Go.Proofs.Ytmgmilnoeghgfaa
open Go.RowKit Go.Proofs.YtmgmilnoeghgfaaW.PrintWords Go.Proofs.YtmgmilnoeghgfaaW.PrintLast Go.Proofs.YtmgmilnoeghgfaaW.PrintMore

section
variable {w0 w w' : World} {ps R : List HP} {α : Type} {enc : α → Value} {h1 : ∀ x : α, (enc x).oneCell' = true} {e : Nat}
/-- The cell of a row that may be written. -/
theorem own_cell {base n c : Nat} {g : Nat} {xs : List α} (h : w.ownsRow base e 1 (.slice (some ⟨g, 0, none⟩) n c) n (encs enc xs)) (i : Nat) (hi : i < xs.length) : w.cell? ⟨g, i, none⟩ = some (enc xs[i]) ∧ w.frozen? ⟨g, i, none⟩ = false ∧ g < w.heap.size := by
  have hn : xs.length = n := by have := h.1; simp [encs] at this; exact this
  rcases h.2 with ⟨h', _⟩ | ⟨g', cap', cur, h', _, hh, h3, h4, h5, h6⟩
  · cases h'
  · have e1 : g = g' := by injection h' with h'; injection h' with h'; injection h' with h'
    subst e1
    have hlt : i < n * 1 := by omega
    have : cur.toList[i]? = some (enc xs[i]) := by
      have e2 : (cur.toList.take (n * 1))[i]? = (encs enc xs)[i]? := by rw [h6]
      rw [List.getElem?_take_of_lt hlt] at e2
      rw [e2]
      simp [encs, List.getElem?_eq_getElem hi]
    refine ⟨?_, by simp [World.frozen?, hh], (Array.getElem?_eq_some_iff.1 hh).1⟩
    simp [World.cell?, hh]
    simpa using this
theorem Sat.cellAt (S : Sat w0 ps w) (i : Nat) {A : Option Addr} {n c : Nat} {xs : List α} (hp : ps[i]? = some (Rw (Kd.scalar enc h1) e (.slice A n c) xs)) (hpos : 0 < xs.length) :
    ∃ g, A = some ⟨g, 0, none⟩ ∧ n = xs.length ∧ ∀ k, ∀ hk : k < xs.length, w.cell? ⟨g, k, none⟩ = some (enc xs[k]) ∧ w.frozen? ⟨g, k, none⟩ = false ∧ g < w.heap.size := by
  obtain ⟨ok, h, _⟩ := S.at_ i hp
  have ho := Kd.own_of_R h
  have hn := (Kd.R_reads' h).1
  rcases ho.2 with ⟨h', h2⟩ | ⟨g, cap, cur, h', _⟩
  · omega
  · injection h' with hA h2 h3
    subst hA h3
    exact ⟨g, rfl, hn, fun k hk => own_cell (by rw [← h2] at ho; exact ho) k hk⟩
theorem Sat.store (S : Sat w0 ps w) (i : Nat) {g n c : Nat} {xs : List α} (hp : ps[i]? = some (Rw (Kd.scalar enc h1) e (.slice (some ⟨g, 0, none⟩) n c) xs)) (k : Nat) (x : α) :
    Sat w0 (ps.set i (Rw (Kd.scalar enc h1) e (.slice (some ⟨g, 0, none⟩) n c) (xs.set k x))) (w.setCell ⟨g, k, none⟩ (enc x)) := by
  obtain ⟨ok, hl, hb, hu⟩ := S.upd i hp
  have h0 := hl.now
  have hg : ok g := h0.1 g rfl
  refine hu _ _ ok (.setCell w _ _ hg) (fun k hk => ⟨.inl hk, by have := hb k hk; simpa [World.setCell] using this⟩) (fun w2 h2 => ?_)
  have h3 := Kd.R_putn h0 (k : Int) x
  simp only [Int.toNat_natCast] at h3
  exact Kd.R_move h3 h2
theorem cut_own {base n c g i : Nat} {xs : List α} (h : w.ownsRow base e 1 (.slice (some ⟨g, 0, none⟩) n c) n (encs enc xs)) (hi : i ≤ n) : w.ownsRow base e 1 (.slice (some ⟨g, 0, none⟩) i c) i (encs enc (xs.take i)) := by
  have hn : xs.length = n := by have := h.1; simp [encs] at this; exact this
  refine ⟨by simp [encs]; omega, ?_⟩
  rcases h.2 with ⟨h', _⟩ | ⟨g', cap', cur, h', hb, hh, h3, h4, h5, h6⟩
  · cases h'
  · injection h' with h7 h8 h9
    injection h7 with h7
    injection h7 with h7
    subst h7
    refine .inr ⟨g, cap', cur, by rw [h9], hb, hh, by omega, h4, h5, ?_⟩
    have : cur.toList.take (i * 1) = (cur.toList.take (n * 1)).take (i * 1) := by rw [List.take_take]; congr 1; omega
    rw [this, h6]
    simp [encs, List.map_take]
/-- A row is shortened. -/
theorem Sat.cut (S : Sat w0 ps w) (i : Nat) {g n c : Nat} {xs : List α} (hp : ps[i]? = some (Rw (Kd.scalar enc h1) e (.slice (some ⟨g, 0, none⟩) n c) xs)) (k : Nat) (hk : k ≤ n) :
    Sat w0 (ps.set i (Rw (Kd.scalar enc h1) e (.slice (some ⟨g, 0, none⟩) k c) (xs.take k))) w := by
  refine S.imp i hp (fun w ok h => ?_)
  have hn := (Kd.R_reads' h).1
  have ho := Kd.own_of_R h
  rw [← hn] at ho
  have h2 := cut_own ho hk
  refine Kd.R_of_own ?_ (fun k hk => h.1 k hk)
  have : (xs.take k).length = k := by simp; omega
  rw [this]
  exact h2
theorem Sat.setCells (i : Nat) {g n c : Nat} (k : Nat) (ys : List α) : ∀ (o : Nat) (w : World) (xs : List α) (ps : List HP), Sat w0 ps w → ps[i]? = some (Rw (Kd.scalar enc h1) e (.slice (some ⟨g, 0, none⟩) n c) xs) →
    ∃ zs, Sat w0 (ps.set i (Rw (Kd.scalar enc h1) e (.slice (some ⟨g, 0, none⟩) n c) zs)) (w.setCells g o (ys.map enc)) ∧ zs.take o = xs.take o ∧ zs.length = xs.length := by
  induction ys with
  | nil =>
    intro o w xs ps S hp
    refine ⟨xs, ?_, rfl, rfl⟩
    have : ps.set i (Rw (Kd.scalar enc h1) e (.slice (some ⟨g, 0, none⟩) n c) xs) = ps := by
      obtain ⟨hlt, he⟩ := List.getElem?_eq_some_iff.1 hp
      rw [← he, List.set_getElem_self]
    rw [this]
    exact S
  | cons y ys ih =>
    intro o w xs ps S hp
    have hlt : i < ps.length := (List.getElem?_eq_some_iff.1 hp).1
    have S1 := S.store i hp o y
    obtain ⟨zs, S2, ht, hl⟩ := ih (o + 1) _ _ _ S1 (List.getElem?_set_self hlt)
    refine ⟨zs, ?_, ?_, by rw [hl, List.length_set]⟩
    · rw [List.set_set] at S2
      exact S2
    · have h3 : zs.take o = (zs.take (o + 1)).take o := by rw [List.take_take]; congr 1; omega
      rw [h3, ht, List.take_take]
      rw [show min o (o + 1) = o by omega]
      exact List.take_set_of_le (Nat.le_refl _)
end
end Go.Proofs.Ytmgmilnoeghgfaa
