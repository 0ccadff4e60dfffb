import Derived.Test.YtmgmilnoeghgfaaQs
import Derived.Deep.Slices
import Derived.Deep.Strs
import Derived.ProofKit
set_option linter.unusedVariables false
set_option linter.unusedSimpArgs false
namespace Go.Proofs.Ytmgmilnoeghgfaa
open Go.RowKit Go.ChangeShapes Go.WideShapes Go.Proofs.YtmgmilnoeghgfaaW.PrintWords Go.Proofs.YtmgmilnoeghgfaaW.PrintLast Go.Proofs.YtmgmilnoeghgfaaW.PrintMore Go.Proofs.Ytmgmilnoeghgfaa.PFnExactSolveRules

section
variable {H : Type} {enc : TypeId × Value → H} {W : World} {fuel : Nat}
/-- A slice of integers that is read. -/
theorem ints_read {v : Value} {x : DataW H × List MemPlace} (h : DataW.trod enc Try.prog W 0 (fun _ => true) true fuel 24 [v] = some x) :
    ∃ A c, ∃ l : List Int, v = .slice A l.length c ∧ l.length ≤ c ∧ (Kd.int .i64).C W A l.length l := by
  rcases open_ints (k := .i64) Try.underlying24 Try.underlying2 (by kernel_rfl) h with ⟨hcs, _⟩ | ⟨a, len, cap, zs, hcs, _, hl, hm, hz, _, hcell, hwz⟩
  · simp at hcs
    subst hcs
    exact ⟨none, 0, [], rfl, Nat.le_refl _, rfl, by simp, fun h => absurd h (Nat.lt_irrefl _)⟩
  · simp at hcs
    subst hcs
    obtain ⟨l, rfl, hr, hm2, hw, hc⟩ := ReadsInt.ofRowC (k := .i64) (w := W) (a := some a) (len := len) (cap := cap) (zs := zs) (.inr ⟨_, rfl, hl, hm, by simpa using hz, hcell, hwz⟩)
    exact ⟨_, _, l, rfl, hc, Kd.C_of_reads (d := (0 : Int)) (h1 := fun _ => rfl) hr⟩
set_option maxRecDepth 100000 in
theorem rule_read {cs : List Value} {x : DataW H × List MemPlace} (h : DataW.trod enc Try.prog W 0 (fun _ => true) true fuel 96 cs = some x) : ∃ r : S96, k96.K W r cs := by
  obtain ⟨y0, y1, y2, n, _, hl, h0, h1, h2⟩ := Go.Deep.trod_struct3 Try.underlying96 h
  have hc : Try.prog.cellsOf 96 = 3 := by kernel_rfl
  have hc2 : Try.prog.cellsOf 2 = 1 := by kernel_rfl
  have hc24 : Try.prog.cellsOf 24 = 1 := by kernel_rfl
  rw [hc] at hl
  match cs, hl with
  | [c0, c1, c2], _ =>
    rw [hc2] at h0
    rw [hc24] at h1 h2
    obtain ⟨a, e0, _, _⟩ := DataW.trod_int (k := .i64) Try.underlying2 h0
    obtain ⟨A1, d1, l1, e1, g1, g2⟩ := ints_read (v := c1) h1
    obtain ⟨A2, d2, l2, e2, g3, g4⟩ := ints_read (v := c2) h2
    simp at e0
    subst e0 e1 e2
    exact ⟨⟨a, l1, l2⟩, k96_mk W ⟨a, l1, l2⟩ g1 g2 g3 g4⟩
theorem rules_read {a : Option Addr} {len cap : Nat} {x : DataW H × List MemPlace} (h : DataW.trod enc Try.prog W 0 (fun _ => true) true fuel 41 [.slice a len cap] = some x) :
    ∃ l : List S96, len = l.length ∧ l.length ≤ cap ∧ k96.C W a l.length l := by
  rcases Go.Deep.open_slice Try.underlying41 h with ⟨hcs, _⟩ | ⟨ad, len', cap', m, n, D, Pl, hcs, _, hl, hm, hmm, _, hx⟩
  · simp at hcs
    obtain ⟨rfl, rfl, rfl⟩ := hcs
    exact ⟨[], rfl, Nat.le_refl _, rfl, by simp, fun h => absurd h (Nat.lt_irrefl _)⟩
  · simp at hcs
    obtain ⟨rfl, rfl, rfl⟩ := hcs
    simp at hmm
    subst hmm
    have hc : Try.prog.cellsOf 96 = 3 := by kernel_rfl
    have key : ∀ i, i < m → ∃ r : S96, ∃ cs, cs.length = 3 ∧ k96.K W r cs ∧ ∀ j u, cs[j]? = some u → W.cell? (ad.add (i * 3 + j)) = some u := by
      intro i hi
      obtain ⟨cs, g1, g2⟩ := hx i hi
      rw [hc] at g1
      obtain ⟨_, g3, g4⟩ := World.cells?_some g1
      obtain ⟨r, hr⟩ := rule_read g2
      refine ⟨r, cs, g3, hr, fun j u hu => ?_⟩
      have hj : j < 3 := by have := (List.getElem?_eq_some_iff.1 hu).1; omega
      have := g4 j hj
      rw [hu] at this
      rw [← this, Addr.add_add]
    haveI : Inhabited S96 := ⟨z96⟩
    obtain ⟨f, hf⟩ := Go.Deep.choose_lt key
    refine ⟨(List.range len).map f, by simp, by simpa using hl, ?_⟩
    rw [List.length_map, List.length_range]
    have hmx : maxLen ≤ 9223372036854775807 := by decide
    refine ⟨by simp, by omega, fun _ => ⟨ad, rfl, fun j p hj => ?_⟩⟩
    have hjl : j < len := by have := (List.getElem?_eq_some_iff.1 hj).1; simpa using this
    have hp : p = f j := by
      rw [List.getElem?_map, List.getElem?_range hjl] at hj
      simpa using hj.symm
    subst hp
    obtain ⟨cs, g1, g2, g3⟩ := hf j (by omega)
    exact ⟨cs, g1, g2, g3⟩
end
end Go.Proofs.Ytmgmilnoeghgfaa
