import Derived.Test.YtmgmilnoeghgfaaWWords
import Derived.Test.YtmgmilnoeghgfaaWLast
import Derived.Test.YtmgmilnoeghgfaaWKept
import Derived.Test.YtmgmilnoeghgfaaWShare
import Derived.Test.YtmgmilnoeghgfaaWMore
import Derived.Lib.SliceRun
import Derived.Test.YtmgmilnoeghgfaaWApart
/- A small logic of disjoint pieces of memory ('Sat'): for walks over closures, states behind pointers and rows that are written. -/
set_option linter.unusedVariables false
set_option linter.unusedSimpArgs false
namespace Go.Proofs.Ytmgmilnoeghgfaa
open Go.RowKit Go.Proofs.YtmgmilnoeghgfaaW.PrintWords Go.Proofs.YtmgmilnoeghgfaaW.PrintLast Go.Proofs.YtmgmilnoeghgfaaW.PrintMore

/-- A piece of memory: what it says of a world, and the blocks that it may hold. -/
abbrev HP := World → (Nat → Prop) → Prop
def Agree (ok : Nat → Prop) (w w' : World) : Prop := ∀ k, ok k → w'.heap[k]? = w.heap[k]?
/-- It holds, and lives in its blocks alone. -/
def Loc (p : HP) (w : World) (ok : Nat → Prop) : Prop := ∀ w', Agree ok w w' → p w' ok
theorem Loc.now {p : HP} {w : World} {ok : Nat → Prop} (h : Loc p w ok) : p w ok := h w (fun _ _ => rfl)
theorem Loc.move {p : HP} {w w' : World} {ok : Nat → Prop} (h : Loc p w ok) (ha : Agree ok w w') : Loc p w' ok := fun w2 h2 => h w2 (fun k hk => (h2 k hk).trans (ha k hk))
theorem Loc.imp {p q : HP} {w : World} {ok : Nat → Prop} (h : Loc p w ok) (hi : ∀ w', p w' ok → q w' ok) : Loc q w ok := fun w' h' => hi w' (h w' h')

structure Calm (w w' : World) : Prop where
  os : w'.os = w.os
  tape : w'.tape = w.tape
  output : w'.output = w.output
theorem Calm.refl (w : World) : Calm w w := ⟨rfl, rfl, rfl⟩
theorem Calm.trans {a b c : World} (h : Calm a b) (k : Calm b c) : Calm a c := ⟨k.os.trans h.os, k.tape.trans h.tape, k.output.trans h.output⟩
theorem Calm.of_below {B : Nat} {w w' : World} (h : Below B w w') : Calm w w' := ⟨h.os, h.tape, h.output⟩
theorem Calm.of_grown {row : Option Nat} {w w' : World} (h : w.grownBy w' row) : Calm w w' := ⟨h.os, h.tape, h.output⟩

/-- What has turned between two worlds: the blocks of S alone, and new ones. -/
structure Chg (w w' : World) (S : Nat → Prop) : Prop where
  calm : Calm w w'
  size : w.heap.size ≤ w'.heap.size
  block : ∀ i, i < w.heap.size → ¬ S i → w'.heap[i]? = w.heap[i]?
theorem Chg.refl (w : World) (S : Nat → Prop) : Chg w w S := ⟨.refl _, Nat.le_refl _, fun _ _ _ => rfl⟩
theorem Chg.of_below {w w' : World} (h : Below w.heap.size w w') (S : Nat → Prop) : Chg w w' S := ⟨.of_below h, h.size, fun i hi _ => h.block i hi⟩
theorem Chg.of_grown {row : Option Nat} {w w' : World} (h : w.grownBy w' row) {S : Nat → Prop} (hs : ∀ k, row = some k → S k) : Chg w w' S := ⟨.of_grown h, h.size, fun i hi hn => h.block i hi (fun e => hn (hs i e.symm))⟩
theorem Chg.trans {a b c : World} {S : Nat → Prop} (h : Chg a b S) (k : Chg b c S) : Chg a c S := ⟨h.calm.trans k.calm, Nat.le_trans h.size k.size, fun i hi hn => (k.block i (Nat.lt_of_lt_of_le hi h.size) hn).trans (h.block i hi hn)⟩
theorem Chg.setCell (w : World) (p : Addr) (u : Value) {S : Nat → Prop} (hp : S p.block) : Chg w (w.setCell p u) S :=
  ⟨⟨rfl, rfl, rfl⟩, by simp [World.setCell], fun i _ hn => Below.heap_setCell w p u i (fun e => hn (e ▸ hp))⟩
theorem Chg.alloc (w : World) (o : Obj) (S : Nat → Prop) : Chg w (w.alloc o) S := .of_below (below_alloc (Below.refl _ _) o) S

/-- The world w holds the pieces ps, apart from each other; its streams are those of w0. -/
def Sat (w0 : World) (ps : List HP) (w : World) : Prop :=
  Calm w0 w ∧ ∃ ok : Nat → Nat → Prop,
    (∀ i p, ps[i]? = some p → Loc p w (ok i)) ∧ (∀ i k, ok i k → k < w.heap.size) ∧ (∀ i j k, ok i k → ok j k → i = j)

section
variable {w0 w w' : World} {ps R : List HP} {p p' q : HP} {i : Nat}

theorem Sat.calm (S : Sat w0 ps w) : Calm w0 w := S.1
/-- A piece is turned: the others live on. -/
theorem Sat.upd (S : Sat w0 ps w) (i : Nat) (hp : ps[i]? = some p) : ∃ ok : Nat → Prop, Loc p w ok ∧ (∀ k, ok k → k < w.heap.size) ∧
    ∀ (w' : World) (p' : HP) (ok' : Nat → Prop), Chg w w' ok → (∀ k, ok' k → (ok k ∨ w.heap.size ≤ k) ∧ k < w'.heap.size) → Loc p' w' ok' → Sat w0 (ps.set i p') w' := by
  obtain ⟨hc, ok, hl, hb, hd⟩ := S
  refine ⟨ok i, hl i p hp, hb i, fun w' p' ok' ch hk hL => ⟨hc.trans ch.calm, fun j => if j = i then ok' else ok j, ?_, ?_, ?_⟩⟩
  · intro j q hq
    by_cases e : j = i
    · subst e
      have hlt : j < ps.length := (List.getElem?_eq_some_iff.1 hp).1
      rw [List.getElem?_set_self hlt] at hq
      injection hq with hq
      subst hq
      simpa using hL
    · rw [List.getElem?_set_ne (Ne.symm e)] at hq
      simp only [e, if_false]
      exact (hl j q hq).move (fun k hk' => ch.block k (hb j k hk') (fun h2 => e (hd j i k hk' h2)))
  · intro j k hk'
    by_cases e : j = i
    · simp only [e, if_true] at hk'
      exact (hk k hk').2
    · simp only [e, if_false] at hk'
      exact Nat.lt_of_lt_of_le (hb j k hk') ch.size
  · intro j l k h1 h2
    by_cases e1 : j = i <;> by_cases e2 : l = i
    · rw [e1, e2]
    · simp only [e1, if_true] at h1
      simp only [e2, if_false] at h2
      rcases (hk k h1).1 with h3 | h3
      · exact absurd (hd i l k h3 h2).symm e2
      · have := hb l k h2
        omega
    · simp only [e1, if_false] at h1
      simp only [e2, if_true] at h2
      rcases (hk k h2).1 with h3 | h3
      · exact absurd (hd i j k h3 h1).symm e1
      · have := hb j k h1
        omega
    · simp only [e1, if_false] at h1
      simp only [e2, if_false] at h2
      exact hd j l k h1 h2
/-- A piece is added, in new blocks. -/
theorem Sat.add (S : Sat w0 ps w) (ch : Chg w w' (fun _ => False)) {ok' : Nat → Prop} (hk : ∀ k, ok' k → w.heap.size ≤ k ∧ k < w'.heap.size) (hL : Loc p' w' ok') : Sat w0 (p' :: ps) w' := by
  obtain ⟨hc, ok, hl, hb, hd⟩ := S
  refine ⟨hc.trans ch.calm, fun j => match j with | 0 => ok' | j + 1 => ok j, ?_, ?_, ?_⟩
  · intro j q hq
    cases j with
    | zero => simp at hq; subst hq; exact hL
    | succ j => exact (hl j q (by simpa using hq)).move (fun k hk' => ch.block k (hb j k hk') (fun h => h))
  · intro j k hk'
    cases j with
    | zero => exact (hk k hk').2
    | succ j => exact Nat.lt_of_lt_of_le (hb j k hk') ch.size
  · intro j l k h1 h2
    cases j <;> cases l
    · rfl
    · have := (hk k h1).1
      have := hb _ k h2
      omega
    · have := (hk k h2).1
      have := hb _ k h1
      omega
    · exact congrArg Nat.succ (hd _ _ k h1 h2)
theorem Sat.still (S : Sat w0 ps w) (ch : Chg w w' (fun _ => False)) : Sat w0 ps w' := by
  obtain ⟨hc, ok, hl, hb, hd⟩ := S
  exact ⟨hc.trans ch.calm, ok, fun i p hp => (hl i p hp).move (fun k hk => ch.block k (hb i k hk) (fun h => h)), fun i k hk => Nat.lt_of_lt_of_le (hb i k hk) ch.size, hd⟩
theorem Sat.below (S : Sat w0 ps w) (h : Below w.heap.size w w') : Sat w0 ps w' := S.still (.of_below h _)
theorem Sat.drew (S : Sat w0 ps w) : Sat w0 ps w.drew := S.below (below_drew (Below.refl _ _))
theorem Sat.drewN (S : Sat w0 ps w) (n : Nat) : Sat w0 ps (w.drewN n) := S.below (pw_below_drewN (Below.refl _ _) n)
theorem Sat.drawn (S : Sat w0 ps w) (h : Drawn0 w w') : Sat w0 ps w' := S.below h.below
/-- Pieces chosen by their places, each at most once. -/
theorem Sat.choose (S : Sat w0 ps w) (σ : Nat → Nat) {qs : List HP} (hσ : ∀ i j, i < qs.length → j < qs.length → σ i = σ j → i = j) (h : ∀ i q, qs[i]? = some q → ps[σ i]? = some q) : Sat w0 qs w := by
  obtain ⟨hc, ok, hl, hb, hd⟩ := S
  refine ⟨hc, fun i k => i < qs.length ∧ ok (σ i) k, ?_, fun i k hk => hb _ k hk.2, fun i j k h1 h2 => hσ i j h1.1 h2.1 (hd _ _ k h1.2 h2.2)⟩
  intro i q hq
  have hlt : i < qs.length := (List.getElem?_eq_some_iff.1 hq).1
  have : (fun k => i < qs.length ∧ ok (σ i) k) = ok (σ i) := by funext k; simp [hlt]
  intro w2 h2
  have h3 := hl _ q (h i q hq) w2 (fun k hk => h2 k ⟨hlt, hk⟩)
  rw [← this] at h3
  exact h3
theorem Sat.tail (S : Sat w0 (p :: ps) w) : Sat w0 ps w := S.choose (· + 1) (fun _ _ _ _ h => by omega) (fun i q h => by simpa using h)
/-- A piece is brought to the front. -/
theorem Sat.front (S : Sat w0 ps w) (i : Nat) (hp : ps[i]? = some p) : Sat w0 (p :: ps.eraseIdx i) w := by
  have hlt : i < ps.length := (List.getElem?_eq_some_iff.1 hp).1
  refine S.choose (fun j => if j = 0 then i else if j ≤ i then j - 1 else j) ?_ ?_
  · intro j l _ _ h
    by_cases a : j = 0 <;> by_cases b : l = 0 <;> by_cases c : j ≤ i <;> by_cases d : l ≤ i <;> simp [a, b, c, d] at h <;> omega
  · intro j q hq
    cases j with
    | zero => simp at hq; subst hq; simpa using hp
    | succ j =>
      simp only [List.getElem?_cons_succ, List.getElem?_eraseIdx] at hq
      by_cases c : j < i
      · simp only [c, if_true] at hq
        have : j + 1 ≤ i := c
        simpa [this] using hq
      · simp only [c, if_false] at hq
        have : ¬ j + 1 ≤ i := by omega
        simpa [this] using hq
/-- The front piece is put back to its place. -/
theorem Sat.back (S : Sat w0 (p :: ps) w) (i : Nat) (hi : i ≤ ps.length) : Sat w0 (ps.insertIdx i p) w := by
  refine S.choose (fun j => if j < i then j + 1 else if j = i then 0 else j) ?_ ?_
  · intro j l _ _ h
    by_cases a : j < i <;> by_cases b : l < i <;> by_cases c : j = i <;> by_cases d : l = i <;> simp [a, b, c, d] at h <;> omega
  · intro j q hq
    rw [List.getElem?_insertIdx] at hq
    by_cases a : j < i
    · simp only [a, if_true] at hq
      simpa [a] using hq
    · simp only [a, if_false] at hq
      by_cases c : j = i
      · simp only [c, if_true, hi] at hq
        simp at hq
        subst hq
        simp [c]
      · simp only [c, if_false] at hq
        obtain ⟨m, rfl⟩ : ∃ m, j = m + 1 := ⟨j - 1, by omega⟩
        simpa [a, c] using hq
theorem Sat.swap (S : Sat w0 (p :: q :: ps) w) : Sat w0 (q :: p :: ps) w := S.front 1 rfl
theorem Sat.imp (S : Sat w0 ps w) (i : Nat) (hp : ps[i]? = some p) (h : ∀ w ok, p w ok → p' w ok) : Sat w0 (ps.set i p') w := by
  obtain ⟨ok, hl, hb, hu⟩ := S.upd i hp
  exact hu w p' ok (.refl _ _) (fun k hk => ⟨.inl hk, hb k hk⟩) (hl.imp (fun w' h' => h w' ok h'))
theorem Sat.at_ (S : Sat w0 ps w) (i : Nat) (hp : ps[i]? = some p) : ∃ ok : Nat → Prop, p w ok ∧ ∀ k, ok k → k < w.heap.size := by
  obtain ⟨ok, hl, hb, _⟩ := S.upd i hp
  exact ⟨ok, hl.now, hb⟩
theorem Sat.init (w : World) : Sat w [] w := ⟨.refl _, fun _ _ => False, fun i p h => by simp at h, fun _ _ h => h.elim, fun _ _ _ h => h.elim⟩
end

/-! ### The pieces -/
/-- A block, known whole. -/
def Blk (b : Nat) (o : Obj) : HP := fun w ok => ok b ∧ w.heap[b]? = some o
/-- A row of elements that may be written. -/
def Rw {α : Type} (d : Kd α) (e : Nat) (v : Value) (xs : List α) : HP := fun w ok => d.R e w 0 ok v xs
/-- What is only read. -/
def Imm (q : World → Prop) : HP := fun w _ => q w
/-- All that was there in the world W. -/
def Old (W : World) : HP := fun w ok => (∀ k, k < W.heap.size → ok k) ∧ ∀ k, k < W.heap.size → w.heap[k]? = W.heap[k]?

section
variable {w0 w w' : World} {ps R : List HP} {p p' q : HP} {i : Nat}
theorem Sat.blk (S : Sat w0 ps w) (i : Nat) {b : Nat} {o : Obj} (hp : ps[i]? = some (Blk b o)) : w.heap[b]? = some o := by
  obtain ⟨ok, h, _⟩ := S.at_ i hp
  exact h.2
theorem Sat.alloc (S : Sat w0 ps w) (o : Obj) : Sat w0 (Blk w.heap.size o :: ps) (w.alloc o) := by
  refine S.add (.alloc w o _) (ok' := fun k => k = w.heap.size) (fun k hk => ⟨by omega, by simp; omega⟩) (fun w2 h2 => ⟨rfl, ?_⟩)
  rw [h2 _ rfl]
  exact heap_alloc_new w o
theorem Sat.setCell (S : Sat w0 ps w) (i : Nat) {b : Nat} {c : Array Value} {t : TypeId} {fr : Nat × Nat} (hp : ps[i]? = some (Blk b (.cells c t fr))) (off : Nat) (u : Value) :
    Sat w0 (ps.set i (Blk b (.cells (c.setIfInBounds off u) t fr))) (w.setCell ⟨b, off, none⟩ u) := by
  obtain ⟨ok, hl, hb, hu⟩ := S.upd i hp
  have h0 := hl.now
  have hlt := hb b h0.1
  refine hu _ _ ok (.setCell w _ u h0.1) (fun k hk => ⟨.inl hk, by have := hb k hk; simpa [World.setCell] using this⟩) (fun w2 h2 => ⟨h0.1, ?_⟩)
  rw [h2 b h0.1]
  have h' : w.heap[b] = .cells c t fr := by simpa [Array.getElem?_eq_getElem hlt] using h0.2
  show (w.heap.modify b _)[b]? = _
  rw [Array.getElem?_eq_getElem (by simpa using hlt), Array.getElem_modify_self, h']
  rfl
/-- The old world is a piece. -/
theorem Sat.start (w : World) : Sat w [Old w] w := by
  refine ⟨.refl _, fun i k => i = 0 ∧ k < w.heap.size, ?_, fun i k h => h.2, fun i j k h1 h2 => h1.1.trans h2.1.symm⟩
  intro i p hp
  cases i with
  | zero =>
    simp at hp
    subst hp
    exact fun w2 h2 => ⟨fun k hk => ⟨rfl, hk⟩, fun k hk => h2 k ⟨rfl, hk⟩⟩
  | succ i => simp at hp
theorem Sat.old (S : Sat w0 ps w) (i : Nat) {W : World} (hp : ps[i]? = some (Old W)) : ∀ k, k < W.heap.size → w.heap[k]? = W.heap[k]? := by
  obtain ⟨ok, h, _⟩ := S.at_ i hp
  exact h.2
theorem Sat.to_below (S : Sat w0 ps w) (i : Nat) (hp : ps[i]? = some (Old w0)) : Below w0.heap.size w0 w := by
  obtain ⟨ok, h, hb⟩ := S.at_ i hp
  refine ⟨S.1.os, S.1.tape, S.1.output, ?_, h.2⟩
  rcases Nat.eq_zero_or_pos w0.heap.size with h0 | h0
  · omega
  · have := hb _ (h.1 (w0.heap.size - 1) (by omega))
    omega
theorem Sat.oldC (S : Sat w0 ps w) (i : Nat) {W : World} (hp : ps[i]? = some (Old W)) {α : Type} {d : Kd α} (hd : Kd.Heap d) {A : Option Addr} {n : Nat} {xs : List α} (h : d.C W A n xs) : d.C w A n xs := hd.C (S.old i hp) h
theorem Sat.imm (S : Sat w0 ps w) (i : Nat) {q : World → Prop} (hp : ps[i]? = some (Imm q)) : q w := by
  obtain ⟨ok, h, _⟩ := S.at_ i hp
  exact h
/-- What a callee has made. -/
theorem Sat.fresh (S : Sat w0 ps w) {α : Type} {d : Kd α} {e : Nat} {v : Value} {xs : List α} {ok : Nat → Prop} (h : d.R e w' w.heap.size ok v xs) (hb : Below w.heap.size w w') : Sat w0 (Rw d e v xs :: ps) w' := by
  refine S.add (.of_below hb _) (ok' := fun k => w.heap.size ≤ k ∧ k < w'.heap.size) (fun _ hk => hk) (fun w2 h2 => ?_)
  exact Kd.R_move (Kd.R_lower (Kd.R_mono (Kd.R_bound h) (fun k hk => ⟨hk.2.1, hk.2.2.1⟩)) (Nat.zero_le _)) h2
theorem Sat.nil (S : Sat w0 ps w) {α : Type} (d : Kd α) (e : Nat) : Sat w0 (Rw d e (.slice none 0 0) ([] : List α) :: ps) w :=
  S.add (.refl _ _) (ok' := fun _ => False) (fun _ hk => hk.elim) (fun w2 _ => Kd.R_nil d e w2 0 _)
theorem Sat.reads (S : Sat w0 ps w) (i : Nat) {α : Type} {d : Kd α} {e : Nat} {v : Value} {xs : List α} (hp : ps[i]? = some (Rw d e v xs)) : ∃ A c, v = .slice A xs.length c ∧ xs.length ≤ c ∧ d.C w A xs.length xs := by
  obtain ⟨ok, h, _⟩ := S.at_ i hp
  exact Kd.R_reads h
theorem Sat.readsAt (S : Sat w0 ps w) (i : Nat) {α : Type} {d : Kd α} {e : Nat} {A : Option Addr} {n c : Nat} {xs : List α} (hp : ps[i]? = some (Rw d e (.slice A n c) xs)) : n = xs.length ∧ n ≤ c ∧ d.C w A xs.length xs := by
  obtain ⟨ok, h, _⟩ := S.at_ i hp
  exact Kd.R_reads' h
/-- A row is no longer written: what it says is kept. -/
theorem Sat.freeze (S : Sat w0 ps w) (i : Nat) {α : Type} {d : Kd α} {e : Nat} {A : Option Addr} {n c : Nat} {xs : List α} (hp : ps[i]? = some (Rw d e (.slice A n c) xs)) : Sat w0 (ps.set i (Imm fun w => d.C w A xs.length xs)) w :=
  S.imp i hp (fun _ _ h => (Kd.R_reads' h).2.2)
/-- Two pieces that are only read are one. -/
theorem Sat.both {q1 q2 : World → Prop} (S : Sat w0 (Imm q1 :: Imm q2 :: ps) w) : Sat w0 (Imm (fun w => q1 w ∧ q2 w) :: ps) w := by
  obtain ⟨hc, ok, hl, hb, hd⟩ := S
  refine ⟨hc, fun j => match j with | 0 => (fun k => ok 0 k ∨ ok 1 k) | j + 1 => ok (j + 2), ?_, ?_, ?_⟩
  · intro j q hq
    cases j with
    | zero =>
      simp at hq
      subst hq
      exact fun w2 h2 => ⟨hl 0 _ rfl w2 (fun k hk => h2 k (.inl hk)), hl 1 _ rfl w2 (fun k hk => h2 k (.inr hk))⟩
    | succ j => exact hl (j + 2) q (by simpa using hq)
  · intro j k hk
    cases j with
    | zero => exact hk.elim (hb 0 k) (hb 1 k)
    | succ j => exact hb _ k hk
  · intro j l k h1 h2
    cases j <;> cases l
    · rfl
    · rcases h1 with h1 | h1 <;> have := hd _ _ k h1 h2 <;> omega
    · rcases h2 with h2 | h2 <;> have := hd _ _ k h1 h2 <;> omega
    · have := hd _ _ k h1 h2
      omega
end

/-! ### Calls of function values -/
section
variable {P : Program} {ops : Array Oper} {Q : Exit → Act → World → Prop}
/-- The function g is entered whenever it is called. -/
def Enter (P : Program) (g : FuncId) : Prop := ∀ (args : Array Value) (w : World), (callFunc g args).run P w = .ok (.enter g args) w
theorem Enter.mk {f : FuncId} {fn : Func} (hf : P.funcs[f]? = some fn) (hname : (fn.name == "runtime.NumGoroutine") = false) (hb : fn.body.isSome = true) : Enter P f := fun args w => enters_ hf hname hb args w
theorem run_value {t : Tmp} {as : Array Operand} {ts : Array TypeId} {oi : Oper} {a : Act} {w : World} {g : FuncId} {caps args : Array Value}
    (hop : oi.op = .call { callee := .value (.tmp t), args := as, argTypes := ts }) (hfv : a.eval (.tmp t) = .func (.func g) #[] caps) (hargs : as.map a.eval ++ caps = args) (hE : Enter P g) :
    (execOp a.eval oi).run P w = .ok (.enter g args) w := by
  unfold execOp
  simp only [hop, resolve, hfv, Deferred.ofValue, Sem.run_bind, Sem.run_pure, Result.andThen_ok, invoke, Array.empty_append, hargs]
  exact hE args w
theorem goesV {t : Tmp} {as : Array Operand} {ts : Array TypeId} {rest : List Oper} {oi : Oper} {a : Act} {w : World} {N : Option Tmp} {g : FuncId} {caps args : Array Value}
    (hop : oi.op = .call { callee := .value (.tmp t), args := as, argTypes := ts }) (hd : oi.dst = N) (hg : oi.guard = none)
    (hfv : a.eval (.tmp t) = .func (.func g) #[] caps) (hargs : as.map a.eval ++ caps = args) (hE : Enter P g)
    (h : Calls P g args w fun e w' => ∃ v, e = .returned v ∧ wpList P ops Q rest (a.put N v) w') : wpList P ops Q (oi :: rest) a w := by
  refine wpList_plain hg fun K hK => ?_
  unfold Oper.wp
  rw [run_value hop hfv hargs hE, Oper.upon_enter]
  refine h.mono fun e w'' hh => ?_
  obtain ⟨v, rfl, hk⟩ := hh
  subst hd
  exact hK _ _ hk
/-- A call of a named function, as an arm. -/
theorem goesF {f : FuncId} {as : Array Operand} {ts : Array TypeId} {rest : List Oper} {oi : Oper} {a : Act} {w : World} {N : Option Tmp} {args : Array Value}
    (hop : oi.op = .call { callee := .value (.func f), args := as, argTypes := ts }) (hd : oi.dst = N) (hg : oi.guard = none)
    (hargs : as.map a.eval = args) (hE : Enter P f)
    (h : Calls P f args w fun e w' => ∃ v, e = .returned v ∧ wpList P ops Q rest (a.put N v) w') : wpList P ops Q (oi :: rest) a w := by
  refine wpList_plain hg fun K hK => ?_
  have hrun : (execOp a.eval oi).run P w = .ok (.enter f args) w := by
    unfold execOp
    simp [hop, resolve, Deferred.ofValue, invoke, Act.eval, hargs, hE args w]
  unfold Oper.wp
  rw [hrun, Oper.upon_enter]
  refine h.mono fun e w'' hh => ?_
  obtain ⟨v, rfl, hk⟩ := hh
  subst hd
  exact hK _ _ hk
end

/-! ### Appends to a piece -/
section
variable {P : Program} {ops : Array Oper} {rest : List Oper} {o : Oper} {a : Act} {Q : Exit → Act → World → Prop}
theorem Sat.grown {w0 W w1 : World} {ps : List HP} (S : Sat w0 ps W) (i : Nat) {α β : Type} {d : Kd α} {d' : Kd β} {e e' : Nat} {v v1 : Value} {xs : List α} {ys : List β} (hp : ps[i]? = some (Rw d e v xs))
    (hR : ∀ ok : Nat → Prop, (∀ k, W.heap.size ≤ k → ok k) → d.R e W 0 ok v xs → d'.R e' w1 0 ok v1 ys) (hg : W.grownBy w1 v.ownBlock) : Sat w0 (ps.set i (Rw d' e' v1 ys)) w1 := by
  obtain ⟨ok, hl, hb, hu⟩ := S.upd i hp
  have h0 : d.R e W 0 ok v xs := hl.now
  have h1 := hR (fun k => ok k ∨ W.heap.size ≤ k) (fun k hk => .inr hk) (Kd.R_mono h0 (fun k hk => .inl hk))
  refine hu w1 _ (fun k => (ok k ∨ W.heap.size ≤ k) ∧ k < w1.heap.size) (.of_grown hg (fun k hk => h0.1 k hk)) (fun k hk => hk) (fun w2 h2 => ?_)
  exact Kd.R_move (Kd.R_mono (Kd.R_bound h1) (fun k hk => ⟨hk.1, hk.2.2.1⟩)) h2
/-- append(v, p), p without memory of its own. -/
theorem Sat.append1 {w0 W : World} {ps : List HP} (S : Sat w0 ps W) (i : Nat) {α : Type} {d : Kd α} {e : Nat} {v : Value} {xs : List α} (hp : ps[i]? = some (Rw d e v xs)) (hgd : o.guard = none) (s x : Operand) (t : TypeId) (z : Value) (bytes : Nat)
    (ho : o.op = .call { callee := .builtin .append, args := #[s, x], argTypes := #[t, t] })
    (ht : P.underlying t = some (.slice e)) (hinfo : (P.info? e).map (fun i => (i.zero, i.size, i.bytes)) = some (some z, d.sz, bytes)) (hz : z.cells.size = d.sz) (hs0 : 0 < d.sz) (hb0 : 0 < bytes)
    (p : α) (cs : List Value) (hs : a.eval s = v) (hx : a.eval x = .slice (some ⟨W.heap.size, 0, none⟩) 1 1) (hM : d.M W 0 (fun _ => False) p cs) (hl : (xs.length + 1) * bytes ≤ 140737488355328)
    (h : ∀ v1 w1, Sat w0 (ps.set i (Rw d e v1 (xs ++ [p]))) w1 → wpList P ops Q rest (a.put o.dst v1) w1) :
    wpList P ops Q (o :: rest) a (W.alloc (.cells cs.toArray e)) := by
  obtain ⟨ok, hl0, hb, hu⟩ := S.upd i hp
  have h0 : d.R e W 0 ok v xs := hl0.now
  refine Kd.R_append d (w0 := W) 0 hgd s x t e z bytes ho ht hinfo hz hs0 hb0 v xs p cs (fun k => ok k ∨ W.heap.size ≤ k) (fun _ => False) hs hx hM (fun _ h => h.elim) (fun _ hk => .inr hk) (Kd.R_mono h0 (fun k hk => .inl hk)) (Below.refl _ _) (Nat.zero_le _) hl ?_
  intro v1 w1 hown hb1 hg hat
  refine h v1 w1 (hu w1 _ (fun k => (ok k ∨ W.heap.size ≤ k) ∧ k < w1.heap.size) (.of_grown hg (fun k hk => h0.1 k hk)) (fun k hk => hk) (fun w2 h2 => ?_))
  exact Kd.R_move (Kd.R_mono (Kd.R_bound hown) (fun k hk => ⟨hk.1, hk.2.2.1⟩)) h2
/-- append(v, ys...), ys a slice that is read. -/
theorem Sat.appendRow {w0 W : World} {ps : List HP} (S : Sat w0 ps W) (i : Nat) {α : Type} {enc : α → Value} (df : α) {h1 : ∀ x : α, (enc x).oneCell' = true} {e : Nat} {v : Value} {xs : List α} (hp : ps[i]? = some (Rw (Kd.scalar enc h1) e v xs)) (hgd : o.guard = none) (s x : Operand) (t : TypeId) (z : Value) (bytes : Nat)
    (ho : o.op = .call { callee := .builtin .append, args := #[s, x], argTypes := #[t, t] })
    (ht : P.underlying t = some (.slice e)) (hinfo : (P.info? e).map (fun i => (i.zero, i.size, i.bytes)) = some (some z, 1, bytes)) (hz : z.cells.size = 1) (hb0 : 0 < bytes)
    (ys : List α) (A : Option Addr) (m c : Nat) (hs : a.eval s = v) (hx : a.eval x = .slice A m c) (HR : (Kd.scalar enc h1).C W A m ys) (hl : (xs.length + m) * bytes ≤ 140737488355328)
    (h : ∀ v1 w1, Sat w0 (ps.set i (Rw (Kd.scalar enc h1) e v1 (xs ++ ys))) w1 → W.grownBy w1 v.ownBlock → wpList P ops Q rest (a.put o.dst v1) w1) :
    wpList P ops Q (o :: rest) a W := by
  obtain ⟨ok, hl0, hb, hu⟩ := S.upd i hp
  have h0 : (Kd.scalar enc h1).R e W 0 ok v xs := hl0.now
  refine Kd.R_append_row (w0 := W) enc df 0 hgd s x t e z bytes ho ht hinfo hz hb0 v xs ys A m c (fun k => ok k ∨ W.heap.size ≤ k) hs hx (fun _ hk => .inr hk) (Kd.R_mono h0 (fun k hk => .inl hk)) HR (Below.refl _ _) (Nat.zero_le _) hl ?_
  intro v1 w1 hown hb1 hg hat
  refine h v1 w1 (hu w1 _ (fun k => (ok k ∨ W.heap.size ≤ k) ∧ k < w1.heap.size) (.of_grown hg (fun k hk => h0.1 k hk)) (fun k hk => hk) (fun w2 h2 => ?_)) hg
  exact Kd.R_move (Kd.R_mono (Kd.R_bound hown) (fun k hk => ⟨hk.1, hk.2.2.1⟩)) h2
/-- append(v, u), u a slice that is a piece of its own (the piece ahead of all others): it becomes an element. -/
theorem Sat.appendIn {w0 W : World} {ps : List HP} {α : Type} {d : Kd α} {e e' : Nat} {v u : Value} {xs : List (List α)} {ys : List α} (S : Sat w0 (Rw d e' u ys :: Rw (Kd.slice e' d) e v xs :: ps) W) (hgd : o.guard = none) (s x : Operand) (t : TypeId) (z : Value) (bytes : Nat)
    (ho : o.op = .call { callee := .builtin .append, args := #[s, x], argTypes := #[t, t] })
    (ht : P.underlying t = some (.slice e)) (hinfo : (P.info? e).map (fun i => (i.zero, i.size, i.bytes)) = some (some z, 1, bytes)) (hz : z.cells.size = 1) (hb0 : 0 < bytes)
    (hs : a.eval s = v) (hx : a.eval x = .slice (some ⟨W.heap.size, 0, none⟩) 1 1) (hl : (xs.length + 1) * bytes ≤ 140737488355328)
    (h : ∀ v1 w1, Sat w0 (Rw (Kd.slice e' d) e v1 (xs ++ [ys]) :: ps) w1 → wpList P ops Q rest (a.put o.dst v1) w1) :
    wpList P ops Q (o :: rest) a (W.alloc (.cells #[u] e)) := by
  obtain ⟨hc, ok, hl0, hb, hd⟩ := S
  have hu0 : d.R e' W 0 (ok 0) u ys := (hl0 0 _ rfl).now
  have hv0 : (Kd.slice e' d).R e W 0 (ok 1) v xs := (hl0 1 _ rfl).now
  refine Kd.R_append (Kd.slice e' d) (w0 := W) 0 hgd s x t e z bytes ho ht hinfo hz Nat.one_pos hb0 v xs ys [u] (fun k => (ok 0 k ∨ ok 1 k) ∨ W.heap.size ≤ k) (ok 0) hs hx ⟨u, rfl, hu0⟩ (fun k hk => ⟨.inl (.inl hk), fun hk2 => ?_⟩) (fun _ hk => .inr hk) (Kd.R_mono hv0 (fun k hk => .inl (.inr hk))) (Below.refl _ _) (Nat.zero_le _) hl ?_
  · have := hd 0 1 k hk (hv0.1 k hk2.symm)
    omega
  · intro v1 w1 hown hb1 hg hat
    refine h v1 w1 ⟨hc.trans (.of_grown hg), fun j => match j with | 0 => (fun k => ((ok 0 k ∨ ok 1 k) ∨ W.heap.size ≤ k) ∧ k < w1.heap.size) | j + 1 => ok (j + 2), ?_, ?_, ?_⟩
    · intro j q hq
      cases j with
      | zero =>
        simp at hq
        subst hq
        exact fun w2 h2 => Kd.R_move (Kd.R_mono (Kd.R_bound hown) (fun k hk => ⟨hk.1, hk.2.2.1⟩)) h2
      | succ j => exact (hl0 (j + 2) q (by simpa using hq)).move (fun k hk => hg.block k (hb _ k hk) (fun he => by have := hd _ _ k hk (hv0.1 k he.symm); omega))
    · intro j k hk
      cases j with
      | zero => exact hk.2
      | succ j => exact Nat.lt_of_lt_of_le (hb _ k hk) hg.size
    · intro j l k h1 h2
      have key : ∀ l, (((ok 0 k ∨ ok 1 k) ∨ W.heap.size ≤ k) ∧ k < w1.heap.size) → ok (l + 2) k → False := by
        intro l h1 h2
        rcases h1.1 with (h3 | h3) | h3
        · have := hd _ _ k h3 h2
          omega
        · have := hd _ _ k h3 h2
          omega
        · have := hb _ k h2
          omega
      cases j <;> cases l
      · rfl
      · exact (key _ h1 h2).elim
      · exact (key _ h2 h1).elim
      · have := hd _ _ k h1 h2
        omega
end
/-- A row that a literal (or make) has just laid. -/
theorem Sat.lit {w0 W : World} {ps : List HP} (S : Sat w0 ps W) {α : Type} (d : Kd α) (e : Nat) {n : Nat} (xs : List α) {inner : List Value} (hr : Reps (d.M W 0 (fun _ => False)) d.sz xs inner) (hn : xs.length = n) (hm : n ≤ 9223372036854775807) :
    Sat w0 (Rw d e (.slice (some ⟨W.heap.size, 0, none⟩) n n) xs :: ps) (W.alloc (.cells inner.toArray e)) := by
  subst hn
  refine S.add (.alloc W _ _) (ok' := fun k => k = W.heap.size) (fun k hk => ⟨by omega, by simp; omega⟩) (fun w2 h2 => ?_)
  refine Kd.R_move (w := W.alloc (.cells inner.toArray e)) ⟨fun k hk => ?_, inner, ?_, ?_⟩ h2
  · have : W.heap.size = k := by simpa [Value.ownBlock] using hk
    exact this.symm
  · have h2 := World.ownsRow_lit (base := 0) (e := e) (size := d.sz) W inner.toArray xs.length (Nat.zero_le _) (by simpa [maxLen] using hm) (by simpa using hr.1)
    simpa using h2
  · refine hr.imp_ (fun p c hp => ?_)
    have h1 := Kd.M_below hp (below_alloc (Below.refl W.heap.size W) (.cells inner.toArray e))
    exact d.M_mono (fun k hk => hk.elim) h1
end Go.Proofs.Ytmgmilnoeghgfaa

set_option linter.unusedVariables false
set_option linter.unusedSimpArgs false
namespace Go.Proofs.Ytmgmilnoeghgfaa
open Go.RowKit Go.Proofs.YtmgmilnoeghgfaaW.PrintWords Go.Proofs.YtmgmilnoeghgfaaW.PrintLast Go.Proofs.YtmgmilnoeghgfaaW.PrintMore

section
variable {w0 w w' : World} {ps R : List HP} {α : Type} {enc : α → Value} {h1 : ∀ x : α, (enc x).oneCell' = true} {e : Nat}
/-- The cell of a row that may be written. -/
theorem own_cell {base n c : Nat} {g : Nat} {xs : List α} (h : w.ownsRow base e 1 (.slice (some ⟨g, 0, none⟩) n c) n (encs enc xs)) (i : Nat) (hi : i < xs.length) : w.cell? ⟨g, i, none⟩ = some (enc xs[i]) ∧ w.frozen? ⟨g, i, none⟩ = false ∧ g < w.heap.size := by
  have hn : xs.length = n := by have := h.1; simp [encs] at this; exact this
  rcases h.2 with ⟨h', _⟩ | ⟨g', cap', cur, h', _, hh, h3, h4, h5, h6⟩
  · cases h'
  · have e1 : g = g' := by injection h' with h'; injection h' with h'; injection h' with h'
    subst e1
    have hlt : i < n * 1 := by omega
    have : cur.toList[i]? = some (enc xs[i]) := by
      have e2 : (cur.toList.take (n * 1))[i]? = (encs enc xs)[i]? := by rw [h6]
      rw [List.getElem?_take_of_lt hlt] at e2
      rw [e2]
      simp [encs, List.getElem?_eq_getElem hi]
    refine ⟨?_, by simp [World.frozen?, hh], (Array.getElem?_eq_some_iff.1 hh).1⟩
    simp [World.cell?, hh]
    simpa using this
theorem Sat.cellAt (S : Sat w0 ps w) (i : Nat) {A : Option Addr} {n c : Nat} {xs : List α} (hp : ps[i]? = some (Rw (Kd.scalar enc h1) e (.slice A n c) xs)) (hpos : 0 < xs.length) :
    ∃ g, A = some ⟨g, 0, none⟩ ∧ n = xs.length ∧ ∀ k, ∀ hk : k < xs.length, w.cell? ⟨g, k, none⟩ = some (enc xs[k]) ∧ w.frozen? ⟨g, k, none⟩ = false ∧ g < w.heap.size := by
  obtain ⟨ok, h, _⟩ := S.at_ i hp
  have ho := Kd.own_of_R h
  have hn := (Kd.R_reads' h).1
  rcases ho.2 with ⟨h', h2⟩ | ⟨g, cap, cur, h', _⟩
  · omega
  · injection h' with hA h2 h3
    subst hA h3
    exact ⟨g, rfl, hn, fun k hk => own_cell (by rw [← h2] at ho; exact ho) k hk⟩
theorem Sat.store (S : Sat w0 ps w) (i : Nat) {g n c : Nat} {xs : List α} (hp : ps[i]? = some (Rw (Kd.scalar enc h1) e (.slice (some ⟨g, 0, none⟩) n c) xs)) (k : Nat) (x : α) :
    Sat w0 (ps.set i (Rw (Kd.scalar enc h1) e (.slice (some ⟨g, 0, none⟩) n c) (xs.set k x))) (w.setCell ⟨g, k, none⟩ (enc x)) := by
  obtain ⟨ok, hl, hb, hu⟩ := S.upd i hp
  have h0 := hl.now
  have hg : ok g := h0.1 g rfl
  refine hu _ _ ok (.setCell w _ _ hg) (fun k hk => ⟨.inl hk, by have := hb k hk; simpa [World.setCell] using this⟩) (fun w2 h2 => ?_)
  have h3 := Kd.R_putn h0 (k : Int) x
  simp only [Int.toNat_natCast] at h3
  exact Kd.R_move h3 h2
theorem cut_own {base n c g i : Nat} {xs : List α} (h : w.ownsRow base e 1 (.slice (some ⟨g, 0, none⟩) n c) n (encs enc xs)) (hi : i ≤ n) : w.ownsRow base e 1 (.slice (some ⟨g, 0, none⟩) i c) i (encs enc (xs.take i)) := by
  have hn : xs.length = n := by have := h.1; simp [encs] at this; exact this
  refine ⟨by simp [encs]; omega, ?_⟩
  rcases h.2 with ⟨h', _⟩ | ⟨g', cap', cur, h', hb, hh, h3, h4, h5, h6⟩
  · cases h'
  · injection h' with h7 h8 h9
    injection h7 with h7
    injection h7 with h7
    subst h7
    refine .inr ⟨g, cap', cur, by rw [h9], hb, hh, by omega, h4, h5, ?_⟩
    have : cur.toList.take (i * 1) = (cur.toList.take (n * 1)).take (i * 1) := by rw [List.take_take]; congr 1; omega
    rw [this, h6]
    simp [encs, List.map_take]
/-- A row is shortened. -/
theorem Sat.cut (S : Sat w0 ps w) (i : Nat) {g n c : Nat} {xs : List α} (hp : ps[i]? = some (Rw (Kd.scalar enc h1) e (.slice (some ⟨g, 0, none⟩) n c) xs)) (k : Nat) (hk : k ≤ n) :
    Sat w0 (ps.set i (Rw (Kd.scalar enc h1) e (.slice (some ⟨g, 0, none⟩) k c) (xs.take k))) w := by
  refine S.imp i hp (fun w ok h => ?_)
  have hn := (Kd.R_reads' h).1
  have ho := Kd.own_of_R h
  rw [← hn] at ho
  have h2 := cut_own ho hk
  refine Kd.R_of_own ?_ (fun k hk => h.1 k hk)
  have : (xs.take k).length = k := by simp; omega
  rw [this]
  exact h2
theorem Sat.setCells (i : Nat) {g n c : Nat} (k : Nat) (ys : List α) : ∀ (o : Nat) (w : World) (xs : List α) (ps : List HP), Sat w0 ps w → ps[i]? = some (Rw (Kd.scalar enc h1) e (.slice (some ⟨g, 0, none⟩) n c) xs) →
    ∃ zs, Sat w0 (ps.set i (Rw (Kd.scalar enc h1) e (.slice (some ⟨g, 0, none⟩) n c) zs)) (w.setCells g o (ys.map enc)) ∧ zs.take o = xs.take o ∧ zs.length = xs.length := by
  induction ys with
  | nil =>
    intro o w xs ps S hp
    refine ⟨xs, ?_, rfl, rfl⟩
    have : ps.set i (Rw (Kd.scalar enc h1) e (.slice (some ⟨g, 0, none⟩) n c) xs) = ps := by
      obtain ⟨hlt, he⟩ := List.getElem?_eq_some_iff.1 hp
      rw [← he, List.set_getElem_self]
    rw [this]
    exact S
  | cons y ys ih =>
    intro o w xs ps S hp
    have hlt : i < ps.length := (List.getElem?_eq_some_iff.1 hp).1
    have S1 := S.store i hp o y
    obtain ⟨zs, S2, ht, hl⟩ := ih (o + 1) _ _ _ S1 (List.getElem?_set_self hlt)
    refine ⟨zs, ?_, ?_, by rw [hl, List.length_set]⟩
    · rw [List.set_set] at S2
      exact S2
    · have h3 : zs.take o = (zs.take (o + 1)).take o := by rw [List.take_take]; congr 1; omega
      rw [h3, ht, List.take_take]
      rw [show min o (o + 1) = o by omega]
      exact List.take_set_of_le (Nat.le_refl _)
end
end Go.Proofs.Ytmgmilnoeghgfaa

set_option linter.unusedVariables false
set_option linter.unusedSimpArgs false
namespace Go.Proofs.Ytmgmilnoeghgfaa
open Go.RowKit Go.Proofs.YtmgmilnoeghgfaaW.PrintWords Go.Proofs.YtmgmilnoeghgfaaW.PrintLast Go.Proofs.YtmgmilnoeghgfaaW.PrintMore

/-- Some value of which the piece speaks. -/
def Ex {α : Type} (p : α → HP) : HP := fun w ok => ∃ v, Loc (p v) w ok
/-- Several pieces as one. -/
def Star (qs : List HP) : HP := fun w ok => ∃ okf : Nat → Nat → Prop, (∀ i p, qs[i]? = some p → Loc p w (okf i)) ∧ (∀ i k, okf i k → ok k) ∧ (∀ i j k, okf i k → okf j k → i = j)
section
variable {w0 w : World} {ps qs : List HP}
theorem Sat.openEx {α : Type} {p : α → HP} (S : Sat w0 (Ex p :: ps) w) : ∃ v, Sat w0 (p v :: ps) w := by
  obtain ⟨hc, ok, hl, hb, hd⟩ := S
  obtain ⟨v, hv⟩ : Ex p w (ok 0) := (hl 0 _ rfl).now
  refine ⟨v, hc, ok, fun i q hq => ?_, hb, hd⟩
  cases i with
  | zero => simp at hq; subst hq; exact hv
  | succ i => exact hl (i + 1) q (by simpa using hq)
theorem Sat.closeEx {α : Type} {p : α → HP} {v : α} (S : Sat w0 (p v :: ps) w) : Sat w0 (Ex p :: ps) w := by
  obtain ⟨hc, ok, hl, hb, hd⟩ := S
  refine ⟨hc, ok, fun i q hq => ?_, hb, hd⟩
  cases i with
  | zero => simp at hq; subst hq; exact fun w2 h2 => ⟨v, (hl 0 _ rfl).move h2⟩
  | succ i => exact hl (i + 1) q (by simpa using hq)
theorem Sat.openStar (S : Sat w0 (Star qs :: ps) w) : Sat w0 (qs ++ ps) w := by
  obtain ⟨hc, ok, hl, hb, hd⟩ := S
  obtain ⟨okf, h1, h2, h3⟩ : Star qs w (ok 0) := (hl 0 _ rfl).now
  refine ⟨hc, fun j k => if j < qs.length then okf j k else ok (j - qs.length + 1) k, ?_, ?_, ?_⟩
  · intro i q hq
    by_cases hi : i < qs.length
    · rw [List.getElem?_append_left hi] at hq
      simp only [hi, if_true]
      exact h1 i q hq
    · rw [List.getElem?_append_right (by omega)] at hq
      simp only [hi, if_false]
      exact hl (i - qs.length + 1) q (by simpa using hq)
  · intro i k hk
    by_cases hi : i < qs.length
    · simp only [hi, if_true] at hk
      exact hb 0 k (h2 i k hk)
    · simp only [hi, if_false] at hk
      exact hb _ k hk
  · intro i j k hik hjk
    by_cases hi : i < qs.length <;> by_cases hj : j < qs.length
    · simp only [hi, if_true] at hik
      simp only [hj, if_true] at hjk
      exact h3 i j k hik hjk
    · simp only [hi, if_true] at hik
      simp only [hj, if_false] at hjk
      have := hd _ _ k (h2 i k hik) hjk
      omega
    · simp only [hi, if_false] at hik
      simp only [hj, if_true] at hjk
      have := hd _ _ k (h2 j k hjk) hik
      omega
    · simp only [hi, if_false] at hik
      simp only [hj, if_false] at hjk
      have := hd _ _ k hik hjk
      omega
theorem Sat.closeStar (S : Sat w0 (qs ++ ps) w) : Sat w0 (Star qs :: ps) w := by
  obtain ⟨hc, ok, hl, hb, hd⟩ := S
  have hq : ∀ i q, qs[i]? = some q → Loc q w (ok i) := fun i q h => hl i q (by rw [List.getElem?_append_left (List.getElem?_eq_some_iff.1 h).1]; exact h)
  refine ⟨hc, fun j k => match j with | 0 => (∃ i, i < qs.length ∧ ok i k) | j + 1 => ok (j + qs.length) k, ?_, ?_, ?_⟩
  · intro i q h
    cases i with
    | zero =>
      simp at h
      subst h
      refine fun w2 h2 => ⟨fun i k => i < qs.length ∧ ok i k, fun i p hp => ?_, fun i k hk => ⟨i, hk.1, hk.2⟩, fun i j k h3 h4 => hd i j k h3.2 h4.2⟩
      have hi := (List.getElem?_eq_some_iff.1 hp).1
      intro w3 h3
      have h5 := hq i p hp w3 (fun k hk => (h3 k ⟨hi, hk⟩).trans (h2 k ⟨i, hi, hk⟩))
      have : (fun k => i < qs.length ∧ ok i k) = ok i := by funext k; simp [hi]
      rw [← this] at h5
      exact h5
    | succ i => exact hl (i + qs.length) q (by rw [List.getElem?_append_right (by omega)]; simpa using h)
  · intro i k hk
    cases i with
    | zero => obtain ⟨j, _, hj⟩ := hk; exact hb j k hj
    | succ i => exact hb _ k hk
  · intro i j k h1 h2
    cases i <;> cases j
    · rfl
    · obtain ⟨l, hl1, hl2⟩ := h1
      have := hd _ _ k hl2 h2
      omega
    · obtain ⟨l, hl1, hl2⟩ := h2
      have := hd _ _ k h1 hl2
      omega
    · have := hd _ _ k h1 h2
      omega
end
end Go.Proofs.Ytmgmilnoeghgfaa

set_option linter.unusedVariables false
set_option linter.unusedSimpArgs false
namespace Go.Proofs.Ytmgmilnoeghgfaa
open Go.RowKit Go.Proofs.YtmgmilnoeghgfaaW.PrintWords Go.Proofs.YtmgmilnoeghgfaaW.PrintLast Go.Proofs.YtmgmilnoeghgfaaW.PrintMore
section
variable {P : Program} {ops : Array Oper} {o : Oper} {a : Act} {Q : Exit → Act → World → Prop} {Kc : Act → World → Prop}
/-- append(v, p), p without memory of its own: at a step of a region that draws its order. -/
theorem Sat.append1_step {w0 W : World} {ps : List HP} (S : Sat w0 ps W) (i : Nat) {α : Type} {d : Kd α} {e : Nat} {v : Value} {xs : List α} (hp : ps[i]? = some (Rw d e v xs)) (hw : Region.wanted o (yielded ops a.tmps) = true) (s x : Operand) (t : TypeId) (z : Value) (bytes : Nat)
    (ho : o.op = .call { callee := .builtin .append, args := #[s, x], argTypes := #[t, t] })
    (ht : P.underlying t = some (.slice e)) (hinfo : (P.info? e).map (fun i => (i.zero, i.size, i.bytes)) = some (some z, d.sz, bytes)) (hz : z.cells.size = d.sz) (hs0 : 0 < d.sz) (hb0 : 0 < bytes)
    (p : α) (cs : List Value) (hs : a.eval s = v) (hx : a.eval x = .slice (some ⟨W.heap.size, 0, none⟩) 1 1) (hM : d.M W 0 (fun _ => False) p cs) (hl : (xs.length + 1) * bytes ≤ 140737488355328)
    (h : ∀ v1 w1, Sat w0 (ps.set i (Rw d e v1 (xs ++ [p]))) w1 → Kc (a.put o.dst v1) w1) :
    if Region.wanted o (yielded ops a.tmps) = true then Oper.wp P o a (W.alloc (.cells cs.toArray e)) Kc Q else Kc (a.put o.dst undef) (W.alloc (.cells cs.toArray e)) := by
  obtain ⟨ok, hl0, hb, hu⟩ := S.upd i hp
  have h0 : d.R e W 0 ok v xs := hl0.now
  refine Kd.R_append_step d (w0 := W) 0 hw s x t e z bytes ho ht hinfo hz hs0 hb0 v xs p cs (fun k => ok k ∨ W.heap.size ≤ k) (fun _ => False) hs hx hM (fun _ h => h.elim) (fun _ hk => .inr hk) (Kd.R_mono h0 (fun k hk => .inl hk)) (Below.refl _ _) (Nat.zero_le _) hl ?_
  intro v1 w1 hown hb1 hg hat
  refine h v1 w1 (hu w1 _ (fun k => (ok k ∨ W.heap.size ≤ k) ∧ k < w1.heap.size) (.of_grown hg (fun k hk => h0.1 k hk)) (fun k hk => hk) (fun w2 h2 => ?_))
  exact Kd.R_move (Kd.R_mono (Kd.R_bound hown) (fun k hk => ⟨hk.1, hk.2.2.1⟩)) h2
end
end Go.Proofs.Ytmgmilnoeghgfaa

set_option linter.unusedVariables false
set_option linter.unusedSimpArgs false
namespace Go.Proofs.Ytmgmilnoeghgfaa
open Go.RowKit Go.Proofs.YtmgmilnoeghgfaaW.PrintWords Go.Proofs.YtmgmilnoeghgfaaW.PrintLast Go.Proofs.YtmgmilnoeghgfaaW.PrintMore

/-- A row whose elements lie apart from each other. -/
def RwS {α : Type} (d : Kd α) (e : Nat) (v : Value) (xs : List α) : HP := fun w ok => Kd.S d e w 0 ok v xs
/-- The same without element i, whose cell holds u. -/
def RwHole {α : Type} (d : Kd α) (e : Nat) (v : Value) (xs : List α) (i : Nat) (u : Value) : HP := Ex fun f : Nat → Nat => Rw (Kd.gap f d i [u]) e v xs.zipIdx
section
variable {w0 w w' : World} {ps R : List HP} {p p' q : HP} {α : Type} {d : Kd α} {e e' : Nat}
theorem Sat.toR {v : Value} {xs : List α} (S : Sat w0 (RwS d e v xs :: ps) w) : Sat w0 (Rw d e v xs :: ps) w := S.imp 0 rfl (fun _ _ h => Kd.S_R h)
theorem Sat.readsS (S : Sat w0 ps w) (i : Nat) {v : Value} {xs : List α} (hp : ps[i]? = some (RwS d e v xs)) : ∃ A c, v = .slice A xs.length c ∧ xs.length ≤ c ∧ d.C w A xs.length xs := by
  obtain ⟨ok, h, _⟩ := S.at_ i hp
  exact Kd.S_reads h
theorem Sat.readsAtS (S : Sat w0 ps w) (i : Nat) {A : Option Addr} {n c : Nat} {xs : List α} (hp : ps[i]? = some (RwS d e (.slice A n c) xs)) : n = xs.length ∧ n ≤ c ∧ d.C w A xs.length xs := by
  obtain ⟨ok, h, _⟩ := S.at_ i hp
  exact Kd.S_reads' h
theorem Sat.nilS (S : Sat w0 ps w) (d : Kd α) (e : Nat) : Sat w0 (RwS d e (.slice none 0 0) ([] : List α) :: ps) w :=
  S.add (.refl _ _) (ok' := fun _ => False) (fun _ hk => hk.elim) (fun w2 _ => Kd.S_nil d e w2 0 _)
theorem Sat.emptyS (S : Sat w0 ps w) (d : Kd α) (e : Nat) : Sat w0 (RwS d e (.slice (some ⟨w.heap.size, 0, none⟩) 0 0) ([] : List α) :: ps) (w.alloc (.cells ([] : List Value).toArray e)) :=
  (Sat.lit (n := 0) S (Kd.tag (fun _ => 0) d) e [] (inner := []) (Reps.none _ _) rfl (by omega)).imp 0 rfl (fun _ _ h => ⟨fun _ => 0, h⟩)
theorem Loc.rwS {w : World} {ok : Nat → Prop} {v : Value} {xs : List α} (h : Kd.S d e w 0 ok v xs) : Loc (RwS d e v xs) w ok := fun w2 h2 => Kd.S_move h h2
theorem Loc.rw {w : World} {ok : Nat → Prop} {v : Value} {xs : List α} (h : d.R e w 0 ok v xs) : Loc (Rw d e v xs) w ok := fun w2 h2 => Kd.R_move h h2
theorem slice_M {w : World} {base : Nat} {ok : Nat → Prop} {xs : List α} {cs : List Value} (h : (Kd.slice e' d).M w base ok xs cs) : ∃ u, cs = [u] ∧ d.R e' w base ok u xs := h
/-- Element i is lent. -/
theorem Sat.lendS {g n c : Nat} {xs : List (List α)} (S : Sat w0 (RwS (Kd.slice e' d) e (.slice (some ⟨g, 0, none⟩) n c) xs :: ps) w) (i : Nat) (hi : i < xs.length) :
    ∃ u, w.cell? ⟨g, i, none⟩ = some u ∧ Sat w0 (Rw d e' u xs[i] :: RwHole (Kd.slice e' d) e (.slice (some ⟨g, 0, none⟩) n c) xs i u :: ps) w := by
  have key : ∀ (w : World) (ok : Nat → Prop), Kd.S (Kd.slice e' d) e w 0 ok (.slice (some ⟨g, 0, none⟩) n c) xs → ∃ u, w.cell? ⟨g, i, none⟩ = some u ∧ ∃ oki : Nat → Prop, d.R e' w 0 oki u xs[i] ∧ (∀ k, oki k → ok k ∧ k ≠ g) ∧ ∃ f, (Kd.gap f (Kd.slice e' d) i [u]).R e w 0 (fun k => ok k ∧ ¬ oki k) (.slice (some ⟨g, 0, none⟩) n c) xs.zipIdx := by
    intro w ok h
    have hn := (Kd.S_reads' h).1
    obtain ⟨oki, c0, hc0, hM, hcell, hsub, hH⟩ := Kd.S_lend h [] (i : Int) (by omega) (by omega)
    obtain ⟨u, rfl, hR⟩ := slice_M hM
    have h1 := hcell 0 u rfl
    simp only [Int.toNat_natCast] at h1 hR hH
    have hz : (Kd.slice e' d).sz = 1 := rfl
    rw [hz, Nat.mul_one, Nat.add_zero] at h1
    have e0 : xs.getD i [] = xs[i] := by simp [List.getD_eq_getElem?_getD, List.getElem?_eq_getElem hi]
    rw [e0] at hR
    obtain ⟨_, f, hf⟩ := hH
    exact ⟨u, h1, oki, hR, hsub, f, hf⟩
  obtain ⟨ok, hl, hb, hu⟩ := S.upd 0 rfl
  obtain ⟨u, h1, oki, hR, hsub, f, hf⟩ := key w ok hl.now
  refine ⟨u, h1, ?_⟩
  have S2 : Sat w0 (Star [Rw d e' u xs[i], RwHole (Kd.slice e' d) e (.slice (some ⟨g, 0, none⟩) n c) xs i u] :: ps) w := by
    refine hu w (Star [Rw d e' u xs[i], RwHole (Kd.slice e' d) e (.slice (some ⟨g, 0, none⟩) n c) xs i u]) ok (.refl _ _) (fun k hk => ⟨.inl hk, hb k hk⟩) (fun w2 h2 => ?_)
    refine ⟨fun j => match j with | 0 => oki | 1 => (fun k => ok k ∧ ¬ oki k) | _ => fun _ => False, ?_, ?_, ?_⟩
    · intro j p hp
      match j, hp with
      | 0, hp =>
        simp at hp
        subst hp
        exact Loc.rw (Kd.R_move hR (fun k hk => h2 k (hsub k hk).1))
      | 1, hp =>
        simp at hp
        subst hp
        exact fun w3 h3 => ⟨f, Loc.rw (Kd.R_move (Kd.R_move hf (fun k hk => h2 k hk.1)) h3)⟩
      | j + 2, hp => simp at hp
    · intro j k hk
      match j, hk with
      | 0, hk => exact (hsub k hk).1
      | 1, hk => exact hk.1
      | j + 2, hk => exact hk.elim
    · intro a b k ha hb'
      match a, b, ha, hb' with
      | 0, 0, _, _ => rfl
      | 1, 1, _, _ => rfl
      | 0, 1, ha, hb' => exact absurd ha hb'.2
      | 1, 0, ha, hb' => exact absurd hb' ha.2
      | a + 2, _, ha, _ => exact ha.elim
      | _, b + 2, _, hb' => exact hb'.elim
  exact S2.openStar
/-- And put back. -/
theorem Sat.backS {v u : Value} {xs : List (List α)} {ys : List α} {i : Nat} (S : Sat w0 (Rw d e' u ys :: RwHole (Kd.slice e' d) e v xs i u :: ps) w) :
    Sat w0 (RwS (Kd.slice e' d) e v (xs.set i ys) :: ps) w := by
  refine (Sat.closeStar (qs := [Rw d e' u ys, RwHole (Kd.slice e' d) e v xs i u]) S).imp 0 rfl (fun w ok h => ?_)
  obtain ⟨okf, h1, h2, h3⟩ := h
  have hR : d.R e' w 0 (okf 0) u ys := (h1 0 _ rfl).now
  obtain ⟨f, hf⟩ : RwHole (Kd.slice e' d) e v xs i u w (okf 1) := (h1 1 _ rfl).now
  have hf := hf.now
  have hH : Kd.H (Kd.slice e' d) e w 0 ok v xs (i : Int) (okf 0) [u] := ⟨fun k hk => h2 0 k hk, f, by
    simp only [Int.toNat_natCast]
    exact Kd.R_mono hf (fun k hk => ⟨h2 1 k hk, fun h0 => by have := h3 1 0 k hk h0; omega⟩)⟩
  have := Kd.H_back hH (x' := ys) (okp := okf 0) ⟨u, rfl, hR⟩ (fun _ hk => hk)
  rw [Int.toNat_natCast] at this
  exact this
end
section
variable {P : Program} {ops : Array Oper} {rest : List Oper} {o : Oper} {a : Act} {Q : Exit → Act → World → Prop}
/-- append(v, u), u a slice that is a piece of its own: it becomes an element, apart from the others. -/
theorem Sat.appendInS {w0 W : World} {ps : List HP} {α : Type} {d : Kd α} {e e' : Nat} {v u : Value} {xs : List (List α)} {ys : List α} (S : Sat w0 (Rw d e' u ys :: RwS (Kd.slice e' d) e v xs :: ps) W) (hgd : o.guard = none) (s x : Operand) (t : TypeId) (z : Value) (bytes : Nat)
    (ho : o.op = .call { callee := .builtin .append, args := #[s, x], argTypes := #[t, t] })
    (ht : P.underlying t = some (.slice e)) (hinfo : (P.info? e).map (fun i => (i.zero, i.size, i.bytes)) = some (some z, 1, bytes)) (hz : z.cells.size = 1) (hb0 : 0 < bytes)
    (hs : a.eval s = v) (hx : a.eval x = .slice (some ⟨W.heap.size, 0, none⟩) 1 1) (hl : (xs.length + 1) * bytes ≤ 140737488355328)
    (h : ∀ v1 w1, Sat w0 (RwS (Kd.slice e' d) e v1 (xs ++ [ys]) :: ps) w1 → wpList P ops Q rest (a.put o.dst v1) w1) :
    wpList P ops Q (o :: rest) a (W.alloc (.cells #[u] e)) := by
  obtain ⟨hc, ok, hl0, hb, hd⟩ := S
  have hu0 : d.R e' W 0 (ok 0) u ys := (hl0 0 _ rfl).now
  have hv0 : Kd.S (Kd.slice e' d) e W 0 (ok 1) v xs := (hl0 1 _ rfl).now
  have hv1 : ∀ k, v.ownBlock = some k → ok 1 k := fun k hk => (Kd.S_R hv0).1 k hk
  refine Kd.S_append (Kd.slice e' d) (w0 := W) 0 hgd s x t e z bytes ho ht hinfo hz Nat.one_pos hb0 v xs ys [u] (fun k => (ok 0 k ∨ ok 1 k) ∨ W.heap.size ≤ k) (ok 0) hs hx ⟨u, rfl, hu0⟩ (fun k hk => ⟨.inl (.inl hk), fun hk2 => ?_⟩) (fun _ hk => .inr hk) (Kd.S_mono hv0 (fun k hk => ⟨.inl (.inr hk), fun h0 => ?_⟩)) (Below.refl _ _) (Nat.zero_le _) hl ?_
  · have := hd 0 1 k hk (hv1 k hk2.symm)
    omega
  · have := hd 0 1 k h0 hk
    omega
  · intro v1 w1 hown hb1 hg hat
    refine h v1 w1 ⟨hc.trans (.of_grown hg), fun j => match j with | 0 => (fun k => ((ok 0 k ∨ ok 1 k) ∨ W.heap.size ≤ k) ∧ k < w1.heap.size) | j + 1 => ok (j + 2), ?_, ?_, ?_⟩
    · intro j q hq
      cases j with
      | zero =>
        simp at hq
        subst hq
        exact Loc.rwS (Kd.S_mono (Kd.S_bound hown) (fun k hk => ⟨hk.1, hk.2.2.1⟩))
      | succ j => exact (hl0 (j + 2) q (by simpa using hq)).move (fun k hk => hg.block k (hb _ k hk) (fun he => by have := hd _ _ k hk (hv1 k he.symm); omega))
    · intro j k hk
      cases j with
      | zero => exact hk.2
      | succ j => exact Nat.lt_of_lt_of_le (hb _ k hk) hg.size
    · intro j l k h1 h2
      have key : ∀ l, (((ok 0 k ∨ ok 1 k) ∨ W.heap.size ≤ k) ∧ k < w1.heap.size) → ok (l + 2) k → False := by
        intro l h1 h2
        rcases h1.1 with (h3 | h3) | h3
        · have := hd _ _ k h3 h2
          omega
        · have := hd _ _ k h3 h2
          omega
        · have := hb _ k h2
          omega
      cases j <;> cases l
      · rfl
      · exact (key _ h1 h2).elim
      · exact (key _ h2 h1).elim
      · have := hd _ _ k h1 h2
        omega
end
end Go.Proofs.Ytmgmilnoeghgfaa
