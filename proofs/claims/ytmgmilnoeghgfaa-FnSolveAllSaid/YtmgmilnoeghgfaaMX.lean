import Derived.Test.YtmgmilnoeghgfaaQv
import Derived.Test.YtmgmilnoeghgfaaME
import Derived.Test.YtmgmilnoeghgfaaMD
set_option linter.unusedVariables false
set_option linter.unusedSimpArgs false
namespace Go.Proofs.Ytmgmilnoeghgfaa

/-! ### The source of chance: every byte comes up in the end -/
/-- One step behind the end of the text. -/
def lcg (s : Nat) : Nat := (s * 6364136223846793005 + 1442695040888963407) % 18446744073709551616
def itn {α : Type} (f : α → α) : Nat → α → α
  | 0, x => x
  | n + 1, x => itn f n (f x)
theorem itn_zero {α : Type} (f : α → α) (x : α) : itn f 0 x = x := rfl
theorem itn_succ {α : Type} (f : α → α) (n : Nat) (x : α) : itn f (n + 1) x = itn f n (f x) := rfl
theorem itn_add {α : Type} (f : α → α) (m n : Nat) (x : α) : itn f (m + n) x = itn f n (itn f m x) := by
  induction m generalizing x with
  | zero => simp [itn]
  | succ m ih => rw [Nat.succ_add]; simp only [itn]; exact ih (f x)
theorem itn_mul {α : Type} (f : α → α) (m n : Nat) (x : α) : itn f (m * n) x = itn (itn f m) n x := by
  induction n generalizing x with
  | zero => simp [itn]
  | succ n ih => rw [Nat.mul_succ, Nat.add_comm, itn_add, ih]; rfl
/-- 2^m steps, without the remainder: A x + C, A = 1 + 2^(m+2) t, (A - 1) x + C = 2^m odd. -/
theorem double (m : Nat) : ∃ t C0 : Nat, ∀ x : Nat, itn (fun s => s * 6364136223846793005 + 1442695040888963407) (2 ^ m) x = x + 2 ^ (m + 2) * t * x + 2 ^ m * (2 * C0 + 1) := by
  induction m with
  | zero => exact ⟨1591034055961698251, 721347520444481703, fun x => by simp [itn]; omega⟩
  | succ m ih =>
    obtain ⟨t, C0, h⟩ := ih
    refine ⟨t + 2 ^ (m + 1) * t * t, C0 + 2 ^ m * t * (2 * C0 + 1), fun x => ?_⟩
    rw [show 2 ^ (m + 1) = 2 ^ m + 2 ^ m by rw [Nat.pow_succ]; omega, itn_add, h, h]
    generalize hp : 2 ^ m = p
    have e2 : 2 ^ (m + 2) = 4 * p := by rw [← hp, Nat.pow_succ, Nat.pow_succ]; omega
    have e3 : 2 ^ (m + 1 + 2) = 8 * p := by rw [← hp, Nat.pow_succ, Nat.pow_succ, Nat.pow_succ]; omega
    rw [e2, e3]
    grind
theorem itn_mod (V : Nat) (f g : Nat → Nat) (h : ∀ a b, a % V = b % V → f a % V = g b % V) : ∀ (n a b : Nat), a % V = b % V → itn f n a % V = itn g n b % V
  | 0, _, _, hab => hab
  | n + 1, a, b, hab => itn_mod V f g h n (f a) (g b) (h a b hab)
theorem lcg_one (a b : Nat) (h : a % 281474976710656 = b % 281474976710656) : lcg a % 281474976710656 = (b * 6364136223846793005 + 1442695040888963407) % 281474976710656 := by
  unfold lcg
  omega
theorem lcg_mod (n s : Nat) : itn lcg n s % 281474976710656 = itn (fun s => s * 6364136223846793005 + 1442695040888963407) n s % 281474976710656 :=
  itn_mod 281474976710656 lcg (fun s => s * 6364136223846793005 + 1442695040888963407) lcg_one n s s rfl
/-- The byte that a state shows. -/
def byteOf (s : Nat) : Nat := s / 1099511627776 % 256
theorem arith (d b t : Nat) (ht : t < 256) : ∃ j, j < 256 ∧ (b + j * (2 * d + 1)) % 256 = t := by
  have key : ∀ r : Fin 128, ∃ i : Fin 256, (i.val * (2 * r.val + 1)) % 256 = 1 := by decide +kernel
  obtain ⟨i, hi⟩ := key ⟨d % 128, Nat.mod_lt _ (by decide)⟩
  have h1 : (i.val * (2 * d + 1)) % 256 = 1 := by
    have e : 2 * d + 1 = 2 * (d % 128) + 1 + 256 * (d / 128) := by omega
    rw [e, Nat.mul_add, ← Nat.mul_assoc, Nat.mul_comm i.val 256, Nat.mul_assoc, Nat.add_mul_mod_self_left]
    exact hi
  refine ⟨(i.val * ((t + 256 - b % 256) % 256)) % 256, Nat.mod_lt _ (by decide), ?_⟩
  generalize hu : (t + 256 - b % 256) % 256 = u
  have h2 : (i.val * u % 256 * (2 * d + 1)) % 256 = u % 256 := by
    rw [Nat.mod_mul_mod, Nat.mul_right_comm, Nat.mul_mod, h1, Nat.one_mul, Nat.mod_mod]
  omega
/-- From every state on every byte comes up. -/
theorem byte_comes (s t : Nat) (ht : t < 256) : ∃ n, n ≤ 281474976710656 ∧ byteOf (itn lcg n s) = t := by
  obtain ⟨q, C0, h⟩ := double 40
  -- the bytes at stride 2^40
  have hstep : ∀ j, ∃ e : Nat, itn (fun s => s * 6364136223846793005 + 1442695040888963407) (2 ^ 40 * j) s = s + 2 ^ 40 * (j * (4 * q * s + 2 * C0 + 1)) + 281474976710656 * e := by
    intro j
    induction j with
    | zero => exact ⟨0, by simp [itn]⟩
    | succ j ih =>
      obtain ⟨e, he⟩ := ih
      rw [Nat.mul_succ, itn_add, he, h]
      refine ⟨e + 17179869184 * (q * (j * (4 * q * s + 2 * C0 + 1))) + 4398046511104 * (q * e), ?_⟩
      simp only [Nat.reducePow, Nat.reduceAdd]
      grind
  obtain ⟨j, hj, hjt⟩ := arith (2 * q * s + C0) (s / 1099511627776) t ht
  refine ⟨2 ^ 40 * j, by omega, ?_⟩
  obtain ⟨e, he⟩ := hstep j
  have hm := lcg_mod (2 ^ 40 * j) s
  rw [he] at hm
  rw [show 2 * (2 * q * s + C0) + 1 = 4 * q * s + 2 * C0 + 1 by grind] at hjt
  unfold byteOf
  generalize j * (4 * q * s + 2 * C0 + 1) = y at *
  generalize itn lcg (2 ^ 40 * j) s = z at *
  omega
end Go.Proofs.Ytmgmilnoeghgfaa

set_option linter.unusedVariables false
set_option linter.unusedSimpArgs false
namespace Go.Proofs.Ytmgmilnoeghgfaa
open Go.RowKit Go.Proofs.YtmgmilnoeghgfaaW.PrintWords Go.Proofs.YtmgmilnoeghgfaaW.PrintLast Go.Proofs.YtmgmilnoeghgfaaW.PrintMore Go.Proofs.Ytmgmilnoeghgfaa.PFnExactSolveRules

/-! ### What the source draws -/
def Bytes (code : List Int) : Prop := code.length ≤ 1048576 ∧ ∀ x ∈ code, 0 ≤ x ∧ x < 256
theorem u64_wrap (x : Int) : IntKind.u64.wrap x = x % 18446744073709551616 := by
  unfold IntKind.wrap
  simp [IntKind.bits, IntKind.signed]
theorem bits_255 (y : Int) (h0 : 0 ≤ y) (h1 : y < 18446744073709551616) : Go.bits .and .u64 y 255 = y % 256 := by
  obtain ⟨n, rfl⟩ := Int.eq_ofNat_of_zero_le h0
  unfold Go.bits
  simp only [u64_wrap]
  have e1 : (BitVec.ofInt IntKind.u64.bits (n : Int) &&& BitVec.ofInt IntKind.u64.bits 255).toNat = n % 256 := by
    rw [BitVec.toNat_and]
    have a1 : (BitVec.ofInt IntKind.u64.bits (n : Int)).toNat = n := by
      simp only [IntKind.bits, BitVec.toNat_ofInt]
      omega
    have a2 : (BitVec.ofInt IntKind.u64.bits (255 : Int)).toNat = 255 := by decide
    rw [a1, a2]
    exact Nat.and_two_pow_sub_one_eq_mod n 8
  rw [e1]
  omega
/-- The state of a source. -/
structure Src (a s : Int) : Prop where
  at0 : 0 ≤ a
  s0 : 0 ≤ s
  s1 : s < 18446744073709551616
theorem next_ok {code : List Int} {a s : Int} (hc : Bytes code) (h : Src a s) (hB : a ≤ 4611686018427387904) : ∃ x s', spec_l00Src_next.f code a s = some (x, a + 1, s') ∧ (0 ≤ x ∧ x < 256) ∧ Src (a + 1) s' ∧ (code.length ≤ a → s' = (lcg s.toNat : Nat) ∧ x = (byteOf (lcg s.toNat) : Nat)) := by
  obtain ⟨h1, h3, h4⟩ := h
  have hl := hc.1
  unfold spec_l00Src_next.f
  have hw : wrap64 (a + 1) = a + 1 := wrap_in (by omega) (by omega)
  rw [hw]
  by_cases hlt : a < (code.length : Int)
  · have hrd : 0 ≤ rd code a ∧ rd code a < 256 := by
      obtain ⟨k, rfl⟩ := Int.eq_ofNat_of_zero_le h1
      rw [rd_at code k (by omega)]
      exact hc.2 _ (List.getElem_mem _)
    rw [if_pos hlt, if_pos h1, if_pos (by omega)]
    rw [wrap_in (x := rd code a) (by omega) (by omega)]
    refine ⟨_, _, rfl, hrd, ⟨by omega, ?_, ?_⟩, fun h => by omega⟩
    · rw [u64_wrap]; omega
    · rw [u64_wrap]; omega
  · rw [if_neg hlt, if_neg (by omega)]
    obtain ⟨n, rfl⟩ := Int.eq_ofNat_of_zero_le h3
    have hs : IntKind.u64.wrap ((IntKind.u64.wrap ((IntKind.u64.wrap ((n : Int) * 6364136223846793005)))) + 1442695040888963407) = (lcg n : Nat) := by
      simp only [u64_wrap]
      unfold lcg
      omega
    have hlc : lcg n < 18446744073709551616 := by unfold lcg; omega
    rw [hs]
    have hb : wrap64 (Go.bits .and .u64 (((lcg n : Nat) : Int) / 1099511627776) 255) = (byteOf (lcg n) : Nat) := by
      rw [bits_255 _ (by omega) (by omega)]
      unfold byteOf
      rw [wrap_in (by omega) (by omega)]
      omega
    rw [hb]
    refine ⟨_, _, rfl, ?_, ⟨by omega, by omega, by omega⟩, fun _ => ⟨by simp, by simp⟩⟩
    unfold byteOf
    omega
/-- pick: a number below n. -/
theorem pick_ok {code : List Int} {a s : Int} (n : Int) (hc : Bytes code) (h : Src a s) (hB : a ≤ 4611686018427387904) (hn : n ≤ 200) :
    ∃ x a' s', spec_l00Src_pick.f code a s n = some (x, a', s') ∧ 0 ≤ x ∧ (1 ≤ n → x < n) ∧ Src a' s' ∧ a ≤ a' ∧ a' ≤ a + 1 ∧
      (2 ≤ n → a' = a + 1 ∧ (code.length ≤ a → s' = (lcg s.toNat : Nat) ∧ x = ((byteOf (lcg s.toNat) : Nat) : Int) % n)) := by
  unfold spec_l00Src_pick.f
  by_cases h1 : n ≤ 1
  · rw [if_pos h1]
    exact ⟨0, a, s, rfl, Int.le_refl _, fun h => by omega, h, by omega, by omega, fun h => by omega⟩
  · rw [if_neg h1]
    obtain ⟨x, s', e, hx, hS, hl⟩ := next_ok hc h hB
    rw [e, Option.bind_some, if_neg (by omega), if_neg (by omega)]
    refine ⟨_, _, _, rfl, ?_, fun _ => ?_, hS, by show a ≤ a + 1; omega, Int.le_refl _, fun _ => ⟨rfl, fun hh => ⟨(hl hh).1, ?_⟩⟩⟩
    · rw [Int.tmod_eq_emod_of_nonneg hx.1]
      exact Int.emod_nonneg _ (by omega)
    · rw [Int.tmod_eq_emod_of_nonneg hx.1]
      exact Int.emod_lt_of_pos _ (by omega)
    · rw [Int.tmod_eq_emod_of_nonneg hx.1, (hl hh).2]
/-! ### A number put into a rising list -/
def putR : List Int → Int → List Int
  | [], n => [n]
  | x :: l, n => if n ≤ x then (if n < x then n :: x :: l else x :: l) else x :: putR l n
theorem put_done (L : List Int) (y : Int) (hL : L.length ≤ 1000) : ∀ (n i : Nat) (acc : List Int), i + n = L.length → acc.length ≤ 2 * i + 2 → Ev (fun k => spec_l00Put.l0 k L y acc true i) (acc ++ L.drop i)
  | 0, i, acc, hi, ha => by
    refine Ev.step (f := fun _ => some acc) (fun k => ?_) (by rw [show i = L.length by omega, List.drop_length, List.append_nil]; exact Ev.now _)
    rw [spec_l00Put.l0, if_neg (by omega), if_pos rfl]
  | n + 1, i, acc, hi, ha => by
    have h := put_done L y hL n (i + 1) (acc ++ [L[i]]) (by omega) (by simp; omega)
    rw [List.append_assoc, List.singleton_append, ← List.drop_eq_getElem_cons (by omega)] at h
    refine Ev.step (f := fun k => spec_l00Put.j1 k L y acc true i false) (fun k => by rw [spec_l00Put.l0, if_pos (by omega), if_pos rfl]) ?_
    refine Ev.step (f := fun k => spec_l00Put.l0 k L y (acc ++ [L[i]]) true ((i + 1 : Nat) : Int)) (fun k => ?_) h
    rw [spec_l00Put.j1, if_neg (by decide), if_pos (by omega), if_pos (by omega), if_pos (by omega), rd_at L i (by omega), wrap_in (by omega) (by omega)]
    rfl
theorem put_loop (L : List Int) (y : Int) (hL : L.length ≤ 1000) : ∀ (n i : Nat) (acc : List Int), i + n = L.length → acc.length ≤ 2 * i → Ev (fun k => spec_l00Put.l0 k L y acc false i) (acc ++ putR (L.drop i) y)
  | 0, i, acc, hi, ha => by
    refine Ev.step (f := fun _ => some (acc ++ [y])) (fun k => ?_) (by rw [show i = L.length by omega, List.drop_length]; exact Ev.now _)
    rw [spec_l00Put.l0, if_neg (by omega), if_neg (by decide), if_pos (by omega)]
  | n + 1, i, acc, hi, ha => by
    rw [List.drop_eq_getElem_cons (by omega), putR]
    refine Ev.step (f := fun k => spec_l00Put.j1 k L y acc false i (decide (L[i] ≥ y))) (fun k => by rw [spec_l00Put.l0, if_pos (by omega), if_neg (by decide), if_pos (by omega), rd_at L i (by omega)]) ?_
    by_cases h1 : y ≤ L[i]
    · rw [if_pos h1, decide_eq_true (by omega : L[i] ≥ y)]
      by_cases h2 : y < L[i]
      · rw [if_pos h2]
        have h := put_done L y hL n (i + 1) (acc ++ [y] ++ [L[i]]) (by omega) (by simp; omega)
        rw [show acc ++ [y] ++ [L[i]] ++ L.drop (i + 1) = acc ++ (y :: L[i] :: L.drop (i + 1)) by simp] at h
        refine Ev.step (f := fun k => spec_l00Put.l0 k L y (acc ++ [y] ++ [L[i]]) true ((i + 1 : Nat) : Int)) (fun k => ?_) h
        rw [spec_l00Put.j1, if_pos rfl, if_pos (by omega), if_pos (by omega), rd_at L i (by omega), if_pos (by omega), if_pos (by omega), Option.bind_some, if_pos (by simp; omega), wrap_in (by omega) (by omega)]
        rfl
      · rw [if_neg h2]
        have h := put_done L y hL n (i + 1) (acc ++ [L[i]]) (by omega) (by simp; omega)
        rw [List.append_assoc] at h
        refine Ev.step (f := fun k => spec_l00Put.l0 k L y (acc ++ [L[i]]) true ((i + 1 : Nat) : Int)) (fun k => ?_) h
        rw [spec_l00Put.j1, if_pos rfl, if_pos (by omega), if_pos (by omega), rd_at L i (by omega), if_neg (by omega), if_pos (by omega), wrap_in (by omega) (by omega)]
        rfl
    · rw [if_neg h1, decide_eq_false (by omega : ¬ L[i] ≥ y)]
      have h := put_loop L y hL n (i + 1) (acc ++ [L[i]]) (by omega) (by simp; omega)
      rw [List.append_assoc] at h
      refine Ev.step (f := fun k => spec_l00Put.l0 k L y (acc ++ [L[i]]) false ((i + 1 : Nat) : Int)) (fun k => ?_) h
      rw [spec_l00Put.j1, if_neg (by decide), if_pos (by omega), if_pos (by omega), if_pos (by omega), rd_at L i (by omega), wrap_in (by omega) (by omega)]
      rfl
theorem put_ev (L : List Int) (y : Int) (hL : L.length ≤ 1000) : Ev (fun k => spec_l00Put.f k L y) (putR L y) :=
  put_loop L y hL L.length 0 [] (by omega) (by simp)
structure GoodL (n : Int) (L : List Int) : Prop where
  up : L.Pairwise (· < ·)
  rng : ∀ x ∈ L, 0 ≤ x ∧ x < n
theorem mem_putR {x y : Int} : ∀ (L : List Int), x ∈ putR L y ↔ x = y ∨ x ∈ L
  | [] => by simp [putR]
  | z :: L => by
    rw [putR]
    split
    · split
      · simp
      · have : y = z := by omega
        subst this
        simp
    · simp only [List.mem_cons, mem_putR L]
      constructor
      · rintro (h | h | h) <;> simp [h]
      · rintro (h | h | h) <;> simp [h]
theorem putR_up {n y : Int} {L : List Int} (h : GoodL n L) (hy : 0 ≤ y ∧ y < n) : GoodL n (putR L y) := by
  refine ⟨?_, fun x hx => ?_⟩
  · have key : ∀ L : List Int, L.Pairwise (· < ·) → (putR L y).Pairwise (· < ·) := by
      intro L
      induction L with
      | nil => intro _; simp [putR]
      | cons z L ih =>
        intro hp
        rw [List.pairwise_cons] at hp
        rw [putR]
        split
        · split
          · refine List.pairwise_cons.2 ⟨fun a ha => ?_, List.pairwise_cons.2 hp⟩
            rcases List.mem_cons.1 ha with rfl | ha
            · omega
            · have := hp.1 a ha
              omega
          · exact List.pairwise_cons.2 hp
        · refine List.pairwise_cons.2 ⟨fun a ha => ?_, ih hp.2⟩
          rcases (mem_putR L).1 ha with rfl | ha
          · omega
          · exact hp.1 a ha
    exact key L h.up
  · rcases (mem_putR L).1 hx with rfl | hx
    · exact hy
    · exact h.rng x hx
theorem putR_in {y : Int} : ∀ {L : List Int}, L.Pairwise (· < ·) → y ∈ L → putR L y = L
  | [], _, h => by simp at h
  | z :: L, hp, h => by
    rw [List.pairwise_cons] at hp
    rw [putR]
    rcases List.mem_cons.1 h with rfl | h
    · simp
    · have := hp.1 y h
      rw [if_neg (by omega), putR_in hp.2 h]
theorem putR_out {y : Int} : ∀ {L : List Int}, ¬ y ∈ L → (putR L y).length = L.length + 1
  | [], _ => rfl
  | z :: L, h => by
    rw [List.mem_cons, not_or] at h
    rw [putR]
    split
    · rw [if_pos (by omega)]
      rfl
    · rw [List.length_cons, putR_out h.2, List.length_cons]
end Go.Proofs.Ytmgmilnoeghgfaa

set_option linter.unusedVariables false
set_option linter.unusedSimpArgs false
namespace Go.Proofs.Ytmgmilnoeghgfaa
open Go.RowKit Go.Proofs.YtmgmilnoeghgfaaW.PrintWords Go.Proofs.YtmgmilnoeghgfaaW.PrintLast Go.Proofs.YtmgmilnoeghgfaaW.PrintMore Go.Proofs.Ytmgmilnoeghgfaa.PFnExactSolveRules

/-! ### Drawn rules are valid -/
def Units (ss : List Int) : Prop := ∀ x ∈ ss, x = 1 ∨ x = -1
theorem sign_ok {y : Int} (h0 : 0 ≤ y) (h1 : y < 2) : wrap64 (1 - wrap64 (2 * y)) = 1 - 2 * y ∧ (1 - 2 * y = 1 ∨ 1 - 2 * y = -1) := by
  rw [wrap_in (x := 2 * y) (by omega) (by omega), wrap_in (by omega) (by omega)]
  omega
theorem signs_ev {code : List Int} (hc : Bytes code) (K : Int) (V : List Int) (hV : V.length ≤ 1000) : ∀ (m i : Nat) (ss : List Int) (a s : Int), i + m = V.length → ss.length = i → Units ss → Src a s → a + m ≤ 4611686018427387904 →
    ∃ ss' a' s', Ev (fun k => spec_l15DrawRule.l1 k i code a s K V ss) (K, V, ss', a', s') ∧ ss'.length = V.length ∧ Units ss' ∧ Src a' s' ∧ a ≤ a' ∧ a' ≤ a + m
  | 0, i, ss, a, s, hi, hs, hu, hS, hB => by
    refine ⟨ss, a, s, ?_, by omega, hu, hS, Int.le_refl _, by omega⟩
    refine Ev.step (f := fun _ => some (K, V, ss, a, s)) (fun k => ?_) (Ev.now _)
    rw [spec_l15DrawRule.l1, if_neg (by omega)]
  | m + 1, i, ss, a, s, hi, hs, hu, hS, hB => by
    obtain ⟨y, a1, s1, e, h0, h1, hS1, g1, g2, _⟩ := pick_ok 2 hc hS (by omega) (by decide)
    have hsg := sign_ok h0 (h1 (by decide))
    obtain ⟨ss', a', s', q1, q2, q3, q4, q5, q6⟩ := signs_ev hc K V hV m (i + 1) (ss ++ [1 - 2 * y]) a1 s1 (by omega) (by simp; omega) (fun x hx => by
      rcases List.mem_append.1 hx with hx | hx
      · exact hu x hx
      · rw [List.mem_singleton.1 hx]; exact hsg.2) hS1 (by omega)
    refine ⟨ss', a', s', ?_, q2, q3, q4, by omega, by omega⟩
    refine Ev.step (fun k => ?_) q1
    rw [spec_l15DrawRule.l1, if_pos (by omega), e, Option.bind_some, if_pos (by omega), hsg.1, wrap_in (by omega) (by omega)]
    rfl
/-- The rest of the drawing comes to an end, at bd at the latest. -/
def Draws (code : List Int) (n K : Int) (L : List Int) (a s bd : Int) : Prop :=
  ∃ V ss a' s', Ev (fun k => spec_l15DrawRule.l0 k n code a s K L) (K, V, ss, a', s') ∧ GoodL n V ∧ (V.length : Int) = K ∧ ss.length = V.length ∧ Units ss ∧ Src a' s' ∧ a ≤ a' ∧ a' ≤ bd
theorem Draws.step {code : List Int} {n K : Int} {L : List Int} {a s a1 s1 y bd : Int} (hL : L.length ≤ 1000) (hlt : (L.length : Int) < K) (e : spec_l00Src_pick.f code a s n = some (y, a1, s1)) (ha : a ≤ a1) (h : Draws code n K (putR L y) a1 s1 bd) : Draws code n K L a s bd := by
  obtain ⟨V, ss, a', s', q1, q2, q3, q4, q5, q6, q7, q8⟩ := h
  refine ⟨V, ss, a', s', ?_, q2, q3, q4, q5, q6, by omega, q8⟩
  refine Ev.step (f := fun k => (spec_l00Put.f k L y).bind fun t => spec_l15DrawRule.l0 k n code a1 s1 K t) (fun k => ?_) (Ev.bind (f := fun k t => spec_l15DrawRule.l0 k n code a1 s1 K t) (put_ev L y hL) q1)
  rw [spec_l15DrawRule.l0, if_pos hlt, e, Option.bind_some]
theorem Draws.mono {code : List Int} {n K : Int} {L : List Int} {a s bd bd' : Int} (h : Draws code n K L a s bd) (hb : bd ≤ bd') : Draws code n K L a s bd' := by
  obtain ⟨V, ss, a', s', q1, q2, q3, q4, q5, q6, q7, q8⟩ := h
  exact ⟨V, ss, a', s', q1, q2, q3, q4, q5, q6, q7, by omega⟩
/-- A number that is missing. -/
theorem missing (n : Int) : ∀ (L : List Int) (c : Int), L.Pairwise (· < ·) → (∀ x ∈ L, c ≤ x) → c + L.length < n → ∃ t, c ≤ t ∧ t < n ∧ ¬ t ∈ L
  | [], c, _, _, h => ⟨c, Int.le_refl _, by simpa using h, by simp⟩
  | x :: L, c, hp, hm, h => by
    rw [List.pairwise_cons] at hp
    have hx := hm x (by simp)
    simp only [List.length_cons] at h
    by_cases e : x = c
    · obtain ⟨t, h1, h2, h3⟩ := missing n L (c + 1) hp.2 (fun z hz => by have := hp.1 z hz; omega) (by omega)
      exact ⟨t, by omega, h2, fun hh => by
        rcases List.mem_cons.1 hh with hh | hh
        · omega
        · exact h3 hh⟩
    · exact ⟨c, Int.le_refl _, by omega, fun hh => by
        rcases List.mem_cons.1 hh with hh | hh
        · omega
        · have := hp.1 c hh
          omega⟩
/-- From every state on the next number that is missing comes up. -/
theorem draw_more {code : List Int} (hc : Bytes code) {n K : Int} (hn : n ≤ 200) (hK : K ≤ n) (j : Nat)
    (ih : ∀ (L : List Int) (a s : Int), GoodL n L → (L.length : Int) + j = K → Src a s → a + j * 562949953421312 + 1000 ≤ 4611686018427387904 → Draws code n K L a s (a + j * 562949953421312 + 1000))
    (L : List Int) (hL : GoodL n L) (hlen : (L.length : Int) + (j + 1) = K) (a s : Int) (hS : Src a s) (hB : a + (j + 1) * 562949953421312 + 1000 ≤ 4611686018427387904) : Draws code n K L a s (a + (j + 1) * 562949953421312 + 1000) := by
  have hlk : (L.length : Int) < K := by omega
  have hl3 : L.length ≤ 1000 := by omega
  have hc1 := hc.1
  -- a number that is new ends it
  have hnew : ∀ (a s y a1 s1 bd : Int), spec_l00Src_pick.f code a s n = some (y, a1, s1) → (0 ≤ y ∧ y < n) → ¬ y ∈ L → Src a1 s1 → a ≤ a1 → a1 + j * 562949953421312 + 1000 ≤ bd → bd ≤ 4611686018427387904 → Draws code n K L a s bd := fun a s y a1 s1 bd e hy hm hS1 ha hb hb2 =>
    Draws.step hl3 hlk e ha ((ih (putR L y) a1 s1 (putR_up hL hy) (by rw [putR_out hm]; omega) hS1 (by omega)).mono hb)
  by_cases hn2 : 2 ≤ n
  · obtain ⟨t, ht0, ht1, htL⟩ := missing n L 0 hL.up (fun x hx => (hL.rng x hx).1) (by omega)
    -- behind the end of the code
    have hend : ∀ (m : Nat) (a s : Int), code.length ≤ a → Src a s → byteOf (itn lcg m (lcg s.toNat)) = t.toNat → a + (m + 1) + j * 562949953421312 + 1000 ≤ 4611686018427387904 → Draws code n K L a s (a + (m + 1) + j * 562949953421312 + 1000) := by
      intro m
      induction m with
      | zero =>
        intro a s ha hS hb hB
        obtain ⟨y, a1, s1, e, h0, h1, hS1, g1, g2, g3⟩ := pick_ok n hc hS (by omega) hn
        have g4 := (g3 hn2).2 ha
        have hyt : y = t := by
          rw [g4.2]
          rw [itn_zero] at hb
          rw [hb]
          rw [show ((t.toNat : Nat) : Int) = t by omega]
          exact Int.emod_eq_of_lt ht0 ht1
        exact hnew a s y a1 s1 _ e ⟨h0, h1 (by omega)⟩ (hyt ▸ htL) hS1 g1 (by omega) hB
      | succ m ihm =>
        intro a s ha hS hb hB
        obtain ⟨y, a1, s1, e, h0, h1, hS1, g1, g2, g3⟩ := pick_ok n hc hS (by omega) hn
        have g4 := (g3 hn2).2 ha
        have g5 := (g3 hn2).1
        by_cases hy : y ∈ L
        · refine Draws.step hl3 hlk e g1 ?_
          rw [putR_in hL.up hy]
          refine (ihm a1 s1 (by omega) hS1 ?_ (by push_cast at hB; omega)).mono (by push_cast; omega)
          rw [g4.1, Int.toNat_natCast]
          rw [itn_succ] at hb
          exact hb
        · exact hnew a s y a1 s1 _ e ⟨h0, h1 (by omega)⟩ hy hS1 g1 (by omega) hB
    -- ahead of it
    have hall : ∀ (c : Nat) (a s : Int), (code.length : Int) ≤ a + c → Src a s → a + c + 281474976710657 + j * 562949953421312 + 1000 ≤ 4611686018427387904 → Draws code n K L a s (a + c + 281474976710657 + j * 562949953421312 + 1000) := by
      intro c
      induction c with
      | zero =>
        intro a s ha hS hB
        obtain ⟨m, hm, hmt⟩ := byte_comes (lcg s.toNat) t.toNat (by omega)
        exact (hend m a s (by omega) hS hmt (by omega)).mono (by omega)
      | succ c ihc =>
        intro a s ha hS hB
        obtain ⟨y, a1, s1, e, h0, h1, hS1, g1, g2, g3⟩ := pick_ok n hc hS (by omega) hn
        have g5 := (g3 hn2).1
        by_cases hy : y ∈ L
        · refine Draws.step hl3 hlk e g1 ?_
          rw [putR_in hL.up hy]
          exact (ihc a1 s1 (by omega) hS1 (by push_cast at hB; omega)).mono (by push_cast; omega)
        · exact hnew a s y a1 s1 _ e ⟨h0, h1 (by omega)⟩ hy hS1 g1 (by omega) hB
    have h0 := hS.at0
    exact (hall code.length a s (by omega) hS (by omega)).mono (by omega)
  · obtain ⟨y, a1, s1, e, h0, h1, hS1, g1, g2, _⟩ := pick_ok n hc hS (by omega) hn
    have hLn : L = [] := by
      cases L with
      | nil => rfl
      | cons x l => simp only [List.length_cons] at hlen; omega
    exact hnew a s y a1 s1 _ e ⟨h0, h1 (by omega)⟩ (by rw [hLn]; simp) hS1 g1 (by omega) hB
theorem draw_all {code : List Int} (hc : Bytes code) {n K : Int} (hn : n ≤ 200) (hK : K ≤ n) : ∀ (j : Nat) (L : List Int) (a s : Int), GoodL n L → (L.length : Int) + j = K → Src a s → a + j * 562949953421312 + 1000 ≤ 4611686018427387904 → Draws code n K L a s (a + j * 562949953421312 + 1000)
  | 0, L, a, s, hL, hlen, hS, hB => by
    obtain ⟨ss, a', s', q1, q2, q3, q4, q5, q6⟩ := signs_ev hc K L (by omega) L.length 0 [] a s (by omega) rfl (fun x hx => by simp at hx) hS (by omega)
    refine ⟨L, ss, a', s', ?_, hL, by omega, q2, q3, q4, q5, by omega⟩
    refine Ev.step (fun k => ?_) q1
    rw [spec_l15DrawRule.l0, if_neg (by omega)]
    rfl
  | j + 1, L, a, s, hL, hlen, hS, hB => by
    have h := draw_more hc hn hK j (fun L a s => draw_all hc hn hK j L a s) L hL (by push_cast at hlen; omega) a s hS (by push_cast at hB; omega)
    exact h.mono (by push_cast; omega)
theorem rises_good {n : Int} {V : List Int} (h : GoodL n V) : rises 0 (n - 1) V = true := by
  unfold rises
  rw [List.all_eq_true]
  intro i hi
  have hi := List.mem_range.1 hi
  simp only [stepOk, inB, Bool.and_eq_true, Bool.or_eq_true, decide_eq_true_eq, beq_iff_eq]
  rw [rd_at V i hi]
  have hr := h.rng V[i] (List.getElem_mem _)
  refine ⟨⟨hr.1, by omega⟩, ?_⟩
  cases i with
  | zero => exact .inl rfl
  | succ i =>
    right
    rw [Nat.add_sub_cancel, rd_at V i (by omega)]
    exact List.pairwise_iff_getElem.1 h.up i (i + 1) (by omega) hi (by omega)
theorem drawRule_ev {code : List Int} (hc : Bytes code) {n a s : Int} (h1 : 1 ≤ n) (hn : n ≤ 200) (hS : Src a s) (hB : a ≤ 4503599627370496000) :
    ∃ (r : Rule) (a' s' : Int), Ev (fun k => spec_l15DrawRule.f k code a s n) (r.f0, r.f1, r.f2, a', s') ∧ okRule r n = true ∧ Src a' s' ∧ a ≤ a' ∧ a' ≤ a + 4503599627370496 := by
  obtain ⟨m, hm, hm1, hm2, hm3⟩ : ∃ m, spec_l00Min.f 4 n = some m ∧ 1 ≤ m ∧ m ≤ 4 ∧ m ≤ n := by
    unfold spec_l00Min.f
    by_cases h : 4 < n
    · rw [if_pos h]; exact ⟨4, rfl, by decide, by decide, by omega⟩
    · rw [if_neg h]; exact ⟨n, rfl, h1, by omega, Int.le_refl _⟩
  obtain ⟨y, a1, s1, e, h0, hy, hS1, g1, g2, _⟩ := pick_ok m hc hS (by omega) (by omega)
  have hy := hy hm1
  obtain ⟨j, hj⟩ := Int.eq_ofNat_of_zero_le (show 0 ≤ 1 + y by omega)
  obtain ⟨V, ss, a', s', q1, q2, q3, q4, q5, q6, q7, q8⟩ := draw_all hc hn (K := 1 + y) (by omega) j [] a1 s1 ⟨List.Pairwise.nil, fun x hx => by simp at hx⟩ (by simp; omega) hS1 (by omega)
  refine ⟨⟨1 + y, V, ss⟩, a', s', ?_, ?_, q6, by omega, by omega⟩
  · refine Ev.congr (fun k => ?_) q1
    show spec_l15DrawRule.f k code a s n = _
    unfold spec_l15DrawRule.f
    rw [hm, Option.bind_some, e, Option.bind_some, wrap_in (x := 1 + y) (by omega) (by omega)]
  · simp only [okRule, Bool.and_eq_true, inB, decide_eq_true_eq, beq_iff_eq, rises_good q2, List.all_eq_true, Bool.or_eq_true]
    exact ⟨⟨by omega, by omega⟩, q3, by omega, trivial, fun x hx => q5 x hx⟩
end Go.Proofs.Ytmgmilnoeghgfaa

set_option linter.unusedVariables false
set_option linter.unusedSimpArgs false
namespace Go.Proofs.Ytmgmilnoeghgfaa
open Go.RowKit Go.Proofs.YtmgmilnoeghgfaaW.PrintWords Go.Proofs.YtmgmilnoeghgfaaW.PrintLast Go.Proofs.YtmgmilnoeghgfaaW.PrintMore Go.Proofs.Ytmgmilnoeghgfaa.PFnExactSolveRules

theorem rules_ev {code : List Int} (hc : Bytes code) {n : Int} (h1 : 1 ≤ n) (hn : n ≤ 200) : ∀ (m : Nat) (out : List Rule) (a s : Int), out.length + m ≤ 1000 → (∀ r ∈ out, okRule r n = true) → Src a s → a + m * 4503599627370496 ≤ 4503599627370496000 →
    ∃ out' a' s', Ev (fun k => spec_l15DrawRules.l0 k n out m code a s) (out', n, a', s') ∧ (∀ r ∈ out', okRule r n = true) ∧ out'.length = out.length + m ∧ Src a' s' ∧ a ≤ a' ∧ a' ≤ a + m * 4503599627370496
  | 0, out, a, s, hl, ho, hS, hB => by
    refine ⟨out, a, s, Ev.step (f := fun _ => some (out, n, a, s)) (fun k => ?_) (Ev.now _), ho, rfl, hS, Int.le_refl _, by omega⟩
    rw [spec_l15DrawRules.l0, if_neg (by omega)]
  | m + 1, out, a, s, hl, ho, hS, hB => by
    obtain ⟨r, a1, s1, e, hok, hS1, g1, g2⟩ := drawRule_ev hc h1 hn hS (by omega)
    obtain ⟨out', a', s', q1, q2, q3, q4, q5, q6⟩ := rules_ev hc h1 hn m (out ++ [r]) a1 s1 (by simp; omega) (fun x hx => by
      rcases List.mem_append.1 hx with hx | hx
      · exact ho x hx
      · rw [List.mem_singleton.1 hx]; exact hok) hS1 (by push_cast at hB; omega)
    refine ⟨out', a', s', ?_, q2, by rw [q3]; simp; omega, q4, by omega, by push_cast; omega⟩
    refine Ev.step (f := fun k => (spec_l15DrawRule.f k code a s n).bind fun bt => spec_l15DrawRules.l0 k n (out ++ [(⟨bt.1, bt.2.1, bt.2.2.1⟩ : S71)]) m code bt.2.2.2.1 bt.2.2.2.2) (fun k => ?_) (Ev.bind (f := fun k (bt : Int × List Int × List Int × Int × Int) => spec_l15DrawRules.l0 k n (out ++ [(⟨bt.1, bt.2.1, bt.2.2.1⟩ : S71)]) m code bt.2.2.2.1 bt.2.2.2.2) e q1)
    rw [spec_l15DrawRules.l0, if_pos (by omega)]
    congr 1
    funext bt
    rw [if_pos (by omega), wrap_in (by omega) (by omega), show (((m + 1 : Nat) : Int) - 1) = (m : Int) by omega]
theorem values_ev {code : List Int} (hc : Bytes code) (rules : List Rule) {n : Int} (hn : n ≤ 200) : ∀ (m i : Nat) (vs : List Int) (a s : Int), (i : Int) + m = n → vs.length = i → Units vs → Src a s → a + m ≤ 4503599627370496000 →
    ∃ vs' : List Int, Ev (fun k => spec_E8Rules.l1 k rules n vs i code a s) (rules, n, vs') ∧ (vs'.length : Int) = n ∧ Units vs'
  | 0, i, vs, a, s, hi, hs, hu, hS, hB => by
    refine ⟨vs, Ev.step (f := fun _ => some (rules, n, vs)) (fun k => ?_) (Ev.now _), by omega, hu⟩
    rw [spec_E8Rules.l1, if_neg (by omega)]
  | m + 1, i, vs, a, s, hi, hs, hu, hS, hB => by
    obtain ⟨y, a1, s1, e, h0, h1, hS1, g1, g2, _⟩ := pick_ok 2 hc hS (by omega) (by decide)
    have hsg := sign_ok h0 (h1 (by decide))
    obtain ⟨vs', q1, q2, q3⟩ := values_ev hc rules hn m (i + 1) (vs ++ [1 - 2 * y]) a1 s1 (by push_cast; omega) (by simp; omega) (fun x hx => by
      rcases List.mem_append.1 hx with hx | hx
      · exact hu x hx
      · rw [List.mem_singleton.1 hx]; exact hsg.2) hS1 (by omega)
    refine ⟨vs', ?_, q2, q3⟩
    refine Ev.step (fun k => ?_) q1
    rw [spec_E8Rules.l1, if_pos (by omega), e, Option.bind_some, if_pos (by omega), hsg.1, wrap_in (by omega) (by omega)]
    rfl
theorem e8_loop {code : List Int} (hc : Bytes code) {n : Int} (h1 : 1 ≤ n) (hn : n ≤ 200) : ∀ (m : Nat) (out : List Rule) (a s : Int), out.length + m ≤ 1000 → (∀ r ∈ out, okRule r n = true) → Src a s → a + m * 4503599627370496 + 1000 ≤ 4503599627370496000 →
    ∃ (out' : List Rule) (vs : List Int), Ev (fun k => spec_E8Rules.l0 k out n m code a s) (out', n, vs) ∧ (∀ r ∈ out', okRule r n = true) ∧ out'.length = out.length + m ∧ (vs.length : Int) = n ∧ Units vs
  | 0, out, a, s, hl, ho, hS, hB => by
    obtain ⟨vs, q1, q2, q3⟩ := values_ev hc out hn n.toNat 0 [] a s (by omega) rfl (fun x hx => by simp at hx) hS (by omega)
    refine ⟨out, vs, Ev.step (fun k => ?_) q1, ho, rfl, q2, q3⟩
    rw [spec_E8Rules.l0, if_neg (by omega)]
    rfl
  | m + 1, out, a, s, hl, ho, hS, hB => by
    obtain ⟨r, a1, s1, e, hok, hS1, g1, g2⟩ := drawRule_ev hc h1 hn hS (by omega)
    obtain ⟨out', vs, q1, q2, q3, q4⟩ := e8_loop hc h1 hn m (out ++ [r]) a1 s1 (by simp; omega) (fun x hx => by
      rcases List.mem_append.1 hx with hx | hx
      · exact ho x hx
      · rw [List.mem_singleton.1 hx]; exact hok) hS1 (by push_cast at hB; omega)
    refine ⟨out', vs, ?_, q2, by rw [q3]; simp; omega, q4⟩
    refine Ev.step (f := fun k => (spec_l15DrawRule.f k code a s n).bind fun bt => spec_E8Rules.l0 k (out ++ [(⟨bt.1, bt.2.1, bt.2.2.1⟩ : S71)]) n m code bt.2.2.2.1 bt.2.2.2.2) (fun k => ?_) (Ev.bind (f := fun k (bt : Int × List Int × List Int × Int × Int) => spec_E8Rules.l0 k (out ++ [(⟨bt.1, bt.2.1, bt.2.2.1⟩ : S71)]) n m code bt.2.2.2.1 bt.2.2.2.2) e q1)
    rw [spec_E8Rules.l0, if_pos (by omega)]
    congr 1
    funext bt
    rw [if_pos (by omega), wrap_in (by omega) (by omega), show (((m + 1 : Nat) : Int) - 1) = (m : Int) by omega]
/-- What E8Rules draws: valid rules and full values. -/
theorem e8_ok {code : List Int} (hc : Bytes code) : ∃ (rules : List Rule) (vars : Int) (full : List Int), (∃ k, spec_E8Rules.f k code = some (rules, vars, full)) ∧ okRules rules vars = true ∧ (1 ≤ vars ∧ vars ≤ 9) ∧ (full.length : Int) = vars ∧ Units full ∧ rules.length ≤ 1000 := by
  obtain ⟨y0, a0, s0, e0, p0, p0', hS0, g0, g0', _⟩ := pick_ok (code := code) (a := 0) (s := 0) 9 hc ⟨Int.le_refl _, Int.le_refl _, by decide⟩ (by decide) (by decide)
  have p0' := p0' (by decide)
  obtain ⟨y1, a1, s1, e1, p1, p1', hS1, g1, g1', _⟩ := pick_ok 14 hc hS0 (by omega) (by decide)
  have p1' := p1' (by decide)
  obtain ⟨c1, rfl⟩ := Int.eq_ofNat_of_zero_le p1
  obtain ⟨out, a2, s2, q1, q2, q3, hS2, g2, g2'⟩ := rules_ev hc (n := 1 + y0) (by omega) (by omega) c1 [] a1 s1 (by simp; omega) (fun r hr => by simp at hr) hS1 (by omega)
  obtain ⟨y3, a3, s3, e3, p3, p3', hS3, g3, g3', _⟩ := pick_ok 10 hc hS2 (by omega) (by decide)
  have p3' := p3' (by decide)
  obtain ⟨c3, rfl⟩ := Int.eq_ofNat_of_zero_le p3
  simp only [List.length_nil] at q3
  obtain ⟨rules, full, r1, r2, r3, r4, r5⟩ := e8_loop hc (n := 1 + y0) (by omega) (by omega) c3 out a3 s3 (by omega) q2 hS3 (by omega)
  refine ⟨rules, 1 + y0, full, ?_, ?_, by omega, r4, r5, by omega⟩
  · refine Ev.rounds (Ev.congr (f := fun k => (spec_l15DrawRules.f k code 0 0).bind fun bt175 => ((spec_l00Src_pick.f code bt175.2.2.1 bt175.2.2.2 10).bind fun bt181 => (spec_E8Rules.l0 k bt175.1 bt175.2.1 bt181.1 code bt181.2.1 bt181.2.2))) (fun k => by unfold spec_E8Rules.f spec_l00From.f; rfl) ?_)
    refine Ev.bind (f := fun k (bt175 : List S71 × Int × Int × Int) => ((spec_l00Src_pick.f code bt175.2.2.1 bt175.2.2.2 10).bind fun bt181 => (spec_E8Rules.l0 k bt175.1 bt175.2.1 bt181.1 code bt181.2.1 bt181.2.2))) (a := (out, 1 + y0, a2, s2)) ?_ ?_
    · refine Ev.congr (fun k => ?_) q1
      unfold spec_l15DrawRules.f
      rw [e0, Option.bind_some, e1, Option.bind_some, wrap_in (x := 1 + y0) (by omega) (by omega)]
    · refine Ev.congr (fun k => ?_) r1
      show (spec_l00Src_pick.f code a2 s2 10).bind _ = _
      rw [e3, Option.bind_some]
  · simp only [okRules, Bool.and_eq_true, inB, decide_eq_true_eq, Bool.not_eq_true', List.any_eq_false]
    refine ⟨⟨by omega, by omega⟩, by omega, fun r hr => ?_⟩
    have h1 : (decide (0 ≤ 1 + y0)) = true := decide_eq_true (by omega)
    have h2 : (decide (1 + y0 ≤ 200)) = true := decide_eq_true (by omega)
    simp [h1, h2, r2 r hr]
end Go.Proofs.Ytmgmilnoeghgfaa
