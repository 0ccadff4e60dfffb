import Derived.Test.YtmgmilnoeghgfaaMA
import Derived.Test.YtmgmilnoeghgfaaMS
import Derived.StillTailTactics
import Derived.Deep.LoopGhost
set_option linter.unusedVariables false
set_option linter.unusedSimpArgs false
namespace Go.Proofs.Ytmgmilnoeghgfaa
open Go.RowKit Go.Proofs.YtmgmilnoeghgfaaW.PrintWords Go.Proofs.YtmgmilnoeghgfaaW.PrintLast Go.Proofs.YtmgmilnoeghgfaaW.PrintMore Go.Proofs.Ytmgmilnoeghgfaa.PFnExactSolveRules

abbrev RwI (v : Value) (xs : List Int) : HP := Rw (Kd.int .i64) 2 v xs
def holdsRule (r : Rule) (vs : List Int) : Int := holdsR r.f0 (terms r.f1 r.f2 vs)
structure OkRule (r : Rule) (n : Nat) : Prop where
  kind : 1 ≤ r.f0 ∧ r.f0 ≤ 4
  len1 : (r.f1.length : Int) = r.f0
  len2 : r.f2.length = r.f1.length
  idx : ∀ v ∈ r.f1, 0 ≤ v ∧ v < n
  sgn : ∀ s ∈ r.f2, s = 1 ∨ s = -1
theorem rises_mem {lo hi : Int} {xs : List Int} (h : rises lo hi xs = true) : ∀ v ∈ xs, lo ≤ v ∧ v ≤ hi := by
  intro v hv
  obtain ⟨k, hk, rfl⟩ := List.getElem_of_mem hv
  unfold rises at h
  rw [List.all_eq_true] at h
  have := h k (List.mem_range.2 hk)
  simp only [stepOk, inB, Bool.and_eq_true, decide_eq_true_eq] at this
  rw [rd_at xs k hk] at this
  exact this.1
theorem OkRule.of {r : Rule} {n : Nat} (h : okRule r n = true) : OkRule r n := by
  simp only [okRule, Bool.and_eq_true, inB, decide_eq_true_eq, beq_iff_eq] at h
  obtain ⟨hk, h1, h2, h3, h4⟩ := h
  refine ⟨hk, h1, by omega, fun v hv => ?_, fun s hs => ?_⟩
  · have := rises_mem h3 v hv
    omega
  · rw [List.all_eq_true] at h4
    have := h4 s hs
    simpa using this
structure Vals (n : Nat) (vs : List Int) : Prop where
  len : vs.length = n
  val : ∀ x ∈ vs, unit3 x
theorem Vals.set {n : Nat} {vs : List Int} (h : Vals n vs) (k : Nat) {x : Int} (hx : unit3 x) : Vals n (vs.set k x) :=
  ⟨by rw [List.length_set]; exact h.len, fun y hy => by
    rcases List.mem_or_eq_of_mem_set hy with h1 | h1
    · exact h.val y h1
    · exact h1 ▸ hx⟩
theorem OkRule.good {r : Rule} {n : Nat} (h : OkRule r n) {vs : List Int} (hv : Vals n vs) : GoodVars r.f1 r.f2 vs :=
  ⟨h.len2, by have := h.kind.2; have := h.len1; omega, fun v hm => by have := h.idx v hm; have := hv.len; omega, h.sgn, hv.val⟩
/-- The rule's own rows, in every world that holds the frame. -/
def RuleReads (w0 : World) (R : List HP) (r : Rule) (A1 A2 : Option Addr) : Prop :=
  ∀ w, Sat w0 R w → (Kd.int .i64).C w A1 r.f1.length r.f1 ∧ (Kd.int .i64).C w A2 r.f2.length r.f2
theorem RuleReads.cons {w0 : World} {R : List HP} {r : Rule} {A1 A2 : Option Addr} (h : RuleReads w0 R r A1 A2) (p : HP) : RuleReads w0 (p :: R) r A1 A2 := fun w S => h w S.tail
theorem holdsRule_calls {w : World} {r : Rule} {n : Nat} (A1 A2 A3 : Option Addr) (c1 c2 c3 : Nat) {vs : List Int} (hok : OkRule r n) (hv : Vals n vs)
    (h1 : (Kd.int .i64).C w A1 r.f1.length r.f1) (h2 : (Kd.int .i64).C w A2 r.f2.length r.f2) (h3 : (Kd.int .i64).C w A3 n vs) :
    Calls Try.prog 66 #[.agg #[.int .i64 r.f0, .slice A1 r.f1.length c1, .slice A2 r.f2.length c2], .slice A3 n c3] w fun e w' => e = .returned (.int .i64 (holdsRule r vs)) ∧ Below w.heap.size w w' := by
  obtain rfl := hv.len
  exact holds_calls A1 A2 A3 r.f0 r.f1 r.f2 vs c1 c2 c3 w h1 h2 h3 (hok.good hv) ⟨hok.len1, hok.kind.1⟩

theorem Sat.intAt {w0 w : World} {ps : List HP} (S : Sat w0 ps w) (i : Nat) {A : Option Addr} {n c : Nat} {xs : List Int} (hp : ps[i]? = some (RwI (.slice A n c) xs)) (k : Int) (h0 : 0 ≤ k) (h1 : k < xs.length) :
    ∃ g, A = some ⟨g, 0, none⟩ ∧ w.cell? ⟨g, k.toNat, none⟩ = some (.int .i64 (rd xs k)) ∧ w.frozen? ⟨g, k.toNat, none⟩ = false ∧ g < w.heap.size := by
  obtain ⟨g, hA, hn, hcell⟩ := S.cellAt i hp (by omega)
  obtain ⟨m, rfl⟩ := Int.eq_ofNat_of_zero_le h0
  simp only [Int.toNat_natCast]
  obtain ⟨a, b, d⟩ := hcell m (by omega)
  exact ⟨g, hA, by rw [rd_at xs m (by omega)]; exact a, b, d⟩
theorem set_back (xs : List Int) (k : Int) (x : Int) (h0 : 0 ≤ k) (h1 : k < xs.length) : (xs.set k.toNat x).set k.toNat (rd xs k) = xs := by
  obtain ⟨m, rfl⟩ := Int.eq_ofNat_of_zero_le h0
  simp only [Int.toNat_natCast]
  rw [rd_at xs m (by omega), List.set_set, List.set_getElem_self]

set_option maxHeartbeats 1000000 in
theorem with_calls {w0 w : World} {R : List HP} {A : Option Addr} {n c : Nat} {vs : List Int} {r : Rule} (A1 A2 : Option Addr) (c1 c2 : Nat) (v x : Int)
    (S : Sat w0 (RwI (.slice A n c) vs :: R) w) (hrd : RuleReads w0 R r A1 A2) (hok : OkRule r n) (hv : Vals n vs) (hi : 0 ≤ v ∧ v < n) (hx : unit3 x) :
    Calls Try.prog 154 #[.agg #[.int .i64 r.f0, .slice A1 r.f1.length c1, .slice A2 r.f2.length c2], .slice A n c, .int .i64 v, .int .i64 x] w fun e w' =>
      e = .returned (.int .i64 (holdsRule r (vs.set v.toNat x))) ∧ Sat w0 (RwI (.slice A n c) vs :: R) w' := by
  have hvl := hv.len
  obtain ⟨hia, hib⟩ := hi
  obtain ⟨g, rfl, hc0, hf0, hlt⟩ := S.intAt 0 rfl v hia (by omega)
  have hmn : n ≤ 9223372036854775807 := by
    have := S.readsAt 0 rfl
    have := Kd.C_max this.2.2
    omega
  have S1 := (S.store 0 rfl v.toNat x).alloc (.cells #[.int .i64 r.f0, .slice A1 r.f1.length c1, .slice A2 r.f2.length c2] 71)
  have hrd1 := hrd _ S1.tail.tail
  have hC := (S1.readsAt 1 rfl).2.2
  simp only [List.length_set] at hC
  rw [hvl] at hC
  have HCALL := Aside0.mk (holdsRule_calls A1 A2 (some ⟨g, 0, none⟩) c1 c2 c hok (hv.set v.toNat hx) hrd1.1 hrd1.2 hC)
  have HS1 := Aside0.mk S1
  have HVL := Aside0.mk hvl
  have hset := Aside0.mk (set_back vs v x hia (by omega))
  clear S S1 hC hrd1 hrd hvl
  generalize rd vs v = y at *
  go_enter Try.func154, Try.ntmps154
  go_wp2_with (((with_reducible refine gate_dst (N := 21) rfl ?_); refine goesF (f := 66) (args := #[.agg #[.int .i64 r.f0, .slice A1 r.f1.length c1, .slice A2 r.f2.length c2], .slice (some ⟨g, 0, none⟩) n c]) rfl rfl rfl (by (try simp only [List.map_toArray, List.map_cons, List.map_nil]); rfl) (Enter.mk Try.func66 (by kernel_rfl) rfl) ?_; refine (HCALL.out).mono ?_; rintro e e1 ⟨rfl, hb⟩; refine ⟨_, rfl, ?_⟩; have HS2 := Aside0.mk (HS1.out.below hb); clear hb; obtain ⟨g2, hg2, hc2, hf2, hlt2⟩ := HS2.out.intAt 1 rfl v hia (by rw [List.length_set]; have := HVL.out; omega); cases hg2))
  go_ret
  have S3 := HS2.out.store 1 rfl v.toNat y
  rw [hset.out] at S3
  exact ⟨rfl, S3.tail⟩

/-- The closure that asks whether a variable is decided. -/
theorem forced1_calls {w0 w : World} {ps : List HP} {A : Option Addr} {n c b : Nat} {vs : List Int} (i j : Nat) (S : Sat w0 ps w) (hp : ps[i]? = some (RwI (.slice A n c) vs)) {t : TypeId}
    (hq : ps[j]? = some (Blk b (.cells #[.slice A n c] t))) (v : Int) (h0 : 0 ≤ v) (h1 : v < n) :
    Calls Try.prog 180 #[.int .i64 v, .pointer (some ⟨b, 0, none⟩)] w fun e w' => e = .returned (.bool (rd vs v != 0)) ∧ w = w' := by
  have hn := (S.readsAt i hp).1
  obtain ⟨g, rfl, hc0, hf0, hlt⟩ := S.intAt i hp v h0 (by omega)
  have hb := cell_of_one (S.blk j hq)
  have hmn : n ≤ 9223372036854775807 := by
    have := Kd.C_max (S.readsAt i hp).2.2
    omega
  clear hn hf0
  generalize rd vs v = y at *
  go_enter Try.func180, Try.ntmps180
  go_wp2
  go_ret
  exact ⟨rfl, rfl⟩

/-- What DeleteFunc leaves. -/
def kept (p : Int → Bool) (xs : List Int) : List Int := xs.filter fun x => !p x
theorem kept_snoc (p : Int → Bool) (xs : List Int) (j : Nat) (h : j < xs.length) : kept p (xs.take (j + 1)) = kept p (xs.take j) ++ if p xs[j] then [] else [xs[j]] := by
  unfold kept
  rw [List.take_succ_eq_append_getElem h, List.filter_append]
  by_cases hp : p xs[j] <;> simp [hp]
theorem kept_len (p : Int → Bool) (xs : List Int) (j : Nat) : (kept p (xs.take j)).length ≤ j := by
  have h1 := List.length_filter_le (fun x => !p x) (xs.take j)
  have h2 := List.length_take_le j xs
  unfold kept
  omega
structure Sieve (p : Int → Bool) (xs ys : List Int) (i j : Nat) : Prop where
  len : ys.length = xs.length
  le : i < j ∧ j ≤ xs.length
  head : ys.take i = kept p (xs.take j)
  tail : ys.drop j = xs.drop j
theorem Sieve.cnt {p : Int → Bool} {xs ys : List Int} {i j : Nat} (h : Sieve p xs ys i j) : (kept p (xs.take j)).length = i := by
  rw [← h.head]
  have := h.len
  have := h.le
  simp
  omega
theorem Sieve.elem {p : Int → Bool} {xs ys : List Int} {i j : Nat} (h : Sieve p xs ys i j) (hj : j < xs.length) : rd ys j = xs[j] := by
  have hl := h.len
  rw [rd_at ys j (by omega)]
  have h1 : (ys.drop j)[0]? = (xs.drop j)[0]? := by rw [h.tail]
  rw [List.getElem?_drop, List.getElem?_drop] at h1
  simpa [List.getElem?_eq_getElem hj, List.getElem?_eq_getElem (show j < ys.length by omega)] using h1
theorem Sieve.skip {p : Int → Bool} {xs ys : List Int} {i j : Nat} (h : Sieve p xs ys i j) (hj : j < xs.length) (hp : p xs[j] = true) : Sieve p xs ys i (j + 1) :=
  ⟨h.len, ⟨by have := h.le; omega, by omega⟩, by rw [kept_snoc p xs j hj, hp]; simpa using h.head, by
    have := congrArg (List.drop 1) h.tail
    simpa [List.drop_drop] using this⟩
theorem Sieve.keep {p : Int → Bool} {xs ys : List Int} {i j : Nat} (h : Sieve p xs ys i j) (hj : j < xs.length) (hp : p xs[j] = false) : Sieve p xs (ys.set i xs[j]) (i + 1) (j + 1) := by
  have hl := h.len
  have hle := h.le
  refine ⟨by rw [List.length_set]; exact hl, ⟨by omega, by omega⟩, ?_, ?_⟩
  · rw [kept_snoc p xs j hj, hp, ← h.head]
    rw [List.take_succ_eq_append_getElem (by rw [List.length_set]; omega), List.getElem_set_self, List.take_set_of_le (Nat.le_refl _)]
    simp
  · rw [List.drop_set_of_lt (by omega)]
    have := congrArg (List.drop 1) h.tail
    simpa [List.drop_drop] using this
theorem Sieve.start {p : Int → Bool} {xs : List Int} {k : Nat} (hk : k < xs.length) (h : AllNo p xs k) (hp : p xs[k] = true) : Sieve p xs xs k (k + 1) :=
  ⟨rfl, ⟨by omega, by omega⟩, by
    rw [kept_snoc p xs k hk, hp]
    simp [kept]
    refine (List.filter_eq_self.2 ?_).symm
    intro x hx
    obtain ⟨j, hj, rfl⟩ := List.getElem_of_mem hx
    have hj2 : j < k := by simp at hj; omega
    have := h j (by omega) hj2
    simp
    simpa using this, rfl⟩
theorem kept_all {p : Int → Bool} {xs : List Int} (h : xs.any p = false) : kept p xs = xs := by
  unfold kept
  rw [List.filter_eq_self]
  intro x hx
  rw [List.any_eq_false] at h
  simpa using h x hx

set_option maxHeartbeats 2000000 in
theorem deleteFunc_calls {w0 w : World} {R : List HP} {A : Option Addr} {n c : Nat} {xs : List Int} (S : Sat w0 (RwI (.slice A n c) xs :: R) w) (g : FuncId) (caps : Array Value) (p : Int → Bool) (hE : Enter Try.prog g)
    (hcl : ∀ (x : Int) (ys : List Int) (w' : World), x ∈ xs → Sat w0 (RwI (.slice A n c) ys :: R) w' → Calls Try.prog g (#[.int .i64 x] ++ caps) w' fun e w'' => e = .returned (.bool (p x)) ∧ w' = w'') :
    Calls Try.prog 179 #[.slice A n c, .func (.func g) #[] caps] w fun e w' => ∃ v, e = .returned v ∧ Sat w0 (RwI v (kept p xs) :: R) w' := by
  have hn := (S.readsAt 0 rfl).1
  have hnc := (S.readsAt 0 rfl).2.1
  have hmn : n ≤ 9223372036854775807 := by
    have := Kd.C_max (S.readsAt 0 rfl).2.2
    omega
  have hcl0 := indexFunc_calls Mild.eq g caps p A c xs w (S.readsAt 0 rfl).2.2 hE (fun x w' hx e => by subst e; exact hcl x xs w hx S)
  rw [← hn] at hcl0
  have HS := Aside0.mk S
  have HCL := Aside0.mk hcl
  have HI := Aside0.mk hcl0
  have HN := Aside0.mk hn
  clear S hcl hcl0 hn
  cases hany : xs.any p
  · have hidx : idxOf p xs = -1 := by simp [idxOf, hany]
    have HK := Aside0.mk (kept_all hany)
    rw [hidx] at HI
    clear hidx hany
    go_enter Try.func179, Try.ntmps179
    go_wp2_with (((with_reducible refine gate_dst (N := 10) rfl ?_); refine goesF (f := 145) (args := #[.slice A n c, .func (.func g) #[] caps]) rfl rfl rfl (by (try simp only [List.map_toArray, List.map_cons, List.map_nil]); rfl) (Enter.mk Try.func145 (by kernel_rfl) rfl) ?_; refine (HI.out).mono ?_; rintro e e1 ⟨rfl, rfl⟩; refine ⟨_, rfl, ?_⟩))
    go_ret
    exact ⟨_, rfl, by rw [HK.out]; exact HS.out⟩
  · have hk : xs.findIdx p < xs.length := by
      rw [List.findIdx_lt_length]
      simpa using hany
    have hidx : idxOf p xs = (xs.findIdx p : Int) := by simp [idxOf, hany]
    have HSV := Aside0.mk (Sieve.start hk (fun j hj h => by simpa using List.not_of_lt_findIdx h) (List.findIdx_getElem (w := hk)))
    rw [hidx] at HI
    clear hidx hany
    generalize xs.findIdx p = k0 at *
    have hkn : k0 < n := by have := HN.out; omega
    obtain ⟨b, hA, _⟩ := HS.out.intAt 0 rfl 0 (by omega) (by omega)
    subst hA
    have hne : ((k0 : Int) == -1) = false := by
      have : (k0 : Int) ≠ -1 := by omega
      simp [this]
    clear hk
    go_enter Try.func179, Try.ntmps179
    go_wp2_with (((with_reducible refine gate_dst (N := 10) rfl ?_); refine goesF (f := 145) (args := #[.slice (some ⟨b, 0, none⟩) n c, .func (.func g) #[] caps]) rfl rfl rfl (by (try simp only [List.map_toArray, List.map_cons, List.map_nil]); rfl) (Enter.mk Try.func145 (by kernel_rfl) rfl) ?_; refine (HI.out).mono ?_; rintro e e1 ⟨rfl, rfl⟩; refine ⟨_, rfl, ?_⟩))
    go_loopw [5, 6, 7] (fun v5 v6 v7 wr => ∃ (i j : Nat) (ys : List Int), j ≤ n ∧ i < j ∧ v5 = .int .i64 i ∧ v6 = .int .i64 j ∧ Aside0 (Sieve p xs ys i j) ∧ Aside0 (Sat w0 (RwI (.slice (some ⟨b, 0, none⟩) n c) ys :: R) wr)) (fun _ v6 _ _ => n - (intOf v6).toNat)
    case atStart => exact ⟨k0, k0 + 1, xs, by omega, by omega, rfl, by go_num, HSV, HS⟩
    case round =>
      clear HSV HS
      obtain ⟨i, j, ys, hj, hij, rfl, rfl, HSV, HS⟩ := hrel
      by_cases hlt : j < n
      · have hjx : j < xs.length := by have := HN.out; omega
        have hjl : (j : Int) < ys.length := by have := HSV.out.len; omega
        obtain ⟨b', hb', hc, _, hbl⟩ := HS.out.intAt 0 rfl (j : Int) (by omega) hjl
        cases hb'
        rw [HSV.out.elem hjx] at hc
        simp only [Int.toNat_natCast] at hc
        have HC := Aside0.mk (HCL.out xs[j] ys wr (List.getElem_mem hjx) HS.out)
        obtain ⟨b', hb', hci, hfi, _⟩ := HS.out.intAt 0 rfl (i : Int) (by omega) (by have := HSV.out.len; omega)
        cases hb'
        simp only [Int.toNat_natCast] at hci hfi
        have hkeep := fun h => HSV.out.keep hjx h
        have hskip := fun h => HSV.out.skip hjx h
        have HKP := Aside0.mk (And.intro hkeep hskip)
        clear hkeep hskip hjl
        have hin : i < n := by omega
        generalize xs[j] = x at *
        generalize rd ys i = yi at *
        cases hp : p x
        · have HST := Aside0.mk (HS.out.store 0 rfl i x)
          have HK2 := Aside0.mk (HKP.out.1 hp)
          go_wp2_with (((with_reducible refine gate_dst (N := 28) rfl ?_); refine goesV (t := 26) (args := #[.int .i64 x] ++ caps) rfl rfl rfl rfl (by (try simp only [List.map_toArray, List.map_cons, List.map_nil]); rfl) hE ?_; refine (HC.out).mono ?_; rintro e e1 ⟨rfl, rfl⟩; refine ⟨_, rfl, ?_⟩; rw [hp]))
          exact ⟨⟨i + 1, j + 1, ys.set i x, by omega, by omega, by go_num, by go_num, HK2, HST⟩, by simp [intOf]; omega⟩
        · have HK2 := Aside0.mk (HKP.out.2 hp)
          go_wp2_with (((with_reducible refine gate_dst (N := 28) rfl ?_); refine goesV (t := 26) (args := #[.int .i64 x] ++ caps) rfl rfl rfl rfl (by (try simp only [List.map_toArray, List.map_cons, List.map_nil]); rfl) hE ?_; refine (HC.out).mono ?_; rintro e e1 ⟨rfl, rfl⟩; refine ⟨_, rfl, ?_⟩; rw [hp]))
          exact ⟨⟨i, j + 1, ys, by omega, by omega, rfl, by go_num, HK2, HS⟩, by simp [intOf]; omega⟩
      · obtain rfl : j = n := by omega
        have hlen := HSV.out.len
        have hcells : ∀ m, m < j - i → (wr.cell? ⟨b, i + m, none⟩).isSome = true ∧ wr.frozen? ⟨b, i + m, none⟩ = false := by
          intro m hm
          obtain ⟨b', hb', hc, hf, _⟩ := HS.out.intAt 0 rfl ((i + m : Nat) : Int) (by omega) (by have := HN.out; omega)
          cases hb'
          simp only [Int.toNat_natCast] at hc hf
          exact ⟨by rw [hc]; rfl, hf⟩
        have hclr := fun ty => Lib.run_clear_slice (P := Try.prog) wr 24 2 ty (.int .i64 0) Try.underlying24 (fun w => by kernel_rfl) rfl rfl b i (j - i) (c - i) (by omega) (fun m hm => (hcells m hm).1) (fun m hm => (hcells m hm).2)
        have HCC := Aside0.mk hcells
        have HLN := Aside0.mk hlen
        clear hcells hlen
        have hci : ¬ c = i := by omega
        go_wp2
        go_ret
        obtain ⟨zs, S2, ht, hl⟩ := Sat.setCells (enc := Value.int .i64) (h1 := fun _ => rfl) 0 0 (List.replicate (j - i) 0) i wr ys _ HS.out rfl
        rw [List.map_replicate] at S2
        have S3 := S2.cut 0 rfl i (by omega)
        rw [ht, HSV.out.head, HN.out, List.take_length] at S3
        rw [← HN.out] at S3
        exact ⟨_, rfl, S3⟩
end Go.Proofs.Ytmgmilnoeghgfaa

set_option linter.unusedVariables false
set_option linter.unusedSimpArgs false
namespace Go.Proofs.Ytmgmilnoeghgfaa
open Go.RowKit Go.Proofs.YtmgmilnoeghgfaaW.PrintWords Go.Proofs.YtmgmilnoeghgfaaW.PrintLast Go.Proofs.YtmgmilnoeghgfaaW.PrintMore Go.Proofs.Ytmgmilnoeghgfaa.PFnExactSolveRules

/-- The variable that a rule decides, and its value. -/
def forcedR (r : Rule) (vs : List Int) : Option (Int × Int) :=
  if holdsRule r vs = 0 then
    match kept (fun v => rd vs v != 0) r.f1 with
    | [v] => if holdsRule r (vs.set v.toNat (-1)) < 0 then some (v, 1) else if holdsRule r (vs.set v.toNat 1) < 0 then some (v, -1) else none
    | _ => none
  else none
def forcedW : Option (Int × Int) → Value
  | some (v, x) => .tuple #[.int .i64 v, .int .i64 x, .bool true]
  | none => .tuple #[.int .i64 0, .int .i64 0, .bool false]
theorem box3 {w : World} {b : Nat} {x y z : Value} {t : TypeId} {fr : Nat × Nat} (h : w.heap[b]? = some (.cells #[x, y, z] t fr)) : w.cell? ⟨b, 0, none⟩ = some x ∧ w.cell? ⟨b, 1, none⟩ = some y ∧ w.cell? ⟨b, 2, none⟩ = some z := by
  simp [World.cell?, h]
theorem box2 {w : World} {b : Nat} {x y : Value} {t : TypeId} {fr : Nat × Nat} (h : w.heap[b]? = some (.cells #[x, y] t fr)) : w.cell? ⟨b, 0, none⟩ = some x ∧ w.cell? ⟨b, 1, none⟩ = some y := by
  simp [World.cell?, h]
theorem box1 {w : World} {b : Nat} {x : Value} {t : TypeId} {fr : Nat × Nat} (h : w.heap[b]? = some (.cells #[x] t fr)) : w.cell? ⟨b, 0, none⟩ = some x := by
  simp [World.cell?, h]
theorem mem_kept {p : Int → Bool} {xs : List Int} {v : Int} (h : v ∈ kept p xs) : v ∈ xs ∧ p v = false := by
  simpa [kept] using h

abbrev ruleW (r : Rule) (A1 A2 : Option Addr) (c1 c2 : Nat) : Value := .agg #[.int .i64 r.f0, .slice A1 r.f1.length c1, .slice A2 r.f2.length c2]
abbrev ruleB (r : Rule) (A1 A2 : Option Addr) (c1 c2 : Nat) : Obj := .cells #[.int .i64 r.f0, .slice A1 r.f1.length c1, .slice A2 r.f2.length c2] 71
abbrev fps (b4 b g4 : Nat) (c' : Nat) (v : Int) (A : Option Addr) (n c : Nat) (r : Rule) (A1 A2 : Option Addr) (c1 c2 : Nat) (vs : List Int) (R : List HP) : List HP :=
  Blk b4 (.cells #[.int .i64 1, .int .i64 (-1)] 2) :: RwI (.slice (some ⟨g4, 0, none⟩) 1 c') [v] :: Blk (b + 1) (.cells #[.slice A n c] 24) :: Blk b (ruleB r A1 A2 c1 c2) :: RwI (.slice A n c) vs :: R
theorem forced1_app {w0 w : World} {ps : List HP} {A : Option Addr} {n c b : Nat} {vs : List Int} (i j : Nat) (S : Sat w0 ps w) (hp : ps[i]? = some (RwI (.slice A n c) vs)) {t : TypeId}
    (hq : ps[j]? = some (Blk b (.cells #[.slice A n c] t))) (v : Int) (h0 : 0 ≤ v) (h1 : v < n) :
    Calls Try.prog 180 (#[.int .i64 v] ++ #[.pointer (some ⟨b, 0, none⟩)]) w fun e w' => e = .returned (.bool (rd vs v != 0)) ∧ w = w' := by
  have h := forced1_calls i j S hp hq v h0 h1
  exact h
set_option maxRecDepth 100000 in
set_option maxHeartbeats 4000000 in
theorem forced_calls {w0 w : World} {R : List HP} {A : Option Addr} {n c : Nat} {vs : List Int} {r : Rule} (A1 A2 : Option Addr) (c1 c2 : Nat)
    (S : Sat w0 (RwI (.slice A n c) vs :: R) w) (hrd : RuleReads w0 R r A1 A2) (hok : OkRule r n) (hv : Vals n vs) :
    Calls Try.prog 176 #[ruleW r A1 A2 c1 c2, .slice A n c] w fun e w' => e = .returned (forcedW (forcedR r vs)) ∧ Sat w0 (RwI (.slice A n c) vs :: R) w' := by
  have S1 := (S.alloc (ruleB r A1 A2 c1 c2)).alloc (.cells #[.slice A n c] 24)
  simp only [World.size_alloc] at S1
  have HRD := Aside0.mk hrd
  have hrd1 := hrd _ S1.tail.tail.tail
  have hC := (S1.readsAt 2 rfl).2.2
  rw [hv.len] at hC
  have HCALL := Aside0.mk (holdsRule_calls A1 A2 A c1 c2 c hok hv hrd1.1 hrd1.2 hC)
  have HS1 := Aside0.mk S1
  have HOK := Aside0.mk hok
  have HV := Aside0.mk hv
  clear S1 hC hrd1 hrd hv hok S
  by_cases h0 : holdsRule r vs = 0
  · have hne : ((holdsRule r vs) != 0) = false := by simp [h0]
    have HF : Aside0 (forcedR r vs = match kept (fun v => rd vs v != 0) r.f1 with
      | [v] => if holdsRule r (vs.set v.toNat (-1)) < 0 then some (v, 1) else if holdsRule r (vs.set v.toNat 1) < 0 then some (v, -1) else none
      | _ => none) := ⟨by rw [forcedR, if_pos h0]⟩
    have HMEM := Aside0.mk (fun v (h : v ∈ kept (fun v => rd vs v != 0) r.f1) => (mem_kept h).1)
    obtain ⟨ks, hks⟩ : ∃ ks, ks = kept (fun v => rd vs v != 0) r.f1 := ⟨_, rfl⟩
    rw [← hks] at HF HMEM
    have HKS := Aside0.mk hks
    clear hks
    generalize holdsRule r vs = z at *
    clear h0
    by_cases hl : ks.length = 1
    · obtain ⟨v, rfl⟩ : ∃ v, ks = [v] := by
        match ks, hl with
        | [v], _ => exact ⟨v, rfl⟩
      clear hl
      have HFV : Aside0 (forcedR r vs = if holdsRule r (vs.set v.toNat (-1)) < 0 then some (v, 1) else if holdsRule r (vs.set v.toNat 1) < 0 then some (v, -1) else none) := HF
      have hvi := HOK.out.idx v (HMEM.out v (by simp))
      obtain ⟨hva, hvb⟩ := hvi
      clear HF HMEM
      go_enter Try.func176, Try.ntmps176
      go_wp2_with (first
        | ((with_reducible refine gate_dst (N := 12) rfl ?_); refine goesF (f := 66) (args := #[.agg #[.int .i64 r.f0, .slice A1 r.f1.length c1, .slice A2 r.f2.length c2], .slice A n c]) rfl rfl rfl (by (try simp only [List.map_toArray, List.map_cons, List.map_nil]); rfl) (Enter.mk Try.func66 (by kernel_rfl) rfl) ?_; refine (HCALL.out).mono ?_; rintro e e1 ⟨rfl, hb⟩; refine ⟨_, rfl, ?_⟩; have HS2 := Aside0.mk (HS1.out.below hb); clear hb; obtain ⟨hb0, hb1, hb2⟩ := box3 (HS2.out.blk 1 rfl))
        | ((with_reducible refine gate_dst (N := 16) rfl ?_); refine goesF (f := 120) (args := #[.slice A1 r.f1.length c1]) rfl rfl rfl (by (try simp only [List.map_toArray, List.map_cons, List.map_nil]); rfl) (Enter.mk Try.func120 (by kernel_rfl) rfl) ?_; refine (clone_calls HS2.out A1 c1 r.f1 (HRD.out _ HS2.out.tail.tail.tail).1 (by have := HOK.out.len1; have := HOK.out.kind.2; omega)).mono ?_; rintro e e1 ⟨v1, rfl, S3⟩; refine ⟨_, rfl, ?_⟩; obtain ⟨A', c', rfl, hle', hC'⟩ := S3.reads 0 rfl; have HS3 := Aside0.mk S3; clear S3 hle' hC')
        | ((with_reducible refine gate_dst (N := 18) rfl ?_); refine goesF (f := 179) (args := #[.slice A' r.f1.length c', .func (.func 180) #[] #[.pointer (some ⟨w.heap.size + 1, 0, none⟩)]]) rfl rfl rfl (by (try simp only [List.map_toArray, List.map_cons, List.map_nil]); rfl) (Enter.mk Try.func179 (by kernel_rfl) rfl) ?_; refine (deleteFunc_calls HS3.out 180 _ (fun v => rd vs v != 0) (Enter.mk Try.func180 (by kernel_rfl) rfl) (fun x ys w' hx S' => forced1_app (A := A) (n := n) (c := c) (vs := vs) (b := w.heap.size + 1) (t := 24) 3 1 S' rfl rfl x (HOK.out.idx x hx).1 (HOK.out.idx x hx).2)).mono ?_; rintro e e1 ⟨v2, rfl, S4⟩; refine ⟨_, rfl, ?_⟩; rw [← HKS.out] at S4; obtain ⟨A'', c'', rfl, hle', hC'⟩ := S4.reads 0 rfl; have HS4 := Aside0.mk S4; clear S4 hle' hC' hb0 hb1 hb2))
      obtain ⟨g4, hg4, _⟩ := HS4.out.intAt 0 rfl 0 (by omega) (by simp)
      cases hg4
      have HS5 := Aside0.mk (HS4.out.alloc (.cells #[.int .i64 1, .int .i64 (-1)] 2))
      generalize e1.heap.size = b4 at *
      go_loopw [4, 5, 6, 9, 24] (fun _ _ _ _ v24 wr => ∃ k : Nat, k ≤ 2 ∧ v24 = .int .i64 k ∧ Aside0 ((1 ≤ k → ¬ holdsRule r (vs.set v.toNat (-1)) < 0) ∧ (2 ≤ k → ¬ holdsRule r (vs.set v.toNat 1) < 0)) ∧
        Aside0 (Sat w0 (fps b4 w.heap.size g4 c'' v A n c r A1 A2 c1 c2 vs R) wr)) (fun _ _ _ _ v24 _ => 2 - (intOf v24).toNat)
      case atStart => exact ⟨0, by omega, rfl, ⟨fun h => by omega, fun h => by omega⟩, HS5⟩
      case round =>
        clear HS5 HS4
        obtain ⟨k, hk, rfl, HNO, HS5⟩ := hrel
        by_cases hlt : k < 2
        · rcases (show k = 0 ∨ k = 1 by omega) with rfl | rfl
          · obtain ⟨hq0, hq1⟩ := box2 (HS5.out.blk 0 rfl)
            obtain ⟨hb0, hb1, hb2⟩ := box3 (HS5.out.blk 3 rfl)
            have hb3 := box1 (HS5.out.blk 2 rfl)
            obtain ⟨g5, hg5, hv5, _, _⟩ := HS5.out.intAt 1 rfl 0 (by omega) (by simp)
            cases hg5
            rw [show rd [v] 0 = v from rfl] at hv5
            simp only [Int.toNat_zero] at hv5
            have HWC := Aside0.mk (with_calls A1 A2 c1 c2 v (-1) (HS5.out.drew.front 4 rfl) ((((HRD.out.cons _).cons _).cons _).cons _) HOK.out HV.out ⟨hva, hvb⟩ (by simp [unit3]))
            by_cases hh : holdsRule r (vs.set v.toNat (-1)) < 0
            · have hd : decide (holdsRule r (vs.set v.toNat (-1)) < 0) = true := decide_eq_true hh
              have HH := Aside0.mk hh
              have HFW : Aside0 (forcedR r vs = some (v, 1)) := ⟨by rw [HFV.out, if_pos hh]⟩
              clear hh HFV HNO
              generalize holdsRule r (vs.set v.toNat (-1)) = z1 at *
              go_wp2
              go_still_tail 7, (by kernel_rfl)
              change wpList _ _ _ _ _ wr.drew
              go_wp2_with (((with_reducible refine gate_dst (N := 35) rfl ?_); refine goesF (f := 154) (args := #[ruleW r A1 A2 c1 c2, .slice A n c, .int .i64 v, .int .i64 (-1)]) rfl rfl rfl (by (try simp only [List.map_toArray, List.map_cons, List.map_nil]); rfl) (Enter.mk Try.func154 (by kernel_rfl) rfl) ?_; refine (HWC.out).mono ?_; rintro e e1 ⟨rfl, S6⟩; refine ⟨_, rfl, ?_⟩; have HS6 : Aside0 (Sat w0 (fps b4 w.heap.size g4 c'' v A n c r A1 A2 c1 c2 vs R) e1) := ⟨S6.back 4 (by simp)⟩; clear S6; obtain ⟨g5, hg5, hv5, _, _⟩ := HS6.out.intAt 1 rfl 0 (by omega) (by simp); cases hg5; rw [show rd [v] 0 = v from rfl] at hv5; simp only [Int.toNat_zero] at hv5))
              go_ret3
              exact ⟨by rw [HFW.out]; rfl, HS6.out.tail.tail.tail.tail⟩
            · have hd : decide (holdsRule r (vs.set v.toNat (-1)) < 0) = false := decide_eq_false hh
              have HH := Aside0.mk hh
              clear hh
              obtain ⟨z1, hz1⟩ : ∃ z1, z1 = holdsRule r (vs.set v.toNat (-1)) := ⟨_, rfl⟩
              rw [← hz1] at hd HWC
              clear hz1
              go_wp2
              go_still_tail 7, (by kernel_rfl)
              change wpList _ _ _ _ _ wr.drew
              go_wp2_with (((with_reducible refine gate_dst (N := 35) rfl ?_); refine goesF (f := 154) (args := #[ruleW r A1 A2 c1 c2, .slice A n c, .int .i64 v, .int .i64 (-1)]) rfl rfl rfl (by (try simp only [List.map_toArray, List.map_cons, List.map_nil]); rfl) (Enter.mk Try.func154 (by kernel_rfl) rfl) ?_; refine (HWC.out).mono ?_; rintro e e1 ⟨rfl, S6⟩; refine ⟨_, rfl, ?_⟩; have HS6 : Aside0 (Sat w0 (fps b4 w.heap.size g4 c'' v A n c r A1 A2 c1 c2 vs R) e1) := ⟨S6.back 4 (by simp)⟩; clear S6))
              exact ⟨⟨1, by omega, by go_num, ⟨fun _ => by have := HH.out; omega, fun _ => by omega⟩, HS6⟩, by simp [intOf]⟩
          · obtain ⟨hq0, hq1⟩ := box2 (HS5.out.blk 0 rfl)
            obtain ⟨hb0, hb1, hb2⟩ := box3 (HS5.out.blk 3 rfl)
            have hb3 := box1 (HS5.out.blk 2 rfl)
            obtain ⟨g5, hg5, hv5, _, _⟩ := HS5.out.intAt 1 rfl 0 (by omega) (by simp)
            cases hg5
            rw [show rd [v] 0 = v from rfl] at hv5
            simp only [Int.toNat_zero] at hv5
            have HWC := Aside0.mk (with_calls A1 A2 c1 c2 v (1) (HS5.out.drew.front 4 rfl) ((((HRD.out.cons _).cons _).cons _).cons _) HOK.out HV.out ⟨hva, hvb⟩ (by simp [unit3]))
            by_cases hh : holdsRule r (vs.set v.toNat (1)) < 0
            · have hd : decide (holdsRule r (vs.set v.toNat (1)) < 0) = true := decide_eq_true hh
              have HH := Aside0.mk hh
              have HFW : Aside0 (forcedR r vs = some (v, -1)) := ⟨by rw [HFV.out, if_neg (HNO.out.1 (by omega)), if_pos hh]⟩
              clear hh HFV HNO
              generalize holdsRule r (vs.set v.toNat (1)) = z1 at *
              go_wp2
              go_still_tail 7, (by kernel_rfl)
              change wpList _ _ _ _ _ wr.drew
              go_wp2_with (((with_reducible refine gate_dst (N := 35) rfl ?_); refine goesF (f := 154) (args := #[ruleW r A1 A2 c1 c2, .slice A n c, .int .i64 v, .int .i64 (1)]) rfl rfl rfl (by (try simp only [List.map_toArray, List.map_cons, List.map_nil]); rfl) (Enter.mk Try.func154 (by kernel_rfl) rfl) ?_; refine (HWC.out).mono ?_; rintro e e1 ⟨rfl, S6⟩; refine ⟨_, rfl, ?_⟩; have HS6 : Aside0 (Sat w0 (fps b4 w.heap.size g4 c'' v A n c r A1 A2 c1 c2 vs R) e1) := ⟨S6.back 4 (by simp)⟩; clear S6; obtain ⟨g5, hg5, hv5, _, _⟩ := HS6.out.intAt 1 rfl 0 (by omega) (by simp); cases hg5; rw [show rd [v] 0 = v from rfl] at hv5; simp only [Int.toNat_zero] at hv5))
              go_ret3
              exact ⟨by rw [HFW.out]; rfl, HS6.out.tail.tail.tail.tail⟩
            · have hd : decide (holdsRule r (vs.set v.toNat (1)) < 0) = false := decide_eq_false hh
              have HH := Aside0.mk hh
              clear hh
              obtain ⟨z1, hz1⟩ : ∃ z1, z1 = holdsRule r (vs.set v.toNat (1)) := ⟨_, rfl⟩
              rw [← hz1] at hd HWC
              clear hz1
              go_wp2
              go_still_tail 7, (by kernel_rfl)
              change wpList _ _ _ _ _ wr.drew
              go_wp2_with (((with_reducible refine gate_dst (N := 35) rfl ?_); refine goesF (f := 154) (args := #[ruleW r A1 A2 c1 c2, .slice A n c, .int .i64 v, .int .i64 (1)]) rfl rfl rfl (by (try simp only [List.map_toArray, List.map_cons, List.map_nil]); rfl) (Enter.mk Try.func154 (by kernel_rfl) rfl) ?_; refine (HWC.out).mono ?_; rintro e e1 ⟨rfl, S6⟩; refine ⟨_, rfl, ?_⟩; have HS6 : Aside0 (Sat w0 (fps b4 w.heap.size g4 c'' v A n c r A1 A2 c1 c2 vs R) e1) := ⟨S6.back 4 (by simp)⟩; clear S6))
              exact ⟨⟨2, by omega, by go_num, ⟨fun _ => by have := HNO.out.1 (by omega); omega, fun _ => by have := HH.out; omega⟩, HS6⟩, by simp [intOf]⟩
        · obtain rfl : k = 2 := by omega
          have HFW : Aside0 (forcedR r vs = none) := ⟨by rw [HFV.out, if_neg (HNO.out.1 (by omega)), if_neg (HNO.out.2 (by omega))]⟩
          go_wp2
          go_ret3
          exact ⟨by rw [HFW.out]; rfl, HS5.out.tail.tail.tail.tail⟩
    · have HFW : Aside0 (forcedR r vs = none) := ⟨by
        rw [HF.out]
        match ks, hl with
        | [], _ => rfl
        | [v], h => exact absurd rfl h
        | _ :: _ :: _, _ => rfl⟩
      have hl2 : ((ks.length : Int) != 1) = true := by
        have : (ks.length : Int) ≠ 1 := by omega
        simpa using this
      clear hl HF
      go_enter Try.func176, Try.ntmps176
      go_wp2_with (first
        | ((with_reducible refine gate_dst (N := 12) rfl ?_); refine goesF (f := 66) (args := #[.agg #[.int .i64 r.f0, .slice A1 r.f1.length c1, .slice A2 r.f2.length c2], .slice A n c]) rfl rfl rfl (by (try simp only [List.map_toArray, List.map_cons, List.map_nil]); rfl) (Enter.mk Try.func66 (by kernel_rfl) rfl) ?_; refine (HCALL.out).mono ?_; rintro e e1 ⟨rfl, hb⟩; refine ⟨_, rfl, ?_⟩; have HS2 := Aside0.mk (HS1.out.below hb); clear hb; obtain ⟨hb0, hb1, hb2⟩ := box3 (HS2.out.blk 1 rfl))
        | ((with_reducible refine gate_dst (N := 16) rfl ?_); refine goesF (f := 120) (args := #[.slice A1 r.f1.length c1]) rfl rfl rfl (by (try simp only [List.map_toArray, List.map_cons, List.map_nil]); rfl) (Enter.mk Try.func120 (by kernel_rfl) rfl) ?_; refine (clone_calls HS2.out A1 c1 r.f1 (HRD.out _ HS2.out.tail.tail.tail).1 (by have := HOK.out.len1; have := HOK.out.kind.2; omega)).mono ?_; rintro e e1 ⟨v1, rfl, S3⟩; refine ⟨_, rfl, ?_⟩; obtain ⟨A', c', rfl, hle', hC'⟩ := S3.reads 0 rfl; have HS3 := Aside0.mk S3; clear S3 hle' hC')
        | ((with_reducible refine gate_dst (N := 18) rfl ?_); refine goesF (f := 179) (args := #[.slice A' r.f1.length c', .func (.func 180) #[] #[.pointer (some ⟨w.heap.size + 1, 0, none⟩)]]) rfl rfl rfl (by (try simp only [List.map_toArray, List.map_cons, List.map_nil]); rfl) (Enter.mk Try.func179 (by kernel_rfl) rfl) ?_; refine (deleteFunc_calls HS3.out 180 _ (fun v => rd vs v != 0) (Enter.mk Try.func180 (by kernel_rfl) rfl) (fun x ys w' hx S' => forced1_app (A := A) (n := n) (c := c) (vs := vs) (b := w.heap.size + 1) (t := 24) 3 1 S' rfl rfl x (HOK.out.idx x hx).1 (HOK.out.idx x hx).2)).mono ?_; rintro e e1 ⟨v2, rfl, S4⟩; refine ⟨_, rfl, ?_⟩; rw [← HKS.out] at S4; obtain ⟨A'', c'', rfl, hle', hC'⟩ := S4.reads 0 rfl; have HS4 := Aside0.mk S4; clear S4 hle' hC' hb0 hb1 hb2))
      go_ret3
      exact ⟨by rw [HFW.out]; rfl, HS4.out.tail.tail.tail⟩
  · have HF : Aside0 (forcedR r vs = none) := ⟨by simp [forcedR, h0]⟩
    have hne : ((holdsRule r vs) != 0) = true := by simpa using h0
    generalize holdsRule r vs = z at *
    clear h0
    go_enter Try.func176, Try.ntmps176
    go_wp2_with (((with_reducible refine gate_dst (N := 12) rfl ?_); refine goesF (f := 66) (args := #[.agg #[.int .i64 r.f0, .slice A1 r.f1.length c1, .slice A2 r.f2.length c2], .slice A n c]) rfl rfl rfl (by (try simp only [List.map_toArray, List.map_cons, List.map_nil]); rfl) (Enter.mk Try.func66 (by kernel_rfl) rfl) ?_; refine (HCALL.out).mono ?_; rintro e e1 ⟨rfl, hb⟩; refine ⟨_, rfl, ?_⟩; have HS2 := Aside0.mk (HS1.out.below hb); clear hb))
    go_ret3
    exact ⟨by rw [HF.out]; rfl, HS2.out.tail.tail⟩
end Go.Proofs.Ytmgmilnoeghgfaa

set_option linter.unusedVariables false
set_option linter.unusedSimpArgs false
namespace Go.Proofs.Ytmgmilnoeghgfaa
open Go.RowKit Go.Proofs.YtmgmilnoeghgfaaW.PrintWords Go.Proofs.YtmgmilnoeghgfaaW.PrintLast Go.Proofs.YtmgmilnoeghgfaaW.PrintMore Go.Proofs.Ytmgmilnoeghgfaa.PFnExactSolveRules

def forcedOf (r : Rule) (vs : List Int) : List Int → Option (Int × Int)
  | [v] => if holdsRule r (vs.set v.toNat (-1)) < 0 then some (v, 1) else if holdsRule r (vs.set v.toNat 1) < 0 then some (v, -1) else none
  | _ => none
theorem forcedR_of {r : Rule} {vs : List Int} (h0 : holdsRule r vs = 0) : forcedR r vs = forcedOf r vs (kept (fun v => rd vs v != 0) r.f1) := by
  rw [forcedR, if_pos h0]
  rcases kept (fun v => rd vs v != 0) r.f1 with _ | ⟨v, _ | ⟨u, l⟩⟩ <;> rfl
theorem forcedOf_two (r : Rule) (vs : List Int) (a b : Int) (l : List Int) : forcedOf r vs (a :: b :: l) = none := rfl
/-- A rule lies at an address of the frame. -/
def RuleAt (w0 : World) (R : List HP) (r : Rule) (a0 : Addr) : Prop :=
  ∀ w, Sat w0 R w → ∃ A1 c1 A2 c2, w.cell? a0 = some (.int .i64 r.f0) ∧ w.cell? ⟨a0.block, a0.off + 1, none⟩ = some (.slice A1 r.f1.length c1) ∧ w.cell? ⟨a0.block, a0.off + 2, none⟩ = some (.slice A2 r.f2.length c2) ∧
    (Kd.int .i64).C w A1 r.f1.length r.f1 ∧ (Kd.int .i64).C w A2 r.f2.length r.f2
theorem RuleAt.cons {w0 : World} {R : List HP} {r : Rule} {a0 : Addr} (h : RuleAt w0 R r a0) (p : HP) : RuleAt w0 (p :: R) r a0 := fun w S => h w S.tail
theorem l15HoldsRule_calls {w0 w : World} {R ps : List HP} {r : Rule} {n : Nat} (a0 : Addr) (A3 : Option Addr) (c3 : Nat) {vs : List Int} (hok : OkRule r n) (hv : Vals n vs)
    (hr : RuleAt w0 R r a0) (S : Sat w0 R w) (h3 : (Kd.int .i64).C w A3 n vs) :
    Calls Try.prog 61 #[.pointer (some a0), .slice A3 n c3] w fun e w' => e = .returned (.int .i64 (holdsRule r vs)) ∧ Drawn0 w w' := by
  obtain rfl := hv.len
  obtain ⟨A1, c1, A2, c2, hk, h1, h2, g1, g2⟩ := hr w S
  exact l15Holds_calls A1 A2 A3 r.f0 r.f1 r.f2 vs c1 c2 c3 a0 w hk h1 g1 h2 g2 h3 (hok.good hv)
def forcedS : Option (Int × Int) → Value
  | some (v, x) => .tuple #[.int .i64 v, .int .i64 x]
  | none => .tuple #[.int .i64 (-1), .int .i64 0]
theorem prod_ne {ts : List Int} (h : ∀ t ∈ ts, t = 1 ∨ t = -1) : prod ts = 1 ∨ prod ts = -1 := by
  have key : ∀ (l : List Int) (a : Int), (a = 1 ∨ a = -1) → (∀ t ∈ l, t = 1 ∨ t = -1) → l.foldl (· * ·) a = 1 ∨ l.foldl (· * ·) a = -1 := by
    intro l
    induction l with
    | nil => intro a ha _; exact ha
    | cons t l ih =>
      intro a ha hl
      refine ih (a * t) ?_ (fun u hu => hl u (by simp [hu]))
      rcases ha with rfl | rfl <;> rcases hl t (by simp) with rfl | rfl <;> simp
  exact key ts 1 (.inl rfl) h
theorem holdsR_zero {kind : Int} {ts : List Int} (h3 : ∀ t ∈ ts, unit3 t) (h : holdsR kind ts = 0) : (0 : Int) ∈ ts := by
  by_cases h0 : (0 : Int) ∈ ts
  · exact h0
  · have hc : cnt 0 ts = 0 := by
      unfold cnt
      rw [List.countP_eq_zero]
      intro a ha
      have : a ≠ 0 := fun e => h0 (e ▸ ha)
      simpa using this
    have hp := prod_ne (ts := ts) (fun t ht => by
      rcases h3 t ht with e | e | e
      · exact .inr e
      · exact absurd (e ▸ ht) h0
      · exact .inl e)
    simp only [holdsR, hc, if_true] at h
    split at h
    · split at h <;> simp at h
    · split at h
      · split at h <;> simp at h
      · omega
theorem open_some {r : Rule} {n : Nat} {vs : List Int} (hok : OkRule r n) (hv : Vals n vs) (h : holdsRule r vs = 0) : kept (fun v => rd vs v != 0) r.f1 ≠ [] := by
  have h0 := holdsR_zero (terms_unit (hok.good hv)) h
  obtain ⟨k, hk, he⟩ := List.getElem_of_mem h0
  have hk1 : k < r.f1.length := by simp [terms] at hk; omega
  have hk2 : k < r.f2.length := by simp [terms] at hk; omega
  have hz : rd vs r.f1[k] = 0 := by
    simp [terms, term] at he
    rcases Int.mul_eq_zero.1 he with he | he
    · exact he
    · have := hok.sgn r.f2[k] (List.getElem_mem hk2)
      omega
  intro hn
  have : r.f1[k] ∈ kept (fun v => rd vs v != 0) r.f1 := by
    unfold kept
    rw [List.mem_filter]
    exact ⟨List.getElem_mem hk1, by simp [hz]⟩
  rw [hn] at this
  simp at this
theorem kept_prefix (p : Int → Bool) (xs : List Int) (k : Nat) : ∃ l, kept p xs = kept p (xs.take k) ++ l := by
  refine ⟨kept p (xs.drop k), ?_⟩
  unfold kept
  rw [← List.filter_append, List.take_append_drop]
/-- The open variable so far. -/
def openAt (p : Int → Bool) (xs : List Int) (k : Nat) (o : Int) : Prop := (o = -1 ∧ kept p (xs.take k) = []) ∨ (0 ≤ o ∧ kept p (xs.take k) = [o])

set_option maxRecDepth 100000 in
set_option maxHeartbeats 4000000 in
theorem l15Forced_calls {w0 w : World} {R : List HP} {A : Option Addr} {n c : Nat} {vs : List Int} {r : Rule} (a0 : Addr)
    (S : Sat w0 (RwI (.slice A n c) vs :: R) w) (hrd : RuleAt w0 R r a0) (hok : OkRule r n) (hv : Vals n vs) :
    Calls Try.prog 152 #[.pointer (some a0), .slice A n c] w fun e w' => e = .returned (forcedS (forcedR r vs)) ∧ Sat w0 (RwI (.slice A n c) vs :: R) w' := by
  have hC := (S.readsAt 0 rfl).2.2
  rw [hv.len] at hC
  have HCALL := Aside0.mk (l15HoldsRule_calls (ps := []) a0 A c hok hv hrd S.tail hC)
  have hmn := Kd.C_max hC
  have HS1 := Aside0.mk S
  have HRD := Aside0.mk hrd
  have HOK := Aside0.mk hok
  have HV := Aside0.mk hv
  clear hC hrd S
  by_cases h0 : holdsRule r vs = 0
  · have hne : ((holdsRule r vs) != 0) = false := by simp [h0]
    have HF := Aside0.mk (forcedR_of h0)
    have HOS := Aside0.mk (open_some hok hv h0)
    have hsm : r.f1.length ≤ 4 := by have := hok.len1; have := hok.kind.2; omega
    clear hok hv
    generalize holdsRule r vs = z at *
    clear h0
    go_enter Try.func152, Try.ntmps152
    go_wp2_with (((with_reducible refine gate_dst (N := 12) rfl ?_); refine goesF (f := 61) (args := #[.pointer (some a0), .slice A n c]) rfl rfl rfl (by (try simp only [List.map_toArray, List.map_cons, List.map_nil]); rfl) (Enter.mk Try.func61 (by kernel_rfl) rfl) ?_; refine (HCALL.out).mono ?_; rintro e e1 ⟨rfl, hb⟩; refine ⟨_, rfl, ?_⟩; have HS2 := Aside0.mk (HS1.out.drawn hb); clear hb HS1 HCALL))
    go_loopw [6, 7] (fun v6 v7 wr => ∃ (k : Nat) (o : Int), k ≤ r.f1.length ∧ v7 = .int .i64 k ∧ v6 = .int .i64 o ∧ -1 ≤ o ∧ Aside0 (openAt (fun v => rd vs v != 0) r.f1 k o) ∧ Aside0 (Sat w0 (RwI (.slice A n c) vs :: R) wr)) (fun _ v7 _ => r.f1.length - (intOf v7).toNat)
    case atStart => exact ⟨0, -1, by omega, rfl, rfl, by omega, ⟨.inl ⟨rfl, rfl⟩⟩, HS2⟩
    case round =>
      clear HS2
      obtain ⟨k, o, hk, rfl, rfl, ho, HO, HS2⟩ := hrel
      obtain ⟨A1, c1, A2, c2, hk0, hk1, hk2, hg1, hg2⟩ := HRD.out _ HS2.out.tail
      have HG := Aside0.mk hg1
      clear hg1 hg2
      by_cases hlt : k < r.f1.length
      · obtain ⟨ad1, e1, hx1⟩ := Kd.at_int HG.out (k : Int) (by omega) (by omega)
        cases e1
        simp only [Int.toNat_natCast] at hx1
        have hvi := HOK.out.idx (rd r.f1 k) (by rw [rd_at r.f1 k hlt]; exact List.getElem_mem hlt)
        obtain ⟨g, hA, hx2, _, _⟩ := HS2.out.intAt 0 rfl (rd r.f1 k) hvi.1 (by have := HV.out.len; omega)
        subst hA
        obtain ⟨hva, hvb⟩ := hvi
        have HKS := Aside0.mk (kept_snoc (fun v => rd vs v != 0) r.f1 k hlt)
        have HRA := Aside0.mk (rd_at r.f1 k hlt)
        obtain ⟨u, hu⟩ : ∃ u, u = rd r.f1 k := ⟨_, rfl⟩
        rw [← hu] at hx1 hx2 hva hvb HRA
        rw [← HRA.out] at HKS
        clear hu
        cases hz : (rd vs u != 0)
        · by_cases hop : 0 ≤ o
          · have hd : decide (0 ≤ o) = true := decide_eq_true hop
            have HFN : Aside0 (forcedR r vs = none) := ⟨by
              rw [HF.out]
              have h1 : kept (fun v => rd vs v != 0) (r.f1.take k) = [o] := by
                rcases HO.out with h | h
                · omega
                · exact h.2
              obtain ⟨l, hl⟩ := kept_prefix (fun v => rd vs v != 0) r.f1 (k + 1)
              rw [hl, HKS.out, h1, hz]
              simp [forcedOf_two]⟩
            clear hop
            go_wp2
            go_ret2
            exact ⟨by rw [HFN.out]; rfl, HS2.out⟩
          · have hd : decide (0 ≤ o) = false := decide_eq_false hop
            have HO2 : Aside0 (openAt (fun v => rd vs v != 0) r.f1 (k + 1) u) := ⟨.inr ⟨hva, by
              have h1 : kept (fun v => rd vs v != 0) (r.f1.take k) = [] := by
                rcases HO.out with h | h
                · exact h.2
                · omega
              rw [HKS.out, h1, hz]
              simp⟩⟩
            clear hop
            go_wp2
            exact ⟨⟨k + 1, u, by omega, by go_num, rfl, by omega, HO2, HS2⟩, by simp [intOf]; omega⟩
        · have HO2 : Aside0 (openAt (fun v => rd vs v != 0) r.f1 (k + 1) o) := ⟨by
            rcases HO.out with h | h
            · exact .inl ⟨h.1, by rw [HKS.out, hz, h.2]; rfl⟩
            · exact .inr ⟨h.1, by rw [HKS.out, hz, h.2]; rfl⟩⟩
          go_wp2
          exact ⟨⟨k + 1, o, by omega, by go_num, rfl, by omega, HO2, HS2⟩, by simp [intOf]; omega⟩
      · obtain rfl : k = r.f1.length := by omega
        have hO := HO.out
        unfold openAt at hO
        rw [List.take_length] at hO
        obtain ⟨ho0, hks⟩ : 0 ≤ o ∧ kept (fun v => rd vs v != 0) r.f1 = [o] := by
          rcases hO with h | h
          · exact absurd h.2 HOS.out
          · exact h
        have HFV : Aside0 (forcedR r vs = if holdsRule r (vs.set o.toNat (-1)) < 0 then some (o, 1) else if holdsRule r (vs.set o.toNat 1) < 0 then some (o, -1) else none) := ⟨by rw [HF.out, hks]; rfl⟩
        have hmem := mem_kept (p := fun v => rd vs v != 0) (xs := r.f1) (v := o) (by rw [hks]; simp)
        have hon : o < n := (HOK.out.idx o hmem.1).2
        have HZ : Aside0 (rd vs o = 0) := ⟨by simpa using hmem.2⟩
        clear hO hks hmem HO HOS HF
        go_wp2
        go_loopw [8, 9] (fun v8 _ wr => ∃ k : Nat, k ≤ 2 ∧ v8 = .int .i64 (2 * (k : Int) - 1) ∧ Aside0 ((1 ≤ k → ¬ holdsRule r (vs.set o.toNat (-1)) < 0) ∧ (2 ≤ k → ¬ holdsRule r (vs.set o.toNat 1) < 0)) ∧
          Aside0 (Sat w0 (RwI (.slice A n c) vs :: R) wr)) (fun v8 _ _ => (3 - intOf v8).toNat)
        case atStart => exact ⟨0, by omega, rfl, ⟨fun h => by omega, fun h => by omega⟩, HS2⟩
        case round =>
        clear HS2 hk0 hk1 hk2 HG
        obtain ⟨k, hk, rfl, HNO, HS2⟩ := hrel
        by_cases hlt : k < 2
        · rcases (show k = 0 ∨ k = 1 by omega) with rfl | rfl
          · obtain ⟨g, hA, hx2, hf2, hl2⟩ := HS2.out.intAt 0 rfl o ho0 (by have := HV.out.len; omega)
            cases hA
            have S3 := HS2.out.store 0 rfl o.toNat (-1)
            have hC3 := (S3.readsAt 0 rfl).2.2
            rw [List.length_set, HV.out.len] at hC3
            have HCL := Aside0.mk (l15HoldsRule_calls (ps := []) a0 (some ⟨g, 0, none⟩) c HOK.out (HV.out.set o.toNat (x := -1) (by simp [unit3])) HRD.out S3.tail hC3)
            have HS3 := Aside0.mk S3
            clear S3 hC3
            by_cases hh : holdsRule r (vs.set o.toNat (-1)) < 0
            · have hd : decide (holdsRule r (vs.set o.toNat (-1)) < 0) = true := decide_eq_true hh
              have HFW : Aside0 (forcedR r vs = some (o, 1)) := ⟨by rw [HFV.out, if_pos hh]⟩
              clear hh HFV HNO
              generalize holdsRule r (vs.set o.toNat (-1)) = z1 at *
              go_wp2_with (((with_reducible refine gate_dst (N := 53) rfl ?_); refine goesF (f := 61) (args := #[.pointer (some a0), .slice (some ⟨g, 0, none⟩) n c]) rfl rfl rfl (by (try simp only [List.map_toArray, List.map_cons, List.map_nil]); rfl) (Enter.mk Try.func61 (by kernel_rfl) rfl) ?_; refine (HCL.out).mono ?_; rintro e e1 ⟨rfl, hb⟩; refine ⟨_, rfl, ?_⟩; have HS4 := Aside0.mk (HS3.out.drawn hb); clear hb; obtain ⟨g5, hg5, hx5, hf5, hl5⟩ := HS4.out.intAt 0 rfl o ho0 (by rw [List.length_set]; have := HV.out.len; omega); cases hg5))
              go_ret2
              have S5 := HS4.out.store 0 rfl o.toNat 0
              have hsb := set_back vs o (-1) ho0 (by have := HV.out.len; omega)
              rw [HZ.out] at hsb
              rw [hsb] at S5
              exact ⟨by rw [HFW.out]; rfl, S5⟩
            · have hd : decide (holdsRule r (vs.set o.toNat (-1)) < 0) = false := decide_eq_false hh
              have HH := Aside0.mk hh
              clear hh
              obtain ⟨z1, hz1⟩ : ∃ z1, z1 = holdsRule r (vs.set o.toNat (-1)) := ⟨_, rfl⟩
              rw [← hz1] at hd HCL
              clear hz1
              go_wp2_with (((with_reducible refine gate_dst (N := 53) rfl ?_); refine goesF (f := 61) (args := #[.pointer (some a0), .slice (some ⟨g, 0, none⟩) n c]) rfl rfl rfl (by (try simp only [List.map_toArray, List.map_cons, List.map_nil]); rfl) (Enter.mk Try.func61 (by kernel_rfl) rfl) ?_; refine (HCL.out).mono ?_; rintro e e1 ⟨rfl, hb⟩; refine ⟨_, rfl, ?_⟩; have HS4 := Aside0.mk (HS3.out.drawn hb); clear hb; obtain ⟨g5, hg5, hx5, hf5, hl5⟩ := HS4.out.intAt 0 rfl o ho0 (by rw [List.length_set]; have := HV.out.len; omega); cases hg5))
              have S5 := HS4.out.store 0 rfl o.toNat 0
              have hsb := set_back vs o (-1) ho0 (by have := HV.out.len; omega)
              rw [HZ.out] at hsb
              rw [hsb] at S5
              exact ⟨⟨1, by omega, by first | rfl | go_num, ⟨fun _ => by have := HH.out; omega, fun _ => by omega⟩, ⟨S5⟩⟩, by simp [intOf]⟩
          · obtain ⟨g, hA, hx2, hf2, hl2⟩ := HS2.out.intAt 0 rfl o ho0 (by have := HV.out.len; omega)
            cases hA
            have S3 := HS2.out.store 0 rfl o.toNat (1)
            have hC3 := (S3.readsAt 0 rfl).2.2
            rw [List.length_set, HV.out.len] at hC3
            have HCL := Aside0.mk (l15HoldsRule_calls (ps := []) a0 (some ⟨g, 0, none⟩) c HOK.out (HV.out.set o.toNat (x := 1) (by simp [unit3])) HRD.out S3.tail hC3)
            have HS3 := Aside0.mk S3
            clear S3 hC3
            by_cases hh : holdsRule r (vs.set o.toNat (1)) < 0
            · have hd : decide (holdsRule r (vs.set o.toNat (1)) < 0) = true := decide_eq_true hh
              have HFW : Aside0 (forcedR r vs = some (o, -1)) := ⟨by rw [HFV.out, if_neg (HNO.out.1 (by omega)), if_pos hh]⟩
              clear hh HFV HNO
              generalize holdsRule r (vs.set o.toNat (1)) = z1 at *
              go_wp2_with (((with_reducible refine gate_dst (N := 53) rfl ?_); refine goesF (f := 61) (args := #[.pointer (some a0), .slice (some ⟨g, 0, none⟩) n c]) rfl rfl rfl (by (try simp only [List.map_toArray, List.map_cons, List.map_nil]); rfl) (Enter.mk Try.func61 (by kernel_rfl) rfl) ?_; refine (HCL.out).mono ?_; rintro e e1 ⟨rfl, hb⟩; refine ⟨_, rfl, ?_⟩; have HS4 := Aside0.mk (HS3.out.drawn hb); clear hb; obtain ⟨g5, hg5, hx5, hf5, hl5⟩ := HS4.out.intAt 0 rfl o ho0 (by rw [List.length_set]; have := HV.out.len; omega); cases hg5))
              go_ret2
              have S5 := HS4.out.store 0 rfl o.toNat 0
              have hsb := set_back vs o (1) ho0 (by have := HV.out.len; omega)
              rw [HZ.out] at hsb
              rw [hsb] at S5
              exact ⟨by rw [HFW.out]; rfl, S5⟩
            · have hd : decide (holdsRule r (vs.set o.toNat (1)) < 0) = false := decide_eq_false hh
              have HH := Aside0.mk hh
              clear hh
              obtain ⟨z1, hz1⟩ : ∃ z1, z1 = holdsRule r (vs.set o.toNat (1)) := ⟨_, rfl⟩
              rw [← hz1] at hd HCL
              clear hz1
              go_wp2_with (((with_reducible refine gate_dst (N := 53) rfl ?_); refine goesF (f := 61) (args := #[.pointer (some a0), .slice (some ⟨g, 0, none⟩) n c]) rfl rfl rfl (by (try simp only [List.map_toArray, List.map_cons, List.map_nil]); rfl) (Enter.mk Try.func61 (by kernel_rfl) rfl) ?_; refine (HCL.out).mono ?_; rintro e e1 ⟨rfl, hb⟩; refine ⟨_, rfl, ?_⟩; have HS4 := Aside0.mk (HS3.out.drawn hb); clear hb; obtain ⟨g5, hg5, hx5, hf5, hl5⟩ := HS4.out.intAt 0 rfl o ho0 (by rw [List.length_set]; have := HV.out.len; omega); cases hg5))
              have S5 := HS4.out.store 0 rfl o.toNat 0
              have hsb := set_back vs o (1) ho0 (by have := HV.out.len; omega)
              rw [HZ.out] at hsb
              rw [hsb] at S5
              exact ⟨⟨2, by omega, by first | rfl | go_num, ⟨fun _ => by have := HNO.out.1 (by omega); omega, fun _ => by have := HH.out; omega⟩, ⟨S5⟩⟩, by simp [intOf]⟩
        · obtain rfl : k = 2 := by omega
          have HFW : Aside0 (forcedR r vs = none) := ⟨by rw [HFV.out, if_neg (HNO.out.1 (by omega)), if_neg (HNO.out.2 (by omega))]⟩
          go_wp2
          go_ret2
          exact ⟨by rw [HFW.out]; rfl, HS2.out⟩
  · have HF : Aside0 (forcedR r vs = none) := ⟨by simp [forcedR, h0]⟩
    have hne : ((holdsRule r vs) != 0) = true := by simpa using h0
    clear hok hv
    generalize holdsRule r vs = z at *
    clear h0
    go_enter Try.func152, Try.ntmps152
    go_wp2_with (((with_reducible refine gate_dst (N := 12) rfl ?_); refine goesF (f := 61) (args := #[.pointer (some a0), .slice A n c]) rfl rfl rfl (by (try simp only [List.map_toArray, List.map_cons, List.map_nil]); rfl) (Enter.mk Try.func61 (by kernel_rfl) rfl) ?_; refine (HCALL.out).mono ?_; rintro e e1 ⟨rfl, hb⟩; refine ⟨_, rfl, ?_⟩; have HS2 := Aside0.mk (HS1.out.drawn hb); clear hb))
    go_ret2
    exact ⟨by rw [HF.out]; rfl, HS2.out⟩
end Go.Proofs.Ytmgmilnoeghgfaa

set_option linter.unusedVariables false
set_option linter.unusedSimpArgs false
namespace Go.Proofs.Ytmgmilnoeghgfaa
open Go.RowKit Go.Proofs.YtmgmilnoeghgfaaW.PrintWords Go.Proofs.YtmgmilnoeghgfaaW.PrintLast Go.Proofs.YtmgmilnoeghgfaaW.PrintMore Go.Proofs.Ytmgmilnoeghgfaa.PFnExactSolveRules

/-! ### Drawing conclusions, without Go -/
abbrev Frc := Int × Int × Int
def passR : List Rule → Nat → List Int → Bool → List Frc → Option Nat × List Int × Bool × List Frc
  | [], _, vs, ch, st => (none, vs, ch, st)
  | r :: rs, i, vs, ch, st =>
    if holdsRule r vs < 0 then (some i, vs, ch, st)
    else match forcedR r vs with
      | none => passR rs (i + 1) vs ch st
      | some (v, x) => passR rs (i + 1) (vs.set v.toNat x) true (st ++ [(v, x, (i : Int))])
def propR (rules : List Rule) : Nat → List Int → List Frc → Int × List Int × List Frc
  | 0, vs, st => (-1, vs, st)
  | k + 1, vs, st => match passR rules 0 vs false st with
    | (some i, vs', _, st') => ((i : Int), vs', st')
    | (none, vs', false, st') => (-1, vs', st')
    | (none, vs', true, st') => propR rules k vs' st'
def zeros (vs : List Int) : Nat := vs.countP (· == 0)
theorem zeros_set {vs : List Int} {k : Nat} {x : Int} (hk : k < vs.length) (h0 : vs[k] = 0) (hx : x ≠ 0) : zeros (vs.set k x) + 1 = zeros vs := by
  unfold zeros
  rw [List.countP_set hk]
  have hp : 0 < vs.countP (· == 0) := List.countP_pos_iff.2 ⟨vs[k], List.getElem_mem hk, by simp [h0]⟩
  simp [h0, hx]
  omega
structure Forces (n : Nat) (vs : List Int) (v x : Int) : Prop where
  idx : 0 ≤ v ∧ v < n
  zero : rd vs v = 0
  one : x = 1 ∨ x = -1
theorem forcedR_some {r : Rule} {n : Nat} {vs : List Int} {v x : Int} (hok : OkRule r n) (h : forcedR r vs = some (v, x)) : Forces n vs v x := by
  by_cases h0 : holdsRule r vs = 0
  · rw [forcedR_of h0] at h
    have hm : ∀ u, u ∈ kept (fun v => rd vs v != 0) r.f1 → (0 ≤ u ∧ u < n) ∧ rd vs u = 0 := fun u hu => by
      have := mem_kept hu
      exact ⟨hok.idx u this.1, by simpa using this.2⟩
    generalize kept (fun v => rd vs v != 0) r.f1 = ks at *
    match ks, h with
    | [u], h =>
      simp only [forcedOf] at h
      have hu := hm u (by simp)
      split at h
      · simp at h
        obtain ⟨rfl, rfl⟩ := h
        exact ⟨hu.1, hu.2, .inl rfl⟩
      · split at h
        · simp at h
          obtain ⟨rfl, rfl⟩ := h
          exact ⟨hu.1, hu.2, .inr rfl⟩
        · simp at h
  · rw [forcedR, if_neg h0] at h
    simp at h
theorem Forces.zeros {n : Nat} {vs : List Int} {v x : Int} (h : Forces n vs v x) (hv : Vals n vs) : zeros (vs.set v.toNat x) + 1 = zeros vs := by
  have hl := hv.len
  have hi := h.idx
  have hk : v.toNat < vs.length := by omega
  refine zeros_set hk ?_ (by rcases h.one with e | e <;> omega)
  have := h.zero
  rw [show v = ((v.toNat : Nat) : Int) by omega, rd_at vs v.toNat hk] at this
  exact this
theorem Forces.vals {n : Nat} {vs : List Int} {v x : Int} (h : Forces n vs v x) (hv : Vals n vs) : Vals n (vs.set v.toNat x) :=
  hv.set _ (by rcases h.one with e | e <;> simp [unit3, e])
/-- What a pass leaves of the open variables. -/
theorem pass_zeros {n : Nat} : ∀ (rs : List Rule) (i : Nat) (vs : List Int) (ch : Bool) (st : List Frc) {b : Option Nat} {vs' : List Int} {ch' : Bool} {st' : List Frc}, (∀ r ∈ rs, OkRule r n) → Vals n vs → passR rs i vs ch st = (b, vs', ch', st') →
    Vals n vs' ∧ zeros vs' ≤ zeros vs ∧ (ch' = true → ch = true ∨ zeros vs' < zeros vs)
  | [], i, vs, ch, st, b, vs', ch', st', hok, hv, h => by
    simp only [passR, Prod.mk.injEq] at h
    obtain ⟨rfl, rfl, rfl, rfl⟩ := h
    exact ⟨hv, Nat.le_refl _, .inl⟩
  | r :: rs, i, vs, ch, st, b, vs', ch', st', hok, hv, h => by
    simp only [passR] at h
    split at h
    · simp only [Prod.mk.injEq] at h
      obtain ⟨rfl, rfl, rfl, rfl⟩ := h
      exact ⟨hv, Nat.le_refl _, .inl⟩
    · split at h
      · exact pass_zeros rs _ _ _ _ (fun r hr => hok r (by simp [hr])) hv h
      · rename_i v x hf
        have hF := forcedR_some (hok r (by simp)) hf
        have hz := hF.zeros hv
        obtain ⟨h1, h2, h3⟩ := pass_zeros rs _ _ _ _ (fun r hr => hok r (by simp [hr])) (hF.vals hv) h
        exact ⟨h1, by omega, fun _ => .inr (by omega)⟩
theorem passR_drop (rules : List Rule) (i : Nat) (hi : i < rules.length) (vs : List Int) (ch : Bool) (st : List Frc) :
    passR (rules.drop i) i vs ch st = if holdsRule rules[i] vs < 0 then (some i, vs, ch, st)
    else match forcedR rules[i] vs with
      | none => passR (rules.drop (i + 1)) (i + 1) vs ch st
      | some (v, x) => passR (rules.drop (i + 1)) (i + 1) (vs.set v.toNat x) true (st ++ [(v, x, (i : Int))]) := by
  rw [List.drop_eq_getElem_cons hi]
  rfl

/-! ### The rules, where they lie -/
structure Sh where
  a1 : Option Addr
  c1 : Nat
  a2 : Option Addr
  c2 : Nat
def RulesAt (A : Option Addr) (rules : List Rule) (sh : Nat → Sh) (w : World) : Prop :=
  rules.length ≤ 9223372036854775807 ∧ ∀ k, ∀ hk : k < rules.length, ∃ ad, A = some ad ∧ w.cell? (ad.add (k * 3)) = some (.int .i64 rules[k].f0) ∧ w.cell? ⟨(ad.add (k * 3)).block, (ad.add (k * 3)).off + 1, none⟩ = some (.slice (sh k).a1 rules[k].f1.length (sh k).c1) ∧
    w.cell? ⟨(ad.add (k * 3)).block, (ad.add (k * 3)).off + 2, none⟩ = some (.slice (sh k).a2 rules[k].f2.length (sh k).c2) ∧ (Kd.int .i64).C w (sh k).a1 rules[k].f1.length rules[k].f1 ∧ (Kd.int .i64).C w (sh k).a2 rules[k].f2.length rules[k].f2
theorem RulesAt.of {w : World} {A : Option Addr} {n : Nat} {rules : List Rule} (h : kRule.C w A n rules) : ∃ sh, RulesAt A rules sh w := by
  have hn : rules.length = n := h.1
  have key : ∀ k, ∃ s : Sh, ∀ hk : k < rules.length, ∃ ad, A = some ad ∧ w.cell? (ad.add (k * 3)) = some (.int .i64 rules[k].f0) ∧ w.cell? ⟨(ad.add (k * 3)).block, (ad.add (k * 3)).off + 1, none⟩ = some (.slice s.a1 rules[k].f1.length s.c1) ∧
    w.cell? ⟨(ad.add (k * 3)).block, (ad.add (k * 3)).off + 2, none⟩ = some (.slice s.a2 rules[k].f2.length s.c2) ∧ (Kd.int .i64).C w s.a1 rules[k].f1.length rules[k].f1 ∧ (Kd.int .i64).C w s.a2 rules[k].f2.length rules[k].f2 := by
    intro k
    by_cases hk : k < rules.length
    · obtain ⟨ad, A1, c1, A2, c2, e, h0, h1, h2, g1, g2⟩ := rule_open h k hk
      exact ⟨⟨A1, c1, A2, c2⟩, fun _ => ⟨ad, e, h0, h1, h2, g1, g2⟩⟩
    · exact ⟨⟨none, 0, none, 0⟩, fun h => absurd h hk⟩
  exact ⟨fun k => Classical.choose (key k), by have := Kd.C_max h; omega, fun k hk => Classical.choose_spec (key k) hk⟩
/-- A row of rules, with the places of its rules' rows. -/
def RwR (e : Nat) (v : Value) (A : Option Addr) (rules : List Rule) (sh : Nat → Sh) : HP := fun w ok => kRule.R e w 0 ok v rules ∧ RulesAt A rules sh w
theorem add_blk (ad : Addr) (k : Nat) : (ad.add k).block = ad.block := add_block ad k
theorem Sat.shape {w0 w : World} {ps : List HP} (S : Sat w0 ps w) (i : Nat) {e n c : Nat} {A : Option Addr} {rules : List Rule} (hp : ps[i]? = some (Rw kRule e (.slice A n c) rules)) :
    ∃ sh, Sat w0 (ps.set i (RwR e (.slice A n c) A rules sh)) w := by
  obtain ⟨ok, hl, hb, hu⟩ := S.upd i hp
  have h0 : kRule.R e w 0 ok (.slice A n c) rules := hl.now
  have hC := (Kd.R_reads' h0).2.2
  obtain ⟨sh, hsh⟩ := RulesAt.of hC
  refine ⟨sh, hu w _ ok (.refl _ _) (fun k hk => ⟨.inl hk, hb k hk⟩) (fun w2 h2 => ⟨hl w2 h2, hsh.1, fun k hk => ?_⟩)⟩
  obtain ⟨ad, e1, d0, d1, d2, d3, d4⟩ := hsh.2 k hk
  subst e1
  have hblk : ok ad.block := h0.1 ad.block rfl
  have hC2 := (Kd.R_reads' (hl w2 h2 : kRule.R e w2 0 ok _ rules)).2.2
  obtain ⟨ad', A1', c1', A2', c2', e2, f0, f1, f2, g1, g2⟩ := rule_open hC2 k hk
  cases e2
  have hcell : ∀ a : Addr, a.block = ad.block → w2.cell? a = w.cell? a := fun a ha => by
    have := h2 ad.block hblk
    simp [World.cell?, ha, this]
  have q1' := hcell ⟨(ad.add (k * 3)).block, (ad.add (k * 3)).off + 1, none⟩ (add_blk ad _)
  have q2' := hcell ⟨(ad.add (k * 3)).block, (ad.add (k * 3)).off + 2, none⟩ (add_blk ad _)
  rw [q1'] at f1
  rw [q2'] at f2
  rw [d1] at f1
  rw [d2] at f2
  injection f1 with f1
  injection f1 with q1 _ q2
  injection f2 with f2
  injection f2 with q3 _ q4
  subst q1 q3
  refine ⟨ad, rfl, ?_, ?_, ?_, g1, g2⟩
  · rw [hcell (ad.add (k * 3)) (add_blk ad _)]; exact d0
  · rw [q1']; exact d1
  · rw [q2']; exact d2
end Go.Proofs.Ytmgmilnoeghgfaa

set_option linter.unusedVariables false
set_option linter.unusedSimpArgs false
namespace Go.Proofs.Ytmgmilnoeghgfaa
open Go.RowKit Go.Proofs.YtmgmilnoeghgfaaW.PrintWords Go.Proofs.YtmgmilnoeghgfaaW.PrintLast Go.Proofs.YtmgmilnoeghgfaaW.PrintMore Go.Proofs.Ytmgmilnoeghgfaa.PFnExactSolveRules

def ReadsRules (w0 : World) (R : List HP) (A : Option Addr) (rules : List Rule) (sh : Nat → Sh) : Prop := ∀ w, Sat w0 R w → RulesAt A rules sh w
theorem ReadsRules.cons {w0 : World} {R : List HP} {A : Option Addr} {rules : List Rule} {sh : Nat → Sh} (h : ReadsRules w0 R A rules sh) (p : HP) : ReadsRules w0 (p :: R) A rules sh := fun w S => h w S.tail
theorem ReadsRules.reads {w0 : World} {R : List HP} {A : Option Addr} {rules : List Rule} {sh : Nat → Sh} (h : ReadsRules w0 R A rules sh) (k : Nat) (hk : k < rules.length) : RuleReads w0 R rules[k] (sh k).a1 (sh k).a2 := fun w S => by
  obtain ⟨_, _, _, _, _, g1, g2⟩ := (h w S).2 k hk
  exact ⟨g1, g2⟩
/-- What the callback that is told of a conclusion does to its own piece. -/
def Tells {σ : Type} (w0 : World) (T : σ → HP) (tl : σ → Frc → σ) (size : σ → Nat) (M : Nat) (g : FuncId) (caps : Array Value) (R : List HP) : Prop :=
  ∀ (w : World) (s : σ) (v : Value) (vs : List Int) (f : Frc), size s < M → Sat w0 (T s :: RwI v vs :: R) w →
    Calls Try.prog g (#[.int .i64 f.1, .int .i64 f.2.1, .int .i64 f.2.2] ++ caps) w fun e w' => e = .returned (.tuple #[]) ∧ Sat w0 (T (tl s f) :: RwI v vs :: R) w'
set_option maxRecDepth 100000 in
set_option maxHeartbeats 4000000 in
theorem propagate_calls {σ : Type} {w0 w : World} {R : List HP} {A AR : Option Addr} {n c cR : Nat} {vs : List Int} {rules : List Rule} {sh : Nat → Sh} (T : σ → HP) (tl : σ → Frc → σ) (size : σ → Nat) (M : Nat) (g : FuncId) (caps : Array Value) (s : σ)
    (S : Sat w0 (RwI (.slice A n c) vs :: T s :: R) w) (hrd : ReadsRules w0 R AR rules sh) (hok : ∀ r ∈ rules, OkRule r n) (hv : Vals n vs)
    (hE : Enter Try.prog g) (hT : Tells w0 T tl size M g caps R) (hsz : ∀ s f, size (tl s f) ≤ size s + 1) (hM : size s + zeros vs ≤ M) (k0 : Nat) (hk0 : zeros vs < k0) :
    Calls Try.prog 166 #[.slice AR rules.length cR, .slice A n c, .func (.func g) #[] caps] w fun e w' =>
      ∃ (bad : Int) (vs' : List Int) (st : List Frc), propR rules k0 vs [] = (bad, vs', st) ∧ e = .returned (.int .i64 bad) ∧ Sat w0 (RwI (.slice A n c) vs' :: T (st.foldl tl s) :: R) w' ∧ size (st.foldl tl s) ≤ size s + zeros vs := by
  obtain ⟨⟨bad, vs', st⟩, hfin⟩ : ∃ x, propR rules k0 vs [] = x := ⟨_, rfl⟩
  have HS := Aside0.mk S
  have HRD := Aside0.mk hrd
  have HOK := Aside0.mk hok
  have HT := Aside0.mk hT
  have HSZ := Aside0.mk hsz
  have HV := Aside0.mk hv
  have HM := Aside0.mk hM
  have HFIN := Aside0.mk hfin
  have HZ := Aside0.mk hk0
  have hrl : rules.length ≤ 9223372036854775807 := (hrd w S.tail.tail).1
  clear S hrd hok hT hsz hM hv hfin hk0
  go_enter Try.func166, Try.ntmps166
  go_wp2
  go_loopg [7, 8, 9, 10, 11, 12] (k0 + 1) (fun kq v7 _ _ _ _ _ wr => ∃ (ch : Bool) (us : List Int) (st0 : List Frc), v7 = .bool ch ∧
    Aside0 ((if ch then propR rules kq.pred us st0 = (bad, vs', st) ∧ zeros us < kq.pred else (-1, us, st0) = (bad, vs', st)) ∧ 0 < kq ∧ Vals n us ∧ size (st0.foldl tl s) + zeros us ≤ size s + zeros vs) ∧
    Aside0 (Sat w0 (RwI (.slice A n c) us :: T (st0.foldl tl s) :: R) wr))
  case atStart => exact ⟨true, vs, [], rfl, ⟨⟨HFIN.out, HZ.out⟩, by omega, HV.out, Nat.le_refl _⟩, HS⟩
  case round =>
    clear HS HZ HV
    obtain ⟨ch, us, st0, rfl, HI, HS⟩ := hrel
    cases ch
    · have hI := HI.out.1
      simp at hI
      obtain ⟨rfl, rfl, rfl⟩ := hI
      have HFE := HI.out.2.2.2
      clear HI
      go_wp2
      go_ret
      exact ⟨_, _, _, HFIN.out, rfl, HS.out, by omega⟩
    · obtain ⟨kp, rfl⟩ : ∃ kp, gk = kp + 2 := ⟨gk - 2, by have := HI.out.1; simp at this; omega⟩
      obtain ⟨⟨b, us1, ch1, st1⟩, hpr⟩ : ∃ x, passR rules 0 us false st0 = x := ⟨_, rfl⟩
      have hzs := pass_zeros rules 0 us false st0 HOK.out HI.out.2.2.1 hpr
      have hI1 := HI.out.1
      simp only [if_true, Nat.pred_succ] at hI1
      have hpk : propR rules (kp + 1) us st0 = (bad, vs', st) := hI1.1
      rw [propR, hpr] at hpk
      have HPK := Aside0.mk hpk
      have HZS := Aside0.mk hzs
      have HZU := Aside0.mk hI1.2
      have HPR := Aside0.mk hpr
      have HI2 := Aside0.mk HI.out.2.2
      clear hpk hzs hI1 hpr HI
      go_wp2
      go_loopw [7, 8, 9, 10, 11, 12, 16] (fun v7 _ _ _ _ _ v16 wr => ∃ (i : Nat) (us2 : List Int) (ch2 : Bool) (st2 : List Frc), i ≤ rules.length ∧ v16 = .int .i64 i ∧ v7 = .bool ch2 ∧
        Aside0 (passR (rules.drop i) i us2 ch2 st2 = (b, us1, ch1, st1) ∧ Vals n us2 ∧ size (st2.foldl tl s) + zeros us2 ≤ size s + zeros vs) ∧
        Aside0 (Sat w0 (RwI (.slice A n c) us2 :: T (st2.foldl tl s) :: R) wr)) (fun _ _ _ _ _ _ v16 _ => rules.length - (intOf v16).toNat)
      case atStart => exact ⟨0, us, false, st0, by omega, rfl, rfl, ⟨HPR.out, HI2.out.1, HI2.out.2⟩, HS⟩
      case round =>
        clear HS
        obtain ⟨i, us2, ch2, st2, hi, rfl, rfl, HJ, HS⟩ := hrel
        by_cases hlt : i < rules.length
        · obtain ⟨ad, e1, d0, d1, d2, g1, g2⟩ := (HRD.out _ HS.out.tail.tail).2 i hlt
          cases e1
          have HR := Aside0.mk (HRD.out.reads i hlt)
          have HO := Aside0.mk (HOK.out rules[i] (List.getElem_mem hlt))
          have HJ1 := HJ.out.1
          rw [passR_drop rules i hlt] at HJ1
          have HP := Aside0.mk HJ1
          have HV2 := Aside0.mk HJ.out.2.1
          have HSZ2 := Aside0.mk HJ.out.2.2
          clear HJ HJ1 g1 g2
          generalize sh i = q at *
          obtain ⟨A1, c1, A2, c2⟩ := q
          generalize rules[i] = r at *
          have HS3 := Aside0.mk (HS.out.alloc (ruleB r A1 A2 c1 c2))
          have hC3 := (HS3.out.readsAt 1 rfl).2.2
          rw [HV2.out.len] at hC3
          have hr3 := HR.out _ HS3.out.tail.tail.tail
          have HC := Aside0.mk (holdsRule_calls A1 A2 A c1 c2 c HO.out HV2.out hr3.1 hr3.2 hC3)
          clear hC3 hr3
          by_cases hneg : holdsRule r us2 < 0
          · have hd : decide (holdsRule r us2 < 0) = true := decide_eq_true hneg
            have hPP := HP.out
            rw [if_pos hneg] at hPP
            have HPP := Aside0.mk hPP
            clear hneg hPP HP
            generalize holdsRule r us2 = z at *
            go_wp2_with (((with_reducible refine gate_dst (N := 23) rfl ?_); refine goesF (f := 66) (args := #[ruleW r A1 A2 c1 c2, .slice A n c]) rfl rfl rfl (by (try simp only [List.map_toArray, List.map_cons, List.map_nil]); rfl) (Enter.mk Try.func66 (by kernel_rfl) rfl) ?_; refine (HC.out).mono ?_; rintro e e1 ⟨rfl, hb⟩; refine ⟨_, rfl, ?_⟩; have HS4 := Aside0.mk (HS3.out.below hb); clear hb))
            go_ret
            have hPP := HPP.out
            simp only [Prod.mk.injEq] at hPP
            obtain ⟨rfl, rfl, rfl, rfl⟩ := hPP
            have hPK := HPK.out
            simp only [Prod.mk.injEq] at hPK
            obtain ⟨rfl, rfl, rfl⟩ := hPK
            exact ⟨_, _, _, HFIN.out, rfl, HS4.out.tail, by have := HSZ2.out; omega⟩
          · have hd : decide (holdsRule r us2 < 0) = false := decide_eq_false hneg
            have hPP := HP.out
            rw [if_neg hneg] at hPP
            have HPP := Aside0.mk hPP
            clear hneg hPP HP
            obtain ⟨z, hz⟩ : ∃ z, z = holdsRule r us2 := ⟨_, rfl⟩
            rw [← hz] at HC hd
            clear hz
            cases hf : forcedR r us2 with
            | none =>
              have HF := Aside0.mk hf
              clear hf
              go_wp2_with (first
                | ((with_reducible refine gate_dst (N := 23) rfl ?_); refine goesF (f := 66) (args := #[ruleW r A1 A2 c1 c2, .slice A n c]) rfl rfl rfl (by (try simp only [List.map_toArray, List.map_cons, List.map_nil]); rfl) (Enter.mk Try.func66 (by kernel_rfl) rfl) ?_; refine (HC.out).mono ?_; rintro e e1 ⟨rfl, hb⟩; refine ⟨_, rfl, ?_⟩; have HS4 := Aside0.mk (HS3.out.below hb); clear hb; obtain ⟨hb0, hb1, hb2⟩ := box3 (HS4.out.blk 0 rfl))
                | ((with_reducible refine gate_dst (N := 29) rfl ?_); refine goesF (f := 176) (args := #[ruleW r A1 A2 c1 c2, .slice A n c]) rfl rfl rfl (by (try simp only [List.map_toArray, List.map_cons, List.map_nil]); rfl) (Enter.mk Try.func176 (by kernel_rfl) rfl) ?_; refine (forced_calls A1 A2 c1 c2 HS4.out.swap ((HR.out.cons _).cons _) HO.out HV2.out).mono ?_; rintro e e1 ⟨rfl, S5⟩; refine ⟨_, rfl, ?_⟩; rw [HF.out]; simp only [forcedW]; have HS5 := Aside0.mk S5.swap.tail; clear S5))
              have hPP := HPP.out
              rw [HF.out] at hPP
              exact ⟨⟨i + 1, us2, ch2, st2, by omega, by go_num, rfl, ⟨hPP, HV2.out, HSZ2.out⟩, HS5⟩, by simp [intOf]; omega⟩
            | some f =>
              obtain ⟨v, x⟩ := f
              have hF := forcedR_some HO.out hf
              have hz := hF.zeros HV2.out
              have HV3 := Aside0.mk (hF.vals HV2.out)
              have HZ3 := Aside0.mk hz
              have hv0 := hF.idx.1
              have hvn := hF.idx.2
              have HF := Aside0.mk hf
              clear hf hF hz
              have hmn : n ≤ 9223372036854775807 := by
                have := Kd.C_max (HS.out.readsAt 0 rfl).2.2
                have := HV2.out.len
                omega
              obtain ⟨g2, hg2, _, _, _⟩ := HS.out.intAt 0 rfl v hv0 (by have := HV2.out.len; omega)
              cases hg2
              go_wp2_with (first
                | ((with_reducible refine gate_dst (N := 23) rfl ?_); refine goesF (f := 66) (args := #[ruleW r A1 A2 c1 c2, .slice (some ⟨g2, 0, none⟩) n c]) rfl rfl rfl (by (try simp only [List.map_toArray, List.map_cons, List.map_nil]); rfl) (Enter.mk Try.func66 (by kernel_rfl) rfl) ?_; refine (HC.out).mono ?_; rintro e e1 ⟨rfl, hb⟩; refine ⟨_, rfl, ?_⟩; have HS4 := Aside0.mk (HS3.out.below hb); clear hb; obtain ⟨hb0, hb1, hb2⟩ := box3 (HS4.out.blk 0 rfl))
                | ((with_reducible refine gate_dst (N := 29) rfl ?_); refine goesF (f := 176) (args := #[ruleW r A1 A2 c1 c2, .slice (some ⟨g2, 0, none⟩) n c]) rfl rfl rfl (by (try simp only [List.map_toArray, List.map_cons, List.map_nil]); rfl) (Enter.mk Try.func176 (by kernel_rfl) rfl) ?_; refine (forced_calls A1 A2 c1 c2 HS4.out.swap ((HR.out.cons _).cons _) HO.out HV2.out).mono ?_; rintro e e1 ⟨rfl, S5⟩; refine ⟨_, rfl, ?_⟩; rw [HF.out]; simp only [forcedW]; have HS5 := Aside0.mk S5.swap.tail; clear S5; obtain ⟨g5, hg5, hx5, hf5, hl5⟩ := HS5.out.intAt 0 rfl v hv0 (by have := HV2.out.len; omega); cases hg5; have HS6 := Aside0.mk (HS5.out.store 0 rfl v.toNat x).swap)
                | ((with_reducible refine gate_dst (N := 42) rfl ?_); refine goesV (t := 38) (args := #[.int .i64 v, .int .i64 x, .int .i64 i] ++ caps) rfl rfl rfl rfl (by (try simp only [List.map_toArray, List.map_cons, List.map_nil]); rfl) hE ?_; refine (HT.out _ _ _ _ (v, x, (i : Int)) (by have := HSZ2.out; have := HZ3.out; have := HM.out; omega) HS6.out).mono ?_; rintro e e1 ⟨rfl, S7⟩; refine ⟨_, rfl, ?_⟩; have HS7 := Aside0.mk S7.swap; clear S7))
              have hPP := HPP.out
              rw [HF.out] at hPP
              refine ⟨⟨i + 1, us2.set v.toNat x, true, st2 ++ [(v, x, (i : Int))], by omega, by go_num, rfl, ⟨hPP, HV3.out, ?_⟩, ?_⟩, by simp [intOf]; omega⟩
              · have h1 := HSZ.out (st2.foldl tl s) (v, x, (i : Int))
                have h2 := HZ3.out
                have h3 := HSZ2.out
                rw [List.foldl_append]
                simp only [List.foldl_cons, List.foldl_nil]
                omega
              · rw [List.foldl_append]
                exact HS7
        · obtain rfl : i = rules.length := by omega
          have hJ := HJ.out.1
          rw [List.drop_length] at hJ
          simp only [passR, Prod.mk.injEq] at hJ
          obtain ⟨rfl, rfl, rfl, rfl⟩ := hJ
          have HV2 := Aside0.mk HJ.out.2.1
          have HSZ2 := Aside0.mk HJ.out.2.2
          clear HJ
          go_wp2
          go_roundg (kp + 1)
          case measure => omega
          case rel =>
            refine ⟨ch2, us2, st2, rfl, ⟨?_, by omega, HV2.out, HSZ2.out⟩, HS⟩
            have hPK := HPK.out
            cases ch2
            · simpa using hPK
            · have h1 := HZS.out.2.2 rfl
              have h2 := HZU.out
              simp at h1
              exact ⟨hPK, by simp; omega⟩
end Go.Proofs.Ytmgmilnoeghgfaa

set_option linter.unusedVariables false
set_option linter.unusedSimpArgs false
namespace Go.Proofs.Ytmgmilnoeghgfaa
open Go.RowKit Go.Proofs.YtmgmilnoeghgfaaW.PrintWords Go.Proofs.YtmgmilnoeghgfaaW.PrintLast Go.Proofs.YtmgmilnoeghgfaaW.PrintMore Go.Proofs.Ytmgmilnoeghgfaa.PFnExactSolveRules

theorem ReadsRules.at_ {w0 : World} {R : List HP} {A : Option Addr} {rules : List Rule} {sh : Nat → Sh} (h : ReadsRules w0 R A rules sh) (k : Nat) (hk : k < rules.length) (ad : Addr) (hA : A = some ad) : RuleAt w0 R rules[k] (ad.add (k * 3)) := fun w S => by
  obtain ⟨ad', e, d0, d1, d2, g1, g2⟩ := (h w S).2 k hk
  subst hA
  cases e
  exact ⟨_, _, _, _, d0, d1, d2, g1, g2⟩
/-- A step of the reference: the rule, the variable, the value. -/
def kFrc : Kd Frc := Kd.iso (Kd.pair (Kd.int .i64) (Kd.pair (Kd.int .i64) (Kd.int .i64))) (fun f : Frc => (f.2.2, f.1, f.2.1))
theorem kFrc_M (w : World) (base : Nat) (ok : Nat → Prop) (v x i : Int) : kFrc.M w base ok (v, x, i) [.int .i64 i, .int .i64 v, .int .i64 x] :=
  ⟨[.int .i64 i], [.int .i64 v, .int .i64 x], rfl, rfl, ⟨[.int .i64 v], [.int .i64 x], rfl, rfl, rfl⟩⟩
theorem kFrc_K {w : World} {f : Frc} {cs : List Value} (h : kFrc.K w f cs) : cs = [.int .i64 f.2.2, .int .i64 f.1, .int .i64 f.2.1] := by
  obtain ⟨_, _, rfl, rfl, ⟨_, _, rfl, rfl, rfl⟩⟩ := h
  rfl
theorem info143 : (Try.prog.info? 143).map (fun i => (i.zero, i.size, i.bytes)) = some (some (.agg #[.int .i64 0, .int .i64 0, .int .i64 0]), 3, 24) := by kernel_rfl

set_option maxRecDepth 100000 in
set_option maxHeartbeats 4000000 in
theorem l15Propagate_calls {w0 w : World} {R : List HP} {A AR : Option Addr} {n c cR : Nat} {vs : List Int} {rules : List Rule} {sh : Nat → Sh}
    (S : Sat w0 (RwI (.slice A n c) vs :: R) w) (hrd : ReadsRules w0 R AR rules sh) (hok : ∀ r ∈ rules, OkRule r n) (hv : Vals n vs) (hn : n ≤ 200) (k0 : Nat) (hk0 : zeros vs < k0) :
    Calls Try.prog 124 #[.slice AR rules.length cR, .slice A n c] w fun e w' =>
      ∃ (bad : Int) (vs' : List Int) (st : List Frc) (v : Value), propR rules k0 vs [] = (bad, vs', st) ∧ e = .returned (.tuple #[v, .int .i64 bad]) ∧ Sat w0 (Rw kFrc 143 v st :: RwI (.slice A n c) vs' :: R) w' ∧ st.length ≤ 200 := by
  obtain ⟨⟨bad, vs', st⟩, hfin⟩ : ∃ x, propR rules k0 vs [] = x := ⟨_, rfl⟩
  have hz2 : zeros vs ≤ 200 := by
    have : zeros vs ≤ vs.length := List.countP_le_length
    have := hv.len
    omega
  have HS := Aside0.mk (Sat.lit (n := 0) S kFrc 143 [] (inner := []) (Reps.none _ _) rfl (by omega))
  have HRD := Aside0.mk hrd
  have HOK := Aside0.mk hok
  have HV := Aside0.mk hv
  have HFIN := Aside0.mk hfin
  have HZ := Aside0.mk hk0
  have HZ2 := Aside0.mk hz2
  have hrl : rules.length ≤ 9223372036854775807 := (hrd w S.tail).1
  clear S hrd hok hv hfin hk0 hz2
  go_enter Try.func124, Try.ntmps124
  go_wp2
  go_loopg [6, 7, 8, 9, 10] k0 (fun kq v6 _ _ _ _ wr => ∃ (us : List Int) (st0 : List Frc) (A6 : Option Addr) (c6 : Nat), v6 = .slice A6 st0.length c6 ∧
    Aside0 (propR rules kq us st0 = (bad, vs', st) ∧ zeros us < kq ∧ Vals n us ∧ st0.length + zeros us ≤ zeros vs) ∧
    Aside0 (Sat w0 (Rw kFrc 143 (.slice A6 st0.length c6) st0 :: RwI (.slice A n c) us :: R) wr))
  case atStart => exact ⟨vs, [], some ⟨w.heap.size, 0, none⟩, 0, rfl, ⟨HFIN.out, HZ.out, HV.out, by simp⟩, HS⟩
  case round =>
    clear HS HZ HV
    obtain ⟨us, st0, A6, c6, rfl, HI, HS⟩ := hrel
    obtain ⟨kp, rfl⟩ : ∃ kp, gk = kp + 1 := ⟨gk - 1, by have := HI.out.2.1; omega⟩
    obtain ⟨⟨b, us1, ch1, st1⟩, hpr⟩ : ∃ x, passR rules 0 us false st0 = x := ⟨_, rfl⟩
    have hzs := pass_zeros rules 0 us false st0 HOK.out HI.out.2.2.1 hpr
    have hpk := HI.out.1
    rw [propR, hpr] at hpk
    have HPK := Aside0.mk hpk
    have HZS := Aside0.mk hzs
    have HZU := Aside0.mk HI.out.2.1
    have HPR := Aside0.mk hpr
    have HI2 := Aside0.mk HI.out.2.2
    clear hpk hzs hpr HI
    go_wp2
    go_loopw [6, 7, 8, 9, 10] (fun v6 v7 v8 _ _ wr => ∃ (i : Nat) (us2 : List Int) (ch2 : Bool) (st2 : List Frc) (A6 : Option Addr) (c6 : Nat), i ≤ rules.length ∧ v8 = .int .i64 i ∧ v7 = .bool ch2 ∧ v6 = .slice A6 st2.length c6 ∧
      Aside0 (passR (rules.drop i) i us2 ch2 st2 = (b, us1, ch1, st1) ∧ Vals n us2 ∧ st2.length + zeros us2 ≤ zeros vs) ∧
      Aside0 (Sat w0 (Rw kFrc 143 (.slice A6 st2.length c6) st2 :: RwI (.slice A n c) us2 :: R) wr)) (fun _ _ v8 _ _ _ => rules.length - (intOf v8).toNat)
    case atStart => exact ⟨0, us, false, st0, A6, c6, by omega, rfl, rfl, rfl, ⟨HPR.out, HI2.out.1, HI2.out.2⟩, HS⟩
    case round =>
      clear HS
      obtain ⟨i, us2, ch2, st2, A6, c6, hi, rfl, rfl, rfl, HJ, HS⟩ := hrel
      by_cases hlt : i < rules.length
      · obtain ⟨ad, e1, d0, d1, d2, g1, g2⟩ := (HRD.out _ HS.out.tail.tail).2 i hlt
        cases e1
        have HR := Aside0.mk (HRD.out.at_ i hlt ad rfl)
        have HO := Aside0.mk (HOK.out rules[i] (List.getElem_mem hlt))
        have HJ1 := HJ.out.1
        rw [passR_drop rules i hlt] at HJ1
        have HP := Aside0.mk HJ1
        have HV2 := Aside0.mk HJ.out.2.1
        have HSZ2 := Aside0.mk HJ.out.2.2
        clear HJ HJ1 g1 g2 d0 d1 d2
        generalize rules[i] = r at *
        have hC3 := (HS.out.readsAt 1 rfl).2.2
        rw [HV2.out.len] at hC3
        have HC := Aside0.mk (l15HoldsRule_calls (ps := []) (ad.add (i * 3)) A c HO.out HV2.out HR.out HS.out.tail.tail hC3)
        clear hC3
        by_cases hneg : holdsRule r us2 < 0
        · have hd : decide (holdsRule r us2 < 0) = true := decide_eq_true hneg
          have hPP := HP.out
          rw [if_pos hneg] at hPP
          have HPP := Aside0.mk hPP
          clear hneg hPP HP
          generalize holdsRule r us2 = z at *
          go_wp2_with (((with_reducible refine gate_dst (N := 22) rfl ?_); refine goesF (f := 61) (args := #[.pointer (some (ad.add (i * 3))), .slice A n c]) rfl rfl rfl (by (try simp only [List.map_toArray, List.map_cons, List.map_nil]); rfl) (Enter.mk Try.func61 (by kernel_rfl) rfl) ?_; refine (HC.out).mono ?_; rintro e e1 ⟨rfl, hb⟩; refine ⟨_, rfl, ?_⟩; have HS4 := Aside0.mk (HS.out.drawn hb); clear hb))
          go_ret2
          have hPP := HPP.out
          simp only [Prod.mk.injEq] at hPP
          obtain ⟨rfl, rfl, rfl, rfl⟩ := hPP
          have hPK := HPK.out
          simp only [Prod.mk.injEq] at hPK
          obtain ⟨rfl, rfl, rfl⟩ := hPK
          exact ⟨_, _, _, _, HFIN.out, rfl, HS4.out, by have := HSZ2.out; have := HZ2.out; omega⟩
        · have hd : decide (holdsRule r us2 < 0) = false := decide_eq_false hneg
          have hPP := HP.out
          rw [if_neg hneg] at hPP
          have HPP := Aside0.mk hPP
          clear hneg hPP HP
          obtain ⟨z, hz⟩ : ∃ z, z = holdsRule r us2 := ⟨_, rfl⟩
          rw [← hz] at HC hd
          clear hz
          cases hf : forcedR r us2 with
          | none =>
            have HF := Aside0.mk hf
            clear hf
            go_wp2_with (first
              | ((with_reducible refine gate_dst (N := 22) rfl ?_); refine goesF (f := 61) (args := #[.pointer (some (ad.add (i * 3))), .slice A n c]) rfl rfl rfl (by (try simp only [List.map_toArray, List.map_cons, List.map_nil]); rfl) (Enter.mk Try.func61 (by kernel_rfl) rfl) ?_; refine (HC.out).mono ?_; rintro e e1 ⟨rfl, hb⟩; refine ⟨_, rfl, ?_⟩; have HS4 := Aside0.mk (HS.out.drawn hb); clear hb)
              | ((with_reducible refine gate_dst (N := 31) rfl ?_); refine goesF (f := 152) (args := #[.pointer (some (ad.add (i * 3))), .slice A n c]) rfl rfl rfl (by (try simp only [List.map_toArray, List.map_cons, List.map_nil]); rfl) (Enter.mk Try.func152 (by kernel_rfl) rfl) ?_; refine (l15Forced_calls (ad.add (i * 3)) HS4.out.swap (HR.out.cons _) HO.out HV2.out).mono ?_; rintro e e1 ⟨rfl, S5⟩; refine ⟨_, rfl, ?_⟩; rw [HF.out]; simp only [forcedS]; have HS5 := Aside0.mk S5.swap; clear S5))
            have hPP := HPP.out
            rw [HF.out] at hPP
            exact ⟨⟨i + 1, us2, ch2, st2, A6, c6, by omega, by go_num, rfl, rfl, ⟨hPP, HV2.out, HSZ2.out⟩, HS5⟩, by simp [intOf]; omega⟩
          | some f =>
            obtain ⟨v, x⟩ := f
            have hF := forcedR_some HO.out hf
            have hz := hF.zeros HV2.out
            have HV3 := Aside0.mk (hF.vals HV2.out)
            have HZ3 := Aside0.mk hz
            have hv0 := hF.idx.1
            have hvn := hF.idx.2
            have HF := Aside0.mk hf
            clear hf hF hz
            obtain ⟨g2, hg2, _, _, _⟩ := HS.out.intAt 1 rfl v hv0 (by have := HV2.out.len; omega)
            cases hg2
            have hge : decide (0 ≤ v) = true := decide_eq_true hv0
            go_wp2_with (first
              | ((with_reducible refine gate_dst (N := 22) rfl ?_); refine goesF (f := 61) (args := #[.pointer (some (ad.add (i * 3))), .slice (some ⟨g2, 0, none⟩) n c]) rfl rfl rfl (by (try simp only [List.map_toArray, List.map_cons, List.map_nil]); rfl) (Enter.mk Try.func61 (by kernel_rfl) rfl) ?_; refine (HC.out).mono ?_; rintro e e1 ⟨rfl, hb⟩; refine ⟨_, rfl, ?_⟩; have HS4 := Aside0.mk (HS.out.drawn hb); clear hb)
              | ((with_reducible refine gate_dst (N := 31) rfl ?_); refine goesF (f := 152) (args := #[.pointer (some (ad.add (i * 3))), .slice (some ⟨g2, 0, none⟩) n c]) rfl rfl rfl (by (try simp only [List.map_toArray, List.map_cons, List.map_nil]); rfl) (Enter.mk Try.func152 (by kernel_rfl) rfl) ?_; refine (l15Forced_calls (ad.add (i * 3)) HS4.out.swap (HR.out.cons _) HO.out HV2.out).mono ?_; rintro e e1 ⟨rfl, S5⟩; refine ⟨_, rfl, ?_⟩; rw [HF.out]; simp only [forcedS]; have HS5 := Aside0.mk S5.swap; clear S5; obtain ⟨g5, hg5, hx5, hf5, hl5⟩ := HS5.out.intAt 1 rfl v hv0 (by have := HV2.out.len; omega); cases hg5; have HS6 := Aside0.mk (HS5.out.store 1 rfl v.toNat x))
              | ((with_reducible refine gate_builtin (b := .append) (xs := #[.tmp 40, .tmp 45]) rfl ?_); refine Sat.append1 HS6.out 0 rfl rfl (.tmp 40) (.tmp 45) 139 (.agg #[.int .i64 0, .int .i64 0, .int .i64 0]) 24 rfl Try.underlying139 info143 rfl (by decide) (by omega) (v, x, (i : Int)) [.int .i64 i, .int .i64 v, .int .i64 x] rfl (by first | rfl | (rw [World.size_setCell]; rfl)) (kFrc_M _ _ _ v x i) (by have := HSZ2.out; have := HZ2.out; omega) ?_; intro v1 w1 S7; obtain ⟨A7, c7, rfl, hle7, _⟩ := S7.reads 0 rfl; have HS7 := Aside0.mk S7; clear S7 hle7))
            have hPP := HPP.out
            rw [HF.out] at hPP
            refine ⟨⟨i + 1, us2.set v.toNat x, true, st2 ++ [(v, x, (i : Int))], A7, c7, by omega, by go_num, rfl, by simp, ⟨hPP, HV3.out, ?_⟩, ⟨HS7.out⟩⟩, by simp [intOf]; omega⟩
            have h2 := HZ3.out
            have h3 := HSZ2.out
            simp
            omega
      · obtain rfl : i = rules.length := by omega
        have hJ := HJ.out.1
        rw [List.drop_length] at hJ
        simp only [passR, Prod.mk.injEq] at hJ
        obtain ⟨rfl, rfl, rfl, rfl⟩ := hJ
        have HV2 := Aside0.mk HJ.out.2.1
        have HSZ2 := Aside0.mk HJ.out.2.2
        clear HJ
        cases ch2
        · go_wp2
          go_ret2
          have hPK := HPK.out
          simp only [Prod.mk.injEq] at hPK
          obtain ⟨rfl, rfl, rfl⟩ := hPK
          exact ⟨_, _, _, HFIN.out, _, rfl, HS.out, by have := HSZ2.out; have := HZ2.out; omega⟩
        · go_wp2
          go_roundg kp
          case measure => omega
          case rel =>
            have h1 : True → False ∨ zeros us2 < zeros us := by simpa using HZS.out.2.2
            replace h1 := h1 trivial
            have h2 := HZU.out
            simp at h1
            exact ⟨us2, st2, A6, c6, rfl, ⟨HPK.out, by omega, HV2.out, HSZ2.out⟩, HS⟩
end Go.Proofs.Ytmgmilnoeghgfaa

set_option linter.unusedVariables false
set_option linter.unusedSimpArgs false
namespace Go.Proofs.Ytmgmilnoeghgfaa
open Go.RowKit Go.Proofs.YtmgmilnoeghgfaaW.PrintWords Go.Proofs.YtmgmilnoeghgfaaW.PrintLast Go.Proofs.YtmgmilnoeghgfaaW.PrintMore Go.Proofs.Ytmgmilnoeghgfaa.PFnExactSolveRules

/-! ### The search, without Go -/
abbrev Node := Int × Int × Int × Int
def forceN (f : Frc) : Node := (2, f.1, f.2.1, f.2.2)
section
variable {σ : Type}
def tellF (tell : σ → Node → σ) (s : σ) (f : Frc) : σ := tell s (forceN f)
def searchR (rules : List Rule) (budget : Int) (fnd : σ → List Int → σ × Bool) (tell : σ → Node → σ) : Nat → Int → σ → List Int → Bool × Int × σ
  | 0, steps, s, _ => (true, steps, s)
  | d + 1, steps, s, vs =>
    if budget < steps + 1 then (false, steps + 1, s)
    else if 0 ≤ (propR rules (zeros vs + 1) vs []).1 then
      (true, steps + 1, tell ((propR rules (zeros vs + 1) vs []).2.2.foldl (tellF tell) s) (3, 0, 0, (propR rules (zeros vs + 1) vs []).1))
    else if idxOf (· == 0) (propR rules (zeros vs + 1) vs []).2.1 < 0 then
      ((fnd ((propR rules (zeros vs + 1) vs []).2.2.foldl (tellF tell) s) (propR rules (zeros vs + 1) vs []).2.1).2, steps + 1, (fnd ((propR rules (zeros vs + 1) vs []).2.2.foldl (tellF tell) s) (propR rules (zeros vs + 1) vs []).2.1).1)
    else
      if (searchR rules budget fnd tell d (steps + 1) (tell ((propR rules (zeros vs + 1) vs []).2.2.foldl (tellF tell) s) (1, idxOf (· == 0) (propR rules (zeros vs + 1) vs []).2.1, 0, 0)) ((propR rules (zeros vs + 1) vs []).2.1.set (idxOf (· == 0) (propR rules (zeros vs + 1) vs []).2.1).toNat 1)).1 = false then
        searchR rules budget fnd tell d (steps + 1) (tell ((propR rules (zeros vs + 1) vs []).2.2.foldl (tellF tell) s) (1, idxOf (· == 0) (propR rules (zeros vs + 1) vs []).2.1, 0, 0)) ((propR rules (zeros vs + 1) vs []).2.1.set (idxOf (· == 0) (propR rules (zeros vs + 1) vs []).2.1).toNat 1)
      else
        searchR rules budget fnd tell d (searchR rules budget fnd tell d (steps + 1) (tell ((propR rules (zeros vs + 1) vs []).2.2.foldl (tellF tell) s) (1, idxOf (· == 0) (propR rules (zeros vs + 1) vs []).2.1, 0, 0)) ((propR rules (zeros vs + 1) vs []).2.1.set (idxOf (· == 0) (propR rules (zeros vs + 1) vs []).2.1).toNat 1)).2.1
          (searchR rules budget fnd tell d (steps + 1) (tell ((propR rules (zeros vs + 1) vs []).2.2.foldl (tellF tell) s) (1, idxOf (· == 0) (propR rules (zeros vs + 1) vs []).2.1, 0, 0)) ((propR rules (zeros vs + 1) vs []).2.1.set (idxOf (· == 0) (propR rules (zeros vs + 1) vs []).2.1).toNat 1)).2.2
          ((propR rules (zeros vs + 1) vs []).2.1.set (idxOf (· == 0) (propR rules (zeros vs + 1) vs []).2.1).toNat (-1))
end
theorem idxOf_spec {xs : List Int} (h : ¬ idxOf (· == 0) xs < 0) : 0 ≤ idxOf (· == 0) xs ∧ idxOf (· == 0) xs < xs.length ∧ rd xs (idxOf (· == 0) xs) = 0 := by
  unfold idxOf at *
  cases ha : xs.any (· == 0)
  · simp [ha] at h
  · simp only [if_true] at *
    have hk : xs.findIdx (· == 0) < xs.length := by
      rw [List.findIdx_lt_length]
      simpa using ha
    have := List.findIdx_getElem (w := hk)
    refine ⟨by omega, by omega, ?_⟩
    rw [rd_at xs _ hk]
    simpa using this
/-- What propagation leaves. -/
theorem prop_vals {n : Nat} {rules : List Rule} (hok : ∀ r ∈ rules, OkRule r n) : ∀ (k : Nat) (vs : List Int) (st : List Frc), Vals n vs → Vals n (propR rules k vs st).2.1 ∧ zeros (propR rules k vs st).2.1 ≤ zeros vs
  | 0, vs, st, hv => ⟨hv, Nat.le_refl _⟩
  | k + 1, vs, st, hv => by
    rw [propR]
    obtain ⟨⟨b, us1, ch1, st1⟩, hpr⟩ : ∃ x, passR rules 0 vs false st = x := ⟨_, rfl⟩
    have hz := pass_zeros rules 0 vs false st hok hv hpr
    rw [hpr]
    cases b with
    | some i => exact ⟨hz.1, hz.2.1⟩
    | none =>
      cases ch1 with
      | false => exact ⟨hz.1, hz.2.1⟩
      | true =>
        have := prop_vals hok k us1 st1 hz.1
        exact ⟨this.1, by have := this.2; have := hz.2.1; simp only; omega⟩
theorem box5 {w : World} {b : Nat} {x0 x1 x2 x3 x4 : Value} {t : TypeId} {fr : Nat × Nat} (h : w.heap[b]? = some (.cells #[x0, x1, x2, x3, x4] t fr)) :
    w.cell? ⟨b, 0, none⟩ = some x0 ∧ w.cell? ⟨b, 1, none⟩ = some x1 ∧ w.cell? ⟨b, 2, none⟩ = some x2 ∧ w.cell? ⟨b, 3, none⟩ = some x3 ∧ w.cell? ⟨b, 4, none⟩ = some x4 := by
  simp [World.cell?, h]
theorem blk_free {w : World} {b i : Nat} {c : Array Value} {t : TypeId} (h : w.heap[b]? = some (.cells c t (0, 0))) : w.frozen? ⟨b, i, none⟩ = false := by
  simp [World.frozen?, h]

abbrev solB (AR : Option Addr) (len cR : Nat) (budget steps : Int) (gF gT : FuncId) (capsF capsT : Array Value) : Obj :=
  .cells #[.slice AR len cR, .int .i64 budget, .int .i64 steps, .func (.func gF) #[] capsF, .func (.func gT) #[] capsT] 83
abbrev nodeW (nd : Node) : Value := .agg #[.int .i64 nd.1, .int .i64 nd.2.1, .int .i64 nd.2.2.1, .int .i64 nd.2.2.2]
section
variable {σ : Type}
def TellsN (w0 : World) (Res : σ → HP) (tell : σ → Node → σ) (size : σ → Nat) (M : Nat) (gT : FuncId) (capsT : Array Value) : Prop :=
  ∀ (w : World) (s : σ) (nd : Node) (ps : List HP), size s < M → Sat w0 (Res s :: ps) w →
    Calls Try.prog gT (#[nodeW nd] ++ capsT) w fun e w' => e = .returned (.tuple #[]) ∧ Sat w0 (Res (tell s nd) :: ps) w'
def Founds (w0 : World) (Res : σ → HP) (fnd : σ → List Int → σ × Bool) (size : σ → Nat) (M : Nat) (gF : FuncId) (capsF : Array Value) : Prop :=
  ∀ (w : World) (s : σ) (v : Value) (vs : List Int) (ps : List HP), size s < M → Sat w0 (RwI v vs :: Res s :: ps) w →
    Calls Try.prog gF (#[v] ++ capsF) w fun e w' => e = .returned (.bool (fnd s vs).2) ∧ Sat w0 (Res (fnd s vs).1 :: ps) w'
set_option maxRecDepth 100000 in
set_option maxHeartbeats 2000000 in
theorem search1_calls {w0 w : World} {ps : List HP} {Res : σ → HP} {tell : σ → Node → σ} {size : σ → Nat} {M : Nat} {AR : Option Addr} {len cR : Nat} {budget steps : Int} {gF gT : FuncId} {capsF capsT : Array Value} {bb bx : Nat} {t : TypeId}
    (hT : TellsN w0 Res tell size M gT capsT) (hE : Enter Try.prog gT) (i j : Nat) (s : σ) (hs : size s < M) (S : Sat w0 (Res s :: ps) w) (hi : ps[i]? = some (Blk bb (.cells #[.pointer (some ⟨bx, 0, none⟩)] t))) (hj : ps[j]? = some (Blk bx (solB AR len cR budget steps gF gT capsF capsT))) (f : Frc) :
    Calls Try.prog 167 (#[.int .i64 f.1, .int .i64 f.2.1, .int .i64 f.2.2] ++ #[.pointer (some ⟨bb, 0, none⟩)]) w fun e w' => e = .returned (.tuple #[]) ∧ Sat w0 (Res (tellF tell s f) :: ps) w' := by
  have hb := box1 (S.tail.blk i hi)
  obtain ⟨hx0, hx1, hx2, hx3, hx4⟩ := box5 (S.tail.blk j hj)
  have HC := Aside0.mk (hT w s (forceN f) ps hs S)
  obtain ⟨v, x, q⟩ := f
  show Calls Try.prog 167 #[.int .i64 v, .int .i64 x, .int .i64 q, .pointer (some ⟨bb, 0, none⟩)] w _
  clear S hT
  go_enter Try.func167, Try.ntmps167
  go_wp2_with (((with_reducible refine gate_dst (N := 15) rfl ?_); refine goesV (t := 10) (args := #[nodeW (2, v, x, q)] ++ capsT) rfl rfl rfl rfl (by (try simp only [List.map_toArray, List.map_cons, List.map_nil]); rfl) hE ?_; refine (HC.out).mono ?_; rintro e e1 ⟨rfl, S2⟩; refine ⟨_, rfl, ?_⟩; have HS2 := Aside0.mk S2; clear S2))
  go_end0
  exact ⟨rfl, HS2.out⟩

structure Cfg (σ : Type) where
  rules : List Rule
  n : Nat
  budget : Int
  fnd : σ → List Int → σ × Bool
  tell : σ → Node → σ
  size : σ → Nat
  M : Nat
structure Cfg.Ok (C : Cfg σ) : Prop where
  rule : ∀ r ∈ C.rules, OkRule r C.n
  small : C.n ≤ 200
  bud : 1 ≤ C.budget ∧ C.budget ≤ 5000
  tsz : ∀ s nd, C.size (C.tell s nd) ≤ C.size s + 1
  fsz : ∀ s vs, C.size (C.fnd s vs).1 ≤ C.size s + 1
/-- There is room for what is still to be told. -/
def Cfg.Room (C : Cfg σ) (steps : Int) (s : σ) : Prop := (C.size s : Int) + 202 * (C.budget + 1 - steps) ≤ C.M
abbrev Cfg.search (C : Cfg σ) (d : Nat) (steps : Int) (s : σ) (vs : List Int) : Bool × Int × σ := searchR C.rules C.budget C.fnd C.tell d steps s vs

abbrev litB : Obj := .cells #[.int .i64 1, .int .i64 (-1)] 2
abbrev ptrB (bx : Nat) : Obj := .cells #[.pointer (some ⟨bx, 0, none⟩)] 76
/-- Where the search goes on, its steps are within the budget, and there is room. -/
def Cfg.Fine (C : Cfg σ) (r : Bool × Int × σ) : Prop := r.1 = true → (0 ≤ r.2.1 ∧ r.2.1 ≤ C.budget) ∧ C.Room r.2.1 r.2.2
def SearchOk (w0 : World) (C : Cfg σ) (Res : σ → HP) (gF gT : FuncId) (capsF capsT : Array Value) (AR : Option Addr) (cR bx : Nat) (sh : Nat → Sh) (d : Nat) : Prop :=
  ∀ (w : World) (R : List HP) (A : Option Addr) (c : Nat) (vs : List Int) (steps : Int) (s : σ),
    Sat w0 (RwI (.slice A C.n c) vs :: Blk bx (solB AR C.rules.length cR C.budget steps gF gT capsF capsT) :: Res s :: R) w → ReadsRules w0 R AR C.rules sh → Vals C.n vs → zeros vs < d → 0 ≤ steps ∧ steps ≤ C.budget → C.Room steps s →
    Calls Try.prog 143 #[.pointer (some ⟨bx, 0, none⟩), .slice A C.n c] w fun e w' => e = .returned (.bool (C.search d steps s vs).1) ∧
      Sat w0 (Blk bx (solB AR C.rules.length cR C.budget (C.search d steps s vs).2.1 gF gT capsF capsT) :: Res (C.search d steps s vs).2.2 :: R) w' ∧
      C.Fine (C.search d steps s vs)
theorem room_fold (C : Cfg σ) (hok : C.Ok) : ∀ (st : List Frc) (s : σ), C.size (st.foldl (tellF C.tell) s) ≤ C.size s + st.length
  | [], s => by simp
  | f :: st, s => by
    have h1 := room_fold C hok st (tellF C.tell s f)
    have h2 := hok.tsz s (forceN f)
    simp only [List.foldl_cons, List.length_cons]
    unfold tellF at *
    omega
theorem clone_calls' {w0 w : World} {R : List HP} (S : Sat w0 R w) (A : Option Addr) (n c : Nat) (xs : List Int) (hr : (Kd.int .i64).C w A n xs) (hl : n * 8 ≤ 140737488355328) :
    Calls Try.prog 120 #[.slice A n c] w fun e w' => ∃ v, e = .returned v ∧ Sat w0 (RwI v xs :: R) w' := by
  obtain rfl := Kd.C_len hr
  exact clone_calls S A c xs hr hl
theorem index0_calls' (A : Option Addr) (n c : Nat) (xs : List Int) (w : World) (hr : (Kd.int .i64).C w A n xs) :
    Calls Try.prog 168 #[.slice A n c, .int .i64 0] w fun e w' => e = .returned (.int .i64 (idxOf (· == 0) xs)) ∧ w = w' := by
  obtain rfl := Kd.C_len hr
  exact index0_calls A c xs w hr
theorem Sat.readsN {w0 w : World} {ps : List HP} (S : Sat w0 ps w) (i : Nat) {A : Option Addr} {n c : Nat} {xs : List Int} (hp : ps[i]? = some (RwI (.slice A n c) xs)) : (Kd.int .i64).C w A n xs := by
  have h := S.readsAt i hp
  have := h.2.2
  rw [← h.1] at this
  exact this
/-- Two pieces lie in different blocks. -/
theorem Sat.ne_blk {w0 w : World} {ps : List HP} (S : Sat w0 ps w) (i j : Nat) (hij : i ≠ j) {g n c b : Nat} {xs : List Int} {o : Obj} (hp : ps[i]? = some (RwI (.slice (some ⟨g, 0, none⟩) n c) xs)) (hq : ps[j]? = some (Blk b o)) : ¬ g = b ∧ ¬ b = g := by
  obtain ⟨_, ok, hl, _, hd⟩ := S
  have h1 : ok i g := ((hl i _ hp).now : (Kd.int .i64).R 2 w 0 (ok i) _ xs).1 g rfl
  have h2 : ok j b := ((hl j _ hq).now : Blk b o w (ok j)).1
  exact ⟨fun e => hij (hd i j g h1 (e ▸ h2)), fun e => hij (hd i j g h1 (e ▸ h2))⟩
theorem search_unfold (C : Cfg σ) (d : Nat) (steps : Int) (s : σ) (vs : List Int) {bad : Int} {us : List Int} {st : List Frc} (hb : ¬ C.budget < steps + 1) (hp : propR C.rules (zeros vs + 1) vs [] = (bad, us, st)) :
    C.search (d + 1) steps s vs = if 0 ≤ bad then (true, steps + 1, C.tell (st.foldl (tellF C.tell) s) (3, 0, 0, bad))
      else if idxOf (· == 0) us < 0 then ((C.fnd (st.foldl (tellF C.tell) s) us).2, steps + 1, (C.fnd (st.foldl (tellF C.tell) s) us).1)
      else if (C.search d (steps + 1) (C.tell (st.foldl (tellF C.tell) s) (1, idxOf (· == 0) us, 0, 0)) (us.set (idxOf (· == 0) us).toNat 1)).1 = false then C.search d (steps + 1) (C.tell (st.foldl (tellF C.tell) s) (1, idxOf (· == 0) us, 0, 0)) (us.set (idxOf (· == 0) us).toNat 1)
      else C.search d (C.search d (steps + 1) (C.tell (st.foldl (tellF C.tell) s) (1, idxOf (· == 0) us, 0, 0)) (us.set (idxOf (· == 0) us).toNat 1)).2.1 (C.search d (steps + 1) (C.tell (st.foldl (tellF C.tell) s) (1, idxOf (· == 0) us, 0, 0)) (us.set (idxOf (· == 0) us).toNat 1)).2.2 (us.set (idxOf (· == 0) us).toNat (-1)) := by
  simp only [Cfg.search]
  rw [searchR, if_neg hb, hp]
set_option maxRecDepth 100000 in
set_option maxHeartbeats 8000000 in
theorem search_step {w0 : World} {C : Cfg σ} {Res : σ → HP} {gF gT : FuncId} {capsF capsT : Array Value} {AR : Option Addr} {cR bx : Nat} {sh : Nat → Sh} (hok : C.Ok) (hT : TellsN w0 Res C.tell C.size C.M gT capsT) (hF : Founds w0 Res C.fnd C.size C.M gF capsF) (hEF : Enter Try.prog gF) (hET : Enter Try.prog gT)
    (d : Nat) (ih : SearchOk w0 C Res gF gT capsF capsT AR cR bx sh d) : SearchOk w0 C Res gF gT capsF capsT AR cR bx sh (d + 1) := by
  intro w R A c vs steps s S hrd hv hzd hst hroom
  have hr5 := hok.bud
  have hsa := hst.1
  have hsb := hst.2
  have hba := hr5.1
  have hbb := hr5.2
  obtain ⟨hx0, hx1, hx2, hx3, hx4⟩ := box5 (S.blk 1 rfl)
  have hfx := fun i => blk_free (i := i) (S.blk 1 rfl)
  have hf2 := hfx 2
  clear hfx
  have HS1 : Aside0 (Sat w0 (Blk w.heap.size (.cells #[.pointer (some ⟨bx, 0, none⟩)] 76) :: RwI (.slice A C.n c) vs :: Blk bx (solB AR C.rules.length cR C.budget (steps + 1) gF gT capsF capsT) :: Res s :: R) ((w.setCell ⟨bx, 2, none⟩ (.int .i64 (steps + 1))).alloc (.cells #[.pointer (some ⟨bx, 0, none⟩)] 76))) :=
    ⟨by simpa using (S.setCell 1 rfl 2 (.int .i64 (steps + 1))).alloc (.cells #[.pointer (some ⟨bx, 0, none⟩)] 76)⟩
  have hbl : bx < w.heap.size := lt_of_block (S.blk 1 rfl)
  have HIH := Aside0.mk ih
  have HOK := Aside0.mk hok
  have HT := Aside0.mk hT
  have HF := Aside0.mk hF
  have HRD := Aside0.mk hrd
  have HV := Aside0.mk hv
  have HZD := Aside0.mk hzd
  have HRM := Aside0.mk hroom
  clear S ih hok hT hF hrd hv hzd hroom hst hr5
  by_cases hover : C.budget < steps + 1
  · have hd : decide (C.budget < steps + 1) = true := decide_eq_true hover
    have HFIN : Aside0 (C.search (d + 1) steps s vs = (false, steps + 1, s)) := ⟨by simp only [Cfg.search, searchR]; rw [if_pos hover]⟩
    rw [HFIN.out]
    clear hover
    go_enter Try.func143, Try.ntmps143
    go_wp2
    go_quiet (fail)
    go_wp2
    go_ret
    exact ⟨rfl, (HS1.out.drewN nq).tail.tail, fun h => by simp at h⟩
  · have hd : decide (C.budget < steps + 1) = false := decide_eq_false hover
    obtain ⟨⟨bad, us, st⟩, hp0⟩ : ∃ x, propR C.rules (zeros vs + 1) vs [] = x := ⟨_, rfl⟩
    have hun := search_unfold C d steps s vs hover hp0
    have hpv := prop_vals HOK.out.rule (zeros vs + 1) vs [] HV.out
    rw [hp0] at hpv
    have HPV := Aside0.mk hpv
    have HP0 := Aside0.mk hp0
    have hz2 : zeros vs ≤ 200 := by
      have h1 : zeros vs ≤ vs.length := List.countP_le_length
      have h2 := HV.out.len
      have h3 := HOK.out.small
      omega
    have HM1 : Aside0 (C.size s + zeros vs ≤ C.M) := ⟨by have h := HRM.out; unfold Cfg.Room at h; omega⟩
    have HZ2 := Aside0.mk hz2
    have HOV : Aside0 (steps + 1 ≤ C.budget) := ⟨by omega⟩
    clear hpv hp0 hz2 hover
    by_cases hbad : 0 ≤ bad
    · have hd2 : decide (0 ≤ bad) = true := decide_eq_true hbad
      rw [if_pos hbad] at hun
      rw [hun]
      clear hun hbad
      go_enter Try.func143, Try.ntmps143
      go_wp2
      go_quiet (fail)
      go_wp2_with (first
        | ((with_reducible refine gate_dst (N := 32) rfl ?_); refine goesF (f := 166) (args := #[.slice AR C.rules.length cR, .slice A C.n c, .func (.func 167) #[] #[.pointer (some ⟨w.heap.size, 0, none⟩)]]) rfl rfl rfl (by (try simp only [List.map_toArray, List.map_cons, List.map_nil]); rfl) (Enter.mk Try.func166 (by kernel_rfl) rfl) ?_; refine (propagate_calls Res (tellF C.tell) C.size C.M 167 _ s (((HS1.out.drewN nq).front 3 rfl).front 2 rfl) ((HRD.out.cons _).cons _) HOK.out.rule HV.out (Enter.mk Try.func167 (by kernel_rfl) rfl) (fun w s v vs f hs S => search1_calls HT.out hET 1 2 s hs S rfl rfl f) (fun s f => HOK.out.tsz s (forceN f)) HM1.out (zeros vs + 1) (Nat.lt_succ_self _)).mono ?_; rintro e e1 ⟨bad2, us2, st2, hp2, rfl, S5, hsz5⟩; refine ⟨_, rfl, ?_⟩; cases HP0.out.symm.trans hp2; clear hp2; have HZ5 := Aside0.mk hsz5; clear hsz5; have HS5 := Aside0.mk S5; clear S5; have hb5 := box1 (HS5.out.blk 2 rfl); obtain ⟨hy0, hy1, hy2, hy3, hy4⟩ := box5 (HS5.out.blk 3 rfl))
        | ((with_reducible refine gate_dst (N := 41) rfl ?_); refine goesV (t := 38) (args := #[nodeW (3, 0, 0, bad)] ++ capsT) rfl rfl rfl rfl (by (try simp only [List.map_toArray, List.map_cons, List.map_nil]); rfl) hET ?_; refine (HT.out _ _ (3, 0, 0, bad) _ (by have h := HRM.out; have h2 := HZ5.out; have h3 := HZ2.out; unfold Cfg.Room at h; omega) HS5.out.swap).mono ?_; rintro e e1 ⟨rfl, S6⟩; refine ⟨_, rfl, ?_⟩; have HS6 := Aside0.mk S6; clear S6))
      go_ret
      refine ⟨rfl, ((HS6.out.swap.tail).swap.tail).swap, fun _ => ⟨⟨show (0 : Int) ≤ steps + 1 by omega, HOV.out⟩, ?_⟩⟩
      have h := HRM.out
      have h2 := HZ5.out
      have h3 := HZ2.out
      have h4 := HOK.out.tsz (st.foldl (tellF C.tell) s) (3, 0, 0, bad)
      show C.Room (steps + 1) (C.tell (st.foldl (tellF C.tell) s) (3, 0, 0, bad))
      unfold Cfg.Room at *
      omega
    · have hd2 : decide (0 ≤ bad) = false := decide_eq_false hbad
      rw [if_neg hbad] at hun
      clear hbad
      by_cases hix : idxOf (· == 0) us < 0
      · have hd3 : decide (idxOf (· == 0) us < 0) = true := decide_eq_true hix
        rw [if_pos hix] at hun
        rw [hun]
        clear hun hix
        go_enter Try.func143, Try.ntmps143
        go_wp2
        go_quiet (fail)
        go_wp2_with (first
          | ((with_reducible refine gate_dst (N := 32) rfl ?_); refine goesF (f := 166) (args := #[.slice AR C.rules.length cR, .slice A C.n c, .func (.func 167) #[] #[.pointer (some ⟨w.heap.size, 0, none⟩)]]) rfl rfl rfl (by (try simp only [List.map_toArray, List.map_cons, List.map_nil]); rfl) (Enter.mk Try.func166 (by kernel_rfl) rfl) ?_; refine (propagate_calls Res (tellF C.tell) C.size C.M 167 _ s (((HS1.out.drewN nq).front 3 rfl).front 2 rfl) ((HRD.out.cons _).cons _) HOK.out.rule HV.out (Enter.mk Try.func167 (by kernel_rfl) rfl) (fun w s v vs f hs S => search1_calls HT.out hET 1 2 s hs S rfl rfl f) (fun s f => HOK.out.tsz s (forceN f)) HM1.out (zeros vs + 1) (Nat.lt_succ_self _)).mono ?_; rintro e e1 ⟨bad2, us2, st2, hp2, rfl, S5, hsz5⟩; refine ⟨_, rfl, ?_⟩; cases HP0.out.symm.trans hp2; clear hp2; have HZ5 := Aside0.mk hsz5; clear hsz5; have HS5 := Aside0.mk S5; clear S5; have hb5 := box1 (HS5.out.blk 2 rfl); obtain ⟨hy0, hy1, hy2, hy3, hy4⟩ := box5 (HS5.out.blk 3 rfl))
          | ((with_reducible refine gate_dst (N := 43) rfl ?_); refine goesF (f := 168) (args := #[.slice A C.n c, .int .i64 0]) rfl rfl rfl (by (try simp only [List.map_toArray, List.map_cons, List.map_nil]); rfl) (Enter.mk Try.func168 (by kernel_rfl) rfl) ?_; refine (index0_calls' A C.n c us _ (HS5.out.readsN 0 rfl)).mono ?_; rintro e e1 ⟨rfl, rfl⟩; refine ⟨_, rfl, ?_⟩)
          | ((with_reducible refine gate_dst (N := 51) rfl ?_); refine goesV (t := 49) (args := #[.slice A C.n c] ++ capsF) rfl rfl rfl rfl (by (try simp only [List.map_toArray, List.map_cons, List.map_nil]); rfl) hEF ?_; refine (HF.out _ _ _ _ _ (by have h := HRM.out; have h2 := HZ5.out; have h3 := HZ2.out; unfold Cfg.Room at h; omega) HS5.out).mono ?_; rintro e e1 ⟨rfl, S6⟩; refine ⟨_, rfl, ?_⟩; have HS6 := Aside0.mk S6; clear S6))
        go_ret
        refine ⟨rfl, (HS6.out.swap.tail).swap, fun _ => ⟨⟨show (0 : Int) ≤ steps + 1 by omega, HOV.out⟩, ?_⟩⟩
        have h := HRM.out
        have h2 := HZ5.out
        have h3 := HZ2.out
        have h4 := HOK.out.fsz (st.foldl (tellF C.tell) s) us
        show C.Room (steps + 1) (C.fnd (st.foldl (tellF C.tell) s) us).1
        unfold Cfg.Room at *
        omega
      · have hd3 : decide (idxOf (· == 0) us < 0) = false := decide_eq_false hix
        rw [if_neg hix] at hun
        have hsp := idxOf_spec hix
        clear hix
        obtain ⟨ix, hixe⟩ : ∃ ix, ix = idxOf (· == 0) us := ⟨_, rfl⟩
        rw [← hixe] at hd3 hun hsp
        have HIX := Aside0.mk hixe
        clear hixe
        have hi0 := hsp.1
        have HIZ := Aside0.mk hsp.2
        clear hsp
        go_enter Try.func143, Try.ntmps143
        go_wp2
        go_quiet (fail)
        go_wp2_with (first
          | ((with_reducible refine gate_dst (N := 32) rfl ?_); refine goesF (f := 166) (args := #[.slice AR C.rules.length cR, .slice A C.n c, .func (.func 167) #[] #[.pointer (some ⟨w.heap.size, 0, none⟩)]]) rfl rfl rfl (by (try simp only [List.map_toArray, List.map_cons, List.map_nil]); rfl) (Enter.mk Try.func166 (by kernel_rfl) rfl) ?_; refine (propagate_calls Res (tellF C.tell) C.size C.M 167 _ s (((HS1.out.drewN nq).front 3 rfl).front 2 rfl) ((HRD.out.cons _).cons _) HOK.out.rule HV.out (Enter.mk Try.func167 (by kernel_rfl) rfl) (fun w s v vs f hs S => search1_calls HT.out hET 1 2 s hs S rfl rfl f) (fun s f => HOK.out.tsz s (forceN f)) HM1.out (zeros vs + 1) (Nat.lt_succ_self _)).mono ?_; rintro e e1 ⟨bad2, us2, st2, hp2, rfl, S5, hsz5⟩; refine ⟨_, rfl, ?_⟩; cases HP0.out.symm.trans hp2; clear hp2; have HZ5 := Aside0.mk hsz5; clear hsz5; have HS5 := Aside0.mk S5; clear S5; have hb5 := box1 (HS5.out.blk 2 rfl); obtain ⟨hy0, hy1, hy2, hy3, hy4⟩ := box5 (HS5.out.blk 3 rfl))
          | ((with_reducible refine gate_dst (N := 43) rfl ?_); refine goesF (f := 168) (args := #[.slice A C.n c, .int .i64 0]) rfl rfl rfl (by (try simp only [List.map_toArray, List.map_cons, List.map_nil]); rfl) (Enter.mk Try.func168 (by kernel_rfl) rfl) ?_; refine (index0_calls' A C.n c us _ (HS5.out.readsN 0 rfl)).mono ?_; rintro e e1 ⟨rfl, rfl⟩; refine ⟨_, rfl, ?_⟩; rw [← HIX.out])
          | ((with_reducible refine gate_dst (N := 58) rfl ?_); refine goesV (t := 55) (args := #[nodeW (1, ix, 0, 0)] ++ capsT) rfl rfl rfl rfl (by (try simp only [List.map_toArray, List.map_cons, List.map_nil]); rfl) hET ?_; refine (HT.out _ _ (1, ix, 0, 0) _ (by have h := HRM.out; have h2 := HZ5.out; have h3 := HZ2.out; unfold Cfg.Room at h; omega) HS5.out.swap).mono ?_; rintro e e1 ⟨rfl, S6⟩; refine ⟨_, rfl, ?_⟩; have HS6 := Aside0.mk S6; clear S6))
        have HS7 := Aside0.mk ((((HS6.out.front 3 rfl).front 3 rfl).front 3 rfl).alloc litB)
        clear HS6
        generalize e1.heap.size = b4 at *
        have hixn : ix < (C.n : Int) := by have h1 := HIZ.out.1; have h2 := HPV.out.1.len; omega
        have HVU := Aside0.mk HPV.out.1
        have HZU : Aside0 (zeros us < d + 1) := ⟨by have := HPV.out.2; have := HZD.out; omega⟩
        have HR2 : Aside0 (C.Room (steps + 1) (C.tell (st.foldl (tellF C.tell) s) (1, ix, 0, 0))) := ⟨by
          have h := HRM.out
          have h2 := HZ5.out
          have h3 := HZ2.out
          have h4 := HOK.out.tsz (st.foldl (tellF C.tell) s) (1, ix, 0, 0)
          unfold Cfg.Room at *
          omega⟩
        clear hb5 hy0 hy1 hy2 hy3 hy4 HS5
        obtain ⟨s2, hs2⟩ : ∃ s2, s2 = C.tell (st.foldl (tellF C.tell) s) (1, ix, 0, 0) := ⟨_, rfl⟩
        rw [← hs2] at hun HR2 HS7
        clear hs2
        have HUN := Aside0.mk hun
        clear hun
        go_loopw [8, 9, 61] (fun _ _ v61 wr => ∃ (k : Nat) (t : Int) (q : σ), k ≤ 2 ∧ v61 = .int .i64 k ∧
          Aside0 ((k = 0 → t = steps + 1 ∧ q = s2) ∧ (k = 1 → C.search d (steps + 1) s2 (us.set ix.toNat 1) = (true, t, q)) ∧ (k = 2 → C.search (d + 1) steps s vs = (true, t, q))) ∧
          Aside0 ((0 ≤ t ∧ t ≤ C.budget) ∧ C.Room t q) ∧
          Aside0 (Sat w0 (Blk b4 litB :: RwI (.slice A C.n c) us :: Blk w.heap.size (ptrB bx) :: Blk bx (solB AR C.rules.length cR C.budget t gF gT capsF capsT) :: Res q :: R) wr)) (fun _ _ v61 _ => 2 - (intOf v61).toNat)
        case atStart => exact ⟨0, steps + 1, s2, by omega, rfl, ⟨fun _ => ⟨rfl, rfl⟩, fun h => by omega, fun h => by omega⟩, ⟨⟨by omega, HOV.out⟩, HR2.out⟩, HS7⟩
        case round =>
        clear HS7
        obtain ⟨k, t, q, hk, rfl, HST, HTB, HS⟩ := hrel
        obtain ⟨hl0, hl1⟩ := box2 (HS.out.blk 0 rfl)
        by_cases hlt : k < 2
        · rcases (show k = 0 ∨ k = 1 by omega) with rfl | rfl
          · have hst0 := HST.out.1 rfl
            obtain ⟨rfl, rfl⟩ := hst0
            obtain ⟨r, hr⟩ : ∃ r, r = C.search d (steps + 1) q (us.set ix.toNat 1) := ⟨_, rfl⟩
            have HNO : Aside0 (r.1 = false → C.search (d + 1) steps s vs = r) := ⟨fun h => by rw [HUN.out, ← hr, if_pos h]⟩
            have HYES : Aside0 (r.1 = true → C.search d (steps + 1) q (us.set ix.toNat 1) = (true, r.2.1, r.2.2)) := ⟨fun h => by rw [← hr, ← h]⟩
            have HRE := Aside0.mk hr
            have HZN : Aside0 (zeros (us.set ix.toNat (1)) < d) := ⟨by
              have h := zeros_set (vs := us) (k := ix.toNat) (x := 1) (by have := HIZ.out.1; omega) (by have h2 := HIZ.out.2; have h1 := HIZ.out.1; rw [show ix = ((ix.toNat : Nat) : Int) by omega, rd_at us ix.toNat (by omega)] at h2; exact h2) (by decide)
              have := HZU.out
              omega⟩
            clear hr
            cases h1 : r.1
            · have HFW := Aside0.mk (HNO.out h1)
              clear HNO HYES HUN
              have HR1 := Aside0.mk h1
              clear h1
              go_wp2_with (first
              | ((with_reducible refine gate_dst (N := 66) rfl ?_); refine goesF (f := 120) (args := #[.slice A C.n c]) rfl rfl rfl (by (try simp only [List.map_toArray, List.map_cons, List.map_nil]); rfl) (Enter.mk Try.func120 (by kernel_rfl) rfl) ?_; refine (clone_calls' HS.out A C.n c us (HS.out.readsN 1 rfl) (by have := HVU.out.len; have := HOK.out.small; omega)).mono ?_; rintro e e1 ⟨v9, rfl, S8⟩; refine ⟨_, rfl, ?_⟩; obtain ⟨A9, c9, rfl, hle9, hC9⟩ := S8.reads 0 rfl; rw [HVU.out.len] at S8; obtain ⟨g9, hg9, hx9, hf9, hl9⟩ := S8.intAt 0 rfl ix hi0 HIZ.out.1; cases hg9; obtain ⟨hne1, hne2⟩ := S8.ne_blk 0 3 (by decide) rfl rfl; have hb9 := box1 (S8.blk 3 rfl); have HS9 := Aside0.mk (((((S8.store 0 rfl ix.toNat (1)).front 5 rfl).front 5 rfl).front 2 rfl)); clear S8 hle9 hC9; rw [HVU.out.len])
              | ((with_reducible refine gate_dst (N := 73) rfl ?_); refine goesF (f := 143) (args := #[.pointer (some ⟨bx, 0, none⟩), .slice (some ⟨g9, 0, none⟩) C.n c9]) rfl rfl rfl (by (try simp only [List.map_toArray, List.map_cons, List.map_nil]); rfl) (Enter.mk Try.func143 (by kernel_rfl) rfl) ?_; refine (HIH.out _ _ _ c9 (us.set ix.toNat (1)) (steps + 1) q HS9.out (((HRD.out.cons _).cons _).cons _) (HVU.out.set ix.toNat (by simp [unit3])) HZN.out HTB.out.1 HTB.out.2).mono ?_; rintro e e1 ⟨rfl, S11, hfine⟩; refine ⟨_, rfl, ?_⟩; rw [← HRE.out, HR1.out]; rw [← HRE.out] at S11 hfine; have HS11 := Aside0.mk S11; have HFI := Aside0.mk hfine; clear S11 hfine))
              go_ret
              rw [HFW.out]
              exact ⟨by rw [HR1.out]; rfl, ((HS11.out.front 2 rfl).tail.front 2 rfl).tail.front 2 rfl |>.tail, HFI.out⟩
            · have HST2 : Aside0 (((1 : Nat) = 0 → r.2.1 = steps + 1 ∧ r.2.2 = q) ∧ ((1 : Nat) = 1 → C.search d (steps + 1) q (us.set ix.toNat 1) = (true, r.2.1, r.2.2)) ∧ ((1 : Nat) = 2 → C.search (d + 1) steps s vs = (true, r.2.1, r.2.2))) := ⟨⟨fun h => by omega, fun _ => HYES.out h1, fun h => by omega⟩⟩
              clear HNO HYES
              have HR1 := Aside0.mk h1
              clear h1
              go_wp2_with (first
              | ((with_reducible refine gate_dst (N := 66) rfl ?_); refine goesF (f := 120) (args := #[.slice A C.n c]) rfl rfl rfl (by (try simp only [List.map_toArray, List.map_cons, List.map_nil]); rfl) (Enter.mk Try.func120 (by kernel_rfl) rfl) ?_; refine (clone_calls' HS.out A C.n c us (HS.out.readsN 1 rfl) (by have := HVU.out.len; have := HOK.out.small; omega)).mono ?_; rintro e e1 ⟨v9, rfl, S8⟩; refine ⟨_, rfl, ?_⟩; obtain ⟨A9, c9, rfl, hle9, hC9⟩ := S8.reads 0 rfl; rw [HVU.out.len] at S8; obtain ⟨g9, hg9, hx9, hf9, hl9⟩ := S8.intAt 0 rfl ix hi0 HIZ.out.1; cases hg9; obtain ⟨hne1, hne2⟩ := S8.ne_blk 0 3 (by decide) rfl rfl; have hb9 := box1 (S8.blk 3 rfl); have HS9 := Aside0.mk (((((S8.store 0 rfl ix.toNat (1)).front 5 rfl).front 5 rfl).front 2 rfl)); clear S8 hle9 hC9; rw [HVU.out.len])
              | ((with_reducible refine gate_dst (N := 73) rfl ?_); refine goesF (f := 143) (args := #[.pointer (some ⟨bx, 0, none⟩), .slice (some ⟨g9, 0, none⟩) C.n c9]) rfl rfl rfl (by (try simp only [List.map_toArray, List.map_cons, List.map_nil]); rfl) (Enter.mk Try.func143 (by kernel_rfl) rfl) ?_; refine (HIH.out _ _ _ c9 (us.set ix.toNat (1)) (steps + 1) q HS9.out (((HRD.out.cons _).cons _).cons _) (HVU.out.set ix.toNat (by simp [unit3])) HZN.out HTB.out.1 HTB.out.2).mono ?_; rintro e e1 ⟨rfl, S11, hfine⟩; refine ⟨_, rfl, ?_⟩; rw [← HRE.out, HR1.out]; rw [← HRE.out] at S11 hfine; have HS11 := Aside0.mk S11; have HFI := Aside0.mk hfine; clear S11 hfine))
              exact ⟨⟨1, r.2.1, r.2.2, by omega, by go_num, HST2, ⟨HFI.out HR1.out⟩, ⟨((HS11.out.front 4 rfl).front 4 rfl).front 4 rfl⟩⟩, by simp [intOf]⟩
          · have hst0 := HST.out.2.1 rfl
            obtain ⟨r, hr⟩ : ∃ r, r = C.search d t q (us.set ix.toNat (-1)) := ⟨_, rfl⟩
            have hun2 := HUN.out
            rw [hst0] at hun2
            simp only [Bool.true_eq_false, if_false] at hun2
            have HNO : Aside0 (r.1 = false → C.search (d + 1) steps s vs = r) := ⟨fun h => by rw [hun2, ← hr]⟩
            have HYES : Aside0 (r.1 = true → C.search (d + 1) steps s vs = (true, r.2.1, r.2.2)) := ⟨fun h => by rw [hun2, ← hr, ← h]⟩
            clear hst0 hun2
            have HRE := Aside0.mk hr
            have HZN : Aside0 (zeros (us.set ix.toNat (-1)) < d) := ⟨by
              have h := zeros_set (vs := us) (k := ix.toNat) (x := -1) (by have := HIZ.out.1; omega) (by have h2 := HIZ.out.2; have h1 := HIZ.out.1; rw [show ix = ((ix.toNat : Nat) : Int) by omega, rd_at us ix.toNat (by omega)] at h2; exact h2) (by decide)
              have := HZU.out
              omega⟩
            clear hr
            cases h1 : r.1
            · have HFW := Aside0.mk (HNO.out h1)
              clear HNO HYES HUN
              have HR1 := Aside0.mk h1
              clear h1
              go_wp2_with (first
              | ((with_reducible refine gate_dst (N := 66) rfl ?_); refine goesF (f := 120) (args := #[.slice A C.n c]) rfl rfl rfl (by (try simp only [List.map_toArray, List.map_cons, List.map_nil]); rfl) (Enter.mk Try.func120 (by kernel_rfl) rfl) ?_; refine (clone_calls' HS.out A C.n c us (HS.out.readsN 1 rfl) (by have := HVU.out.len; have := HOK.out.small; omega)).mono ?_; rintro e e1 ⟨v9, rfl, S8⟩; refine ⟨_, rfl, ?_⟩; obtain ⟨A9, c9, rfl, hle9, hC9⟩ := S8.reads 0 rfl; rw [HVU.out.len] at S8; obtain ⟨g9, hg9, hx9, hf9, hl9⟩ := S8.intAt 0 rfl ix hi0 HIZ.out.1; cases hg9; obtain ⟨hne1, hne2⟩ := S8.ne_blk 0 3 (by decide) rfl rfl; have hb9 := box1 (S8.blk 3 rfl); have HS9 := Aside0.mk (((((S8.store 0 rfl ix.toNat (-1)).front 5 rfl).front 5 rfl).front 2 rfl)); clear S8 hle9 hC9; rw [HVU.out.len])
              | ((with_reducible refine gate_dst (N := 73) rfl ?_); refine goesF (f := 143) (args := #[.pointer (some ⟨bx, 0, none⟩), .slice (some ⟨g9, 0, none⟩) C.n c9]) rfl rfl rfl (by (try simp only [List.map_toArray, List.map_cons, List.map_nil]); rfl) (Enter.mk Try.func143 (by kernel_rfl) rfl) ?_; refine (HIH.out _ _ _ c9 (us.set ix.toNat (-1)) t q HS9.out (((HRD.out.cons _).cons _).cons _) (HVU.out.set ix.toNat (by simp [unit3])) HZN.out HTB.out.1 HTB.out.2).mono ?_; rintro e e1 ⟨rfl, S11, hfine⟩; refine ⟨_, rfl, ?_⟩; rw [← HRE.out, HR1.out]; rw [← HRE.out] at S11 hfine; have HS11 := Aside0.mk S11; have HFI := Aside0.mk hfine; clear S11 hfine))
              go_ret
              rw [HFW.out]
              exact ⟨by rw [HR1.out]; rfl, ((HS11.out.front 2 rfl).tail.front 2 rfl).tail.front 2 rfl |>.tail, HFI.out⟩
            · have HST2 : Aside0 (((2 : Nat) = 0 → r.2.1 = steps + 1 ∧ r.2.2 = s2) ∧ ((2 : Nat) = 1 → C.search d (steps + 1) s2 (us.set ix.toNat 1) = (true, r.2.1, r.2.2)) ∧ ((2 : Nat) = 2 → C.search (d + 1) steps s vs = (true, r.2.1, r.2.2))) := ⟨⟨fun h => by omega, fun h => by omega, fun _ => HYES.out h1⟩⟩
              clear HNO HYES
              have HR1 := Aside0.mk h1
              clear h1
              go_wp2_with (first
              | ((with_reducible refine gate_dst (N := 66) rfl ?_); refine goesF (f := 120) (args := #[.slice A C.n c]) rfl rfl rfl (by (try simp only [List.map_toArray, List.map_cons, List.map_nil]); rfl) (Enter.mk Try.func120 (by kernel_rfl) rfl) ?_; refine (clone_calls' HS.out A C.n c us (HS.out.readsN 1 rfl) (by have := HVU.out.len; have := HOK.out.small; omega)).mono ?_; rintro e e1 ⟨v9, rfl, S8⟩; refine ⟨_, rfl, ?_⟩; obtain ⟨A9, c9, rfl, hle9, hC9⟩ := S8.reads 0 rfl; rw [HVU.out.len] at S8; obtain ⟨g9, hg9, hx9, hf9, hl9⟩ := S8.intAt 0 rfl ix hi0 HIZ.out.1; cases hg9; obtain ⟨hne1, hne2⟩ := S8.ne_blk 0 3 (by decide) rfl rfl; have hb9 := box1 (S8.blk 3 rfl); have HS9 := Aside0.mk (((((S8.store 0 rfl ix.toNat (-1)).front 5 rfl).front 5 rfl).front 2 rfl)); clear S8 hle9 hC9; rw [HVU.out.len])
              | ((with_reducible refine gate_dst (N := 73) rfl ?_); refine goesF (f := 143) (args := #[.pointer (some ⟨bx, 0, none⟩), .slice (some ⟨g9, 0, none⟩) C.n c9]) rfl rfl rfl (by (try simp only [List.map_toArray, List.map_cons, List.map_nil]); rfl) (Enter.mk Try.func143 (by kernel_rfl) rfl) ?_; refine (HIH.out _ _ _ c9 (us.set ix.toNat (-1)) t q HS9.out (((HRD.out.cons _).cons _).cons _) (HVU.out.set ix.toNat (by simp [unit3])) HZN.out HTB.out.1 HTB.out.2).mono ?_; rintro e e1 ⟨rfl, S11, hfine⟩; refine ⟨_, rfl, ?_⟩; rw [← HRE.out, HR1.out]; rw [← HRE.out] at S11 hfine; have HS11 := Aside0.mk S11; have HFI := Aside0.mk hfine; clear S11 hfine))
              exact ⟨⟨2, r.2.1, r.2.2, by omega, by go_num, HST2, ⟨HFI.out HR1.out⟩, ⟨((HS11.out.front 4 rfl).front 4 rfl).front 4 rfl⟩⟩, by simp [intOf]⟩
        · obtain rfl : k = 2 := by omega
          have HFW := Aside0.mk (HST.out.2.2 rfl)
          go_wp2
          go_ret
          rw [HFW.out]
          exact ⟨rfl, HS.out.tail.tail.tail, fun _ => HTB.out⟩
end
end Go.Proofs.Ytmgmilnoeghgfaa
