import Derived.Test.YtmgmilnoeghgfaaA6
import Derived.Test.YtmgmilnoeghgfaaAv
import Derived.Test.YtmgmilnoeghgfaaSep2
set_option linter.unusedVariables false
set_option linter.unusedSimpArgs false
namespace Go.Proofs.Ytmgmilnoeghgfaa
open Go.RowKit Go.Proofs.YtmgmilnoeghgfaaW.PrintWords Go.Proofs.YtmgmilnoeghgfaaW.PrintLast Go.Proofs.YtmgmilnoeghgfaaW.PrintMore Go.Proofs.Ytmgmilnoeghgfaa.PFnExactSolveRules

abbrev RwI (v : Value) (xs : List Int) : HP := Rw (Kd.int .i64) 2 v xs
def holdsRule (r : Rule) (vs : List Int) : Int := holdsR r.f0 (terms r.f1 r.f2 vs)
structure OkRule (r : Rule) (n : Nat) : Prop where
  kind : 1 ≤ r.f0 ∧ r.f0 ≤ 4
  len1 : (r.f1.length : Int) = r.f0
  len2 : r.f2.length = r.f1.length
  idx : ∀ v ∈ r.f1, 0 ≤ v ∧ v < n
  sgn : ∀ s ∈ r.f2, s = 1 ∨ s = -1
theorem rises_mem {lo hi : Int} {xs : List Int} (h : rises lo hi xs = true) : ∀ v ∈ xs, lo ≤ v ∧ v ≤ hi := by
  intro v hv
  obtain ⟨k, hk, rfl⟩ := List.getElem_of_mem hv
  unfold rises at h
  rw [List.all_eq_true] at h
  have := h k (List.mem_range.2 hk)
  simp only [stepOk, inB, Bool.and_eq_true, decide_eq_true_eq] at this
  rw [rd_at xs k hk] at this
  exact this.1
theorem OkRule.of {r : Rule} {n : Nat} (h : okRule r n = true) : OkRule r n := by
  simp only [okRule, Bool.and_eq_true, inB, decide_eq_true_eq, beq_iff_eq] at h
  obtain ⟨hk, h1, h2, h3, h4⟩ := h
  refine ⟨hk, h1, by omega, fun v hv => ?_, fun s hs => ?_⟩
  · have := rises_mem h3 v hv
    omega
  · rw [List.all_eq_true] at h4
    have := h4 s hs
    simpa using this
structure Vals (n : Nat) (vs : List Int) : Prop where
  len : vs.length = n
  val : ∀ x ∈ vs, unit3 x
theorem Vals.set {n : Nat} {vs : List Int} (h : Vals n vs) (k : Nat) {x : Int} (hx : unit3 x) : Vals n (vs.set k x) :=
  ⟨by rw [List.length_set]; exact h.len, fun y hy => by
    rcases List.mem_or_eq_of_mem_set hy with h1 | h1
    · exact h.val y h1
    · exact h1 ▸ hx⟩
theorem OkRule.good {r : Rule} {n : Nat} (h : OkRule r n) {vs : List Int} (hv : Vals n vs) : GoodVars r.f1 r.f2 vs :=
  ⟨h.len2, by have := h.kind.2; have := h.len1; omega, fun v hm => by have := h.idx v hm; have := hv.len; omega, h.sgn, hv.val⟩
/-- The rule's own rows, in every world that holds the frame. -/
def RuleReads (w0 : World) (R : List HP) (r : Rule) (A1 A2 : Option Addr) : Prop :=
  ∀ w, Sat w0 R w → (Kd.int .i64).C w A1 r.f1.length r.f1 ∧ (Kd.int .i64).C w A2 r.f2.length r.f2
theorem RuleReads.cons {w0 : World} {R : List HP} {r : Rule} {A1 A2 : Option Addr} (h : RuleReads w0 R r A1 A2) (p : HP) : RuleReads w0 (p :: R) r A1 A2 := fun w S => h w S.tail
theorem holdsRule_calls {w : World} {r : Rule} {n : Nat} (A1 A2 A3 : Option Addr) (c1 c2 c3 : Nat) {vs : List Int} (hok : OkRule r n) (hv : Vals n vs)
    (h1 : (Kd.int .i64).C w A1 r.f1.length r.f1) (h2 : (Kd.int .i64).C w A2 r.f2.length r.f2) (h3 : (Kd.int .i64).C w A3 n vs) :
    Calls Try.prog 66 #[.agg #[.int .i64 r.f0, .slice A1 r.f1.length c1, .slice A2 r.f2.length c2], .slice A3 n c3] w fun e w' => e = .returned (.int .i64 (holdsRule r vs)) ∧ Below w.heap.size w w' := by
  obtain rfl := hv.len
  exact holds_calls A1 A2 A3 r.f0 r.f1 r.f2 vs c1 c2 c3 w h1 h2 h3 (hok.good hv) ⟨hok.len1, hok.kind.1⟩

theorem Sat.intAt {w0 w : World} {ps : List HP} (S : Sat w0 ps w) (i : Nat) {A : Option Addr} {n c : Nat} {xs : List Int} (hp : ps[i]? = some (RwI (.slice A n c) xs)) (k : Int) (h0 : 0 ≤ k) (h1 : k < xs.length) :
    ∃ g, A = some ⟨g, 0, none⟩ ∧ w.cell? ⟨g, k.toNat, none⟩ = some (.int .i64 (rd xs k)) ∧ w.frozen? ⟨g, k.toNat, none⟩ = false ∧ g < w.heap.size := by
  obtain ⟨g, hA, hn, hcell⟩ := S.cellAt i hp (by omega)
  obtain ⟨m, rfl⟩ := Int.eq_ofNat_of_zero_le h0
  simp only [Int.toNat_natCast]
  obtain ⟨a, b, d⟩ := hcell m (by omega)
  exact ⟨g, hA, by rw [rd_at xs m (by omega)]; exact a, b, d⟩
theorem set_back (xs : List Int) (k : Int) (x : Int) (h0 : 0 ≤ k) (h1 : k < xs.length) : (xs.set k.toNat x).set k.toNat (rd xs k) = xs := by
  obtain ⟨m, rfl⟩ := Int.eq_ofNat_of_zero_le h0
  simp only [Int.toNat_natCast]
  rw [rd_at xs m (by omega), List.set_set, List.set_getElem_self]

set_option maxHeartbeats 1000000 in
theorem with_calls {w0 w : World} {R : List HP} {A : Option Addr} {n c : Nat} {vs : List Int} {r : Rule} (A1 A2 : Option Addr) (c1 c2 : Nat) (v x : Int)
    (S : Sat w0 (RwI (.slice A n c) vs :: R) w) (hrd : RuleReads w0 R r A1 A2) (hok : OkRule r n) (hv : Vals n vs) (hi : 0 ≤ v ∧ v < n) (hx : unit3 x) :
    Calls Try.prog 154 #[.agg #[.int .i64 r.f0, .slice A1 r.f1.length c1, .slice A2 r.f2.length c2], .slice A n c, .int .i64 v, .int .i64 x] w fun e w' =>
      e = .returned (.int .i64 (holdsRule r (vs.set v.toNat x))) ∧ Sat w0 (RwI (.slice A n c) vs :: R) w' := by
  have hvl := hv.len
  obtain ⟨hia, hib⟩ := hi
  obtain ⟨g, rfl, hc0, hf0, hlt⟩ := S.intAt 0 rfl v hia (by omega)
  have hmn : n ≤ 9223372036854775807 := by
    have := S.readsAt 0 rfl
    have := Kd.C_max this.2.2
    omega
  have S1 := (S.store 0 rfl v.toNat x).alloc (.cells #[.int .i64 r.f0, .slice A1 r.f1.length c1, .slice A2 r.f2.length c2] 71)
  have hrd1 := hrd _ S1.tail.tail
  have hC := (S1.readsAt 1 rfl).2.2
  simp only [List.length_set] at hC
  rw [hvl] at hC
  have HCALL := Aside0.mk (holdsRule_calls A1 A2 (some ⟨g, 0, none⟩) c1 c2 c hok (hv.set v.toNat hx) hrd1.1 hrd1.2 hC)
  have HS1 := Aside0.mk S1
  have HVL := Aside0.mk hvl
  have hset := Aside0.mk (set_back vs v x hia (by omega))
  clear S S1 hC hrd1 hrd hvl
  generalize rd vs v = y at *
  go_enter Try.func154, Try.ntmps154
  go_wp2_with (((with_reducible refine gate_dst (N := 21) rfl ?_); refine goesF (f := 66) (args := #[.agg #[.int .i64 r.f0, .slice A1 r.f1.length c1, .slice A2 r.f2.length c2], .slice (some ⟨g, 0, none⟩) n c]) rfl rfl rfl (by (try simp only [List.map_toArray, List.map_cons, List.map_nil]); rfl) (Enter.mk Try.func66 (by kernel_rfl) rfl) ?_; refine (HCALL.out).mono ?_; rintro e w1 ⟨rfl, hb⟩; refine ⟨_, rfl, ?_⟩; have HS2 := Aside0.mk (HS1.out.below hb); clear hb; obtain ⟨g2, hg2, hc2, hf2, hlt2⟩ := HS2.out.intAt 1 rfl v hia (by rw [List.length_set]; have := HVL.out; omega); cases hg2))
  go_ret
  have S3 := HS2.out.store 1 rfl v.toNat y
  rw [hset.out] at S3
  exact ⟨rfl, S3.tail⟩

/-- The closure that asks whether a variable is decided. -/
theorem forced1_calls {w0 w : World} {ps : List HP} {A : Option Addr} {n c b : Nat} {vs : List Int} (i j : Nat) (S : Sat w0 ps w) (hp : ps[i]? = some (RwI (.slice A n c) vs)) {t : TypeId}
    (hq : ps[j]? = some (Blk b (.cells #[.slice A n c] t))) (v : Int) (h0 : 0 ≤ v) (h1 : v < n) :
    Calls Try.prog 180 #[.int .i64 v, .pointer (some ⟨b, 0, none⟩)] w fun e w' => e = .returned (.bool (rd vs v != 0)) ∧ w = w' := by
  have hn := (S.readsAt i hp).1
  obtain ⟨g, rfl, hc0, hf0, hlt⟩ := S.intAt i hp v h0 (by omega)
  have hb := cell_of_one (S.blk j hq)
  have hmn : n ≤ 9223372036854775807 := by
    have := Kd.C_max (S.readsAt i hp).2.2
    omega
  clear hn hf0
  generalize rd vs v = y at *
  go_enter Try.func180, Try.ntmps180
  go_wp2
  go_ret
  exact ⟨rfl, rfl⟩

/-- What DeleteFunc leaves. -/
def kept (p : Int → Bool) (xs : List Int) : List Int := xs.filter fun x => !p x
theorem kept_snoc (p : Int → Bool) (xs : List Int) (j : Nat) (h : j < xs.length) : kept p (xs.take (j + 1)) = kept p (xs.take j) ++ if p xs[j] then [] else [xs[j]] := by
  unfold kept
  rw [List.take_succ_eq_append_getElem h, List.filter_append]
  by_cases hp : p xs[j] <;> simp [hp]
theorem kept_len (p : Int → Bool) (xs : List Int) (j : Nat) : (kept p (xs.take j)).length ≤ j := by
  have h1 := List.length_filter_le (fun x => !p x) (xs.take j)
  have h2 := List.length_take_le j xs
  unfold kept
  omega
structure Sieve (p : Int → Bool) (xs ys : List Int) (i j : Nat) : Prop where
  len : ys.length = xs.length
  le : i < j ∧ j ≤ xs.length
  head : ys.take i = kept p (xs.take j)
  tail : ys.drop j = xs.drop j
theorem Sieve.cnt {p : Int → Bool} {xs ys : List Int} {i j : Nat} (h : Sieve p xs ys i j) : (kept p (xs.take j)).length = i := by
  rw [← h.head]
  have := h.len
  have := h.le
  simp
  omega
theorem Sieve.elem {p : Int → Bool} {xs ys : List Int} {i j : Nat} (h : Sieve p xs ys i j) (hj : j < xs.length) : rd ys j = xs[j] := by
  have hl := h.len
  rw [rd_at ys j (by omega)]
  have h1 : (ys.drop j)[0]? = (xs.drop j)[0]? := by rw [h.tail]
  rw [List.getElem?_drop, List.getElem?_drop] at h1
  simpa [List.getElem?_eq_getElem hj, List.getElem?_eq_getElem (show j < ys.length by omega)] using h1
theorem Sieve.skip {p : Int → Bool} {xs ys : List Int} {i j : Nat} (h : Sieve p xs ys i j) (hj : j < xs.length) (hp : p xs[j] = true) : Sieve p xs ys i (j + 1) :=
  ⟨h.len, ⟨by have := h.le; omega, by omega⟩, by rw [kept_snoc p xs j hj, hp]; simpa using h.head, by
    have := congrArg (List.drop 1) h.tail
    simpa [List.drop_drop] using this⟩
theorem Sieve.keep {p : Int → Bool} {xs ys : List Int} {i j : Nat} (h : Sieve p xs ys i j) (hj : j < xs.length) (hp : p xs[j] = false) : Sieve p xs (ys.set i xs[j]) (i + 1) (j + 1) := by
  have hl := h.len
  have hle := h.le
  refine ⟨by rw [List.length_set]; exact hl, ⟨by omega, by omega⟩, ?_, ?_⟩
  · rw [kept_snoc p xs j hj, hp, ← h.head]
    rw [List.take_succ_eq_append_getElem (by rw [List.length_set]; omega), List.getElem_set_self, List.take_set_of_le (Nat.le_refl _)]
    simp
  · rw [List.drop_set_of_lt (by omega)]
    have := congrArg (List.drop 1) h.tail
    simpa [List.drop_drop] using this
theorem Sieve.start {p : Int → Bool} {xs : List Int} {k : Nat} (hk : k < xs.length) (h : AllNo p xs k) (hp : p xs[k] = true) : Sieve p xs xs k (k + 1) :=
  ⟨rfl, ⟨by omega, by omega⟩, by
    rw [kept_snoc p xs k hk, hp]
    simp [kept]
    refine (List.filter_eq_self.2 ?_).symm
    intro x hx
    obtain ⟨j, hj, rfl⟩ := List.getElem_of_mem hx
    have hj2 : j < k := by simp at hj; omega
    have := h j (by omega) hj2
    simp
    simpa using this, rfl⟩
theorem kept_all {p : Int → Bool} {xs : List Int} (h : xs.any p = false) : kept p xs = xs := by
  unfold kept
  rw [List.filter_eq_self]
  intro x hx
  rw [List.any_eq_false] at h
  simpa using h x hx

set_option maxHeartbeats 2000000 in
theorem deleteFunc_calls {w0 w : World} {R : List HP} {A : Option Addr} {n c : Nat} {xs : List Int} (S : Sat w0 (RwI (.slice A n c) xs :: R) w) (g : FuncId) (caps : Array Value) (p : Int → Bool) (hE : Enter Try.prog g)
    (hcl : ∀ (x : Int) (ys : List Int) (w' : World), x ∈ xs → Sat w0 (RwI (.slice A n c) ys :: R) w' → Calls Try.prog g (#[.int .i64 x] ++ caps) w' fun e w'' => e = .returned (.bool (p x)) ∧ w' = w'') :
    Calls Try.prog 179 #[.slice A n c, .func (.func g) #[] caps] w fun e w' => ∃ v, e = .returned v ∧ Sat w0 (RwI v (kept p xs) :: R) w' := by
  have hn := (S.readsAt 0 rfl).1
  have hnc := (S.readsAt 0 rfl).2.1
  have hmn : n ≤ 9223372036854775807 := by
    have := Kd.C_max (S.readsAt 0 rfl).2.2
    omega
  have hcl0 := indexFunc_calls Mild.eq g caps p A c xs w (S.readsAt 0 rfl).2.2 hE (fun x w' hx e => by subst e; exact hcl x xs w hx S)
  rw [← hn] at hcl0
  have HS := Aside0.mk S
  have HCL := Aside0.mk hcl
  have HI := Aside0.mk hcl0
  have HN := Aside0.mk hn
  clear S hcl hcl0 hn
  cases hany : xs.any p
  · have hidx : idxOf p xs = -1 := by simp [idxOf, hany]
    have HK := Aside0.mk (kept_all hany)
    rw [hidx] at HI
    clear hidx hany
    go_enter Try.func179, Try.ntmps179
    go_wp2_with (((with_reducible refine gate_dst (N := 10) rfl ?_); refine goesF (f := 145) (args := #[.slice A n c, .func (.func g) #[] caps]) rfl rfl rfl (by (try simp only [List.map_toArray, List.map_cons, List.map_nil]); rfl) (Enter.mk Try.func145 (by kernel_rfl) rfl) ?_; refine (HI.out).mono ?_; rintro e w1 ⟨rfl, rfl⟩; refine ⟨_, rfl, ?_⟩))
    go_ret
    exact ⟨_, rfl, by rw [HK.out]; exact HS.out⟩
  · have hk : xs.findIdx p < xs.length := by
      rw [List.findIdx_lt_length]
      simpa using hany
    have hidx : idxOf p xs = (xs.findIdx p : Int) := by simp [idxOf, hany]
    have HSV := Aside0.mk (Sieve.start hk (fun j hj h => by simpa using List.not_of_lt_findIdx h) (List.findIdx_getElem (w := hk)))
    rw [hidx] at HI
    clear hidx hany
    generalize xs.findIdx p = k0 at *
    have hkn : k0 < n := by have := HN.out; omega
    obtain ⟨b, hA, _⟩ := HS.out.intAt 0 rfl 0 (by omega) (by omega)
    subst hA
    have hne : ((k0 : Int) == -1) = false := by
      have : (k0 : Int) ≠ -1 := by omega
      simp [this]
    clear hk
    go_enter Try.func179, Try.ntmps179
    go_wp2_with (((with_reducible refine gate_dst (N := 10) rfl ?_); refine goesF (f := 145) (args := #[.slice (some ⟨b, 0, none⟩) n c, .func (.func g) #[] caps]) rfl rfl rfl (by (try simp only [List.map_toArray, List.map_cons, List.map_nil]); rfl) (Enter.mk Try.func145 (by kernel_rfl) rfl) ?_; refine (HI.out).mono ?_; rintro e w1 ⟨rfl, rfl⟩; refine ⟨_, rfl, ?_⟩))
    go_loopw [5, 6, 7] (fun v5 v6 v7 wr => ∃ (i j : Nat) (ys : List Int), j ≤ n ∧ i < j ∧ v5 = .int .i64 i ∧ v6 = .int .i64 j ∧ Aside0 (Sieve p xs ys i j) ∧ Aside0 (Sat w0 (RwI (.slice (some ⟨b, 0, none⟩) n c) ys :: R) wr)) (fun _ v6 _ _ => n - (intOf v6).toNat)
    case atStart => exact ⟨k0, k0 + 1, xs, by omega, by omega, rfl, by go_num, HSV, HS⟩
    case round =>
      clear HSV HS
      obtain ⟨i, j, ys, hj, hij, rfl, rfl, HSV, HS⟩ := hrel
      by_cases hlt : j < n
      · have hjx : j < xs.length := by have := HN.out; omega
        have hjl : (j : Int) < ys.length := by have := HSV.out.len; omega
        obtain ⟨b', hb', hc, _, hbl⟩ := HS.out.intAt 0 rfl (j : Int) (by omega) hjl
        cases hb'
        rw [HSV.out.elem hjx] at hc
        simp only [Int.toNat_natCast] at hc
        have HC := Aside0.mk (HCL.out xs[j] ys wr (List.getElem_mem hjx) HS.out)
        obtain ⟨b', hb', hci, hfi, _⟩ := HS.out.intAt 0 rfl (i : Int) (by omega) (by have := HSV.out.len; omega)
        cases hb'
        simp only [Int.toNat_natCast] at hci hfi
        have hkeep := fun h => HSV.out.keep hjx h
        have hskip := fun h => HSV.out.skip hjx h
        have HKP := Aside0.mk (And.intro hkeep hskip)
        clear hkeep hskip hjl
        have hin : i < n := by omega
        generalize xs[j] = x at *
        generalize rd ys i = yi at *
        cases hp : p x
        · have HST := Aside0.mk (HS.out.store 0 rfl i x)
          have HK2 := Aside0.mk (HKP.out.1 hp)
          go_wp2_with (((with_reducible refine gate_dst (N := 28) rfl ?_); refine goesV (t := 26) (args := #[.int .i64 x] ++ caps) rfl rfl rfl rfl (by (try simp only [List.map_toArray, List.map_cons, List.map_nil]); rfl) hE ?_; refine (HC.out).mono ?_; rintro e w1 ⟨rfl, rfl⟩; refine ⟨_, rfl, ?_⟩; rw [hp]))
          exact ⟨⟨i + 1, j + 1, ys.set i x, by omega, by omega, by go_num, by go_num, HK2, HST⟩, by simp [intOf]; omega⟩
        · have HK2 := Aside0.mk (HKP.out.2 hp)
          go_wp2_with (((with_reducible refine gate_dst (N := 28) rfl ?_); refine goesV (t := 26) (args := #[.int .i64 x] ++ caps) rfl rfl rfl rfl (by (try simp only [List.map_toArray, List.map_cons, List.map_nil]); rfl) hE ?_; refine (HC.out).mono ?_; rintro e w1 ⟨rfl, rfl⟩; refine ⟨_, rfl, ?_⟩; rw [hp]))
          exact ⟨⟨i, j + 1, ys, by omega, by omega, rfl, by go_num, HK2, HS⟩, by simp [intOf]; omega⟩
      · obtain rfl : j = n := by omega
        have hlen := HSV.out.len
        have hcells : ∀ m, m < j - i → (wr.cell? ⟨b, i + m, none⟩).isSome = true ∧ wr.frozen? ⟨b, i + m, none⟩ = false := by
          intro m hm
          obtain ⟨b', hb', hc, hf, _⟩ := HS.out.intAt 0 rfl ((i + m : Nat) : Int) (by omega) (by have := HN.out; omega)
          cases hb'
          simp only [Int.toNat_natCast] at hc hf
          exact ⟨by rw [hc]; rfl, hf⟩
        have hclr := fun ty => Lib.run_clear_slice (P := Try.prog) wr 24 2 ty (.int .i64 0) Try.underlying24 (fun w => by kernel_rfl) rfl rfl b i (j - i) (c - i) (by omega) (fun m hm => (hcells m hm).1) (fun m hm => (hcells m hm).2)
        have HCC := Aside0.mk hcells
        have HLN := Aside0.mk hlen
        clear hcells hlen
        have hci : ¬ c = i := by omega
        go_wp2
        go_ret
        obtain ⟨zs, S2, ht, hl⟩ := Sat.setCells (enc := Value.int .i64) (h1 := fun _ => rfl) 0 0 (List.replicate (j - i) 0) i wr ys _ HS.out rfl
        rw [List.map_replicate] at S2
        have S3 := S2.cut 0 rfl i (by omega)
        rw [ht, HSV.out.head, HN.out, List.take_length] at S3
        rw [← HN.out] at S3
        exact ⟨_, rfl, S3⟩
end Go.Proofs.Ytmgmilnoeghgfaa
