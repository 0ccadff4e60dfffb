import Derived.Test.YtmgmilnoeghgfaaB2
set_option linter.unusedVariables false
set_option linter.unusedSimpArgs false
namespace Go.Proofs.Ytmgmilnoeghgfaa
open Go.RowKit Go.Proofs.YtmgmilnoeghgfaaW.PrintWords Go.Proofs.YtmgmilnoeghgfaaW.PrintLast Go.Proofs.YtmgmilnoeghgfaaW.PrintMore Go.Proofs.Ytmgmilnoeghgfaa.PFnExactSolveRules

def forcedOf (r : Rule) (vs : List Int) : List Int → Option (Int × Int)
  | [v] => if holdsRule r (vs.set v.toNat (-1)) < 0 then some (v, 1) else if holdsRule r (vs.set v.toNat 1) < 0 then some (v, -1) else none
  | _ => none
theorem forcedR_of {r : Rule} {vs : List Int} (h0 : holdsRule r vs = 0) : forcedR r vs = forcedOf r vs (kept (fun v => rd vs v != 0) r.f1) := by
  rw [forcedR, if_pos h0]
  rcases kept (fun v => rd vs v != 0) r.f1 with _ | ⟨v, _ | ⟨u, l⟩⟩ <;> rfl
theorem forcedOf_two (r : Rule) (vs : List Int) (a b : Int) (l : List Int) : forcedOf r vs (a :: b :: l) = none := rfl
/-- A rule lies at an address of the frame. -/
def RuleAt (w0 : World) (R : List HP) (r : Rule) (a0 : Addr) : Prop :=
  ∀ w, Sat w0 R w → ∃ A1 c1 A2 c2, w.cell? a0 = some (.int .i64 r.f0) ∧ w.cell? ⟨a0.block, a0.off + 1, none⟩ = some (.slice A1 r.f1.length c1) ∧ w.cell? ⟨a0.block, a0.off + 2, none⟩ = some (.slice A2 r.f2.length c2) ∧
    (Kd.int .i64).C w A1 r.f1.length r.f1 ∧ (Kd.int .i64).C w A2 r.f2.length r.f2
theorem RuleAt.cons {w0 : World} {R : List HP} {r : Rule} {a0 : Addr} (h : RuleAt w0 R r a0) (p : HP) : RuleAt w0 (p :: R) r a0 := fun w S => h w S.tail
theorem l15HoldsRule_calls {w0 w : World} {R ps : List HP} {r : Rule} {n : Nat} (a0 : Addr) (A3 : Option Addr) (c3 : Nat) {vs : List Int} (hok : OkRule r n) (hv : Vals n vs)
    (hr : RuleAt w0 R r a0) (S : Sat w0 R w) (h3 : (Kd.int .i64).C w A3 n vs) :
    Calls Try.prog 61 #[.pointer (some a0), .slice A3 n c3] w fun e w' => e = .returned (.int .i64 (holdsRule r vs)) ∧ Drawn0 w w' := by
  obtain rfl := hv.len
  obtain ⟨A1, c1, A2, c2, hk, h1, h2, g1, g2⟩ := hr w S
  exact l15Holds_calls A1 A2 A3 r.f0 r.f1 r.f2 vs c1 c2 c3 a0 w hk h1 g1 h2 g2 h3 (hok.good hv)
def forcedS : Option (Int × Int) → Value
  | some (v, x) => .tuple #[.int .i64 v, .int .i64 x]
  | none => .tuple #[.int .i64 (-1), .int .i64 0]
theorem prod_ne {ts : List Int} (h : ∀ t ∈ ts, t = 1 ∨ t = -1) : prod ts = 1 ∨ prod ts = -1 := by
  have key : ∀ (l : List Int) (a : Int), (a = 1 ∨ a = -1) → (∀ t ∈ l, t = 1 ∨ t = -1) → l.foldl (· * ·) a = 1 ∨ l.foldl (· * ·) a = -1 := by
    intro l
    induction l with
    | nil => intro a ha _; exact ha
    | cons t l ih =>
      intro a ha hl
      refine ih (a * t) ?_ (fun u hu => hl u (by simp [hu]))
      rcases ha with rfl | rfl <;> rcases hl t (by simp) with rfl | rfl <;> simp
  exact key ts 1 (.inl rfl) h
theorem holdsR_zero {kind : Int} {ts : List Int} (h3 : ∀ t ∈ ts, unit3 t) (h : holdsR kind ts = 0) : (0 : Int) ∈ ts := by
  by_cases h0 : (0 : Int) ∈ ts
  · exact h0
  · have hc : cnt 0 ts = 0 := by
      unfold cnt
      rw [List.countP_eq_zero]
      intro a ha
      have : a ≠ 0 := fun e => h0 (e ▸ ha)
      simpa using this
    have hp := prod_ne (ts := ts) (fun t ht => by
      rcases h3 t ht with e | e | e
      · exact .inr e
      · exact absurd (e ▸ ht) h0
      · exact .inl e)
    simp only [holdsR, hc, if_true] at h
    split at h
    · split at h <;> simp at h
    · split at h
      · split at h <;> simp at h
      · omega
theorem open_some {r : Rule} {n : Nat} {vs : List Int} (hok : OkRule r n) (hv : Vals n vs) (h : holdsRule r vs = 0) : kept (fun v => rd vs v != 0) r.f1 ≠ [] := by
  have h0 := holdsR_zero (terms_unit (hok.good hv)) h
  obtain ⟨k, hk, he⟩ := List.getElem_of_mem h0
  have hk1 : k < r.f1.length := by simp [terms] at hk; omega
  have hk2 : k < r.f2.length := by simp [terms] at hk; omega
  have hz : rd vs r.f1[k] = 0 := by
    simp [terms, term] at he
    rcases Int.mul_eq_zero.1 he with he | he
    · exact he
    · have := hok.sgn r.f2[k] (List.getElem_mem hk2)
      omega
  intro hn
  have : r.f1[k] ∈ kept (fun v => rd vs v != 0) r.f1 := by
    unfold kept
    rw [List.mem_filter]
    exact ⟨List.getElem_mem hk1, by simp [hz]⟩
  rw [hn] at this
  simp at this
theorem kept_prefix (p : Int → Bool) (xs : List Int) (k : Nat) : ∃ l, kept p xs = kept p (xs.take k) ++ l := by
  refine ⟨kept p (xs.drop k), ?_⟩
  unfold kept
  rw [← List.filter_append, List.take_append_drop]
/-- The open variable so far. -/
def openAt (p : Int → Bool) (xs : List Int) (k : Nat) (o : Int) : Prop := (o = -1 ∧ kept p (xs.take k) = []) ∨ (0 ≤ o ∧ kept p (xs.take k) = [o])

set_option maxRecDepth 100000 in
set_option maxHeartbeats 4000000 in
theorem l15Forced_calls {w0 w : World} {R : List HP} {A : Option Addr} {n c : Nat} {vs : List Int} {r : Rule} (a0 : Addr)
    (S : Sat w0 (RwI (.slice A n c) vs :: R) w) (hrd : RuleAt w0 R r a0) (hok : OkRule r n) (hv : Vals n vs) :
    Calls Try.prog 152 #[.pointer (some a0), .slice A n c] w fun e w' => e = .returned (forcedS (forcedR r vs)) ∧ Sat w0 (RwI (.slice A n c) vs :: R) w' := by
  have hC := (S.readsAt 0 rfl).2.2
  rw [hv.len] at hC
  have HCALL := Aside0.mk (l15HoldsRule_calls (ps := []) a0 A c hok hv hrd S.tail hC)
  have hmn := Kd.C_max hC
  have HS1 := Aside0.mk S
  have HRD := Aside0.mk hrd
  have HOK := Aside0.mk hok
  have HV := Aside0.mk hv
  clear hC hrd S
  by_cases h0 : holdsRule r vs = 0
  · have hne : ((holdsRule r vs) != 0) = false := by simp [h0]
    have HF := Aside0.mk (forcedR_of h0)
    have HOS := Aside0.mk (open_some hok hv h0)
    have hsm : r.f1.length ≤ 4 := by have := hok.len1; have := hok.kind.2; omega
    clear hok hv
    generalize holdsRule r vs = z at *
    clear h0
    go_enter Try.func152, Try.ntmps152
    go_wp2_with (((with_reducible refine gate_dst (N := 12) rfl ?_); refine goesF (f := 61) (args := #[.pointer (some a0), .slice A n c]) rfl rfl rfl (by (try simp only [List.map_toArray, List.map_cons, List.map_nil]); rfl) (Enter.mk Try.func61 (by kernel_rfl) rfl) ?_; refine (HCALL.out).mono ?_; rintro e e1 ⟨rfl, hb⟩; refine ⟨_, rfl, ?_⟩; have HS2 := Aside0.mk (HS1.out.drawn hb); clear hb HS1 HCALL))
    go_loopw [6, 7] (fun v6 v7 wr => ∃ (k : Nat) (o : Int), k ≤ r.f1.length ∧ v7 = .int .i64 k ∧ v6 = .int .i64 o ∧ -1 ≤ o ∧ Aside0 (openAt (fun v => rd vs v != 0) r.f1 k o) ∧ Aside0 (Sat w0 (RwI (.slice A n c) vs :: R) wr)) (fun _ v7 _ => r.f1.length - (intOf v7).toNat)
    case atStart => exact ⟨0, -1, by omega, rfl, rfl, by omega, ⟨.inl ⟨rfl, rfl⟩⟩, HS2⟩
    case round =>
      clear HS2
      obtain ⟨k, o, hk, rfl, rfl, ho, HO, HS2⟩ := hrel
      obtain ⟨A1, c1, A2, c2, hk0, hk1, hk2, hg1, hg2⟩ := HRD.out _ HS2.out.tail
      have HG := Aside0.mk hg1
      clear hg1 hg2
      by_cases hlt : k < r.f1.length
      · obtain ⟨ad1, e1, hx1⟩ := Kd.at_int HG.out (k : Int) (by omega) (by omega)
        cases e1
        simp only [Int.toNat_natCast] at hx1
        have hvi := HOK.out.idx (rd r.f1 k) (by rw [rd_at r.f1 k hlt]; exact List.getElem_mem hlt)
        obtain ⟨g, hA, hx2, _, _⟩ := HS2.out.intAt 0 rfl (rd r.f1 k) hvi.1 (by have := HV.out.len; omega)
        subst hA
        obtain ⟨hva, hvb⟩ := hvi
        have HKS := Aside0.mk (kept_snoc (fun v => rd vs v != 0) r.f1 k hlt)
        have HRA := Aside0.mk (rd_at r.f1 k hlt)
        obtain ⟨u, hu⟩ : ∃ u, u = rd r.f1 k := ⟨_, rfl⟩
        rw [← hu] at hx1 hx2 hva hvb HRA
        rw [← HRA.out] at HKS
        clear hu
        cases hz : (rd vs u != 0)
        · by_cases hop : 0 ≤ o
          · have hd : decide (0 ≤ o) = true := decide_eq_true hop
            have HFN : Aside0 (forcedR r vs = none) := ⟨by
              rw [HF.out]
              have h1 : kept (fun v => rd vs v != 0) (r.f1.take k) = [o] := by
                rcases HO.out with h | h
                · omega
                · exact h.2
              obtain ⟨l, hl⟩ := kept_prefix (fun v => rd vs v != 0) r.f1 (k + 1)
              rw [hl, HKS.out, h1, hz]
              simp [forcedOf_two]⟩
            clear hop
            go_wp2
            go_ret2
            exact ⟨by rw [HFN.out]; rfl, HS2.out⟩
          · have hd : decide (0 ≤ o) = false := decide_eq_false hop
            have HO2 : Aside0 (openAt (fun v => rd vs v != 0) r.f1 (k + 1) u) := ⟨.inr ⟨hva, by
              have h1 : kept (fun v => rd vs v != 0) (r.f1.take k) = [] := by
                rcases HO.out with h | h
                · exact h.2
                · omega
              rw [HKS.out, h1, hz]
              simp⟩⟩
            clear hop
            go_wp2
            exact ⟨⟨k + 1, u, by omega, by go_num, rfl, by omega, HO2, HS2⟩, by simp [intOf]; omega⟩
        · have HO2 : Aside0 (openAt (fun v => rd vs v != 0) r.f1 (k + 1) o) := ⟨by
            rcases HO.out with h | h
            · exact .inl ⟨h.1, by rw [HKS.out, hz, h.2]; rfl⟩
            · exact .inr ⟨h.1, by rw [HKS.out, hz, h.2]; rfl⟩⟩
          go_wp2
          exact ⟨⟨k + 1, o, by omega, by go_num, rfl, by omega, HO2, HS2⟩, by simp [intOf]; omega⟩
      · obtain rfl : k = r.f1.length := by omega
        have hO := HO.out
        unfold openAt at hO
        rw [List.take_length] at hO
        obtain ⟨ho0, hks⟩ : 0 ≤ o ∧ kept (fun v => rd vs v != 0) r.f1 = [o] := by
          rcases hO with h | h
          · exact absurd h.2 HOS.out
          · exact h
        have HFV : Aside0 (forcedR r vs = if holdsRule r (vs.set o.toNat (-1)) < 0 then some (o, 1) else if holdsRule r (vs.set o.toNat 1) < 0 then some (o, -1) else none) := ⟨by rw [HF.out, hks]; rfl⟩
        have hmem := mem_kept (p := fun v => rd vs v != 0) (xs := r.f1) (v := o) (by rw [hks]; simp)
        have hon : o < n := (HOK.out.idx o hmem.1).2
        have HZ : Aside0 (rd vs o = 0) := ⟨by simpa using hmem.2⟩
        clear hO hks hmem HO HOS HF
        go_wp2
        go_loopw [8, 9] (fun v8 _ wr => ∃ k : Nat, k ≤ 2 ∧ v8 = .int .i64 (2 * (k : Int) - 1) ∧ Aside0 ((1 ≤ k → ¬ holdsRule r (vs.set o.toNat (-1)) < 0) ∧ (2 ≤ k → ¬ holdsRule r (vs.set o.toNat 1) < 0)) ∧
          Aside0 (Sat w0 (RwI (.slice A n c) vs :: R) wr)) (fun v8 _ _ => (3 - intOf v8).toNat)
        case atStart => exact ⟨0, by omega, rfl, ⟨fun h => by omega, fun h => by omega⟩, HS2⟩
        case round =>
        clear HS2 hk0 hk1 hk2 HG
        obtain ⟨k, hk, rfl, HNO, HS2⟩ := hrel
        by_cases hlt : k < 2
        · rcases (show k = 0 ∨ k = 1 by omega) with rfl | rfl
          · obtain ⟨g, hA, hx2, hf2, hl2⟩ := HS2.out.intAt 0 rfl o ho0 (by have := HV.out.len; omega)
            cases hA
            have S3 := HS2.out.store 0 rfl o.toNat (-1)
            have hC3 := (S3.readsAt 0 rfl).2.2
            rw [List.length_set, HV.out.len] at hC3
            have HCL := Aside0.mk (l15HoldsRule_calls (ps := []) a0 (some ⟨g, 0, none⟩) c HOK.out (HV.out.set o.toNat (x := -1) (by simp [unit3])) HRD.out S3.tail hC3)
            have HS3 := Aside0.mk S3
            clear S3 hC3
            by_cases hh : holdsRule r (vs.set o.toNat (-1)) < 0
            · have hd : decide (holdsRule r (vs.set o.toNat (-1)) < 0) = true := decide_eq_true hh
              have HFW : Aside0 (forcedR r vs = some (o, 1)) := ⟨by rw [HFV.out, if_pos hh]⟩
              clear hh HFV HNO
              generalize holdsRule r (vs.set o.toNat (-1)) = z1 at *
              go_wp2_with (((with_reducible refine gate_dst (N := 53) rfl ?_); refine goesF (f := 61) (args := #[.pointer (some a0), .slice (some ⟨g, 0, none⟩) n c]) rfl rfl rfl (by (try simp only [List.map_toArray, List.map_cons, List.map_nil]); rfl) (Enter.mk Try.func61 (by kernel_rfl) rfl) ?_; refine (HCL.out).mono ?_; rintro e e1 ⟨rfl, hb⟩; refine ⟨_, rfl, ?_⟩; have HS4 := Aside0.mk (HS3.out.drawn hb); clear hb; obtain ⟨g5, hg5, hx5, hf5, hl5⟩ := HS4.out.intAt 0 rfl o ho0 (by rw [List.length_set]; have := HV.out.len; omega); cases hg5))
              go_ret2
              have S5 := HS4.out.store 0 rfl o.toNat 0
              have hsb := set_back vs o (-1) ho0 (by have := HV.out.len; omega)
              rw [HZ.out] at hsb
              rw [hsb] at S5
              exact ⟨by rw [HFW.out]; rfl, S5⟩
            · have hd : decide (holdsRule r (vs.set o.toNat (-1)) < 0) = false := decide_eq_false hh
              have HH := Aside0.mk hh
              clear hh
              obtain ⟨z1, hz1⟩ : ∃ z1, z1 = holdsRule r (vs.set o.toNat (-1)) := ⟨_, rfl⟩
              rw [← hz1] at hd HCL
              clear hz1
              go_wp2_with (((with_reducible refine gate_dst (N := 53) rfl ?_); refine goesF (f := 61) (args := #[.pointer (some a0), .slice (some ⟨g, 0, none⟩) n c]) rfl rfl rfl (by (try simp only [List.map_toArray, List.map_cons, List.map_nil]); rfl) (Enter.mk Try.func61 (by kernel_rfl) rfl) ?_; refine (HCL.out).mono ?_; rintro e e1 ⟨rfl, hb⟩; refine ⟨_, rfl, ?_⟩; have HS4 := Aside0.mk (HS3.out.drawn hb); clear hb; obtain ⟨g5, hg5, hx5, hf5, hl5⟩ := HS4.out.intAt 0 rfl o ho0 (by rw [List.length_set]; have := HV.out.len; omega); cases hg5))
              have S5 := HS4.out.store 0 rfl o.toNat 0
              have hsb := set_back vs o (-1) ho0 (by have := HV.out.len; omega)
              rw [HZ.out] at hsb
              rw [hsb] at S5
              exact ⟨⟨1, by omega, by first | rfl | go_num, ⟨fun _ => by have := HH.out; omega, fun _ => by omega⟩, ⟨S5⟩⟩, by simp [intOf]⟩
          · obtain ⟨g, hA, hx2, hf2, hl2⟩ := HS2.out.intAt 0 rfl o ho0 (by have := HV.out.len; omega)
            cases hA
            have S3 := HS2.out.store 0 rfl o.toNat (1)
            have hC3 := (S3.readsAt 0 rfl).2.2
            rw [List.length_set, HV.out.len] at hC3
            have HCL := Aside0.mk (l15HoldsRule_calls (ps := []) a0 (some ⟨g, 0, none⟩) c HOK.out (HV.out.set o.toNat (x := 1) (by simp [unit3])) HRD.out S3.tail hC3)
            have HS3 := Aside0.mk S3
            clear S3 hC3
            by_cases hh : holdsRule r (vs.set o.toNat (1)) < 0
            · have hd : decide (holdsRule r (vs.set o.toNat (1)) < 0) = true := decide_eq_true hh
              have HFW : Aside0 (forcedR r vs = some (o, -1)) := ⟨by rw [HFV.out, if_neg (HNO.out.1 (by omega)), if_pos hh]⟩
              clear hh HFV HNO
              generalize holdsRule r (vs.set o.toNat (1)) = z1 at *
              go_wp2_with (((with_reducible refine gate_dst (N := 53) rfl ?_); refine goesF (f := 61) (args := #[.pointer (some a0), .slice (some ⟨g, 0, none⟩) n c]) rfl rfl rfl (by (try simp only [List.map_toArray, List.map_cons, List.map_nil]); rfl) (Enter.mk Try.func61 (by kernel_rfl) rfl) ?_; refine (HCL.out).mono ?_; rintro e e1 ⟨rfl, hb⟩; refine ⟨_, rfl, ?_⟩; have HS4 := Aside0.mk (HS3.out.drawn hb); clear hb; obtain ⟨g5, hg5, hx5, hf5, hl5⟩ := HS4.out.intAt 0 rfl o ho0 (by rw [List.length_set]; have := HV.out.len; omega); cases hg5))
              go_ret2
              have S5 := HS4.out.store 0 rfl o.toNat 0
              have hsb := set_back vs o (1) ho0 (by have := HV.out.len; omega)
              rw [HZ.out] at hsb
              rw [hsb] at S5
              exact ⟨by rw [HFW.out]; rfl, S5⟩
            · have hd : decide (holdsRule r (vs.set o.toNat (1)) < 0) = false := decide_eq_false hh
              have HH := Aside0.mk hh
              clear hh
              obtain ⟨z1, hz1⟩ : ∃ z1, z1 = holdsRule r (vs.set o.toNat (1)) := ⟨_, rfl⟩
              rw [← hz1] at hd HCL
              clear hz1
              go_wp2_with (((with_reducible refine gate_dst (N := 53) rfl ?_); refine goesF (f := 61) (args := #[.pointer (some a0), .slice (some ⟨g, 0, none⟩) n c]) rfl rfl rfl (by (try simp only [List.map_toArray, List.map_cons, List.map_nil]); rfl) (Enter.mk Try.func61 (by kernel_rfl) rfl) ?_; refine (HCL.out).mono ?_; rintro e e1 ⟨rfl, hb⟩; refine ⟨_, rfl, ?_⟩; have HS4 := Aside0.mk (HS3.out.drawn hb); clear hb; obtain ⟨g5, hg5, hx5, hf5, hl5⟩ := HS4.out.intAt 0 rfl o ho0 (by rw [List.length_set]; have := HV.out.len; omega); cases hg5))
              have S5 := HS4.out.store 0 rfl o.toNat 0
              have hsb := set_back vs o (1) ho0 (by have := HV.out.len; omega)
              rw [HZ.out] at hsb
              rw [hsb] at S5
              exact ⟨⟨2, by omega, by first | rfl | go_num, ⟨fun _ => by have := HNO.out.1 (by omega); omega, fun _ => by have := HH.out; omega⟩, ⟨S5⟩⟩, by simp [intOf]⟩
        · obtain rfl : k = 2 := by omega
          have HFW : Aside0 (forcedR r vs = none) := ⟨by rw [HFV.out, if_neg (HNO.out.1 (by omega)), if_neg (HNO.out.2 (by omega))]⟩
          go_wp2
          go_ret2
          exact ⟨by rw [HFW.out]; rfl, HS2.out⟩
  · have HF : Aside0 (forcedR r vs = none) := ⟨by simp [forcedR, h0]⟩
    have hne : ((holdsRule r vs) != 0) = true := by simpa using h0
    clear hok hv
    generalize holdsRule r vs = z at *
    clear h0
    go_enter Try.func152, Try.ntmps152
    go_wp2_with (((with_reducible refine gate_dst (N := 12) rfl ?_); refine goesF (f := 61) (args := #[.pointer (some a0), .slice A n c]) rfl rfl rfl (by (try simp only [List.map_toArray, List.map_cons, List.map_nil]); rfl) (Enter.mk Try.func61 (by kernel_rfl) rfl) ?_; refine (HCALL.out).mono ?_; rintro e e1 ⟨rfl, hb⟩; refine ⟨_, rfl, ?_⟩; have HS2 := Aside0.mk (HS1.out.drawn hb); clear hb))
    go_ret2
    exact ⟨by rw [HF.out]; rfl, HS2.out⟩
end Go.Proofs.Ytmgmilnoeghgfaa
