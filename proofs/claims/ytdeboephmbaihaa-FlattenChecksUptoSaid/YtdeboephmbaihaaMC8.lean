/-
  FlattenChecks holds where what it reads is of bulk at most 1048576: the function returns true, whatever the orders that the model draws.
  The row's own step is the kit's shell for a law, turned to what is known of memory here (old blocks are as they were; the argument reads as it did).
-/
import Derived.Test.YtdeboephmbaihaaXVTC
import Derived.Test.YtdeboephmbaihaaMC3
import Derived.Test.YtdeboephmbaihaaMC6
import Derived.Test.YtdeboephmbaihaaRows
import Derived.ChangeArms
import Derived.ChangeSame
import Derived.Deep.Slices
import Derived.WalkKit
import Derived.ProofKit
import Derived.OpenShut
import Derived.Below
import Derived.JoinedCond
import Derived.Carry
set_option maxRecDepth 100000
namespace Go.NL.Ev
open Go.Proofs
noncomputable def spK (F : FuncId) : Option (List AV → EH → (AV → EH → ER) → ER) := Bool.rec (motive := fun _ => Option (List AV → EH → (AV → EH → ER) → ER)) (Bool.rec (motive := fun _ => Option (List AV → EH → (AV → EH → ER) → ER)) (Bool.rec (motive := fun _ => Option (List AV → EH → (AV → EH → ER) → ER)) none (some sortSK) (Nat.beq F 56)) (some compSK) (Nat.beq F 57)) (some keysSK) (Nat.beq F 49)
theorem spK_ok : ∀ F s, spK F = some s → SpOk Try.prog F s := by
  intro F s h
  unfold spK at h
  by_cases h1 : F = 49
  · subst h1
    have h : some keysSK = some s := h
    cases h
    exact keysSK_ok
  · rw [show Nat.beq F 49 = false by rw [beq_dec]; simp [h1]] at h
    by_cases h2 : F = 57
    · subst h2
      have h : some compSK = some s := h
      cases h
      exact compSK_ok
    · rw [show Nat.beq F 57 = false by rw [beq_dec]; simp [h2]] at h
      by_cases h3 : F = 56
      · subst h3
        have h : some sortSK = some s := h
        cases h
        exact sortSK_ok
      · rw [show Nat.beq F 56 = false by rw [beq_dec]; simp [h3]] at h
        cases h
noncomputable def isTrueK (v : AV) (_ : EH) : ER := boolV v fun b => Bool.rec (motive := fun _ => ER) none (some ()) b
def H0 : EH := .mk 0 256 (.rep .gone)
theorem hdl_ok (n : Nat) : HdlOk Try.prog (callsK (codeOf codeT) spK n) := callsK_ok (codeT_ok.get) spK_ok n
theorem awake_run : callsK (codeOf codeT) spK 60 F_gimletlaw26_awake [] H0 isTrueK = some () := by kernel_rfl
theorem fits0 : Fits (fun _ => none) H0 (fun _ => none) :=
  ⟨(fun i b h => by cases h), ⟨by decide, by decide⟩, (fun i j b _ _ h => by cases h), (fun i b h => by cases h)⟩
theorem awake_ncalls : NCalls Try.prog F_gimletlaw26_awake [] (fun _ => none) fun v _ => v = .bool true := by
  refine hdl_ok 60 F_gimletlaw26_awake [] H0 isTrueK () awake_run (fun _ => none) [] _ _ .nil fits0 fun ρ' v H' v' A' _ hv _ hk => ?_
  obtain ⟨b, rfl, hb⟩ := boolV_some hk
  cases b
  · cases hb
  · exact vr_bool hv
theorem awake_pure : NPure Try.prog F_gimletlaw26_awake [] (.bool true) :=
  NCalls.pure awake_ncalls (fun g g' Vs h => ⟨h.len, fun i c v hc _ => by simp at hc⟩) fun g g' V h => by rw [rel_bool h]; exact .bool true
end Go.NL.Ev

set_option linter.unusedVariables false

set_option maxRecDepth 10000
namespace Go.NL
open Go.Proofs
variable {nf : Bool}
theorem awake_law : NPure Try.prog F_gimletlaw26_awake [] (.bool true) := Ev.awake_pure
theorem flatCheck_may {funs : List FlatF} {main : Core} (h : flatCheck funs main = 0) : ∀ p ∈ funs, p.2.flatMay funs = true := by
  intro p hp
  rw [flatCheck] at h
  split at h
  · cases h
  · split at h
    · cases h
    · rename_i h2
      have h2 : funs.any (funBad funs) = false := by simpa using h2
      have := List.any_eq_false.1 h2 p hp
      simp only [funBad, Bool.or_eq_true, not_or, Bool.not_eq_true', Bool.not_eq_false] at this
      exact this.2.2
structure ChecksOk (funs : List FlatF) (main : Core) : Prop where
  len : funs.length ≤ big
  m26 : main.Fine26
  f26 : ∀ p ∈ funs, p.2.Fine26
  mF : main.copy.FlatFine (funs.map FlatF.copy)
  fF : ∀ p ∈ funs.map FlatF.copy, p.2.FlatFine (funs.map FlatF.copy)
  ck : flatCheck (funs.map FlatF.copy) main.copy = check26 funs main
  cp : flatCaps (funs.map FlatF.copy) main.copy = caps26 funs main
set_option maxHeartbeats 1000000 in
theorem FlattenChecks_run (funs : List FlatF) (main : Core) (h : ChecksOk funs main) : NPure Try.prog F_gimletlaw26_FlattenChecks [encFlatN nf funs main] (.bool true) := by
  have hbig : big = 1099511627776 := rfl
  refine NPure.walk c_gimletlaw26_FlattenChecks (Nat.le_of_ble_eq_true rfl) fun A0 => ?_
  have hlg := LargeFlat_spec (nf := nf) funs main h.len h.m26.sm (fun p hp => (h.f26 p hp).sm) 400
  have hcp := CopyFlat_spec (nf := nf) funs main h.len h.m26.sm (fun p hp => (h.f26 p hp).sm)
  have hsm := sameFlat_copy (nf := nf) funs main h.len h.m26.sm (fun p hp => (h.f26 p hp).sm)
  have hc2 := check26_spec (nf := nf) funs main h.len h.m26 h.f26
  have hp2 := refCaptures_spec (nf := nf) funs main h.len h.m26 h.f26
  have hc1 := flatCheck_spec (funs.map FlatF.copy) main.copy (by rw [List.length_map]; exact h.len) h.mF h.fF
  have hp1 := Captures_spec (funs.map FlatF.copy) main.copy (by rw [List.length_map]; exact h.len) h.mF h.fF fun hz => flatCheck_may hz
  have hcl : (caps26 funs main).length ≤ big := by
    rw [caps26]
    split
    · simp
    · rw [List.length_map]
      exact h.len
  have hsi := SameInts_spec (caps26 funs main) hcl true true
  rw [h.ck] at hc1
  rw [h.cp] at hp1
  generalize check26 funs main = CK at hc1 hc2
  generalize encSl true 1 ((caps26 funs main).map encInt) = cv at hp1 hp2 hsi
  generalize flatLarge funs main 400 = LG at hlg
  have hof := oneFlatN nf funs main
  have htf := takeFlatN nf funs main
  have hof2 := oneFlat (funs.map FlatF.copy) main.copy
  have htf2 := takeFlat (funs.map FlatF.copy) main.copy
  have hl2 : (encFlat (funs.map FlatF.copy) main.copy).cells.length = 8 := by
    rw [flat_cells, List.length_cons, main.copy.enc_cells]
  generalize encFlatN nf funs main = fl at hlg hcp hsm hc2 hp2 hof htf ⊢
  generalize encFlat (funs.map FlatF.copy) main.copy = fc at hcp hsm hc1 hp1 hof2 htf2 hl2
  simp only [n_gimletlaw26_FlattenChecks]
  refine nwp_then (fun f A => ∃ b1, A0.le A ∧ f 1 = .ptr b1 0 ∧ A b1 = some (.cells fl.cells)) ?_ ?_
  · simp only [n_gimletlaw26_FlattenChecks_r0, hof, go_sem, eq_self]
    intro b hb
    exact Here.mk ⟨b, (Heap.le.refl _).set hb, rfl, Heap.set_same _ _ _⟩
  rintro f A ⟨b1, hle, h1, hb1⟩
  refine nwp_cut (fun f A => A0.le A ∧ f 1 = .ptr b1 0 ∧ A b1 = some (.cells fl.cells)) ?_ ?_
  · refine nwp_then (fun f A => (A0.le A ∧ f 1 = .ptr b1 0 ∧ A b1 = some (.cells fl.cells)) ∧ f 6 = .bool LG) ?_ ?_
    · simp only [n_gimletlaw26_FlattenChecks_r1, h1, hb1, htf, go_sem, ↓reduceIte, eq_self]
      refine hlg.call ?_
      try simp only [go_sem, Nat.reduceEqDiff, Nat.reduceAdd, Nat.reduceSub, Nat.reduceLeDiff, Nat.reduceLT, Nat.reduceMul, Int.reduceEq, Int.reduceLT, Int.reduceLE, Int.reduceNeg, Int.reduceToNat, Int.reduceAdd, Int.reduceSub, Int.cast_ofNat_Int, Int.cast_ofNat_Int, reduceCtorEq, ↓reduceIte, Bool.false_eq_true, decide_true, decide_false, eq_self, Bool.not_true, Bool.not_false]
      exact Here.mk ⟨⟨hle, h1, hb1⟩, rfl⟩
    clear hle h1 hb1
    rintro f A ⟨hh, ht⟩
    refine nwp_test _ ht (fun hc => ?_) fun hc => hh
    simp only [n_gimletlaw26_FlattenChecks_r2, go_sem, ↓reduceIte, eq_self]
    refine awake_law.call ?_
    simp only [hh.1, go_sem, eq_self]
  clear hle h1 hb1
  rintro f A ⟨hle, h1, hb1⟩
  refine nwp_then (fun f A => ∃ b3, A0.le A ∧ f 1 = .ptr b1 0 ∧ A b1 = some (.cells fl.cells) ∧ f 3 = .ptr b3 0 ∧ A b3 = some (.cells fc.cells)) ?_ ?_
  · simp only [n_gimletlaw26_FlattenChecks_r3, h1, hb1, htf, go_sem, Nat.reduceEqDiff, Nat.reduceAdd, Nat.reduceLeDiff, ↓reduceIte, eq_self]
    refine hcp.call ?_
    have hov : over [.nilslice, .int .i64 0, .int .i64 0, .int .i64 0, .str [], .nilslice, .nilslice, .nilslice] 0 fc.cells = fc.cells := by
      simp [over, hl2]
    simp only [hof2, hl2, go_sem, eq_self]
    intro b3 hb3
    refine Here.mk ⟨b3, hle.set hb3, h1, Heap.keep hb1 hb3, rfl, by simp⟩
  clear hle h1 hb1
  rintro f A ⟨b3, hle, h1, hb1, h3, hb3⟩
  refine nwp_then (fun f A => (A0.le A ∧ f 1 = .ptr b1 0 ∧ A b1 = some (.cells fl.cells) ∧ f 3 = .ptr b3 0 ∧ A b3 = some (.cells fc.cells)) ∧ f 4 = .bool true) ?_ ?_
  · simp only [n_gimletlaw26_FlattenChecks_r4, h1, h3, hb1, hb3, htf, htf2, go_sem, Nat.reduceEqDiff, ↓reduceIte, eq_self]
    refine hc1.call ?_
    simp only [hb1, htf, go_sem, eq_self]
    refine hc2.call ?_
    simp only [h1, h3, hb1, hb3, htf, htf2, go_sem, Nat.reduceEqDiff, ↓reduceIte, decide_true, eq_self]
    refine hp1.call ?_
    simp only [hb1, htf, go_sem, eq_self]
    refine hp2.call ?_
    simp only [go_sem]
    refine hsi.call ?_
    try simp only [go_sem, Nat.reduceEqDiff, Nat.reduceAdd, Nat.reduceSub, Nat.reduceLeDiff, Nat.reduceLT, Nat.reduceMul, Int.reduceEq, Int.reduceLT, Int.reduceLE, Int.reduceNeg, Int.reduceToNat, Int.reduceAdd, Int.reduceSub, Int.cast_ofNat_Int, Int.cast_ofNat_Int, reduceCtorEq, ↓reduceIte, Bool.false_eq_true, decide_true, decide_false, eq_self, Bool.not_true, Bool.not_false]
    exact Here.mk ⟨⟨hle, h1, hb1, h3, hb3⟩, rfl⟩
  clear hle h1 hb1 h3 hb3
  rintro f A ⟨⟨hle, h1, hb1, h3, hb3⟩, h4⟩
  simp only [n_gimletlaw26_FlattenChecks_r5, h1, h3, h4, hb1, hb3, htf, htf2, go_sem, Nat.reduceEqDiff, ↓reduceIte, eq_self]
  refine hsm.call ?_
  simp only [go_sem, Nat.reduceEqDiff, ↓reduceIte, eq_self]
  refine awake_law.call ?_
  simp only [hle, go_sem, eq_self]
end Go.NL

set_option linter.unusedVariables false

set_option maxRecDepth 10000
namespace Go.NL
open Go.Proofs
theorem flatG_parts {k x n : Int} {s : List UInt8} {na : Bool} {a : List Atom} {nt : Bool} {t : List Int} {nl : Bool} {l : List Core} (h : (Core.mk k x n s na a nt t nl l).flatG = true) :
    k ≠ 7 ∧ k ≠ 8 ∧ (lateK k = true → l.length = 2 ∧ 0 ≤ x) ∧ (k = 14 → 0 ≤ x ∧ x + t.length ≤ 1048576) ∧ a.all (fun z => !decide (z.kind = 1) || isVar z.n) = true ∧ ∀ c ∈ l, c.flatG = true := by
  rw [Core.flatG, gs_all] at h
  simp only [Bool.and_eq_true, Bool.or_eq_true, Bool.not_eq_true', decide_eq_true_eq, decide_eq_false_iff_not, List.all_eq_true] at h
  obtain ⟨⟨⟨⟨⟨h1, h2⟩, h3⟩, h4⟩, h5⟩, h6⟩ := h
  refine ⟨h1, h2, fun hl => ?_, fun hk => ?_, ?_, h6⟩
  · rcases h3 with h3 | h3
    · rw [hl] at h3; cases h3
    · exact h3
  · rcases h4 with h4 | h4
    · exact absurd hk h4
    · exact h4
  · rw [List.all_eq_true]
    intro z hz
    have := h5 z hz
    simp only [Bool.or_eq_true, Bool.not_eq_true', decide_eq_false_iff_not]
    exact this
theorem late_kind {k : Int} (h : lateK k = true) : k = 2 ∨ k = 11 := by
  simp only [lateK, Bool.or_eq_true, decide_eq_true_eq] at h
  exact h
theorem binds_flat {k x n : Int} {s : List UInt8} {na : Bool} {a : List Atom} {nt : Bool} {t : List Int} {nl : Bool} {l : List Core} (h7 : k ≠ 7) (h8 : k ≠ 8) : (Core.mk k x n s na a nt t nl l).binds = if k = 14 then bindsG x t.length else [] := by
  simp only [Core.binds, if_neg h7, if_neg h8]
  rfl
theorem orders_nolate (x : Int) : ∀ (l : List Core) (i : Nat), Core.orders false x i l = l.flatMap Core.order
  | [], i => by simp [Core.orders]
  | c :: l, i => by simp [Core.orders, orders_nolate x l]
theorem alls26_flat : ∀ l : List Core, Core.alls26 l = l.flatMap Core.all26
  | [] => by simp [Core.alls26]
  | c :: l => by simp [Core.alls26, alls26_flat l]
theorem order_perm : ∀ (N : Nat) (c : Core), c.size ≤ N → c.flatG = true → c.order.Perm c.all26 := by
  intro N
  induction N with
  | zero => intro c hc; have := c.size_pos; omega
  | succ N ih =>
    intro c hc hg
    obtain ⟨k, x, n, s, na, a, nt, t, nl, l⟩ := c
    have hl : Core.sizes l ≤ N := by simp only [Core.size] at hc; omega
    obtain ⟨h7, h8, hlt, h14, hv, hs⟩ := flatG_parts hg
    have hsub : ∀ y ∈ l, y.order.Perm y.all26 := fun y hy => ih y (Nat.le_trans (Core.size_mem hy) hl) (hs y hy)
    rw [Core.order, Core.all26, binds_flat h7 h8, Core.binds26]
    have hflat : ∀ ys : List Core, (∀ y ∈ ys, y.order.Perm y.all26) → (ys.flatMap Core.order).Perm (ys.flatMap Core.all26) := by
      intro ys
      induction ys with
      | nil => intro _; exact .refl _
      | cons y ys ihy =>
        intro hys
        simp only [List.flatMap_cons]
        exact (hys y (by simp)).append (ihy fun z hz => hys z (by simp [hz]))
    by_cases hk : lateK k = true
    · have hk2 := late_kind hk
      have hn14 : ¬ k = 14 := by omega
      obtain ⟨hl2, _⟩ := hlt hk
      match l, hl2, hsub with
      | [c0, c1], _, hsub =>
        rw [if_neg hn14, if_pos hk2, hk]
        have p0 := hsub c0 (by simp)
        have p1 := hsub c1 (by simp)
        have e1 : Core.orders true x 0 [c0, c1] = c0.order ++ ([x] ++ c1.order) := by simp [Core.orders]
        have e2 : Core.alls26 [c0, c1] = c0.all26 ++ c1.all26 := by simp [Core.alls26]
        rw [e1, e2, List.nil_append]
        have q1 : (c0.order ++ ([x] ++ c1.order)).Perm ([x] ++ (c0.order ++ c1.order)) := by
          rw [← List.append_assoc, ← List.append_assoc]
          exact (List.perm_append_comm).append_right _
        exact q1.trans ((List.Perm.refl [x]).append (p0.append p1))
    · have hk : lateK k = false := by simpa using hk
      have hk2 : ¬ (k = 2 ∨ k = 11) := fun h => by
        rcases h with rfl | rfl <;> cases hk
      rw [if_neg hk2, hk, orders_nolate, alls26_flat]
      exact (List.Perm.refl _).append (hflat l hsub)
theorem all26_nonneg : ∀ (N : Nat) (c : Core), c.size ≤ N → c.flatG = true → ∀ v ∈ c.all26, 0 ≤ v := by
  intro N
  induction N with
  | zero => intro c hc; have := c.size_pos; omega
  | succ N ih =>
    intro c hc hg v hv
    obtain ⟨k, x, n, s, na, a, nt, t, nl, l⟩ := c
    have hl : Core.sizes l ≤ N := by simp only [Core.size] at hc; omega
    obtain ⟨h7, h8, hlt, h14, hvv, hs⟩ := flatG_parts hg
    rw [Core.all26, List.mem_append] at hv
    rcases hv with hv | hv
    · rw [Core.binds26] at hv
      split at hv
      · rename_i hk
        have : lateK k = true := by rcases hk with rfl | rfl <;> rfl
        have := (hlt this).2
        have : v = x := by simpa using hv
        omega
      · split at hv
        · rename_i hk
          obtain ⟨hx0, hxm⟩ := h14 hk
          obtain ⟨i, hi, rfl⟩ := List.mem_map.1 hv
          have hi : i < t.length := by simpa using hi
          rw [i64w (by omega) (by omega)]
          omega
        · cases hv
    · rw [alls26_flat, List.mem_flatMap] at hv
      obtain ⟨y, hy, hv⟩ := hv
      exact ih y (Nat.le_trans (Core.size_mem hy) hl) (hs y hy) v hv
theorem occ_nonneg : ∀ (N : Nat) (c : Core), c.size ≤ N → c.flatG = true → ∀ v ∈ c.occ, 0 ≤ v := by
  intro N
  induction N with
  | zero => intro c hc; have := c.size_pos; omega
  | succ N ih =>
    intro c hc hg v hv
    obtain ⟨k, x, n, s, na, a, nt, t, nl, l⟩ := c
    have hl : Core.sizes l ≤ N := by simp only [Core.size] at hc; omega
    obtain ⟨h7, h8, hlt, h14, hvv, hs⟩ := flatG_parts hg
    rw [Core.occ, List.mem_append] at hv
    rcases hv with hv | hv
    · obtain ⟨z, hz, hk, rfl⟩ := mem_occA.1 hv
      have := List.all_eq_true.1 hvv z hz
      simp only [hk, decide_true, Bool.not_true, Bool.false_or, isVar, Bool.and_eq_true, decide_eq_true_eq] at this
      exact this.1
    · have key : ∀ ys : List Core, (∀ y ∈ ys, y ∈ l) → v ∈ Core.occs ys → 0 ≤ v := by
        intro ys
        induction ys with
        | nil => intro _ h; simp [Core.occs] at h
        | cons y ys ihy =>
          intro hys h
          rw [Core.occs, List.mem_append] at h
          rcases h with h | h
          · have hy := hys y (by simp)
            exact ih y (Nat.le_trans (Core.size_mem hy) hl) (hs y hy) v h
          · exact ihy (fun z hz => hys z (by simp [hz])) h
      exact key l (fun y hy => hy) hv
theorem usedA_all (bound : Int) (m : List Int) (a : List Atom) : a.all (usedA bound m) = true ↔ ∀ v ∈ (occA a).filter (fun v => !decide (v ∈ m)), v ≤ bound := by
  simp only [List.all_eq_true, List.mem_filter, mem_occA, usedA, Bool.not_eq_true', Bool.and_eq_false_iff, decide_eq_false_iff_not, Bool.not_eq_false', decide_eq_true_eq]
  constructor
  · rintro h v ⟨⟨z, hz, hk, rfl⟩, hm⟩
    rcases h z hz with h1 | h1 | h1
    · exact absurd hk h1
    · omega
    · exact absurd h1 hm
  · intro h z hz
    by_cases hk : z.kind = 1
    · by_cases hm : z.n ∈ m
      · exact .inr (.inr hm)
      · have := h z.n ⟨⟨z, hz, hk, rfl⟩, hm⟩
        exact .inr (.inl (by omega))
    · exact .inl hk
theorem used26_fvs (bound : Int) : ∀ (N : Nat) (c : Core), c.size ≤ N → c.flatG = true → ∀ m : List Int, c.used26 bound m = true ↔ ∀ v ∈ c.fvs (fun v => decide (v ∈ m)), v ≤ bound := by
  intro N
  induction N with
  | zero => intro c hc; have := c.size_pos; omega
  | succ N ih =>
    intro c hc hg m
    obtain ⟨k, x, n, s, na, a, nt, t, nl, l⟩ := c
    have hl : Core.sizes l ≤ N := by simp only [Core.size] at hc; omega
    obtain ⟨h7, h8, hlt, h14, hvv, hs⟩ := flatG_parts hg
    rw [Core.used26, Core.fvs, binds_flat h7 h8, Core.binds26, Bool.and_eq_true, usedA_all]
    have key : ∀ (ys : List Core) (i : Nat), (∀ y ∈ ys, y ∈ l) → (Core.useds26 ys bound m (m ++ (if k = 2 ∨ k = 11 then [x] else if k = 14 then bindsG x t.length else [])) (decide (k = 14)) (lateK k) i = true ↔
        ∀ v ∈ Core.fvss ys (fun v => decide (v ∈ m) || decide (v ∈ if k = 14 then bindsG x t.length else [])) (lateK k) x i, v ≤ bound) := by
      intro ys
      induction ys with
      | nil => intro i _; simp [Core.useds26, Core.fvss]
      | cons y ys ihy =>
        intro i hys
        have hy := hys y (by simp)
        rw [Core.useds26, Core.fvss, Bool.and_eq_true, ihy (i + 1) fun z hz => hys z (by simp [hz]), ih y (Nat.le_trans (Core.size_mem hy) hl) (hs y hy)]
        have e : (fun v => decide (v ∈ if (decide (k = 14) || (decide (i = 1) && lateK k)) = true then m ++ (if k = 2 ∨ k = 11 then [x] else if k = 14 then bindsG x t.length else []) else m)) =
            (fun v => (decide (v ∈ m) || decide (v ∈ if k = 14 then bindsG x t.length else [])) || (lateK k && (decide (i = 1) && decide (v = x)))) := by
          funext v
          by_cases hk14 : k = 14
          · subst hk14
            have hlf : lateK 14 = false := rfl
            simp [hlf]
          · by_cases hk : lateK k = true
            · have hk2 := late_kind hk
              by_cases hi : i = 1
              · simp [hk14, hk, hk2, hi]
              · simp [hk14, hk, hi]
            · have hk : lateK k = false := by simpa using hk
              simp [hk14, hk]
        rw [e]
        simp only [List.mem_append]
        constructor
        · rintro ⟨h1, h2⟩ v (hv | hv)
          · exact h1 v hv
          · exact h2 v hv
        · intro h
          exact ⟨fun v hv => h v (.inl hv), fun v hv => h v (.inr hv)⟩
    rw [key l 0 fun y hy => hy]
    simp only [List.mem_append]
    constructor
    · rintro ⟨h1, h2⟩ v (hv | hv)
      · exact h1 v hv
      · exact h2 v hv
    · intro h
      exact ⟨fun v hv => h v (.inl hv), fun v hv => h v (.inr hv)⟩
theorem usesA_mem (bound : Int) : ∀ (a : List Atom) (m : List Int) (v : Int), v ∈ a.foldl (usesA bound) m ↔ v ∈ m ∨ (v ∈ occA a ∧ 1 ≤ v ∧ v ≤ bound)
  | [], m, v => by simp [occA]
  | z :: a, m, v => by
    have h1 : v ∈ usesA bound m z ↔ v ∈ m ∨ (z.kind = 1 ∧ z.n = v ∧ 1 ≤ v ∧ v ≤ bound) := by
      unfold usesA
      split <;> rename_i h
      · simp only [Bool.and_eq_true, decide_eq_true_eq, Bool.not_eq_true', decide_eq_false_iff_not] at h
        rw [List.mem_append, List.mem_singleton]
        constructor
        · rintro (h' | rfl)
          · exact .inl h'
          · exact .inr ⟨h.1, rfl, h.2.1, h.2.2.1⟩
        · rintro (h' | ⟨_, rfl, _⟩)
          · exact .inl h'
          · exact .inr rfl
      · simp only [Bool.and_eq_true, decide_eq_true_eq, Bool.not_eq_true', decide_eq_false_iff_not] at h
        constructor
        · exact .inl
        · rintro (h' | ⟨e1, rfl, e2, e3⟩)
          · exact h'
          · by_cases hm : z.n ∈ m
            · exact hm
            · exact absurd ⟨e1, e2, e3, hm⟩ h
    rw [List.foldl_cons, usesA_mem bound a, h1]
    simp only [mem_occA, List.mem_cons]
    constructor
    · rintro ((h | ⟨h1, h2, h3⟩) | ⟨⟨w, hw, h1, h2⟩, h3⟩)
      · exact .inl h
      · exact .inr ⟨⟨z, .inl rfl, h1, h2⟩, h3⟩
      · exact .inr ⟨⟨w, .inr hw, h1, h2⟩, h3⟩
    · rintro (h | ⟨⟨w, rfl | hw, h1, h2⟩, h3⟩)
      · exact .inl (.inl h)
      · exact .inl (.inr ⟨h1, h2, h3⟩)
      · exact .inr ⟨⟨w, hw, h1, h2⟩, h3⟩
theorem usesA_nodup (bound : Int) : ∀ (a : List Atom) (m : List Int), m.Nodup → (a.foldl (usesA bound) m).Nodup
  | [], m, h => h
  | z :: a, m, h => by
    rw [List.foldl_cons]
    refine usesA_nodup bound a _ ?_
    unfold usesA
    split
    · rename_i hh
      simp only [Bool.and_eq_true, decide_eq_true_eq, Bool.not_eq_true', decide_eq_false_iff_not] at hh
      rw [List.nodup_append]
      refine ⟨h, by simp, fun x hx y hy e => ?_⟩
      have : y = z.n := by simpa using hy
      exact hh.2.2.2 (by rw [← this, ← e]; exact hx)
    · exact h
mutual
theorem uses26_mem (bound : Int) : ∀ (c : Core) (m : List Int) (v : Int), v ∈ c.uses26 bound m ↔ v ∈ m ∨ (v ∈ c.occ ∧ 1 ≤ v ∧ v ≤ bound)
  | .mk k x n s na a nt t nl l, m, v => by
    rw [Core.uses26, Core.occ, usess26_mem bound l, usesA_mem, List.mem_append, or_assoc]
    constructor
    · rintro (h | h | h)
      · exact .inl h
      · exact .inr ⟨.inl h.1, h.2⟩
      · exact .inr ⟨.inr h.1, h.2⟩
    · rintro (h | ⟨h | h, h2⟩)
      · exact .inl h
      · exact .inr (.inl ⟨h, h2⟩)
      · exact .inr (.inr ⟨h, h2⟩)
theorem usess26_mem (bound : Int) : ∀ (l : List Core) (m : List Int) (v : Int), v ∈ Core.usess26 l bound m ↔ v ∈ m ∨ (v ∈ Core.occs l ∧ 1 ≤ v ∧ v ≤ bound)
  | [], m, v => by simp [Core.usess26, Core.occs]
  | c :: l, m, v => by
    rw [Core.usess26, Core.occs, usess26_mem bound l, uses26_mem bound c, List.mem_append, or_assoc]
    constructor
    · rintro (h | h | h)
      · exact .inl h
      · exact .inr ⟨.inl h.1, h.2⟩
      · exact .inr ⟨.inr h.1, h.2⟩
    · rintro (h | ⟨h | h, h2⟩)
      · exact .inl h
      · exact .inr (.inl ⟨h, h2⟩)
      · exact .inr (.inr ⟨h, h2⟩)
end
mutual
theorem uses26_nodup (bound : Int) : ∀ (c : Core) (m : List Int), m.Nodup → (c.uses26 bound m).Nodup
  | .mk k x n s na a nt t nl l, m, h => by
    rw [Core.uses26]
    exact usess26_nodup bound l _ (usesA_nodup bound a m h)
theorem usess26_nodup (bound : Int) : ∀ (l : List Core) (m : List Int), m.Nodup → (Core.usess26 l bound m).Nodup
  | [], m, h => by rw [Core.usess26]; exact h
  | c :: l, m, h => by
    rw [Core.usess26]
    exact usess26_nodup bound l _ (uses26_nodup bound c m h)
end
theorem copies_n : ∀ l : List Core, (Core.copies l).map Core.n = l.map Core.n
  | [] => by simp [Core.copies]
  | c :: l => by
    obtain ⟨k, x, n, s, na, a, nt, t, nl, ls⟩ := c
    rw [Core.copies, List.map_cons, List.map_cons, copies_n l, Core.copy]
    rfl
theorem binds_copy (k x n : Int) (s : List UInt8) (na : Bool) (a : List Atom) (nt : Bool) (t : List Int) (nl : Bool) (l : List Core) : (Core.mk k x n s false a false t true (Core.copies l)).binds = (Core.mk k x n s na a nt t nl l).binds := by
  have hlen : (Core.copies l).length = l.length := by rw [Core.copies_eq, List.length_map]
  simp only [Core.binds, List.map_take, copies_n, hlen]
mutual
theorem order_copy : ∀ c : Core, c.copy.order = c.order
  | .mk k x n s na a nt t nl l => by
    rw [Core.copy, Core.order, Core.order, binds_copy k x n s na a nt t nl l, orders_copy l]
theorem orders_copy : ∀ (l : List Core) (late : Bool) (x : Int) (i : Nat), Core.orders late x i (Core.copies l) = Core.orders late x i l
  | [], late, x, i => by simp [Core.copies]
  | c :: l, late, x, i => by
    rw [Core.copies, Core.orders, Core.orders, order_copy c, orders_copy l]
end
mutual
theorem unb_copy : ∀ (c : Core) (o : List (Int × Bool)) (b : List (Int × Int)), c.copy.unb o b = c.unb o b
  | .mk k x n s na a nt t nl l, o, b => by
    rw [Core.copy, Core.unb, Core.unb, binds_copy k x n s na a nt t nl l, unbs_copy l]
theorem unbs_copy : ∀ (l : List Core) (late : Bool) (x : Int) (i : Nat) (o : List (Int × Bool)) (b : List (Int × Int)), Core.unbs late x i (Core.copies l) o b = Core.unbs late x i l o b
  | [], late, x, i, o, b => by simp [Core.copies]
  | c :: l, late, x, i, o, b => by
    simp only [Core.copies, Core.unbs, unb_copy c, unbs_copy l]
end
theorem free_copy (c : Core) : c.copy.free = c.free := by rw [Core.free, Core.free, unb_copy]
theorem copy_flatG : ∀ (N : Nat) (c : Core), c.size ≤ N → c.copy.flatG = c.flatG := by
  intro N
  induction N with
  | zero => intro c hc; have := c.size_pos; omega
  | succ N ih =>
    intro c hc
    obtain ⟨k, x, n, s, na, a, nt, t, nl, l⟩ := c
    have hl : Core.sizes l ≤ N := by simp only [Core.size] at hc; omega
    rw [Core.copy, Core.copies_eq, Core.flatG, Core.flatG, List.length_map, gs_all, gs_all, List.all_map]
    congr 1
    have key : ∀ ys : List Core, (∀ y ∈ ys, y ∈ l) → ys.all (Core.flatG ∘ Core.copy) = ys.all Core.flatG := by
      intro ys
      induction ys with
      | nil => intro _; rfl
      | cons y ys ihy =>
        intro hys
        have hy := hys y (by simp)
        rw [List.all_cons, List.all_cons, ihy fun z hz => hys z (by simp [hz])]
        simp only [Function.comp]
        rw [ih y (Nat.le_trans (Core.size_mem hy) hl)]
    exact key l fun y hy => hy
theorem there1_iff (free : Int) (fn : Bool) : ∀ (l : List Int) (sn : List (Int × Bool)) (b : Bool), (∀ v, (mget sn v).getD false = true ↔ hasK sn v) →
    ((l.foldl (there1 free fn) (sn, b)).2 = true ↔ b = true ∨ ¬ l.Nodup ∨ (∃ v ∈ l, hasK sn v) ∨ (fn = true ∧ ∃ v ∈ l, v ≤ free))
  | [], sn, b, h => by simp
  | x :: l, sn, b, h => by
    have h' : ∀ v, (mget (mput sn x true) v).getD false = true ↔ hasK (mput sn x true) v := fun v => by
      rw [hasK_put, mget_put]
      by_cases e : x = v
      · simp [e]
      · have e' : ¬ v = x := fun q => e q.symm
        simp [e, e', h v]
    rw [List.foldl_cons, there1, there1_iff free fn l _ _ h']
    simp only [Bool.or_eq_true, h x, Bool.and_eq_true, decide_eq_true_eq, List.nodup_cons, List.mem_cons, hasK_put]
    constructor
    · rintro ((h1 | h1 | ⟨h1, h2⟩) | h1 | ⟨v, hv, rfl | h1⟩ | ⟨h1, v, hv, h2⟩)
      · exact .inl h1
      · exact .inr (.inr (.inl ⟨x, .inl rfl, h1⟩))
      · exact .inr (.inr (.inr ⟨h1, x, .inl rfl, h2⟩))
      · exact .inr (.inl fun q => h1 q.2)
      · exact .inr (.inl fun q => q.1 hv)
      · exact .inr (.inr (.inl ⟨v, .inr hv, h1⟩))
      · exact .inr (.inr (.inr ⟨h1, v, .inr hv, h2⟩))
    · rintro (h1 | h1 | ⟨v, rfl | hv, h1⟩ | ⟨h1, v, rfl | hv, h2⟩)
      · exact .inl (.inl h1)
      · by_cases hx : x ∈ l
        · exact .inr (.inr (.inl ⟨x, hx, .inl rfl⟩))
        · exact .inr (.inl fun q => h1 ⟨hx, q⟩)
      · exact .inl (.inr (.inl h1))
      · exact .inr (.inr (.inl ⟨v, hv, .inr h1⟩))
      · exact .inl (.inr (.inr ⟨h1, h2⟩))
      · exact .inr (.inr (.inr ⟨h1, v, hv, h2⟩))
theorem twice_iff (c : Core) (free : Int) (fn : Bool) : c.twice free fn = true ↔ ¬ c.order.Nodup ∨ (fn = true ∧ ∃ v ∈ c.order, v ≤ free) := by
  rw [Core.twice, there1_iff free fn c.order [] false fun v => by simp [mget, hasK]]
  simp [hasK, mget]
theorem there2_iff (free : Int) (fn : Bool) : ∀ (l : List Int) (b : Bool), l.foldl (there2 free fn) b = true ↔ b = true ∨ ∃ v ∈ l, fn = false ∨ free < v
  | [], b => by simp
  | x :: l, b => by
    rw [List.foldl_cons, there2_iff free fn l]
    simp only [there2, Bool.or_eq_true, Bool.not_eq_true', decide_eq_true_eq, List.mem_cons]
    constructor
    · rintro ((h | h | h) | ⟨v, hv, h⟩)
      · exact .inl h
      · exact .inr ⟨x, .inl rfl, .inl h⟩
      · exact .inr ⟨x, .inl rfl, .inr h⟩
      · exact .inr ⟨v, .inr hv, h⟩
    · rintro (h | ⟨v, rfl | hv, h⟩)
      · exact .inl (.inl h)
      · rcases h with h | h
        · exact .inl (.inr (.inl h))
        · exact .inl (.inr (.inr h))
      · exact .inr ⟨v, hv, h⟩
theorem missing_iff (c : Core) (free : Int) (fn : Bool) : c.missing free fn = true ↔ ∃ v ∈ c.free, fn = false ∨ free < v := by
  rw [Core.missing, there2_iff]
  simp
theorem twiceL_iff (l : List Int) (bound : Int) : twiceL l bound = true ↔ ¬ l.Nodup ∨ ∃ v ∈ l, v ≤ bound := by
  rw [twiceL, List.any_eq_true]
  simp only [List.mem_range, Bool.or_eq_true, decide_eq_true_eq]
  constructor
  · rintro ⟨i, hi, h | h⟩
    · rw [List.getD_eq_getElem?_getD, List.getElem?_eq_getElem hi] at h
      exact .inr ⟨l[i], List.getElem_mem hi, h⟩
    · rw [List.getD_eq_getElem?_getD, List.getElem?_eq_getElem hi] at h
      simp only [Option.getD_some] at h
      refine .inl fun hn => ?_
      obtain ⟨j, hj, e⟩ := List.getElem_of_mem h
      rw [List.length_take] at hj
      rw [List.getElem_take] at e
      have hjl : j < l.length := by omega
      exact List.pairwise_iff_getElem.1 (List.nodup_iff_pairwise_ne.1 hn) j i hjl hi (by omega) e
  · rintro (h | ⟨v, hv, h⟩)
    · have : ∃ i, ∃ hi : i < l.length, l[i] ∈ l.take i := by
        rcases Classical.em (∃ i, ∃ hi : i < l.length, l[i] ∈ l.take i) with h' | h'
        · exact h'
        · exfalso
          apply h
          rw [List.nodup_iff_pairwise_ne, List.pairwise_iff_getElem]
          intro i j hi hj hij e
          exact h' ⟨j, hj, by
            rw [← e]
            exact List.mem_iff_getElem?.2 ⟨i, by rw [List.getElem?_take, if_pos hij, List.getElem?_eq_getElem hi]⟩⟩
      obtain ⟨i, hi, h⟩ := this
      refine ⟨i, hi, .inr ?_⟩
      rw [List.getD_eq_getElem?_getD, List.getElem?_eq_getElem hi]
      exact h
    · obtain ⟨i, hi, rfl⟩ := List.getElem_of_mem hv
      refine ⟨i, hi, .inl ?_⟩
      rw [List.getD_eq_getElem?_getD, List.getElem?_eq_getElem hi]
      exact h
theorem bool_ext {a b : Bool} (h : a = true ↔ b = true) : a = b := Bool.eq_iff_iff.2 h
/-- How much a flat program is. -/
def flatBulk (funs : List FlatF) (main : Core) : Nat := main.bulk + (funs.map fun p => p.2.bulk).sum
theorem sum_mem {funs : List FlatF} {p : FlatF} (h : p ∈ funs) : p.2.bulk ≤ (funs.map fun p => p.2.bulk).sum := by
  induction funs with
  | nil => cases h
  | cons q fs ih =>
    rw [List.map_cons, List.sum_cons]
    rcases List.mem_cons.1 h with rfl | h
    · omega
    · have := ih h; omega
theorem sum_len : ∀ funs : List FlatF, funs.length ≤ (funs.map fun p => p.2.bulk).sum
  | [] => Nat.zero_le _
  | q :: fs => by
    have := sum_len fs
    have := bulk_pos q.2
    rw [List.map_cons, List.sum_cons, List.length_cons]
    omega
end Go.NL

set_option linter.unusedVariables false

set_option maxRecDepth 10000
namespace Go.NL
open Go.Proofs
theorem flatG_good : ∀ (N : Nat) (c : Core), c.size ≤ N → c.bulk ≤ 1048576 → c.flatG = true → c.good big = true ∧ c.vars = true := by
  have hbig : big = 1099511627776 := rfl
  intro N
  induction N with
  | zero => intro c hc; have := c.size_pos; omega
  | succ N ih =>
    intro c hc hb hg
    obtain ⟨k, x, n, s, na, a, nt, t, nl, l⟩ := c
    have hl : Core.sizes l ≤ N := by simp only [Core.size] at hc; omega
    simp only [Core.bulk] at hb
    have hll := bulks_len l
    obtain ⟨h7, h8, hlt, h14, hvv, hs⟩ := flatG_parts hg
    have key : ∀ ys : List Core, (∀ y ∈ ys, y ∈ l) → Core.goods big ys = true ∧ Core.varss ys = true := by
      intro ys
      induction ys with
      | nil => intro _; simp [Core.goods, Core.varss]
      | cons y ys ihy =>
        intro hys
        have hy := hys y (by simp)
        have hyb := bulks_mem hy
        obtain ⟨q1, q2⟩ := ih y (Nat.le_trans (Core.size_mem hy) hl) (by omega) (hs y hy)
        obtain ⟨q3, q4⟩ := ihy fun z hz => hys z (by simp [hz])
        simp [Core.goods, Core.varss, q1, q2, q3, q4]
    obtain ⟨q1, q2⟩ := key l fun y hy => hy
    rw [Core.good, Core.vars, q1, q2]
    refine ⟨?_, by simpa using hvv⟩
    simp [h8]
    omega
theorem flatFine_of (F : List FlatF) (c : Core) (hb : c.bulk ≤ 1048576) : c.FlatFine F := by
  have hbig : big = 1099511627776 := rfl
  have h1 := order_le_bulk c
  have h2 := atoms_le_bulk c
  exact ⟨small_mono (by omega) c.size c (Nat.le_refl _) (small_of c.size c (Nat.le_refl _) hb), fun h => (flatG_good c.size c (Nat.le_refl _) hb (flatMay_G F c.size c (Nat.le_refl _) hb h)).1,
    fun h => (flatG_good c.size c (Nat.le_refl _) hb (flatMay_G F c.size c (Nat.le_refl _) hb h)).2, by omega, by omega⟩
theorem fine26_of (c : Core) (hb : c.bulk ≤ 1048576) : c.Fine26 := by
  have hbig : big = 1099511627776 := rfl
  have h1 := all26_le_bulk c
  have h2 := atoms_le_bulk c
  exact ⟨small_mono (by omega) c.size c (Nat.le_refl _) (small_of c.size c (Nat.le_refl _) hb), by omega, by omega⟩
theorem may26_G (funs : List FlatF) (c : Core) (hb : c.bulk ≤ 1048576) (h : c.may26 funs = true) : c.flatG = true := by
  rw [may26_eq funs c.size c (Nat.le_refl _) hb] at h
  have := flatMay_G _ c.copy.size c.copy (Nat.le_refl _) (by rw [bulk_copy]; exact hb) h
  rwa [copy_flatG c.size c (Nat.le_refl _)] at this
theorem twice_main {c : Core} (hg : c.flatG = true) : c.copy.twice 0 false = twiceL c.all26 (-1) := by
  refine bool_ext ?_
  rw [twice_iff, twiceL_iff, order_copy]
  have hp := order_perm c.size c (Nat.le_refl _) hg
  have hn := all26_nonneg c.size c (Nat.le_refl _) hg
  rw [hp.nodup_iff]
  constructor
  · rintro (h | ⟨h, _⟩)
    · exact .inl h
    · cases h
  · rintro (h | ⟨v, hv, h⟩)
    · exact .inl h
    · have := hn v hv; omega
theorem twice_fun {c : Core} (hg : c.flatG = true) (fr : Int) : c.copy.twice fr true = twiceL c.all26 fr := by
  refine bool_ext ?_
  rw [twice_iff, twiceL_iff, order_copy]
  have hp := order_perm c.size c (Nat.le_refl _) hg
  rw [hp.nodup_iff]
  constructor
  · rintro (h | ⟨_, v, hv, h⟩)
    · exact .inl h
    · exact .inr ⟨v, hp.mem_iff.1 hv, h⟩
  · rintro (h | ⟨v, hv, h⟩)
    · exact .inl h
    · exact .inr ⟨rfl, v, hp.mem_iff.2 hv, h⟩
theorem nil_bd : (fun v : Int => decide (v ∈ ([] : List Int))) = fun _ => false := by funext v; simp
theorem missing_main {c : Core} (hb : c.bulk ≤ 1048576) (hg : c.flatG = true) : c.copy.missing 0 false = !c.used26 (-1) [] := by
  have hbig : big = 1099511627776 := rfl
  refine bool_ext ?_
  have hu := used26_fvs (-1) c.size c (Nat.le_refl _) hg []
  rw [nil_bd] at hu
  have hn : ∀ b : Bool, b = false ↔ ¬ b = true := fun b => by cases b <;> simp
  rw [missing_iff, free_copy, Bool.not_eq_true', hn (c.used26 _ []), hu]
  constructor
  · rintro ⟨v, hv, _⟩ h
    have hv := (mem_free (by omega) v).1 hv
    have h1 := h v hv
    have h2 := occ_nonneg c.size c (Nat.le_refl _) hg v (fvs_occ c _ v hv).1
    omega
  · intro h
    rcases Classical.em (∃ v, v ∈ c.fvs fun _ => false) with ⟨v, hv⟩ | h'
    · exact ⟨v, (mem_free (by omega) v).2 hv, .inl rfl⟩
    · exact absurd (fun v hv => absurd ⟨v, hv⟩ h') h
theorem missing_fun {c : Core} (hb : c.bulk ≤ 1048576) (hg : c.flatG = true) (fr : Int) : c.copy.missing fr true = !c.used26 fr [] := by
  have hbig : big = 1099511627776 := rfl
  refine bool_ext ?_
  have hu := used26_fvs fr c.size c (Nat.le_refl _) hg []
  rw [nil_bd] at hu
  have hn : ∀ b : Bool, b = false ↔ ¬ b = true := fun b => by cases b <;> simp
  rw [missing_iff, free_copy, Bool.not_eq_true', hn (c.used26 _ []), hu]
  constructor
  · rintro ⟨v, hv, hh⟩ h
    have hv := (mem_free (by omega) v).1 hv
    have h1 := h v hv
    rcases hh with hh | hh
    · cases hh
    · omega
  · intro h
    rcases Classical.em (∃ v, (v ∈ c.fvs fun _ => false) ∧ fr < v) with ⟨v, hv, h2⟩ | h'
    · exact ⟨v, (mem_free (by omega) v).2 hv, .inr h2⟩
    · refine absurd (fun v hv => ?_) h
      rcases Classical.em (v ≤ fr) with h3 | h3
      · exact h3
      · exact absurd ⟨v, hv, by omega⟩ h'
theorem any_ext {α β : Type} {p : α → Bool} {q : β → Bool} {g : β → α} : ∀ (l : List β), (∀ x ∈ l, p (g x) = q x) → (l.map g).any p = l.any q
  | [], _ => rfl
  | x :: l, h => by
    rw [List.map_cons, List.any_cons, List.any_cons, h x (by simp), any_ext l fun y hy => h y (by simp [hy])]
theorem check_same {funs : List FlatF} {main : Core} (h : flatBulk funs main ≤ 1048576) : flatCheck (funs.map FlatF.copy) main.copy = check26 funs main := by
  have hmb : main.bulk ≤ 1048576 := by simp only [flatBulk] at h; omega
  have hfb : ∀ p ∈ funs, p.2.bulk ≤ 1048576 := fun p hp => by have := sum_mem hp; simp only [flatBulk] at h; omega
  have e1 : main.copy.flatMay (funs.map FlatF.copy) = main.may26 funs := (may26_eq funs main.size main (Nat.le_refl _) hmb).symm
  have e2 : (funs.map FlatF.copy).any (funBad (funs.map FlatF.copy)) = funs.any (fun26 funs) := by
    refine any_ext funs fun p hp => ?_
    obtain ⟨pn, pc⟩ := p
    simp only [FlatF.copy, funBad, fun26]
    rw [may26_eq funs pc.size pc (Nat.le_refl _) (hfb _ hp)]
    rfl
  rw [flatCheck, check26, e1, e2, List.length_map, shapes26]
  by_cases hA : (decide (16384 < funs.length) || !main.may26 funs) = true
  · rw [if_pos hA, if_pos]
    simp only [Bool.or_eq_true, Bool.not_eq_true', decide_eq_true_eq] at hA ⊢
    rcases hA with hA | hA
    · exact .inl hA
    · exact .inr (by rw [hA, Bool.and_false])
  rw [if_neg hA]
  simp only [Bool.or_eq_true, Bool.not_eq_true', decide_eq_true_eq, not_or] at hA
  obtain ⟨hA1, hA2⟩ := hA
  have hmm : main.may26 funs = true := by simpa using hA2
  by_cases hB : funs.any (fun26 funs) = true
  · rw [if_pos hB, if_pos (by simp [hB])]
  have hB' : funs.any (fun26 funs) = false := by simpa using hB
  have hfm : ∀ p ∈ funs, p.2.may26 funs = true := fun p hp => by
    have := List.any_eq_false.1 hB' p hp
    simp only [fun26, Bool.or_eq_true, not_or, Bool.not_eq_true', Bool.not_eq_false] at this
    exact this.2.2
  have hS : ¬ (decide (16384 < funs.length) || !(!funs.any (fun26 funs) && main.may26 funs)) = true := by rw [hmm, hB']; simp [hA1]
  rw [if_neg hB, if_neg hS]
  have hG := may26_G funs main hmb hmm
  have hGf : ∀ p ∈ funs, p.2.flatG = true := fun p hp => may26_G funs p.2 (hfb p hp) (hfm p hp)
  have e3 : (funs.map FlatF.copy).any (fun p => p.2.twice p.1 true) = funs.any fun p => twiceL p.2.all26 p.1 := any_ext funs fun p hp => twice_fun (hGf p hp) p.1
  have e4 : (funs.map FlatF.copy).any (fun p => p.2.missing p.1 true) = funs.any fun p => !p.2.used26 p.1 [] := any_ext funs fun p hp => missing_fun (hfb p hp) (hGf p hp) p.1
  rw [twice_main hG, missing_main hmb hG, e3, e4]
theorem free_nodup {c : Core} (hv : c.vars = true) : c.free.Nodup := by
  have := (Core.unb_ok c 0 [] [] (.nil 0) hv).nd
  rw [Core.free]
  exact (List.mergeSort_perm _ _).nodup_iff.2 this
theorem caps_same {funs : List FlatF} {main : Core} (h : flatBulk funs main ≤ 1048576) : flatCaps (funs.map FlatF.copy) main.copy = caps26 funs main := by
  have hbig : big = 1099511627776 := rfl
  have hmb : main.bulk ≤ 1048576 := by simp only [flatBulk] at h; omega
  have hfb : ∀ p ∈ funs, p.2.bulk ≤ 1048576 := fun p hp => by have := sum_mem hp; simp only [flatBulk] at h; omega
  rw [flatCaps, caps26, check_same h]
  by_cases hz : check26 funs main ≠ 0
  · rw [if_pos hz, if_pos hz]
  rw [if_neg hz, if_neg hz, List.map_map]
  have hz : check26 funs main = 0 := by simpa using hz
  rw [check26] at hz
  split at hz
  · cases hz
  rename_i q1
  split at hz
  · cases hz
  rename_i q2
  split at hz
  · cases hz
  rename_i q3
  clear hz
  refine List.map_congr_left fun p hp => ?_
  have hb := hfb p hp
  have hm : p.2.may26 funs = true := by
    simp only [Bool.or_eq_true, Bool.not_eq_true', not_or, Bool.not_eq_false, shapes26, Bool.and_eq_true] at q1
    have := List.any_eq_false.1 q1.2.1 p hp
    simp only [fun26, Bool.or_eq_true, not_or, Bool.not_eq_true', Bool.not_eq_false] at this
    exact this.2.2
  have hg := may26_G funs p.2 hb hm
  have ht : twiceL p.2.all26 p.1 = false := by
    have : (funs.any fun p => twiceL p.2.all26 p.1) = false := by
      cases e : funs.any fun p => twiceL p.2.all26 p.1
      · rfl
      · rw [e] at q2; simp at q2
    simpa using List.any_eq_false.1 this p hp
  have hu : p.2.used26 p.1 [] = true := by
    have : (funs.any fun p => !p.2.used26 p.1 []) = false := by
      cases e : funs.any fun p => !p.2.used26 p.1 []
      · rfl
      · rw [e] at q3; simp at q3
    simpa using List.any_eq_false.1 this p hp
  have hu := (used26_fvs p.1 p.2.size p.2 (Nat.le_refl _) hg []).1 hu
  rw [nil_bd] at hu
  have ho : ∀ v ∈ p.2.order, ¬ v ≤ p.1 := fun v hv hle => by
    have := (twiceL_iff p.2.all26 p.1).2 (.inr ⟨v, (order_perm p.2.size p.2 (Nat.le_refl _) hg).mem_iff.1 hv, hle⟩)
    rw [ht] at this
    cases this
  have hn := free_nodup (flatG_good p.2.size p.2 (Nat.le_refl _) hb hg).2
  have hperm : (p.2.free.filter fun v => decide (0 < v)).Perm (p.2.uses26 p.1 []) := by
    rw [List.perm_ext_iff_of_nodup (hn.filter _) (uses26_nodup p.1 p.2 [] .nil)]
    intro v
    rw [List.mem_filter, mem_free (by omega), uses26_mem]
    simp only [decide_eq_true_eq, List.not_mem_nil, false_or]
    constructor
    · rintro ⟨h1, h2⟩
      exact ⟨(fvs_occ _ _ v h1).1, by omega, hu v h1⟩
    · rintro ⟨h1, h2, h3⟩
      exact ⟨occ_fvs p.2 _ v h1 rfl fun hv => ho v hv h3, by omega⟩
  have := hperm.length_eq
  simp only [Function.comp, FlatF.copy, free_copy]
  rw [this]
theorem checksOk {funs : List FlatF} {main : Core} (h : flatBulk funs main ≤ 1048576) : ChecksOk funs main := by
  have hbig : big = 1099511627776 := rfl
  have hmb : main.bulk ≤ 1048576 := by simp only [flatBulk] at h; omega
  have hfb : ∀ p ∈ funs, p.2.bulk ≤ 1048576 := fun p hp => by have := sum_mem hp; simp only [flatBulk] at h; omega
  have hlen := sum_len funs
  refine ⟨by simp only [flatBulk] at h; omega, fine26_of main hmb, fun p hp => fine26_of p.2 (hfb p hp), flatFine_of _ _ (by rw [bulk_copy]; exact hmb), fun p hp => ?_, check_same h, caps_same h⟩
  obtain ⟨q, hq, rfl⟩ := List.mem_map.1 hp
  exact flatFine_of _ _ (by
    show q.2.copy.bulk ≤ 1048576
    rw [bulk_copy]
    exact hfb q hq)
end Go.NL

set_option linter.unusedVariables false
namespace Go.NL
open Go.Proofs
/-- What a cell may be seen as, by so many steps into memory. -/
def imN (w : World) : Nat → Nat → Nat → AV → Prop
  | 0, _, _, _ => False
  | n + 1, cb, o, u => ∃ V, w.cell? ⟨cb, o, none⟩ = some V ∧ Rel ⟨0, fun _ => none, imN w n⟩ u V ∧ u.one = true
def GN (w : World) (n : Nat) : G := ⟨0, fun _ => none, imN w n⟩
def GW (w : World) : G := ⟨0, fun _ => none, fun cb o u => ∃ n, imN w n cb o u⟩
theorem imN_succ (w : World) : ∀ (n cb o : Nat) (u : AV), imN w n cb o u → imN w (n + 1) cb o u
  | 0, _, _, _, h => h.elim
  | n + 1, _, _, _, ⟨V, h1, h2, h3⟩ => ⟨V, h1, h2.ext (Nat.le_refl _) (imN_succ w n) (fun _ _ hb => absurd hb (Nat.not_lt_zero _)), h3⟩
theorem imN_mono (w : World) {n m : Nat} (h : n ≤ m) (cb o : Nat) (u : AV) (hu : imN w n cb o u) : imN w m cb o u := by
  induction h with
  | refl => exact hu
  | step _ ih => exact imN_succ w _ _ _ _ ih
theorem rel_up {w : World} {n m : Nat} (h : n ≤ m) {v : AV} {V : Value} (hr : Rel (GN w n) v V) : Rel (GN w m) v V :=
  hr.ext (Nat.le_refl _) (fun cb o u hu => imN_mono w h cb o u hu) (fun _ _ hb => absurd hb (Nat.not_lt_zero _))
theorem rel_w {w : World} {n : Nat} {v : AV} {V : Value} (hr : Rel (GN w n) v V) : Rel (GW w) v V :=
  hr.ext (Nat.le_refl _) (fun cb o u hu => ⟨n, hu⟩) (fun _ _ hb => absurd hb (Nat.not_lt_zero _))
theorem sim_w (w : World) : Sim (GW w) (fun _ => none) w := by
  refine ⟨fun _ _ => ⟨rfl, rfl⟩, fun _ _ h => (by cases h), fun _ _ _ _ _ _ _ h => (by cases h), fun _ _ _ _ _ _ h => (by cases h), fun _ _ _ _ h => (by cases h), ?_⟩
  rintro cb o v ⟨n, hn⟩
  cases n with
  | zero => exact hn.elim
  | succ n =>
    obtain ⟨V, h1, h2, h3⟩ := hn
    exact ⟨V, h1, rel_w (n := n) h2, h3⟩
/-- Cells that are read. -/
def RdL (w : World) (n : Nat) (es : List AV) (cs : List Value) : Prop :=
  es.length = cs.length ∧ ∀ (i : Nat) (e : AV) (v : Value), es[i]? = some e → cs[i]? = some v → Rel (GN w n) e v ∧ e.one = true
theorem RdL.up {w : World} {n m : Nat} (h : n ≤ m) {es : List AV} {cs : List Value} (hr : RdL w n es cs) : RdL w m es cs :=
  ⟨hr.1, fun i e v h1 h2 => ⟨rel_up h (hr.2 i e v h1 h2).1, (hr.2 i e v h1 h2).2⟩⟩
theorem RdL.nil {w : World} {n : Nat} : RdL w n [] [] := ⟨rfl, fun i e v h => by simp at h⟩
theorem RdL.one {w : World} {n : Nat} {e : AV} {v : Value} (h : Rel (GN w n) e v) (ho : e.one = true) : RdL w n [e] [v] :=
  ⟨rfl, fun i e' v' h1 h2 => by
    cases i with
    | zero => simp at h1 h2; subst h1; subst h2; exact ⟨h, ho⟩
    | succ i => simp at h1⟩
theorem RdL.append {w : World} {n : Nat} {es fs : List AV} {cs ds : List Value} (h : RdL w n es cs) (h' : RdL w n fs ds) : RdL w n (es ++ fs) (cs ++ ds) := by
  refine ⟨by rw [List.length_append, List.length_append, h.1, h'.1], fun i e v h1 h2 => ?_⟩
  by_cases hi : i < es.length
  · rw [List.getElem?_append_left hi] at h1
    rw [List.getElem?_append_left (by rw [← h.1]; exact hi)] at h2
    exact h.2 i e v h1 h2
  · rw [List.getElem?_append_right (by omega)] at h1
    rw [List.getElem?_append_right (by rw [← h.1]; omega), ← h.1] at h2
    exact h'.2 _ e v h1 h2
theorem RdL.rel {w : World} {n : Nat} {es : List AV} {cs : List Value} (h : RdL w n es cs) : Rel (GN w n) (.agg es) (.agg cs.toArray) := by
  refine .agg _ _ (by simpa using h.1) (fun c hc => ?_) fun i h1 h2 => ?_
  · obtain ⟨i, hi, rfl⟩ := List.mem_iff_getElem.1 hc
    have h2 : i < cs.length := h.1 ▸ hi
    exact (h.2 i _ _ (List.getElem?_eq_getElem hi) (List.getElem?_eq_getElem h2)).2
  · have h2' : i < cs.length := by simpa using h2
    have := (h.2 i _ _ (List.getElem?_eq_getElem h1) (List.getElem?_eq_getElem h2')).1
    simpa using this
section
variable {H : Type} {enc : TypeId × Value → H} {P : Program} {w : World}
/-- What stands in a cell of the world may be seen as what it reads as. -/
theorem RdL.im {n : Nat} {a : Addr} {k : Nat} {es : List AV} {cs : List Value} (hc : w.cells? 0 a k = some cs) (h : RdL w n es cs) (ha : a.spot = none) (j : Nat) (u : AV) (hu : es[j]? = some u) : imN w (n + 1) a.block (a.off + j) u := by
  obtain ⟨_, hl, hcell⟩ := World.cells?_some hc
  have hj : j < es.length := (List.getElem?_eq_some_iff.1 hu).1
  have hj2 : j < cs.length := h.1 ▸ hj
  obtain ⟨h1, h2⟩ := h.2 j u _ hu (List.getElem?_eq_getElem hj2)
  refine ⟨cs[j], ?_, h1, h2⟩
  have := hcell j (by omega)
  rw [List.getElem?_eq_getElem hj2] at this
  rw [← this]
  congr 1
  obtain ⟨b, o, s⟩ := a
  simp only at ha
  subst ha
  unfold Addr.add
  split
  · rename_i h0; subst h0; rfl
  · rfl
/-- Many elements. -/
theorem rd_many {α : Type} (ex : α → AV) (bx : α → Nat) (a : Addr) (k : Nat) (Q : List Value → DataW H × List MemPlace → Prop)
    (hel : ∀ cs x, Q cs x → ∃ n y, RdL w n (ex y).cells cs ∧ bx y ≤ Go.Proofs.Ytdeboephmbaihaa.Rows.uptoBulk x.1) :
    ∀ (l : List (DataW H × List MemPlace)) (i0 : Nat), (∀ i x, l[i]? = some x → ∃ cs, w.cells? 0 (a.add ((i0 + i) * k)) k = some cs ∧ Q cs x) →
      ∃ (n : Nat) (ys : List α), ys.length = l.length ∧ (ys.map bx).sum ≤ Go.Proofs.Ytdeboephmbaihaa.Rows.uptoBulkAll (l.map (·.1)) ∧ ∀ i y, ys[i]? = some y → ∃ cs, w.cells? 0 (a.add ((i0 + i) * k)) k = some cs ∧ RdL w n (ex y).cells cs
  | [], _, _ => ⟨0, [], rfl, by simp [Go.Proofs.Ytdeboephmbaihaa.Rows.uptoBulkAll], fun i y h => by simp at h⟩
  | x :: l, i0, h => by
    obtain ⟨cs, h1, h2⟩ := h 0 x rfl
    obtain ⟨n1, y, h3, h4⟩ := hel cs x h2
    obtain ⟨n2, ys, h5, h6, h7⟩ := rd_many ex bx a k Q hel l (i0 + 1) fun i x hx => by
      have := h (i + 1) x (by simpa using hx)
      rwa [show i0 + (i + 1) = i0 + 1 + i by omega] at this
    refine ⟨max n1 n2, y :: ys, by simp [h5], ?_, fun i z hz => ?_⟩
    · simp only [List.map_cons, List.sum_cons, Go.Proofs.Ytdeboephmbaihaa.Rows.uptoBulkAll]
      omega
    · cases i with
      | zero =>
        simp at hz
        subst hz
        exact ⟨cs, h1, h3.up (Nat.le_max_left _ _)⟩
      | succ i =>
        simp at hz
        obtain ⟨cs', q1, q2⟩ := h7 i z hz
        exact ⟨cs', by rwa [show i0 + (i + 1) = i0 + 1 + i by omega], q2.up (Nat.le_max_right _ _)⟩
/-- A slice. -/
theorem rd_slice {α : Type} (ex : α → AV) (bx : α → Nat) {t e : TypeId} {k fuel : Nat} {cs : List Value} {x : DataW H × List MemPlace} (hk : P.cellsOf e = k) (hk0 : 0 < k) (hlen : ∀ y, (ex y).cells.length = k) (hu : P.underlying t = some (.slice e))
    (hel : ∀ n, n < fuel → ∀ cs x, DataW.trod enc P w 0 (fun _ => true) true n e cs = some x → ∃ m y, RdL w m (ex y).cells cs ∧ bx y ≤ Go.Proofs.Ytdeboephmbaihaa.Rows.uptoBulk x.1)
    (h : DataW.trod enc P w 0 (fun _ => true) true fuel t cs = some x) :
    ∃ (m : Nat) (b : Bool) (ys : List α), RdL w m [encSl b k (ys.map ex)] cs ∧ (ys.map bx).sum + 1 ≤ Go.Proofs.Ytdeboephmbaihaa.Rows.uptoBulk x.1 := by
  rcases DataW.trod_slice hu h with ⟨rfl, rfl⟩ | ⟨a, len, cap, elems, rest, n, rfl, rfl, rfl, hb, hl, hm, hlen', hel', hsp, _⟩
  · exact ⟨0, true, [], .one (by simpa [encSl] using Rel.nilslice) rfl, by simp [Go.Proofs.Ytdeboephmbaihaa.Rows.uptoBulk]⟩
  rw [hk] at hel' hsp
  obtain ⟨m, ys, h1, h2, h3⟩ := rd_many (w := w) ex bx a k (fun cs x => DataW.trod enc P w 0 (fun _ => true) true n e cs = some x) (fun cs x hq => hel n (Nat.lt_succ_self n) cs x hq) elems 0 (fun i x hx => by
    have := hel' i (by rw [← hlen']; exact (List.getElem?_eq_some_iff.1 hx).1)
    rw [hx, Option.bind_eq_some_iff] at this
    obtain ⟨cs, q1, q2⟩ := this
    exact ⟨cs, by rwa [Nat.zero_add], q2⟩)
  have spot_of : ∀ (i : Nat) (cs : List Value), i = 0 → w.cells? 0 (a.add (i * k)) k = some cs → a.spot = none := by
    rintro i cs rfl hc
    obtain ⟨_, hcl, hcc⟩ := World.cells?_some hc
    have h0 := hcc 0 hk0
    rw [Nat.zero_mul] at h0
    have h00 : (a.add 0).add 0 = a := by simp [Addr.add]
    rw [h00, List.getElem?_eq_getElem (by omega)] at h0
    unfold World.cell? at h0
    split at h0
    · split at h0
      · cases h0
      · rename_i hs
        cases hsp : a.spot with
        | none => rfl
        | some p => rw [hsp] at hs; simp at hs
    · cases h0
  refine ⟨m + 1, false, ys, .one ?_ (oneSl _ _ _), ?_⟩
  · by_cases ha : a.spot = none
    · obtain ⟨cb, o, sp⟩ := a
      simp only at ha
      subst ha
      have := Rel.islice (g := GN w (m + 1)) k (ys.map ex) false cb o cap (by simp; omega) (by simp) (fun i e he => by
        rw [List.getElem?_map, Option.map_eq_some_iff] at he
        obtain ⟨y, hy, rfl⟩ := he
        refine ⟨hlen y, fun j u hu => ?_⟩
        obtain ⟨cs, q1, q2⟩ := h3 i y hy
        rw [Nat.zero_add, add_mk] at q1
        exact RdL.im q1 q2 rfl j u hu)
      rw [List.length_map, h1, hlen'] at this
      exact this
    · have hl0 : len = 0 := by
        rcases Nat.eq_zero_or_pos len with h0 | h0
        · exact h0
        · have := hel' 0 h0
          rw [List.getElem?_eq_getElem (by omega), Option.bind_eq_some_iff] at this
          obtain ⟨cs, q1, _⟩ := this
          exact absurd (spot_of 0 cs rfl q1) ha
      have hc0 : cap = 0 := by
        rcases Nat.eq_zero_or_pos cap with h0 | h0
        · exact h0
        · obtain ⟨hr, hrest⟩ := hsp rfl
          have := hrest 0 (by omega)
          rw [List.getElem?_eq_getElem (by omega), Option.bind_eq_some_iff] at this
          obtain ⟨cs, q1, _⟩ := this
          exact absurd (spot_of (len + 0) cs (by omega) q1) ha
      subst hl0 hc0
      have : ys = [] := List.eq_nil_of_length_eq_zero (by omega)
      subst this
      simpa [encSl] using Rel.islice0 (g := GN w (m + 1)) k false a
  · simp only [Go.Proofs.Ytdeboephmbaihaa.Rows.uptoBulk]
    omega
/-- Is the type a struct of such fields (types and places)? -/
def structB (P : Program) (t : TypeId) (l : List (TypeId × Nat)) : Bool :=
  match P.underlying t with
  | some (.struct fs) => decide (fs.toList.map (fun f => (f.type, f.offset)) = l)
  | _ => false
theorem rd_struct {t : TypeId} {l : List (TypeId × Nat)} {fuel : Nat} {cs : List Value} {x : DataW H × List MemPlace} (hs : structB P t l = true) (h : DataW.trod enc P w 0 (fun _ => true) true fuel t cs = some x) :
    ∃ (xs : List (DataW H × List MemPlace)) (n : Nat), n < fuel ∧ x.1 = .agg (xs.map (·.1)) ∧ cs.length = P.cellsOf t ∧ xs.length = l.length ∧
      ∀ (i : Nat) (ty : TypeId) (off : Nat), l[i]? = some (ty, off) → DataW.trod enc P w 0 (fun _ => true) true n ty ((cs.drop off).take (P.cellsOf ty)) = xs[i]? := by
  unfold structB at hs
  split at hs
  · rename_i fs hu
    have hs := of_decide_eq_true hs
    obtain ⟨xs, n, h1, h2, h3, h4, h5⟩ := DataW.trod_struct hu h
    refine ⟨xs, n, by omega, by rw [h2], h3, by rw [← hs, List.length_map, h4]; simp, fun i ty off hi => ?_⟩
    rw [← hs, List.getElem?_map, Option.map_eq_some_iff] at hi
    obtain ⟨f, hf, he⟩ := hi
    cases he
    exact h5 i f (by simpa using hf)
  · cases hs
theorem rd_int {t : TypeId} {fuel : Nat} {cs : List Value} {x : DataW H × List MemPlace} (hu : P.underlying t = some (.int .i64)) (h : DataW.trod enc P w 0 (fun _ => true) true fuel t cs = some x) : ∃ n, RdL w 0 [encInt n] cs ∧ 1 ≤ Go.Proofs.Ytdeboephmbaihaa.Rows.uptoBulk x.1 := by
  obtain ⟨n, rfl, rfl, _⟩ := DataW.trod_int hu h
  exact ⟨n, .one (.int _ _) rfl, by simp [Go.Proofs.Ytdeboephmbaihaa.Rows.uptoBulk]⟩
theorem rd_str {t : TypeId} {fuel : Nat} {cs : List Value} {x : DataW H × List MemPlace} (hu : P.underlying t = some .string) (h : DataW.trod enc P w 0 (fun _ => true) true fuel t cs = some x) : ∃ s, RdL w 0 [.str s] cs := by
  obtain ⟨s, rfl, rfl, _⟩ := DataW.trod_string hu h
  exact ⟨s.data.toList, .one (.str _) rfl⟩
end
end Go.NL

set_option linter.unusedVariables false
namespace Go.NL
open Go.Proofs
theorem k_int : Try.prog.underlying 3 = some (.int .i64) := by kernel_rfl
theorem k_str : Try.prog.underlying 9 = some .string := by kernel_rfl
theorem k_ats : Try.prog.underlying 23 = some (.slice 29) := by kernel_rfl
theorem k_ints : Try.prog.underlying 24 = some (.slice 3) := by kernel_rfl
theorem k_cores : Try.prog.underlying 25 = some (.slice 27) := by kernel_rfl
theorem k_ffs : Try.prog.underlying 30 = some (.slice 60) := by kernel_rfl
theorem k_at : structB Try.prog 29 [(3, 0), (3, 1), (9, 2)] = true := by kernel_rfl
theorem k_core : structB Try.prog 27 [(3, 0), (3, 1), (3, 2), (9, 3), (23, 4), (24, 5), (25, 6)] = true := by kernel_rfl
theorem k_ff : structB Try.prog 60 [(3, 0), (27, 1)] = true := by kernel_rfl
theorem k_fl : structB Try.prog 32 [(30, 0), (27, 1)] = true := by kernel_rfl
theorem s_int : Try.prog.cellsOf 3 = 1 := by kernel_rfl
theorem s_str : Try.prog.cellsOf 9 = 1 := by kernel_rfl
theorem s_ats : Try.prog.cellsOf 23 = 1 := by kernel_rfl
theorem s_ints : Try.prog.cellsOf 24 = 1 := by kernel_rfl
theorem s_cores : Try.prog.cellsOf 25 = 1 := by kernel_rfl
theorem s_ffs : Try.prog.cellsOf 30 = 1 := by kernel_rfl
theorem s_at : Try.prog.cellsOf 29 = 3 := by kernel_rfl
theorem s_core : Try.prog.cellsOf 27 = 7 := by kernel_rfl
theorem s_ff : Try.prog.cellsOf 60 = 8 := by kernel_rfl
theorem s_fl : Try.prog.cellsOf 32 = 8 := by kernel_rfl
theorem len2 {α : Type} : ∀ {l : List α}, l.length = 2 → ∃ a b, l = [a, b]
  | [a, b], _ => ⟨a, b, rfl⟩
theorem len3 {α : Type} : ∀ {l : List α}, l.length = 3 → ∃ a b c, l = [a, b, c]
  | [a, b, c], _ => ⟨a, b, c, rfl⟩
theorem len7 {α : Type} : ∀ {l : List α}, l.length = 7 → ∃ a b c d e f g, l = [a, b, c, d, e, f, g]
  | [a, b, c, d, e, f, g], _ => ⟨a, b, c, d, e, f, g, rfl⟩
theorem len8 {α : Type} : ∀ {l : List α}, l.length = 8 → ∃ a r, l = a :: r ∧ r.length = 7
  | a :: r, h => ⟨a, r, rfl, by simpa using h⟩
section
variable {H : Type} {enc : TypeId × Value → H} {w : World}
theorem rd_atom {fuel : Nat} {cs : List Value} {x : DataW H × List MemPlace} (h : DataW.trod enc Try.prog w 0 (fun _ => true) true fuel 29 cs = some x) : ∃ (m : Nat) (y : Atom), RdL w m y.enc.cells cs ∧ 1 ≤ Go.Proofs.Ytdeboephmbaihaa.Rows.uptoBulk x.1 := by
  obtain ⟨xs, n, hn, hx, hl, hxl, hf⟩ := rd_struct k_at h
  rw [s_at] at hl
  obtain ⟨x0, x1, x2, rfl⟩ := len3 hxl
  obtain ⟨c0, c1, c2, rfl⟩ := len3 hl
  next =>
    have f0 := hf 0 _ _ rfl
    have f1 := hf 1 _ _ rfl
    have f2 := hf 2 _ _ rfl
    rw [s_int] at f0 f1
    rw [s_str] at f2
    obtain ⟨a0, r0, _⟩ := rd_int k_int f0
    obtain ⟨a1, r1, _⟩ := rd_int k_int f1
    obtain ⟨a2, r2⟩ := rd_str k_str f2
    refine ⟨0, ⟨a0, a1, a2⟩, (r0.append r1).append r2, ?_⟩
    rw [hx]
    simp only [Go.Proofs.Ytdeboephmbaihaa.Rows.uptoBulk]
    omega
theorem rd_core : ∀ (fuel : Nat) (cs : List Value) (x : DataW H × List MemPlace), DataW.trod enc Try.prog w 0 (fun _ => true) true fuel 27 cs = some x → ∃ (m : Nat) (y : Core), RdL w m y.enc.cells cs ∧ y.bulk ≤ Go.Proofs.Ytdeboephmbaihaa.Rows.uptoBulk x.1 := by
  intro fuel
  induction fuel using Nat.strongRecOn with
  | ind fuel ih =>
    intro cs x h
    obtain ⟨xs, n, hn, hx, hl, hxl, hf⟩ := rd_struct k_core h
    rw [s_core] at hl
    obtain ⟨x0, x1, x2, x3, x4, x5, x6, rfl⟩ := len7 hxl
    obtain ⟨c0, c1, c2, c3, c4, c5, c6, rfl⟩ := len7 hl
    next =>
      have f0 := hf 0 _ _ rfl
      have f1 := hf 1 _ _ rfl
      have f2 := hf 2 _ _ rfl
      have f3 := hf 3 _ _ rfl
      have f4 := hf 4 _ _ rfl
      have f5 := hf 5 _ _ rfl
      have f6 := hf 6 _ _ rfl
      rw [s_int] at f0 f1 f2
      rw [s_str] at f3
      rw [s_ats] at f4
      rw [s_ints] at f5
      rw [s_cores] at f6
      obtain ⟨a0, r0, _⟩ := rd_int k_int f0
      obtain ⟨a1, r1, _⟩ := rd_int k_int f1
      obtain ⟨a2, r2, _⟩ := rd_int k_int f2
      obtain ⟨a3, r3⟩ := rd_str k_str f3
      obtain ⟨m4, b4, a4, r4, q4⟩ := rd_slice Atom.enc (fun _ => 1) s_at (by omega) (fun _ => rfl) k_ats (fun n _ cs x h => rd_atom h) f4
      obtain ⟨m5, b5, a5, r5, q5⟩ := rd_slice encInt (fun _ => 1) s_int (by omega) (fun _ => rfl) k_ints (fun n _ cs x h => let ⟨i, h1, h2⟩ := rd_int k_int h; ⟨0, i, h1, h2⟩) f5
      obtain ⟨m6, b6, a6, r6, q6⟩ := rd_slice Core.enc Core.bulk s_core (by omega) Core.enc_cells k_cores (fun n' hn' cs x h => ih n' (by omega) cs x h) f6
      refine ⟨m4 + m5 + m6, .mk a0 a1 a2 a3 b4 a4 b5 a5 b6 a6, ?_, ?_⟩
      · have r := (((((r0.append r1).append r2).append r3).up (Nat.zero_le (m4 + m5 + m6))).append (r4.up (by omega))).append (r5.up (by omega : m5 ≤ m4 + m5 + m6)) |>.append (r6.up (by omega))
        simp only [Core.enc, Core.encs_eq, AV.cells]
        exact r
      · rw [hx]
        have hs : ∀ l : List Core, (l.map Core.bulk).sum = Core.bulk.bulks l := by
          intro l
          induction l with
          | nil => rfl
          | cons c l ih => rw [List.map_cons, List.sum_cons, ih, Core.bulk.bulks]
        rw [hs] at q6
        have h1 : ∀ {α : Type} (l : List α), (l.map fun _ => 1).sum = l.length := by
          intro α l
          induction l with
          | nil => rfl
          | cons c l ih => rw [List.map_cons, List.sum_cons, ih, List.length_cons]; omega
        rw [h1] at q4 q5
        simp only [Core.bulk, Go.Proofs.Ytdeboephmbaihaa.Rows.uptoBulk, Go.Proofs.Ytdeboephmbaihaa.Rows.uptoBulkAll, List.map_cons, List.map_nil]
        omega
theorem rd_ff {fuel : Nat} {cs : List Value} {x : DataW H × List MemPlace} (h : DataW.trod enc Try.prog w 0 (fun _ => true) true fuel 60 cs = some x) : ∃ (m : Nat) (y : FlatF), RdL w m y.enc.cells cs ∧ y.2.bulk ≤ Go.Proofs.Ytdeboephmbaihaa.Rows.uptoBulk x.1 := by
  obtain ⟨xs, n, hn, hx, hl, hxl, hf⟩ := rd_struct k_ff h
  rw [s_ff] at hl
  obtain ⟨x0, x1, rfl⟩ := len2 hxl
  obtain ⟨c0, cs, rfl, hl⟩ := len8 hl
  next =>
    have f0 := hf 0 _ _ rfl
    have f1 := hf 1 _ _ rfl
    rw [s_int] at f0
    rw [s_core] at f1
    obtain ⟨a0, r0, _⟩ := rd_int k_int f0
    have f1' : DataW.trod enc Try.prog w 0 (fun _ => true) true n 27 cs = some x1 := by
      have : ((c0 :: cs).drop 1).take 7 = cs := by
        rw [List.drop_succ_cons, List.drop_zero, List.take_of_length_le (by omega)]
      rw [this] at f1
      exact f1
    obtain ⟨m, y, r1, q⟩ := rd_core _ _ _ f1'
    refine ⟨m, (a0, y), ((r0.up (Nat.zero_le m)).append r1 : RdL w m ([encInt a0] ++ y.enc.cells) ([c0] ++ cs)), ?_⟩
    rw [hx]
    simp only [Go.Proofs.Ytdeboephmbaihaa.Rows.uptoBulk, Go.Proofs.Ytdeboephmbaihaa.Rows.uptoBulkAll, List.map_cons, List.map_nil]
    omega
theorem rd_flat {fuel : Nat} {cs : List Value} {x : DataW H × List MemPlace} (h : DataW.trod enc Try.prog w 0 (fun _ => true) true fuel 32 cs = some x) :
    ∃ (m : Nat) (nf : Bool) (funs : List FlatF) (main : Core), RdL w m (encFlatN nf funs main).cells cs ∧ flatBulk funs main ≤ Go.Proofs.Ytdeboephmbaihaa.Rows.uptoBulk x.1 := by
  obtain ⟨xs, n, hn, hx, hl, hxl, hf⟩ := rd_struct k_fl h
  rw [s_fl] at hl
  obtain ⟨x0, x1, rfl⟩ := len2 hxl
  obtain ⟨c0, cs, rfl, hl⟩ := len8 hl
  next =>
    have f0 := hf 0 _ _ rfl
    have f1 := hf 1 _ _ rfl
    rw [s_ffs] at f0
    rw [s_core] at f1
    obtain ⟨m0, nf, funs, r0, q0⟩ := rd_slice FlatF.enc (fun p => p.2.bulk) s_ff (by omega) (fun y => by show (encInt y.1 :: y.2.enc.cells).length = 8; rw [List.length_cons, Core.enc_cells]) k_ffs (fun n _ cs x h => rd_ff h) f0
    have f1' : DataW.trod enc Try.prog w 0 (fun _ => true) true n 27 cs = some x1 := by
      have : ((c0 :: cs).drop 1).take 7 = cs := by
        rw [List.drop_succ_cons, List.drop_zero, List.take_of_length_le (by omega)]
      rw [this] at f1
      exact f1
    obtain ⟨m, y, r1, q⟩ := rd_core _ _ _ f1'
    refine ⟨m0 + m, nf, funs, y, ((r0.up (by omega)).append (r1.up (by omega)) : RdL w (m0 + m) ([encSl nf 8 (funs.map FlatF.enc)] ++ y.enc.cells) ([c0] ++ cs)), ?_⟩
    rw [hx]
    simp only [flatBulk, Go.Proofs.Ytdeboephmbaihaa.Rows.uptoBulk, Go.Proofs.Ytdeboephmbaihaa.Rows.uptoBulkAll, List.map_cons, List.map_nil]
    omega
end
end Go.NL

/-
  FlattenChecks holds where what it reads is of bulk at most 1048576: the function returns true, whatever the orders that the model draws.
  The row's own step is the kit's shell for a law, turned to what is known of memory here (old blocks are as they were; the argument reads as it did).
-/
set_option linter.unusedVariables false
namespace Go.NL
open Go.Proofs
theorem checks_calls {H : Type} {enc : TypeId × Value → H} {w : World} {v : Value} {d : DataW H} {ps : List MemPlace} (h : DataW.Trod enc Try.prog w 0 (fun _ => true) true 32 v d ps) (hk : Go.Proofs.Ytdeboephmbaihaa.Rows.uptoBulk d ≤ 1048576) :
    Calls Try.prog F_gimletlaw26_FlattenChecks #[v] w fun e w' => e = .returned (.bool true) ∧ RowKit.Below w.heap.size w w' := by
  obtain ⟨fuel, hf⟩ := h
  obtain ⟨m, nf, funs, main, hr, hb⟩ := rd_flat hf
  have hv : ∃ vs, v = .agg vs := by
    have hl := hr.1
    rw [flatN_cells, List.length_cons, Core.enc_cells] at hl
    cases v <;> first | exact ⟨_, rfl⟩ | (simp [Value.cells] at hl)
  obtain ⟨vs, rfl⟩ := hv
  have hrel : Rel (GW w) (encFlatN nf funs main) (.agg vs) := by
    have := rel_w hr.rel
    simpa [Value.cells, encFlatN, AV.cells] using this
  refine ((FlattenChecks_run funs main (checksOk (Nat.le_trans hb hk)) (fun _ => none)).2 (GW w) w #[.agg vs] (sim_w w) (.cons (vs := []) hrel .nil)).mono ?_
  rintro e w' ⟨v, V, A', g', rfl, hr, hs, he, rfl, _⟩
  rw [rel_bool hr]
  exact ⟨rfl, he.os, he.tape, he.output, he.size, fun k hk => he.heap k hk fun b sh top h => by cases h⟩
end Go.NL
namespace Go.Proofs.Ytdeboephmbaihaa.flattenChecks
open Go.ChangeShapes Go.WideShapes Go.ChangeAt Go.RowKit
section
variable {H : Type} {enc : TypeId × Value → H} {P : Program}
theorem post_of_old {f : Func} {s : ChangeSpec} {apart fresh handsOn again : Bool} {W W' : World} {args : Array Value} {v : Value} {ds gs : List (DataW H)} {before pa pv : List MemPlace}
    (hW : DataW.Whole enc P f.params.toList s.vars apart W args.toList ds gs before)
    (hres : ∀ (b : Nat) (sp : Nat → Bool) (hd : Bool), DataW.TrodAll enc P W' b sp hd f.resultTypes.toList (v.resultList f.resultTypes.size) (s.fn H (ds ++ gs)).results [])
    (hargs : ∀ sp : Nat → Bool, (∀ p ∈ before, sp p.block = true) → DataW.TrodAll enc P W' 0 sp true f.params.toList args.toList (s.fn H (ds ++ gs)).args pa)
    (hvars : ∀ sp : Nat → Bool, (∀ p ∈ before, sp p.block = true) → DataW.TrodVars enc P W' sp s.vars (s.fn H (ds ++ gs)).vars pv)
    (hps : before = pa ++ pv) (hb : Below W.heap.size W W')
    (hok : ∀ (j : Nat) (t : TypeId) (r : Value), f.resultTypes[j]? = some t → (v.resultList f.resultTypes.size)[j]? = some r → Value.okWide P W' .any 0 t r) :
    s.post enc P f apart fresh handsOn again W args v W' := by
  have hlt : ∀ p ∈ before, p.block < W.heap.size := fun p hp => hW.lt p hp
  have hold : ∀ p ∈ before, (fun b => decide (b < W.heap.size)) p.block = true := fun p hp => by simpa using hlt p hp
  refine ⟨ds, gs, before, [], pa, pv, hW, hres _ _ _, hargs _ hold, hvars _ hold, World.keptBut_mono (fun p hp => ⟨hp, ?_⟩) (hb.frame (· ∈ before)), fun _ => ?_⟩
  · rw [hps, List.mem_append] at hp
    exact Or.inr hp
  · obtain ⟨_, _, _, _, _, hz, hn⟩ := hW
    refine ⟨hok, _, _, ([] ++ pa) ++ pv, ⟨[] ++ pa, pv, trodAll_append (hargs _ (fun _ _ => rfl)) (hres _ _ _), hvars _ (fun _ _ => rfl), rfl, ?_, ?_⟩, ?_⟩
    · intro b off hp
      have hin : MemPlace.cell b off ∈ before := by rw [hps]; simpa using hp
      rw [hb.frozen (hlt _ hin)]
      exact hz b off hin
    · intro ha
      have := hn ha
      rw [hps] at this
      simpa using this
    · intro p hp _
      rw [hps]
      simpa using hp
end
theorem own : ownKnob Try.prog.godebug = none := by kernel_rfl
theorem laidOut : laidOutB Try.prog = true := by kernel_rfl
theorem recT : Try.prog.readableRec 32 = true := by kernel_rfl
theorem rowT : 32 < Try.prog.types.size := of_decide_eq_true (by kernel_rfl)
set_option maxRecDepth 100000 in
theorem contract (H : Type) (enc : TypeId × Value → H) (W : World) (base : Nat) (args : Array Value) (ds gs : List (DataW H)) (before : List MemPlace)
    (hW : DataW.Whole enc Try.prog Try.f4.params.toList Rows.flattenChecksSpec.vars false W args.toList ds gs before) (hk : Rows.uptoSmall H (ds ++ gs) = true) :
    Calls Try.prog 4 args W fun e W' => ∃ v, e = .returned v ∧ Rows.flattenChecksSpec.post enc Try.prog Try.f4 false true false false W args v W' := by
  have hW' := hW
  obtain ⟨p, q, hA0, hV, rfl, hfz, hnd⟩ := hW
  have hA : DataW.TrodAll enc Try.prog W 0 (fun _ => true) true Try.f4.params.toList args.toList ds p := hA0
  rw [Try.params4] at hA
  obtain ⟨v0, vs0, d0, ds0, p0, q0, hargs, rfl, rfl, h0, r0⟩ := trodAll_cons hA
  obtain ⟨rfl, rfl, rfl⟩ := trodAll_nil r0
  obtain rfl : args = #[v0] := by cases args; simp_all
  obtain ⟨rfl, rfl⟩ := trodVars_none hV
  clear hA0
  have hbk : Rows.uptoBulk d0 ≤ 1048576 := by
    have := of_decide_eq_true hk
    simp only [List.append_nil, Rows.uptoBulkAll] at this
    omega
  simp only [List.append_nil] at hW'
  have hlt : ∀ x ∈ p0, x.block < W.heap.size := fun x hx => hW'.lt x (by simpa using hx)
  have hst : ∀ (W' : World) (sp : Nat → Bool), Below W.heap.size W W' → (∀ x ∈ p0, sp x.block = true) → DataW.Trod enc Try.prog W' 0 sp true 32 v0 d0 p0 := fun W' sp hg hs =>
    WideElems.Trod_stays laidOut recT rowT h0 (fun x hx => hg.same (hlt x hx)) hs
  refine (Go.NL.checks_calls h0 hbk).mono fun e W' ⟨he, hg⟩ => ?_
  subst he
  refine ⟨_, rfl, ?_⟩
  have hmem : ∀ x ∈ p0, x ∈ p0 ++ [] := fun x hx => List.mem_append_left _ hx
  have hargs : ∀ sp : Nat → Bool, (∀ x ∈ p0, sp x.block = true) → DataW.TrodAll enc Try.prog W' 0 sp true [32] [v0] [d0] (p0 ++ []) := fun sp hsp => trodAll_cons_mk (hst W' sp hg hsp) trodAll_mk0
  refine post_of_old (pa := p0 ++ []) (pv := []) (ds := [d0]) (gs := []) hW' ?_ ?_ ?_ ?_ hg ?_
  · exact fun _ _ _ => (trodAll_cons_mk (shut_bool Try.underlying4 _) trodAll_mk0)
  · intro sp hsp
    have := hargs sp hsp
    exact this
  · exact fun _ _ => rfl
  · simp
  · exact ok_one (by kernel_rfl) rfl (okWide_bool_mk Try.underlying4 _)
set_option maxRecDepth 100000 in
theorem lifted (os : Os) (started : os.Started) (H : Type) (enc : TypeId × Value → H) (F : Stop.Interp) :
    ReturnsInHanded {} Try.checked os 4 .any ((Rows.OpenSpec.upto Rows.flattenChecksSpec).pre6 enc Try.prog Try.f4 Rows.flattenChecksUptoRow.domain false) (((Rows.OpenSpec.upto Rows.flattenChecksSpec).at F).post enc Try.prog Try.f4 false true false false) := by
  refine returnsInHanded_of_cond (C := Try.checked) (s := Rows.OpenSpec.upto Rows.flattenChecksSpec) (k := Rows.uptoSmall) rfl own started (by kernel_rfl) Try.func4
    (OpenSpec.witness (enc := enc) (C := Try.checked) (s := Rows.OpenSpec.upto Rows.flattenChecksSpec) (k := Rows.uptoSmall) rfl false
      ⟨#[], #[.agg #[.slice none 0 0, .int .i64 0, .int .i64 0, .int .i64 0, .string .empty, .slice none 0 0, .slice none 0 0, .slice none 0 0]], []⟩ 8 (by kernel_rfl) (by kernel_rfl) (by kernel_rfl)
      (x := ([.agg [.nil, .agg [.lit (.int .i64 0), .lit (.int .i64 0), .lit (.int .i64 0), .lit (.string []), .nil, .nil, .nil]]], [], [])) (by kernel_rfl) rfl (by kernel_rfl)) ?_
  intro W base args ds gs before hval hW _ hk _
  exact contract H enc W base args ds gs before hW hk
theorem over : Rows.flattenChecksUptoRow.holds Try.pinned (Rows.OpenSpec.upto Rows.flattenChecksSpec) :=
  OpenClaim.holds_of_cond 4 Try.f4 rfl rfl rfl rfl rfl rfl rfl ⟨rfl, rfl, rfl, rfl, rfl⟩ rfl rfl rfl rfl rfl (by kernel_rfl) Try.func4 (by kernel_rfl)
    (of_decide_eq_true (by kernel_rfl)) (by unfold Func.isWrapper; first | (rw [if_pos (by decide +kernel)]; kernel_rfl) | (rw [if_neg (by decide +kernel)]; exact ⟨rfl, rfl⟩))
    (fun os started H enc _ F => lifted os started H enc F)
theorem proved : Rows.FlattenChecksUptoSaid :=
  over
#print axioms proved
end Go.Proofs.Ytdeboephmbaihaa.flattenChecks
