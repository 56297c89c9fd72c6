/- THE N-LOGIC, part P: regions whose order is left open: whatever the order, what the one that was looked at says holds. -/
import Derived.Test.YtdeboephmbaihaaGreatNO
set_option linter.unusedVariables false
set_option linter.unusedSimpArgs false
namespace Go.NL

/-- What 'regionOk' says, piece by piece. -/
structure RegOk (P : Program) (ops : Array Oper) (B : Array Nat) (chain : Nat → Bool) : Prop where
  lt : ∀ i o, ops[i]? = some o → ∀ e ∈ o.after.toList, Region.binds .any e = true → e.on < i
  mask : ∀ i j, i < ops.size → j < ops.size → (B.getD i 0).testBit j = true → ∃ o e, ops[i]? = some o ∧ e ∈ o.after.toList ∧ Region.binds .any e = true ∧ (e.on = j ∨ (B.getD e.on 0).testBit j = true)
  own : ∀ i d, i < ops.size → dstOf ops i = some d → chain i = false → d ∉ slotsOf P ops i
  dst : ∀ i j d, i < ops.size → j < ops.size → j ≠ i → dstOf ops j = some d → dstOf ops i ≠ some d ∧ (d ∈ slotsOf P ops i → (B.getD i 0).testBit j = true ∨ ((B.getD j 0).testBit i = true ∧ chain j = true))

theorem regOk {P : Program} {ops : Array Oper} {B : Array Nat} {chain : Nat → Bool} (h : regionOk P ops B chain = true) : RegOk P ops B chain := by
  unfold regionOk at h
  rw [List.all_eq_true] at h
  have hh : ∀ i, i < ops.size → _ := fun i hi => h i (List.mem_range.2 hi)
  simp only [Bool.and_eq_true, List.all_eq_true] at hh
  refine ⟨?_, ?_, ?_, ?_⟩
  · intro i o ho e he hb
    have hi := (Array.getElem?_eq_some_iff.1 ho).1
    have h1 := (hh i hi).1.1.1 e (by rw [ho]; simpa using he)
    simp only [Bool.or_eq_true, Bool.not_eq_true', decide_eq_true_eq] at h1
    rcases h1 with h1 | h1
    · rw [hb] at h1; cases h1
    · exact h1
  · intro i j hi hj hbit
    have h1 := (hh i hi).1.1.2 j (List.mem_range.2 hj)
    rw [hbit] at h1
    simp only [Bool.not_true, Bool.false_or, List.any_eq_true, Bool.and_eq_true, Bool.or_eq_true, beq_iff_eq] at h1
    obtain ⟨e, he, hb, h2⟩ := h1
    refine ⟨ops[i], e, Array.getElem?_eq_getElem hi, ?_, hb, h2⟩
    rw [Array.getElem?_eq_getElem hi] at he
    simpa using he
  · intro i d hi hd hc
    have h1 := (hh i hi).1.2
    rw [hd] at h1
    simp only [hc, Bool.false_or, Bool.not_eq_true', List.contains_eq_mem, decide_eq_false_iff_not] at h1
    exact h1
  · intro i j d hi hj hne hd
    have h1 := (hh i hi).2 j (List.mem_range.2 hj)
    rw [hd] at h1
    simp only [Bool.or_eq_true, beq_iff_eq, Bool.and_eq_true, bne_iff_ne, ne_eq, Bool.not_eq_true', List.contains_eq_mem, decide_eq_false_iff_not] at h1
    rcases h1 with h1 | ⟨h1, h2⟩
    · exact absurd h1 hne
    · refine ⟨h1, fun hm => ?_⟩
      rcases h2 with (h2 | h2) | h2
      · exact absurd hm h2
      · exact .inl h2
      · exact .inr h2

/-- What was done is closed: with each operation all that must stand ahead of it. -/
def Closed (ops : Array Oper) (B : Array Nat) (done : List Nat) : Prop := ∀ i ∈ done, i < ops.size ∧ ∀ j, j < ops.size → (B.getD i 0).testBit j = true → j ∈ done

theorem closed_ready {P : Program} {ops : Array Oper} {B : Array Nat} {chain : Nat → Bool} (R : RegOk P ops B chain) {done : List Nat} (hc : Closed ops B done) {i : Nat} (hi : i < ops.size)
    (hr : ∀ o, ops[i]? = some o → ∀ e ∈ o.after.toList, Region.binds .any e = true → e.on ∈ done) : ∀ j, j < ops.size → (B.getD i 0).testBit j = true → j ∈ done := by
  intro j hj hb
  obtain ⟨o, e, ho, he, hbi, h⟩ := R.mask i j hi hj hb
  have hon := hr o ho e he hbi
  rcases h with rfl | h
  · exact hon
  · exact (hc _ hon).2 j hj h

theorem closed_snoc {P : Program} {ops : Array Oper} {B : Array Nat} {chain : Nat → Bool} (R : RegOk P ops B chain) {done : List Nat} (hc : Closed ops B done) {i : Nat} (hi : i < ops.size)
    (hr : ∀ o, ops[i]? = some o → ∀ e ∈ o.after.toList, Region.binds .any e = true → e.on ∈ done) : Closed ops B (done ++ [i]) := by
  intro k hk
  rcases List.mem_append.1 hk with hk | hk
  · exact ⟨(hc k hk).1, fun j hj hb => List.mem_append.2 (.inl ((hc k hk).2 j hj hb))⟩
  · simp only [List.mem_singleton] at hk
    subst hk
    exact ⟨hi, fun j hj hb => List.mem_append.2 (.inl (closed_ready R hc hi hr j hj hb))⟩

/-- The chain's order in any order is one of those that were counted. -/
theorem lin_ext {P : Program} {ops : Array Oper} {B : Array Nat} {chain : Nat → Bool} (R : RegOk P ops B chain) : ∀ (l done Rl : List Nat) (k : Nat), Lin ops done l → Closed ops B done → Rl.Nodup → (∀ c, c ∈ Rl ↔ chain c = true ∧ c < ops.size ∧ c ∉ done) → Rl.length ≤ k →
    l.filter chain ∈ linExts B k Rl
  | [], done, Rl, k, hl, hc, hn, hm, hk => by
    have h0 : Rl = [] := by
      cases Rl with
      | nil => rfl
      | cons c r =>
        have := (hm c).1 (by simp)
        exact absurd (hl c this.2.1) this.2.2
    subst h0
    cases k <;> simp [linExts]
  | i :: l, done, Rl, k, hl, hc, hn, hm, hk => by
    obtain ⟨h1, h2, h3, h4⟩ := hl
    have hc' := closed_snoc R hc h1 h3
    by_cases hci : chain i = true
    · rw [List.filter_cons, if_pos hci]
      have hmem : i ∈ Rl := (hm i).2 ⟨hci, h1, h2⟩
      have hne : Rl ≠ [] := fun h => by rw [h] at hmem; cases hmem
      cases k with
      | zero => exact absurd (List.eq_nil_of_length_eq_zero (by omega)) hne
      | succ k =>
        have hlen := List.length_erase_of_mem hmem
        have ih := lin_ext R l (done ++ [i]) (Rl.erase i) k h4 hc' (hn.erase i) (fun c => by
          rw [hn.mem_erase_iff, hm c]
          simp only [List.mem_append, List.mem_singleton, not_or]
          constructor
          · rintro ⟨q1, q2, q3, q4⟩; exact ⟨q2, q3, q4, q1⟩
          · rintro ⟨q2, q3, q4, q1⟩; exact ⟨q1, q2, q3, q4⟩) (by
            have : 0 < Rl.length := List.length_pos_iff.2 hne
            omega)
        simp only [linExts]
        rw [if_neg (by simpa using hne)]
        refine List.mem_flatMap.2 ⟨i, ?_, List.mem_map.2 ⟨_, ih, rfl⟩⟩
        rw [List.mem_filter]
        refine ⟨hmem, ?_⟩
        rw [List.all_eq_true]
        intro d hd
        by_cases hdi : d = i
        · simp [hdi]
        · simp only [Bool.or_eq_true, beq_iff_eq, Bool.not_eq_true']
          right
          cases hb : (B.getD i 0).testBit d with
          | false => rfl
          | true =>
            have := (hm d).1 hd
            exact absurd (closed_ready R hc h1 h3 d this.2.1 hb) this.2.2
    · rw [List.filter_cons, if_neg hci]
      refine lin_ext R l (done ++ [i]) Rl k h4 hc' hn (fun c => ?_) hk
      rw [hm c]
      simp only [List.mem_append, List.mem_singleton, not_or]
      constructor
      · rintro ⟨q1, q2, q3⟩; exact ⟨q1, q2, q3, fun h => hci (h ▸ q1)⟩
      · rintro ⟨q1, q2, q3, _⟩; exact ⟨q1, q2, q3⟩

/-- What 'orderOk' says of the next one. -/
theorem orderOk_cons {ops : Array Oper} {B : Array Nat} {chain : Nat → Bool} {pre : List Nat} {i : Nat} {rest : List Nat} (h : orderOk ops B chain pre (i :: rest) = true) :
    i < ops.size ∧ i ∉ pre ∧ (∀ j, j < ops.size → (B.getD i 0).testBit j = true → j ∈ pre) ∧ (chain i = true → ∀ q ∈ rest, chain q = false → ∃ c ∈ i :: rest, chain c = true ∧ (B.getD q 0).testBit c = true) ∧ orderOk ops B chain (pre ++ [i]) rest = true := by
  simp only [orderOk, Bool.and_eq_true, decide_eq_true_eq, Bool.not_eq_true', List.contains_eq_mem, decide_eq_false_iff_not, Bool.or_eq_true] at h
  obtain ⟨⟨⟨⟨h1, h2⟩, h3⟩, h4⟩, h5⟩ := h
  refine ⟨h1, h2, fun j hj hb => ?_, fun hc q hq hcq => ?_, h5⟩
  · unfold bitsIn at h3
    rw [List.all_eq_true] at h3
    have := h3 j (List.mem_range.2 hj)
    rw [hb] at this
    simpa using this
  · rcases h4 with h4 | h4
    · rw [hc] at h4; cases h4
    · rw [List.all_eq_true] at h4
      have := h4 q hq
      rw [hcq, Bool.false_or, List.any_eq_true] at this
      obtain ⟨c, hc1, hc2⟩ := this
      simp only [Bool.and_eq_true] at hc2
      exact ⟨c, hc1, hc2⟩

theorem orderOk_mem {ops : Array Oper} {B : Array Nat} {chain : Nat → Bool} : ∀ {suf pre : List Nat}, orderOk ops B chain pre suf = true → (∀ i ∈ suf, i < ops.size ∧ i ∉ pre) ∧ suf.Nodup
  | [], pre, _ => ⟨by simp, List.nodup_nil⟩
  | i :: suf, pre, h => by
    obtain ⟨h1, h2, _, _, h5⟩ := orderOk_cons h
    obtain ⟨q1, q2⟩ := orderOk_mem h5
    refine ⟨fun k hk => ?_, List.nodup_cons.2 ⟨fun hi => (q1 i hi).2 (by simp), q2⟩⟩
    rcases List.mem_cons.1 hk with rfl | hk
    · exact ⟨h1, h2⟩
    · exact ⟨(q1 k hk).1, fun hp => (q1 k hk).2 (by simp [hp])⟩

/-- A quiet operation that may still come up later gives then what it is said to give. -/
def Pend (P : Program) (ops : Array Oper) (q : Nat) (f : Fr) (A : Heap) : Prop :=
  ∃ o nop gd, ops[q]? = some o ∧ compOp P o.op = some nop ∧ compGuard ops o.guard = some gd ∧ nop.quiet = true ∧
    match gd with
    | none => reOne A f o.dst nop
    | some (s, want) => ∃ c, gval (f s) want = some c ∧ (c = true → reOne A f o.dst nop) ∧ (c = false → ∀ d, o.dst = some d → f d = .undef)

theorem slots_op {P : Program} {ops : Array Oper} {q : Nat} {o : Oper} {nop : NOp} (ho : ops[q]? = some o) (hn : compOp P o.op = some nop) : ∀ s ∈ nop.opds.flatMap Opd.slots, s ∈ slotsOf P ops q := by
  intro s hs
  simp only [slotsOf, ho, hn]
  exact List.mem_append.2 (.inl hs)

theorem slots_guard {P : Program} {ops : Array Oper} {q : Nat} {o : Oper} {s : Nat} {want : Bool} (ho : ops[q]? = some o) (hg : compGuard ops o.guard = some (some (s, want))) : s ∈ slotsOf P ops q := by
  simp only [slotsOf, ho]
  refine List.mem_append.2 (.inr ?_)
  cases hgd : o.guard with
  | none => rw [hgd] at hg; simp [compGuard] at hg
  | some jw =>
    obtain ⟨j, w⟩ := jw
    rw [hgd] at hg
    simp only [compGuard, Option.map_eq_some_iff, Option.some.injEq, Prod.mk.injEq] at hg
    obtain ⟨d, hd, rfl, _⟩ := hg
    simp [hd]

theorem reOne_congr {A : Heap} {f f' : Fr} {d : Option Nat} {nop : NOp} (h1 : ∀ s ∈ nop.opds.flatMap Opd.slots, f s = f' s) (h2 : ∀ x, d = some x → f x = f' x) (h : reOne A f d nop) : reOne A f' d nop := by
  have hq : qop A (evalOpd f) nop = qop A (evalOpd f') nop := qop_congr (evalOpd_congr h1)
  cases d with
  | none => simp only [reOne] at h ⊢; rw [← hq]; exact h
  | some d => simp only [reOne] at h ⊢; rw [← hq, ← h2 d rfl]; exact h

theorem Pend.congr {P : Program} {ops : Array Oper} {q : Nat} {f f' : Fr} {A : Heap} (h : Pend P ops q f A) (h1 : ∀ s ∈ slotsOf P ops q, f s = f' s) (h2 : ∀ d, dstOf ops q = some d → f d = f' d) : Pend P ops q f' A := by
  obtain ⟨o, nop, gd, ho, hn, hg, hq, h⟩ := h
  have hd : ∀ d, o.dst = some d → f d = f' d := fun d hd => h2 d (by simp [dstOf, ho, hd])
  have hs : ∀ s ∈ nop.opds.flatMap Opd.slots, f s = f' s := fun s hs => h1 s (slots_op ho hn s hs)
  refine ⟨o, nop, gd, ho, hn, hg, hq, ?_⟩
  cases gd with
  | none => exact reOne_congr hs hd h
  | some sw =>
    obtain ⟨s, want⟩ := sw
    obtain ⟨b, hb, q1, q2⟩ := h
    exact ⟨b, by rw [← h1 s (slots_guard ho hg)]; exact hb, fun hbw => reOne_congr hs hd (q1 hbw), fun hbw d hdd => by rw [← hd d hdd]; exact q2 hbw d hdd⟩

end Go.NL
