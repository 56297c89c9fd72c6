/- THE N-LOGIC, part O: regions whose order is left open: which orders there are; what an operation looks at. -/
import Derived.Test.YtdeboephmbaihaaGreatNN
set_option linter.unusedVariables false
set_option linter.unusedSimpArgs false
namespace Go.NL

/-! what an operation says hangs on its operands alone -/
theorem opt_map_congr {σ σ' : Opd → AV} {x : Option Opd} (h : ∀ y ∈ x.toList, σ y = σ' y) : x.map σ = x.map σ' := by
  cases x with
  | none => rfl
  | some x => simp [h x (by simp)]

theorem parts_congr {σ σ' : Opd → AV} {ps : List (Nat × Nat × Opd)} (h : ∀ y ∈ ps.map (·.2.2), σ y = σ' y) : (ps.map fun (o, n, x) => (o, n, σ x)) = ps.map fun (o, n, x) => (o, n, σ' x) := by
  apply List.map_congr_left
  rintro ⟨o, n, x⟩ hx
  have : x ∈ ps.map (·.2.2) := List.mem_map.2 ⟨_, hx, rfl⟩
  simp [h x this]

theorem qop_congr {A : Heap} {σ σ' : Opd → AV} {op : NOp} (h : ∀ x ∈ op.opds, σ x = σ' x) : qop A σ op = qop A σ' op := by
  cases op with
  | build z ps => simp only [qop, parts_congr (σ := σ) (σ' := σ') h]
  | slice e x lo hi mx =>
    simp only [NOp.opds, List.mem_cons, List.mem_append] at h
    have h1 : lo.map σ = lo.map σ' := opt_map_congr fun y hy => h y (.inr (.inl (.inl hy)))
    have h2 : hi.map σ = hi.map σ' := opt_map_congr fun y hy => h y (.inr (.inl (.inr hy)))
    have h3 : mx.map σ = mx.map σ' := opt_map_congr fun y hy => h y (.inr (.inr hy))
    simp only [qop, h1, h2, h3, h x (.inl rfl)]
  | makeFunc f first caps =>
    simp only [NOp.opds, List.mem_append] at h
    have h1 : first.map σ = first.map σ' := List.map_congr_left fun y hy => h y (.inl hy)
    have h2 : caps.map σ = caps.map σ' := List.map_congr_left fun y hy => h y (.inr hy)
    simp only [qop, h1, h2]
  | _ =>
    simp only [NOp.opds, List.mem_cons, List.not_mem_nil, or_false, forall_eq_or_imp, forall_eq] at h
    simp_all [qop]

theorem cop_congr {P : Program} {A : Heap} {σ σ' : Opd → AV} {K : AV → Heap → Prop} {op : NOp} (h : ∀ x ∈ op.opds, σ x = σ' x) (hc : cop P σ A K op) : cop P σ' A K op := by
  have hq := qop_congr (A := A) h
  cases op with
  | buildSlice e l z ps =>
    simp only [cop] at hc ⊢
    rw [parts_congr (σ := σ) (σ' := σ') h] at hc
    exact hc
  | call f args =>
    simp only [NOp.opds, List.mem_cons] at h
    have h1 : args.map σ = args.map σ' := List.map_congr_left fun y hy => h y (.inr hy)
    simp only [cop] at hc ⊢
    rw [h f (.inl rfl), h1] at hc
    exact hc
  | zero z => exact hc
  | makeMap => exact hc
  | box x => simp only [NOp.opds, List.mem_singleton, forall_eq] at h; simp only [cop] at hc ⊢; rw [h] at hc; exact hc
  | store n x v => simp only [NOp.opds, List.mem_cons, List.not_mem_nil, or_false, forall_eq_or_imp, forall_eq] at h; simp only [cop] at hc ⊢; rw [h.1, h.2] at hc; exact hc
  | mapUpdate s m k v => simp only [NOp.opds, List.mem_cons, List.not_mem_nil, or_false, forall_eq_or_imp, forall_eq] at h; simp only [cop] at hc ⊢; rw [h.1, h.2.1, h.2.2] at hc; exact hc
  | makeSlice e b z l c => simp only [NOp.opds, List.mem_cons, List.not_mem_nil, or_false, forall_eq_or_imp, forall_eq] at h; simp only [cop] at hc ⊢; rw [h.1, h.2] at hc; exact hc
  | append st e b s x => simp only [NOp.opds, List.mem_cons, List.not_mem_nil, or_false, forall_eq_or_imp, forall_eq] at h; simp only [cop] at hc ⊢; rw [h.1, h.2] at hc; exact hc
  | _ => simp only [cop] at hc ⊢; rw [← hq]; exact hc

theorem evalOpd_congr {f f' : Fr} {op : NOp} (h : ∀ s ∈ op.opds.flatMap Opd.slots, f s = f' s) : ∀ x ∈ op.opds, evalOpd f x = evalOpd f' x := by
  intro x hx
  cases x with
  | tmp t => exact h t (List.mem_flatMap.2 ⟨_, hx, by simp [Opd.slots]⟩)
  | const v => rfl

theorem qop_noreads {A A' : Heap} {σ : Opd → AV} {op : NOp} (h : op.reads = false) : qop A σ op = qop A' σ op := by
  cases op with
  | load a x => simp [NOp.reads] at h
  | bytesStr x => simp [NOp.reads] at h
  | lookup _ _ _ _ _ => simp [NOp.reads] at h
  | len k x =>
    cases k with
    | map => simp [NOp.reads] at h
    | str => simp only [qop]; cases σ x <;> rfl
    | slice => simp only [qop]; cases σ x <;> rfl
  | _ => rfl

theorem cop_quiet {P : Program} {A : Heap} {σ : Opd → AV} {op : NOp} (h : op.quiet = true) (K : AV → Heap → Prop) : cop P σ A K op = (match qop A σ op with | some v => K v A | none => False) := by
  cases op <;> first | rfl | (simp [NOp.quiet] at h)


theorem appendN_mono {A : Heap} {K K' : AV → Heap → Prop} (hk : ∀ v A', K v A' → K' v A') {str : Bool} {esz bytes : Nat} {s x : AV} (h : appendN A K str esz bytes s x) : appendN A K' str esz bytes s x := by
  unfold appendN at h ⊢
  split at h
  · exact h
  · split at h
    · split at h
      · rename_i hn; simp only [hn, if_true]; exact hk _ _ h
      · rename_i hn; simp only [hn, if_false]; exact ⟨h.1, fun b hb => hk _ _ (h.2 b hb)⟩
    · refine ⟨h.1, h.2.1, ?_⟩
      have h := h.2.2
      split at h
      · rename_i hn; rw [if_pos hn]; exact hk _ _ h
      · rename_i hn; rw [if_neg hn]; exact ⟨h.1, fun b hb => hk _ _ (h.2 b hb)⟩
    · refine ⟨h.1, ?_⟩
      have h := h.2
      split at h
      · refine ⟨h.1, ?_⟩
        have h := h.2
        split at h
        · rename_i hn; rw [if_pos hn]; exact hk _ _ h
        · rename_i hn
          rw [if_neg hn]
          split at h
          · rename_i hc; rw [if_pos hc]; exact hk _ _ h
          · rename_i hc
            rw [if_neg hc]
            refine ⟨h.1, ?_⟩
            have h := h.2
            split at h
            · exact ⟨h.1, fun b hb => hk _ _ (h.2 b hb)⟩
            · exact fun b hb => hk _ _ (h b hb)
      · exact h
    · exact h

theorem cop_mono {P : Program} {A : Heap} {σ : Opd → AV} {K K' : AV → Heap → Prop} (hk : ∀ v A', K v A' → K' v A') {op : NOp} (h : cop P σ A K op) : cop P σ A K' op := by
  cases op with
  | zero z => exact fun b hb => hk _ _ (h b hb)
  | box x => exact ⟨h.1, fun b hb => hk _ _ (h.2 b hb)⟩
  | buildSlice e l z ps =>
    simp only [cop] at h ⊢
    split at h
    · exact fun b hb => hk _ _ (h b hb)
    · exact h
  | store n x v =>
    simp only [cop] at h ⊢
    refine ⟨h.1, h.2.1, ?_⟩
    have h := h.2.2
    split at h
    · split at h
      · exact ⟨h.1, hk _ _ h.2⟩
      · exact h
    · exact h
  | mapUpdate s m k v =>
    simp only [cop] at h ⊢
    refine ⟨h.1, ?_⟩
    have h := h.2
    unfold mapUpd at h ⊢
    split at h
    · split at h
      · split at h
        · exact hk _ _ h
        · exact hk _ _ h
        · exact h
      · exact h
    · exact h
  | makeMap => exact fun b hb => hk _ _ (h b hb)
  | makeSlice e b z l c =>
    simp only [cop] at h ⊢
    split at h
    · exact ⟨h.1, h.2.1, h.2.2.1, h.2.2.2.1, fun b hb => hk _ _ (h.2.2.2.2 b hb)⟩
    · exact h
  | append st e b s x => exact appendN_mono hk h
  | call f args =>
    simp only [cop] at h ⊢
    split at h
    · exact h.mono hk
    · exact h
  | _ =>
    simp only [cop] at h ⊢
    split at h
    · exact hk _ _ h
    · exact h

/-! orders -/

/-- An order of what is left, behind what was done, that goes with what must stand ahead. -/
def Lin (ops : Array Oper) : List Nat → List Nat → Prop
  | done, [] => ∀ i, i < ops.size → i ∈ done
  | done, i :: l => i < ops.size ∧ i ∉ done ∧ (∀ o, ops[i]? = some o → ∀ e ∈ o.after.toList, Region.binds .any e = true → e.on ∈ done) ∧ Lin ops (done ++ [i]) l

theorem filter_shrinks {l : List Nat} {p q : Nat → Bool} (h : ∀ x, q x = true → p x = true) {i : Nat} (hi : i ∈ l) (h1 : p i = true) (h2 : q i = false) : (l.filter q).length < (l.filter p).length := by
  induction l with
  | nil => cases hi
  | cons x l ih =>
    have hle : ∀ l : List Nat, (l.filter q).length ≤ (l.filter p).length := by
      intro l
      induction l with
      | nil => simp
      | cons y l ih =>
        simp only [List.filter_cons]
        by_cases hq : q y = true
        · rw [if_pos hq, if_pos (h y hq)]; simpa using ih
        · rw [if_neg hq]
          split
          · simp; omega
          · exact ih
    simp only [List.filter_cons]
    rcases List.mem_cons.1 hi with rfl | hi
    · rw [if_neg (by simp [h2]), if_pos h1]
      have := hle l
      simp
      omega
    · have := ih hi
      by_cases hq : q x = true
      · rw [if_pos hq, if_pos (h x hq)]; simpa using this
      · rw [if_neg hq]
        split
        · simp; omega
        · exact this

theorem lin_go {ops : Array Oper} (hlt : ∀ i o, ops[i]? = some o → ∀ e ∈ o.after.toList, Region.binds .any e = true → e.on < i) :
    ∀ (fuel t : Nat) (listed : Array Bool) (done : List Nat), (∀ j, listed.getD j true = false ↔ j < ops.size ∧ j ∉ done) → listed.size = ops.size → ((List.range ops.size).filter fun j => !done.contains j).length ≤ fuel →
      Lin ops done (Region.linearise.go .any ops fuel t listed []) := by
  intro fuel
  induction fuel with
  | zero =>
    intro t listed done hl hsz hf
    simp only [Region.linearise.go, List.reverse_nil, Lin]
    intro i hi
    have h0 : ((List.range ops.size).filter fun j => !done.contains j) = [] := List.eq_nil_of_length_eq_zero (by omega)
    have := List.filter_eq_nil_iff.1 h0 i (List.mem_range.2 hi)
    simpa using this
  | succ fuel ih =>
    intro t listed done hl hsz hf
    simp only [Region.linearise.go]
    change Lin ops done (match (Region.ready .any ops listed)[t % (Region.ready .any ops listed).length]? with
      | some i => Region.linearise.go .any ops fuel (t / (Region.ready .any ops listed).length) (listed.setIfInBounds i true) [i]
      | none => [].reverse)
    have hmem : ∀ i, i ∈ Region.ready .any ops listed ↔ i < ops.size ∧ i ∉ done ∧ ∀ o, ops[i]? = some o → ∀ e ∈ o.after.toList, Region.binds .any e = true → e.on ∈ done ∨ ops.size ≤ e.on := by
      intro i
      unfold Region.ready
      rw [List.mem_filter, List.mem_range]
      constructor
      · rintro ⟨h1, h2⟩
        simp only [Bool.and_eq_true, Bool.not_eq_true'] at h2
        refine ⟨h1, ((hl i).1 h2.1).2, fun o ho e he hb => ?_⟩
        rw [ho] at h2
        simp only [Option.map_some, Option.getD_some, Array.all_eq_true', Bool.or_eq_true, Bool.not_eq_true'] at h2
        have := h2.2 e (by simpa using he)
        rcases this with h | h
        · rw [hb] at h; cases h
        · by_cases hd : e.on ∈ done
          · exact .inl hd
          · refine .inr ?_
            rcases Nat.lt_or_ge e.on ops.size with h3 | h3
            · have : listed.getD e.on true = false := (hl e.on).2 ⟨h3, hd⟩
              rw [Array.getD_eq_getD_getElem?] at this h
              rw [Array.getElem?_eq_getElem (by omega)] at this h
              simp at this h
              rw [this] at h
              cases h
            · exact h3
      · rintro ⟨h1, h2, h3⟩
        refine ⟨h1, ?_⟩
        simp only [Bool.and_eq_true, Bool.not_eq_true']
        refine ⟨(hl i).2 ⟨h1, h2⟩, ?_⟩
        rw [Array.getElem?_eq_getElem h1]
        simp only [Option.map_some, Option.getD_some, Array.all_eq_true', Bool.or_eq_true, Bool.not_eq_true']
        intro e he
        by_cases hb : Region.binds .any e = true
        · right
          have hlt' := hlt i _ (Array.getElem?_eq_getElem h1) e (by simpa using he) hb
          rcases h3 _ (Array.getElem?_eq_getElem h1) e (by simpa using he) hb with h | h
          · have hnot : ¬ (listed.getD e.on true = false) := fun hh => ((hl e.on).1 hh).2 h
            rw [Array.getD_eq_getD_getElem?, Array.getElem?_eq_getElem (by omega)] at hnot ⊢
            simpa using hnot
          · omega
        · left; simpa using hb
    cases hi : (Region.ready .any ops listed)[t % (Region.ready .any ops listed).length]? with
    | none =>
      have hnil : Region.ready .any ops listed = [] := by
        cases hr : Region.ready .any ops listed with
        | nil => rfl
        | cons x xs =>
          rw [hr] at hi
          have hlt : t % (x :: xs).length < (x :: xs).length := Nat.mod_lt _ (by simp)
          simp at hi
          simp at hlt
          omega
      simp only [List.reverse_nil, Lin]
      -- the least one that is left would be ready
      intro i
      induction i using Nat.strongRecOn with
      | _ i ihi =>
        intro hi'
        refine Classical.byContradiction fun hnd => ?_
        have : i ∈ Region.ready .any ops listed := (hmem i).2 ⟨hi', hnd, fun o ho e he hb => .inl (ihi e.on (hlt i o ho e he hb) (by have := hlt i o ho e he hb; omega))⟩
        rw [hnil] at this
        cases this
    | some i =>
      have him := (hmem i).1 (List.mem_of_getElem? hi)
      simp only []
      rw [linearise_go_acc, List.reverse_singleton, List.singleton_append]
      refine ⟨him.1, him.2.1, fun o ho e he hb => ?_, ?_⟩
      · have := hlt i o ho e he hb
        rcases him.2.2 o ho e he hb with h | h
        · exact h
        · omega
      · refine ih _ _ _ (fun j => ?_) (by simp [hsz]) ?_
        · by_cases hj : j = i
          · subst hj
            simp [Array.getD_eq_getD_getElem?, hsz, him.1]
          · have : (listed.setIfInBounds i true).getD j true = listed.getD j true := by
              simp only [Array.getD_eq_getD_getElem?]
              rw [Array.getElem?_setIfInBounds_ne (Ne.symm hj)]
            rw [this, hl j]
            simp [hj]
        · have := filter_shrinks (l := List.range ops.size) (p := fun j => !done.contains j) (q := fun j => !(done ++ [i]).contains j) (fun x hx => by
            simp at hx ⊢
            exact hx.1) (List.mem_range.2 him.1) (by simpa using him.2.1) (by simp)
          omega

theorem lin_all {ops : Array Oper} (hlt : ∀ i o, ops[i]? = some o → ∀ e ∈ o.after.toList, Region.binds .any e = true → e.on < i) (t : Nat) : Lin ops [] (Region.linearise .any ops t) := by
  unfold Region.linearise
  refine lin_go hlt _ _ _ _ (fun j => ?_) (by simp) (Nat.le_trans (List.length_filter_le _ _) (by simp))
  simp [Array.getD_eq_getD_getElem?, Array.getElem?_replicate]
  by_cases hj : j < ops.size <;> simp [hj]

end Go.NL
