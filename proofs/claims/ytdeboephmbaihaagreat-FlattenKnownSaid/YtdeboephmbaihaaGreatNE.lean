/- THE N-LOGIC, part E: the other operations that leave memory alone. -/
import Derived.Test.YtdeboephmbaihaaGreatND
set_option linter.unusedVariables false
set_option linter.unusedSimpArgs false
namespace Go.NL

/-! build -/
theorem over_length (cs : List AV) (off : Nat) (vs : List AV) (h : off + vs.length ≤ cs.length) : (over cs off vs).length = cs.length := by
  simp [over]; omega

theorem over_get (cs : List AV) (off : Nat) (vs : List AV) (h : off + vs.length ≤ cs.length) (i : Nat) : (over cs off vs)[i]? = if off ≤ i ∧ i < off + vs.length then vs[i - off]? else cs[i]? := by
  unfold over
  rw [List.append_assoc]
  have hl : (cs.take off).length = off := by simp; omega
  by_cases h1 : i < off
  · rw [List.getElem?_append_left (by omega), List.getElem?_take, if_pos h1, if_neg (by omega)]
  · rw [List.getElem?_append_right (by omega), hl]
    by_cases h2 : i - off < vs.length
    · rw [List.getElem?_append_left h2, if_pos (by omega)]
    · rw [List.getElem?_append_right (by omega), List.getElem?_drop, if_neg (by omega)]
      congr 1
      omega

/-- Writing values one behind the other into an array, as the model's 'fill' does. -/
theorem foldl_set_size (off : Nat) : ∀ (l : List (Value × Nat)) (arr : Array Value), (l.foldl (fun cs (x : Value × Nat) => cs.setIfInBounds (off + x.2) x.1) arr).size = arr.size
  | [], arr => rfl
  | x :: l, arr => by rw [List.foldl_cons, foldl_set_size off l]; simp

theorem foldl_set_get (off : Nat) : ∀ (l : List Value) (k : Nat) (arr : Array Value) (i : Nat), off + k + l.length ≤ arr.size →
    ((l.zipIdx k).foldl (fun cs (x : Value × Nat) => cs.setIfInBounds (off + x.2) x.1) arr)[i]? = if off + k ≤ i ∧ i < off + k + l.length then l[i - (off + k)]? else arr[i]?
  | [], k, arr, i, _ => by simp; omega
  | x :: l, k, arr, i, h => by
    simp only [List.zipIdx_cons, List.foldl_cons]
    simp only [List.length_cons] at h
    rw [foldl_set_get off l (k + 1) _ i (by simp; omega)]
    by_cases h1 : off + (k + 1) ≤ i ∧ i < off + (k + 1) + l.length
    · rw [if_pos h1, if_pos (by simp; omega)]
      have : i - (off + k) = i - (off + (k + 1)) + 1 := by omega
      rw [this, List.getElem?_cons_succ]
    · rw [if_neg h1]
      by_cases h2 : i = off + k
      · subst h2
        rw [if_pos (by simp), Nat.sub_self, List.getElem?_cons_zero, Array.getElem?_setIfInBounds_self_of_lt (by omega)]
      · rw [if_neg (by simp; omega), Array.getElem?_setIfInBounds_ne (by omega)]

theorem sound_fill {g : G} {place : Nat → Option (Nat × Nat)} {σ : Opd → AV} {ρ : Operand → Value} (hσ : Ops g σ ρ) :
    ∀ {parts : List (Nat × Operand)} {qs : List (Nat × Nat × Opd)} (hp : (parts.mapM fun (i, x) => do let (off, size) ← place i; let y ← compOpd x; some (off, size, y)) = some qs)
      {cs : List AV} {vs : Array Value} (hr : RelL g cs vs) (hone : ∀ c ∈ cs, c.one = true) {r : List AV} (hf : fillAV cs (qs.map fun (o, n, x) => (o, n, σ x)) = some r),
      ∃ R, Instr.fill place vs (parts.map fun (i, x) => (i, ρ x)) = some R ∧ RelL g r R ∧ ∀ c ∈ r, c.one = true
  | [], qs, hp, cs, vs, hr, hone, r, hf => by
    simp at hp
    subst hp
    simp [fillAV] at hf
    subst hf
    exact ⟨vs, rfl, hr, hone⟩
  | (i, x) :: parts, qs, hp, cs, vs, hr, hone, r, hf => by
    simp only [List.mapM_cons, Option.bind_eq_bind, Option.bind_eq_some_iff, Option.pure_def, Option.some.injEq] at hp
    obtain ⟨q, ⟨⟨off, size⟩, hpl, y, hy, rfl⟩, qs', hqs, rfl⟩ := hp
    simp only [List.map_cons, fillAV] at hf
    split at hf
    · rename_i hc
      obtain ⟨h1, h2, h3⟩ := hc
      have hrel := hσ x y hy
      have hcells := rel_cells hrel
      have hsz : (ρ x).cells.size = size := by rw [← hcells.len]; exact h1
      have hvs := hr.len
      have hnew : RelL g (over cs off (σ y).cells) (((ρ x).cells.zipIdx).foldl (fun cs (c, j) => cs.setIfInBounds (off + j) c) vs) := by
        have hfold : ((ρ x).cells.zipIdx).foldl (fun cs (c, j) => cs.setIfInBounds (off + j) c) vs = (((ρ x).cells.toList.zipIdx 0).foldl (fun cs (x : Value × Nat) => cs.setIfInBounds (off + x.2) x.1) vs) := by
          rw [← Array.foldl_toList]
          simp [Array.toList_zipIdx]
        rw [hfold]
        have hlen : (ρ x).cells.toList.length = size := by simpa using hsz
        refine ⟨?_, ?_⟩
        · rw [over_length _ _ _ (by omega), foldl_set_size, hvs]
        · intro j c v hc hv
          rw [over_get _ _ _ (by omega)] at hc
          rw [foldl_set_get off _ 0 _ j (by omega)] at hv
          simp only [Nat.add_zero, hlen] at hv
          rw [h1] at hc
          split at hc
          · rename_i hj
            rw [if_pos hj] at hv
            exact hcells.rel (j - off) c v hc (by simpa using hv)
          · rename_i hj
            rw [if_neg hj] at hv
            exact hr.rel j c v hc hv
      have hone' : ∀ c ∈ over cs off (σ y).cells, c.one = true := by
        intro c hc
        simp only [over, List.mem_append] at hc
        rcases hc with (hc | hc) | hc
        · exact hone c (List.mem_of_mem_take hc)
        · simp only [List.all_eq_true] at h3; exact h3 c hc
        · exact hone c (List.mem_of_mem_drop hc)
      obtain ⟨R, hR, hR1, hR2⟩ := sound_fill hσ hqs hnew hone' hf
      refine ⟨R, ?_, hR1, hR2⟩
      simp only [List.map_cons, Instr.fill, hpl]
      rw [if_neg (by
        simp only [ne_eq, Bool.or_eq_true, decide_eq_true_eq, not_or]
        constructor
        · simp [hsz]
        · omega)]
      exact hR
    · cases hf

theorem zeroCells_rel {P : Program} {g : G} {t : TypeId} {z : List AV} (h : zeroCellsOf P t = some z) : ∃ i Z, P.info? t = some i ∧ i.zero = some Z ∧ RelL g z Z.cells ∧ z.length = i.size ∧ ∀ c ∈ z, c.one = true := by
  unfold zeroCellsOf at h
  simp only [Option.bind_eq_bind, Option.bind_eq_some_iff] at h
  obtain ⟨i, hi, Z, hZ, cs, hcs, h⟩ := h
  split at h
  · cases h
    obtain ⟨h1, h2⟩ := simples_rel (g := g) hcs
    exact ⟨i, Z, hi, hZ, by simpa using h1, by assumption, h2⟩
  · cases h

theorem sound_build {P : Program} {g : G} {w : World} {σ : Opd → AV} {ρ : Operand → Value} (hσ : Ops g σ ρ) {t : TypeId} {parts : Array (Nat × Operand)} {z : List AV} {qs : List (Nat × Nat × Opd)}
    (hc : compOp P (.build t parts) = some (.build z qs)) {r : List AV} (hf : fillAV z (qs.map fun (o, n, x) => (o, n, σ x)) = some r) :
    ∃ V, (Instr.build t (parts.map fun (i, x) => (i, ρ x))).run P w = .ok V w ∧ Rel g (.agg r) V := by
  simp only [compOp, Option.bind_eq_bind, Option.bind_eq_some_iff] at hc
  obtain ⟨z', hz, hc⟩ := hc
  obtain ⟨i, Z, hi, hZ, hrz, hlz, honez⟩ := zeroCells_rel (g := g) hz
  split at hc
  · rename_i fs hu
    simp only [Option.bind_eq_some_iff, Option.some.injEq, NOp.build.injEq] at hc
    obtain ⟨places, hpl, qs', hqs, rfl, rfl⟩ := hc
    obtain ⟨R, hR, hR1, hR2⟩ := sound_fill hσ (place := (places[·]?)) hqs hrz honez hf
    refine ⟨.agg R, ?_, hR1.agg hR2⟩
    have hplaces : (fs.mapM fun f => do pure (f.offset, ← sizeOf f.type) : Sem (Array (Nat × Nat))).run P w = .ok places.toArray w := by
      rw [Array.mapM_eq_mapM_toList]
      have : ∀ (l : List Field) (ps : List (Nat × Nat)), (l.mapM fun f => (P.info? f.type).map fun i => (f.offset, i.size)) = some ps →
          (l.mapM fun f => do pure (f.offset, ← sizeOf f.type) : Sem (List (Nat × Nat))).run P w = .ok ps w := by
        intro l
        induction l with
        | nil => intro ps h; simp at h; subst h; simp
        | cons f l ih =>
          intro ps h
          simp only [List.mapM_cons, Option.bind_eq_bind, Option.bind_eq_some_iff, Option.pure_def, Option.some.injEq, Option.map_eq_some_iff] at h
          obtain ⟨p, ⟨j, hj, rfl⟩, ps', hps, rfl⟩ := h
          have h1 : (do pure (f.offset, ← sizeOf f.type) : Sem (Nat × Nat)).run P w = .ok (f.offset, j.size) w := by simp [sizeOf, typeInfo, hj]
          rw [List.mapM_cons, Sem.run_bind, h1, Result.andThen_ok, Sem.run_bind, ih ps' hps]
          rfl
      rw [Sem.run_map, this _ _ hpl]
      rfl
    simp only [Instr.build, Sem.run_bind, zeroValue, typeInfo, run_program, Result.andThen_ok, hi, Sem.run_pure, hZ, run_underlying hu, hplaces]
    have e1 : (fun (x : Nat) => places.toArray[x]?) = (fun x => places[x]?) := by funext x; simp
    have e2 : (Array.map (fun (x : Nat × Operand) => (x.1, ρ x.2)) parts).toList = parts.toList.map (fun (x : Nat × Operand) => (x.1, ρ x.2)) := by simp
    simp only [e1, e2, hR, Sem.run_pure]
  · rename_i n e hu
    simp only [Option.bind_eq_some_iff, Option.some.injEq, NOp.build.injEq] at hc
    obtain ⟨j, hj, qs', hqs, rfl, rfl⟩ := hc
    obtain ⟨R, hR, hR1, hR2⟩ := sound_fill hσ (place := fun k => some (k * j.size, j.size)) hqs hrz honez hf
    refine ⟨.agg R, ?_, hR1.agg hR2⟩
    simp only [Instr.build, Sem.run_bind, zeroValue, typeInfo, run_program, Result.andThen_ok, hi, Sem.run_pure, hZ, run_underlying hu, sizeOf, hj]
    have e2 : (Array.map (fun (x : Nat × Operand) => (x.1, ρ x.2)) parts).toList = parts.toList.map (fun (x : Nat × Operand) => (x.1, ρ x.2)) := by simp
    simp only [e2, hR, Sem.run_pure]
  · cases hc

end Go.NL
