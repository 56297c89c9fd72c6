/- THE N-LOGIC, part L: whatever 'cop' says, the operation does. -/
import Derived.Test.YtdeboephmbaihaaGreatNK
set_option linter.unusedVariables false
set_option linter.unusedSimpArgs false
namespace Go.NL

/-- What stands behind an operation. -/
def Next (g : G) (w : World) (a : Act) (dst : Option Tmp) (K : AV → Heap → Prop) (a' : Act) (w' : World) : Prop :=
  ∃ g' v V A', a' = a.put dst V ∧ Rel g' v V ∧ Sim g' A' w' ∧ Ext g w g' w' ∧ K v A'

theorem wp_value {P : Program} {g : G} {w w' : World} {o : Oper} {a : Act} {K : AV → Heap → Prop} {Q : Exit → Act → World → Prop} {V : Value} (h : (execOp a.eval o).run P w = .ok (.value V) w') {g' : G} {v : AV} {A' : Heap}
    (h1 : Rel g' v V) (h2 : Sim g' A' w') (h3 : Ext g w g' w') (h4 : K v A') : o.wp P a w (Next g w a o.dst K) Q := by
  unfold Oper.wp
  rw [h]
  exact ⟨g', v, V, A', rfl, h1, h2, h3, h4⟩

theorem wp_skip' {P : Program} {g : G} {w w' : World} {o : Oper} {a : Act} {K : AV → Heap → Prop} {Q : Exit → Act → World → Prop} (h : (execOp a.eval o).run P w = .ok .skip w') {g' : G} {A' : Heap}
    (h2 : Sim g' A' w') (h3 : Ext g w g' w') (h4 : K .undef A') : o.wp P a w (Next g w a o.dst K) Q := by
  unfold Oper.wp
  rw [h]
  exact ⟨g', .undef, undef, A', rfl, rel_undef, h2, h3, h4⟩

theorem wp_quiet {P : Program} {g : G} {A : Heap} {w : World} (hs : Sim g A w) {o : Oper} {nop : NOp} (hc : compOp P o.op = some nop) {σ : Opd → AV} {a : Act} (hσ : Ops g σ a.eval) {K : AV → Heap → Prop} {Q : Exit → Act → World → Prop}
    (h : match qop A σ nop with | some v => K v A | none => False) : o.wp P a w (Next g w a o.dst K) Q := by
  cases hq : qop A σ nop with
  | none => rw [hq] at h; exact h.elim
  | some v =>
    rw [hq] at h
    obtain ⟨V, h1, h2⟩ := qop_sound hs hc hσ hq
    exact wp_value h1 h2 hs (.refl hs) h

theorem callFunc_enters {P : Program} {f : FuncId} (h : enters P f = true) (args : Array Value) (w : World) : (callFunc f args).run P w = .ok (.enter f args) w := by
  unfold enters at h
  split at h
  · rename_i fn hf
    simp only [Bool.and_eq_true, Bool.not_eq_true'] at h
    obtain ⟨b, hb⟩ := Option.isSome_iff_exists.1 h.1
    have hn : ¬ fn.name = "runtime.NumGoroutine" := by simpa using h.2
    simp [callFunc, hf, hn, hb]
  · cases h

theorem arr_toList (f : Nat → Value) (n : Nat) : ((Array.range n).map f).toList = (List.range n).map f := by simp

theorem zeros_rel {g : G} {z : List AV} {Z : Array Value} (h : RelL g z Z) (hz : z.length ≠ 0) (n : Nat) : RelL g (List.replicate n z).flatten ((Array.range (n * z.length)).map (fun j => Z[j % Z.size]!)) := by
  have hlen : ∀ n, (List.replicate n z).flatten.length = n * z.length := by intro n; simp
  have hZ := h.len
  refine ⟨by simp, fun i c v hc hv => ?_⟩
  have hi : i < n * z.length := by rw [← hlen n]; exact (List.getElem?_eq_some_iff.1 hc).1
  have get : ∀ n i, i < n * z.length → (List.replicate n z).flatten[i]? = z[i % z.length]? := by
    intro n
    induction n with
    | zero => intro i hi; simp at hi
    | succ n ih =>
      intro i hi
      rw [List.replicate_succ, List.flatten_cons]
      rcases Nat.lt_or_ge i z.length with h1 | h1
      · rw [List.getElem?_append_left h1, Nat.mod_eq_of_lt h1]
      · rw [List.getElem?_append_right h1, ih (i - z.length) (by rw [Nat.add_mul] at hi; omega)]
        congr 1
        rw [Nat.mod_eq_sub_mod h1]
  rw [get n i hi] at hc
  have hmod : i % z.length < z.length := Nat.mod_lt _ (by omega)
  have hv' : v = Z[i % Z.size]! := by
    rw [Array.getElem?_map] at hv
    rw [Array.getElem?_range] at hv
    simp [hi] at hv
    exact hv.symm
  subst hv'
  have hlt : i % Z.size < Z.size := by rw [← hZ]; exact hmod
  rw [getElem!_pos Z _ hlt]
  exact h.rel (i % z.length) c _ hc (by rw [hZ]; exact Array.getElem?_eq_getElem hlt)

theorem cop_sound {P : Program} {g : G} {A : Heap} {w : World} (hs : Sim g A w) {o : Oper} {nop : NOp} (hc : compOp P o.op = some nop) {σ : Opd → AV} {a : Act} (hσ : Ops g σ a.eval) {K : AV → Heap → Prop} {Q : Exit → Act → World → Prop}
    (h : cop P σ A K nop) : o.wp P a w (Next g w a o.dst K) Q := by
  have hc0 := hc
  obtain ⟨dst, op, type, pos, after, guard⟩ := o
  simp only at hc
  cases op with
  | alloc t =>
    simp only [compOp, Option.map_eq_some_iff] at hc
    obtain ⟨z, hz, rfl⟩ := hc
    obtain ⟨i, Z, hi, hZ, hzr, hzl, hzo⟩ := zeroCells_rel (g := g) hz
    obtain ⟨h1, h2⟩ := alloc_var hs t hzr hzo
    refine wp_value (V := .pointer (some ⟨w.heap.size, 0, none⟩)) ?_ alloc_ptr_rel h1 h2 (h _ (hs.fresh _ (Nat.le_refl _)).2)
    simp [execOp, Instr.alloc, zeroValue, typeInfo, hi, hZ, newVar, newRow]
  | box t x =>
    simp only [compOp, Option.map_eq_some_iff] at hc
    obtain ⟨y, hy, rfl⟩ := hc
    obtain ⟨ho, h⟩ := h
    obtain ⟨h1, h2⟩ := alloc_var hs t (rel_cells (hσ _ _ hy)) (one_all ho)
    refine wp_value (V := .pointer (some ⟨w.heap.size, 0, none⟩)) ?_ alloc_ptr_rel h1 h2 (h _ (hs.fresh _ (Nat.le_refl _)).2)
    simp [execOp, Instr.box, newVar, newRow]
  | buildSlice t len parts =>
    simp only [compOp, Option.bind_eq_bind] at hc
    split at hc
    · rename_i e hu
      simp only [Option.bind_eq_some_iff] at hc
      obtain ⟨i, hi, z, hz, hc⟩ := hc
      split at hc
      · cases hc
      · rename_i hlim
        split at hc
        · cases hc
        · rename_i hsz
          simp only [Option.bind_eq_some_iff, Option.some.injEq] at hc
          obtain ⟨qs, hqs, rfl⟩ := hc
          simp only [cop] at h
          obtain ⟨i', Z, hi', hZ, hzr, hzl, hzo⟩ := zeroCells_rel (g := g) hz
          rw [hi] at hi'
          cases hi'
          have hz0 : z.length ≠ 0 := by omega
          have hrep := zeros_rel hzr hz0 len
          rw [hzl] at hrep
          split at h
          · rename_i cs hf
            obtain ⟨R, hR, hR1, hR2⟩ := sound_fill hσ (place := fun j => some (j * i.size, i.size)) hqs hrep (by
              intro c hc
              rw [List.mem_flatten] at hc
              obtain ⟨l, hl, hcl⟩ := hc
              rw [List.mem_replicate] at hl
              rw [hl.2] at hcl
              exact hzo c hcl) hf
            obtain ⟨h1, h2⟩ := alloc_var hs e hR1 hR2
            have hRsz : R.size = len * i.size := by
              have hfl : ∀ (ps : List (Nat × Nat × AV)) (c r : List AV), fillAV c ps = some r → r.length = c.length := by
                intro ps
                induction ps with
                | nil => intro c r h; simp [fillAV] at h; rw [h]
                | cons p ps ih =>
                  intro c r h
                  obtain ⟨off, size, v⟩ := p
                  simp only [fillAV] at h
                  split at h
                  · rename_i hc
                    rw [ih _ _ h, over_length _ _ _ (by omega)]
                  · cases h
              rw [← hR1.len, hfl _ _ _ hf]
              simp [hzl]
            refine wp_value (V := .slice (some ⟨w.heap.size, 0, none⟩) len len) ?_ (alloc_slice_rel (Nat.le_refl _) (by rw [hRsz]; exact Nat.le_refl _) rfl) h1 h2 (h _ (hs.fresh _ (Nat.le_refl _)).2)
            have e2 : (Array.map (fun (x : Nat × Operand) => (x.1, a.eval x.2)) parts).toList = parts.toList.map (fun (x : Nat × Operand) => (x.1, a.eval x.2)) := by simp
            have hr0 : ∀ f : Nat → Value, Array.map f (Array.range 0) = #[] := fun f => by simp
            simp only [execOp, Instr.buildSlice, Sem.run_bind, run_underlying hu, Result.andThen_ok, sizeOf, typeInfo, run_program, hi, Sem.run_pure]
            rw [if_neg hlim]
            by_cases h0 : len * i.size = 0
            · rw [h0, hr0] at hR
              rw [if_pos h0, h0]
              simp only [Sem.run_bind, Sem.run_pure, Result.andThen_ok, e2, hr0]
              rw [show Instr.fill (fun j => some (j * i.size, i.size)) #[] (parts.toList.map fun (x : Nat × Operand) => (x.1, a.eval x.2)) = some R from hR]
              rfl
            · rw [if_neg h0]
              simp only [Sem.run_bind, zeroValue, typeInfo, run_program, hi, hZ, Sem.run_pure, Result.andThen_ok, e2]
              rw [show Instr.fill (fun j => some (j * i.size, i.size)) (Array.map (fun x => Z.cells[x % Z.cells.size]!) (Array.range (len * i.size))) (parts.toList.map fun (x : Nat × Operand) => (x.1, a.eval x.2)) = some R from hR]
              rfl
          · exact h.elim
    · cases hc
  | store t x v =>
    simp only [compOp, Option.bind_eq_bind, Option.bind_eq_some_iff, Option.some.injEq] at hc
    obtain ⟨i, hi, x', hx, v', hv, rfl⟩ := hc
    simp only [cop] at h
    obtain ⟨hl, ho, h⟩ := h
    split at h
    · rename_i b off hb
      split at h
      · rename_i cs hA
        obtain ⟨hle, hK⟩ := h
        have hxr := hσ _ _ hx
        rw [hb] at hxr
        obtain ⟨w', h1, h2, h3⟩ := run_storeVar_cells hs hi hA (hσ _ _ hv) hl ho hle hxr
        refine wp_skip' ?_ h2 h3 hK
        simp [execOp, h1]
      · exact h.elim
    · exact h.elim
  | mapUpdate t m k v =>
    simp only [compOp, Option.bind_eq_bind] at hc
    split at hc
    · rename_i kt e hu
      split at hc
      · rename_i kk hk
        simp only [Option.bind_eq_some_iff, Option.some.injEq] at hc
        obtain ⟨m', hm, k', hk', v', hv, rfl⟩ := hc
        obtain ⟨w', A', h1, h2, h3, h4⟩ := sound_mapUpdate hs hu hk (str := false) ⟨_, rfl⟩ (hσ _ _ hm) (hσ _ _ hk') (hσ _ _ hv) h.1 (K := K .undef) h.2
        exact wp_skip' (by simp [execOp, h1]) h2 h3 h4
      · rename_i hk
        simp only [Option.bind_eq_some_iff, Option.some.injEq] at hc
        obtain ⟨m', hm, k', hk', v', hv, rfl⟩ := hc
        obtain ⟨w', A', h1, h2, h3, h4⟩ := sound_mapUpdate hs hu hk (str := true) rfl (hσ _ _ hm) (hσ _ _ hk') (hσ _ _ hv) h.1 (K := K .undef) h.2
        exact wp_skip' (by simp [execOp, h1]) h2 h3 h4
      · cases hc
    · cases hc
  | insert t m k v =>
    simp only [compOp, Option.bind_eq_bind] at hc
    split at hc
    · rename_i kt e hu
      split at hc
      · rename_i kk hk
        simp only [Option.bind_eq_some_iff, Option.some.injEq] at hc
        obtain ⟨m', hm, k', hk', v', hv, rfl⟩ := hc
        obtain ⟨w', A', h1, h2, h3, h4⟩ := sound_mapUpdate hs hu hk (str := false) ⟨_, rfl⟩ (hσ _ _ hm) (hσ _ _ hk') (hσ _ _ hv) h.1 (K := K .undef) h.2
        exact wp_skip' (by simp [execOp, h1]) h2 h3 h4
      · rename_i hk
        simp only [Option.bind_eq_some_iff, Option.some.injEq] at hc
        obtain ⟨m', hm, k', hk', v', hv, rfl⟩ := hc
        obtain ⟨w', A', h1, h2, h3, h4⟩ := sound_mapUpdate hs hu hk (str := true) rfl (hσ _ _ hm) (hσ _ _ hk') (hσ _ _ hv) h.1 (K := K .undef) h.2
        exact wp_skip' (by simp [execOp, h1]) h2 h3 h4
      · cases hc
    · cases hc
  | makeMap t r =>
    cases r with
    | some r => simp [compOp] at hc
    | none =>
      simp only [compOp, Option.some.injEq] at hc
      subst hc
      obtain ⟨h1, h2⟩ := hs.alloc (o := .map #[] 0) (x := .map [] 0) (top := 0) (fun i => by
        have := heap_new w (.map #[] 0)
        simp only [World.frozen?, this]) ⟨#[], heap_new w _, rfl, fun i k v born e hi => by simp at hi⟩
      refine wp_value (V := .map (some w.heap.size)) ?_ (.map _ _ (Nat.lt_succ_self _) fun cb' sh top hm => ?_) h1 h2 (h _ (hs.fresh _ (Nat.le_refl _)).2)
      · simp [execOp, Instr.makeMap]
      · simp only [G.more, if_true, Option.some.injEq, Prod.mk.injEq] at hm
        exact hm.1.symm
  | makeSlice t l c =>
    simp only [compOp, Option.bind_eq_bind] at hc
    split at hc
    · rename_i e hu
      simp only [Option.bind_eq_some_iff] at hc
      obtain ⟨i, hi, z, hz, hc⟩ := hc
      split at hc
      · cases hc
      · rename_i hsz
        simp only [Option.bind_eq_some_iff, Option.some.injEq] at hc
        obtain ⟨l', hl, c', hc', rfl⟩ := hc
        simp only [cop] at h
        split at h
        · rename_i ln cn hln hcn
          obtain ⟨h0, hlc, hroom, hbig, h⟩ := h
          have hlr := hσ _ _ hl
          have hcr := hσ _ _ hc'
          rw [hln] at hlr
          rw [hcn] at hcr
          obtain ⟨i', Z, hi', hZ, hzr, hzl, hzo⟩ := zeroCells_rel (g := g) hz
          rw [hi] at hi'
          cases hi'
          have hrep := zeros_rel hzr (by omega) cn.toNat
          rw [hzl] at hrep
          obtain ⟨h1, h2⟩ := alloc_var hs e hrep (by
            intro c hc
            rw [List.mem_flatten] at hc
            obtain ⟨l, hl, hcl⟩ := hc
            rw [List.mem_replicate] at hl
            rw [hl.2] at hcl
            exact hzo c hcl)
          refine wp_value (V := .slice (some ⟨w.heap.size, 0, none⟩) ln.toNat cn.toNat) ?_ (alloc_slice_rel (by omega) (by simp) rfl) h1 h2 (h _ (hs.fresh _ (Nat.le_refl _)).2)
          have w1 : IntKind.i64.wrap ln = ln := IntWalk.i64_in _ (by omega)
          have w2 : IntKind.i64.wrap cn = cn := IntWalk.i64_in _ (by omega)
          have hb : ¬ (2 ^ 48 : Int) < i.bytes * cn := by rw [Int.mul_comm]; omega
          have hr0 : ∀ f : Nat → Value, Array.map f (Array.range 0) = #[] := fun f => by simp
          have hcond : ((decide (cn < 0) || decide (i.bytes * cn > 2 ^ 48)) || decide (ln < 0) || decide (ln > cn)) = false := by
            simp only [Bool.or_eq_false_iff, decide_eq_false_iff_not]
            omega
          simp only [execOp, Instr.makeSlice, Sem.run_bind, run_underlying hu, Result.andThen_ok, rel_int hlr, rel_int hcr, asInt, asIntOf, Sem.run_pure, typeInfo, run_program, hi, w1, w2]
          simp only [hcond, Bool.false_eq_true, if_false, Sem.run_bind, run_askRoom, Result.andThen_ok, sizeOf, typeInfo, run_program, hi, Sem.run_pure]
          by_cases h0 : cn.toNat * i.size = 0
          · rw [if_pos h0, h0]
            simp only [Sem.run_bind, Sem.run_pure, Result.andThen_ok, hr0]
            rfl
          · rw [if_neg h0]
            simp only [Sem.run_bind, zeroValue, typeInfo, run_program, hi, hZ, Sem.run_pure, Result.andThen_ok]
            rfl
        · exact h.elim
    · cases hc
  | call c =>
    obtain ⟨callee, args, argTypes⟩ := c
    simp only [compOp] at hc
    unfold compCall at hc
    split at hc <;> (try (cases hc; done))
    · -- len
      simp only [Option.bind_eq_bind] at hc
      have : ∃ k y, nop = .len k y := by
        split at hc <;> (try (cases hc; done))
        all_goals
          simp only [Option.bind_eq_some_iff, Option.some.injEq] at hc
          obtain ⟨y, _, rfl⟩ := hc
          exact ⟨_, _, rfl⟩
      obtain ⟨k, y, rfl⟩ := this
      exact wp_quiet hs hc0 hσ h
    · -- append
      rename_i s x t tx ha ht
      obtain rfl : args = #[s, x] := Array.toList_inj.1 ha
      obtain rfl : argTypes = #[t, tx] := Array.toList_inj.1 ht
      simp only [Option.bind_eq_bind] at hc
      split at hc
      · rename_i e hu
        simp only [Option.bind_eq_some_iff] at hc
        obtain ⟨i, hi, z, hz, hc⟩ := hc
        split at hc
        · cases hc
        · rename_i hsz
          split at hc
          · rename_i e' htx
            simp only [Option.bind_eq_some_iff, Option.some.injEq] at hc
            obtain ⟨s', hs', x', hx, rfl⟩ := hc
            obtain ⟨V, w', g', v, A', h1, h2, h3, h4, h5⟩ := sound_append (ty := type) hs hu hi hz hsz (str := false) (tx := tx) (by simpa using ⟨_, htx⟩) (hσ _ _ hs') (hσ _ _ hx) h
            refine wp_value (V := V) ?_ h2 h3 h4 h5
            simp [execOp, resolve, invoke, builtin, h1]
          · rename_i htx
            simp only [Option.bind_eq_some_iff, Option.some.injEq] at hc
            obtain ⟨s', hs', x', hx, rfl⟩ := hc
            obtain ⟨V, w', g', v, A', h1, h2, h3, h4, h5⟩ := sound_append (ty := type) hs hu hi hz hsz (str := true) (tx := tx) (by simpa using htx) (hσ _ _ hs') (hσ _ _ hx) h
            refine wp_value (V := V) ?_ h2 h3 h4 h5
            simp [execOp, resolve, invoke, builtin, h1]
          · cases hc
      · cases hc
    · simp only [Option.bind_eq_bind, Option.bind_eq_some_iff, Option.some.injEq] at hc
      obtain ⟨_, _, _, _, rfl⟩ := hc
      exact wp_quiet hs hc0 hσ h
    · simp only [Option.bind_eq_bind, Option.bind_eq_some_iff, Option.some.injEq] at hc
      obtain ⟨_, _, _, _, rfl⟩ := hc
      exact wp_quiet hs hc0 hσ h
    · -- a call
      rename_i x
      simp only [Option.bind_eq_bind, Option.bind_eq_some_iff, Option.some.injEq] at hc
      obtain ⟨y, hy, zs, hzs, rfl⟩ := hc
      simp only [cop] at h
      split at h
      · rename_i f first caps hf
        have hr := hσ _ _ hy
        rw [hf] at hr
        generalize hX : a.eval x = X at hr
        cases hr with
        | func _ _ _ fs cs hfl hcl h1 h2 =>
          have hargs := ops_arr hσ (xs := args) (ys := zs) hzs
          have hall : RelL g (first ++ zs.map σ ++ caps) (fs ++ args.map a.eval ++ cs) := ((RelL.mk' hfl h1).append hargs).append (RelL.mk' hcl h2)
          have hrun : (execOp a.eval { dst := dst, op := .call { callee := .value x, args := args, argTypes := argTypes }, type := type, pos := pos, after := after, guard := guard }).run P w = .ok (.enter f (fs ++ args.map a.eval ++ cs)) w := by
            simp only [execOp, resolve, Sem.run_bind, hX, Deferred.ofValue, Sem.run_pure, Result.andThen_ok, invoke]
            exact callFunc_enters h.1 _ w
          unfold Oper.wp
          rw [hrun]
          simp only [Oper.upon]
          refine (h.2 g w _ hs hall).mono ?_
          rintro e w' ⟨v, V, A', g', rfl, q1, q2, q3, q4⟩
          exact ⟨g', v, V, A', rfl, q1, q2, q3, q4⟩
      · exact h.elim
  | build t parts =>
    have : ∃ z qs, nop = .build z qs := by
      simp only [compOp, Option.bind_eq_bind, Option.bind_eq_some_iff] at hc
      obtain ⟨z, hz, hc⟩ := hc
      split at hc
      · simp only [Option.bind_eq_some_iff, Option.some.injEq] at hc
        obtain ⟨_, _, qs, _, rfl⟩ := hc
        exact ⟨_, _, rfl⟩
      · simp only [Option.bind_eq_some_iff, Option.some.injEq] at hc
        obtain ⟨_, _, qs, _, rfl⟩ := hc
        exact ⟨_, _, rfl⟩
      · cases hc
    obtain ⟨z, qs, rfl⟩ := this
    exact wp_quiet hs hc0 hσ h
  | makeFunc fn first caps =>
    cases fn with
    | func f =>
      simp only [compOp, Option.bind_eq_bind, Option.bind_eq_some_iff, Option.some.injEq] at hc
      obtain ⟨_, _, _, _, rfl⟩ := hc
      exact wp_quiet hs hc0 hσ h
    | _ => simp [compOp] at hc
  | move x | assign x | nilCheck x | unOp _ _ x =>
    simp only [compOp, Option.map_eq_some_iff] at hc
    obtain ⟨_, _, rfl⟩ := hc
    exact wp_quiet hs hc0 hσ h
  | lookup t x k ok =>
    have : ∃ a b c d e, nop = .lookup a b c d e := by
      simp only [compOp, Option.bind_eq_bind] at hc
      split at hc
      · simp only [Option.bind_eq_some_iff] at hc
        obtain ⟨Z, ⟨i, hi, hZ⟩, z, hz, hc⟩ := hc
        split at hc
        · simp only [Option.bind_eq_some_iff, Option.some.injEq] at hc
          obtain ⟨_, _, _, _, rfl⟩ := hc
          exact ⟨_, _, _, _, _, rfl⟩
        · simp only [Option.bind_eq_some_iff, Option.some.injEq] at hc
          obtain ⟨_, _, _, _, rfl⟩ := hc
          exact ⟨_, _, _, _, _, rfl⟩
        · cases hc
      · cases hc
    obtain ⟨a, b, c, d, e, rfl⟩ := this
    exact wp_quiet hs hc0 hσ h
  | fieldAddr s x n =>
    have : ∃ off y, nop = .fieldAddr off y := by
      simp only [compOp, Option.bind_eq_bind] at hc
      split at hc
      · simp only [Option.bind_eq_some_iff] at hc
        obtain ⟨f, hf, i, hi, hc⟩ := hc
        split at hc
        · cases hc
        · simp only [Option.bind_eq_some_iff, Option.some.injEq] at hc
          obtain ⟨y, hy, rfl⟩ := hc
          exact ⟨_, _, rfl⟩
      · cases hc
    obtain ⟨off, y, rfl⟩ := this
    exact wp_quiet hs hc0 hσ h
  | _ =>
    first
      | (simp [compOp] at hc; done)
      | (have hno : ∀ (K : AV → Heap → Prop), cop P σ A K nop = (match qop A σ nop with | some v => K v A | none => False) := by
          intro K
          simp only [compOp, Option.bind_eq_bind] at hc
          (repeat' split at hc)
          all_goals (try (cases hc; done))
          all_goals (simp only [Option.bind_eq_some_iff, Option.some.injEq, Option.bind_some] at hc)
          all_goals first
            | (obtain ⟨_, _, rfl⟩ := hc; rfl)
            | (obtain ⟨_, _, _, _, rfl⟩ := hc; rfl)
            | (obtain ⟨_, _, _, _, _, _, rfl⟩ := hc; rfl)
            | (obtain ⟨_, _, _, _, _, _, _, _, rfl⟩ := hc; rfl)
            | (obtain ⟨_, _, _, _, _, _, _, _, _, _, rfl⟩ := hc; rfl)
         rw [hno] at h
         exact wp_quiet hs hc0 hσ h)

end Go.NL
