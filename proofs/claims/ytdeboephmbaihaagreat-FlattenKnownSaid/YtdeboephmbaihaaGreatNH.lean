/- THE N-LOGIC, part H: whatever 'qop' says, the operation does. -/
import Derived.Test.YtdeboephmbaihaaGreatNG
set_option linter.unusedVariables false
set_option linter.unusedSimpArgs false
namespace Go.NL

theorem optOpd_ok {g : G} {σ : Opd → AV} {ρ : Operand → Value} (hσ : Ops g σ ρ) {x : Option Operand} {y : Option Opd} (h : optOpd x = some y) : OptOk g (y.map σ) (x.map ρ) := by
  cases x with
  | none => simp [optOpd] at h; subst h; exact .inl ⟨rfl, rfl⟩
  | some x =>
    simp only [optOpd, Option.map_eq_some_iff] at h
    obtain ⟨z, hz, rfl⟩ := h
    exact .inr ⟨_, _, rfl, rfl, hσ _ _ hz⟩

theorem lift {P : Program} {w : World} {s : Sem Value} {V : Value} (h : s.run P w = .ok V w) : (do pure (.value (← s)) : Sem Next).run P w = .ok (.value V) w := by
  simp [h]

theorem qop_sound {P : Program} {g : G} {A : Heap} {w : World} (hs : Sim g A w) {o : Oper} {nop : NOp} (hc : compOp P o.op = some nop) {σ : Opd → AV} {ρ : Operand → Value} (hσ : Ops g σ ρ) {v : AV} (hq : qop A σ nop = some v) :
    Yields P g w o ρ v := by
  obtain ⟨dst, op, type, pos, after, guard⟩ := o
  simp only at hc
  unfold Yields
  cases op with
  | move x =>
    simp only [compOp, Option.map_eq_some_iff] at hc
    obtain ⟨y, hy, rfl⟩ := hc
    cases hq
    exact ⟨_, rfl, hσ _ _ hy⟩
  | assign x =>
    simp only [compOp, Option.map_eq_some_iff] at hc
    obtain ⟨y, hy, rfl⟩ := hc
    cases hq
    exact ⟨_, rfl, hσ _ _ hy⟩
  | pick c a b =>
    simp only [compOp, Option.bind_eq_bind, Option.bind_eq_some_iff, Option.some.injEq] at hc
    obtain ⟨c', hc', a', ha, b', hb, rfl⟩ := hc
    simp only [qop] at hq
    split at hq
    · rename_i cb hcb
      cases hq
      have h1 := hσ _ _ hc'
      rw [hcb] at h1
      have := rel_bool h1
      refine ⟨if cb then ρ a else ρ b, by simp [execOp, this, asBool], ?_⟩
      cases cb
      · exact hσ _ _ hb
      · exact hσ _ _ ha
    · cases hq
  | build t parts =>
    have hc0 := hc
    simp only [compOp, Option.bind_eq_bind, Option.bind_eq_some_iff] at hc
    obtain ⟨z, hz, hc⟩ := hc
    have hform : ∃ qs, nop = .build z qs := by
      split at hc
      · simp only [Option.bind_eq_some_iff, Option.some.injEq] at hc
        obtain ⟨_, _, qs, _, rfl⟩ := hc
        exact ⟨_, rfl⟩
      · simp only [Option.bind_eq_some_iff, Option.some.injEq] at hc
        obtain ⟨_, _, qs, _, rfl⟩ := hc
        exact ⟨_, rfl⟩
      · cases hc
    obtain ⟨qs, rfl⟩ := hform
    simp only [qop, Option.map_eq_some_iff] at hq
    obtain ⟨r, hr, rfl⟩ := hq
    obtain ⟨V, h1, h2⟩ := sound_build (w := w) hσ hc0 hr
    exact ⟨V, lift h1, h2⟩
  | load t x =>
    simp only [compOp, Option.bind_eq_bind, Option.bind_eq_some_iff, Option.some.injEq] at hc
    obtain ⟨agg, hag, y, hy, rfl⟩ := hc
    obtain ⟨V, h1, h2⟩ := sound_load hs hag (hσ _ _ hy) hq
    exact ⟨V, lift h1, h2⟩
  | nilCheck x =>
    simp only [compOp, Option.map_eq_some_iff] at hc
    obtain ⟨y, hy, rfl⟩ := hc
    have hx := hσ _ _ hy
    simp only [qop] at hq
    generalize hX : ρ x = X at hx
    split at hq <;> (try (cases hq; done))
    all_goals
      rename_i h
      cases hq
      rw [h] at hx
      refine ⟨X, ?_, hx⟩
      cases hx
      simp only [execOp, hX]
      rfl
  | binOp op t x y yt =>
    simp only [compOp, Option.bind_eq_bind, Option.bind_eq_some_iff, Option.some.injEq] at hc
    obtain ⟨x', hx, y', hy, rfl⟩ := hc
    obtain ⟨V, h1, h2⟩ := sound_bin (P := P) (w := w) (hσ _ _ hx) (hσ _ _ hy) hq x y
    exact ⟨V, lift h1, h2⟩
  | unOp op t x =>
    simp only [compOp, Option.map_eq_some_iff] at hc
    obtain ⟨y, hy, rfl⟩ := hc
    have hx := hσ _ _ hy
    simp only [qop] at hq
    generalize hX : ρ x = X at hx
    split at hq <;> (try (cases hq; done))
    all_goals
      rename_i h
      cases hq
      rw [h] at hx
      cases hx
      first
        | (refine ⟨_, lift (s := Op.unary _ (ρ x)) (by rw [hX]; rfl), ?_⟩; exact .int _ _)
        | (refine ⟨_, lift (s := Op.unary _ (ρ x)) (by rw [hX]; rfl), ?_⟩; exact .bool _)
  | convert src dst x =>
    simp only [compOp, Option.bind_eq_bind] at hc
    split at hc
    · rename_i d k h1 h2
      simp only [Option.bind_eq_some_iff, Option.some.injEq] at hc
      obtain ⟨y, hy, rfl⟩ := hc
      have hx := hσ _ _ hy
      simp only [qop] at hq
      split at hq
      · rename_i h
        cases hq
        rw [h] at hx
        refine ⟨.int k _, lift (s := convert src dst (ρ x)) ?_, .int _ _⟩
        rw [rel_int hx]
        simp [convert, run_underlying h1, run_underlying h2, Conv.intToInt]
      · cases hq
    · rename_i h1 h2
      simp only [Option.bind_eq_some_iff, Option.some.injEq] at hc
      obtain ⟨y, hy, rfl⟩ := hc
      have hx := hσ _ _ hy
      simp only [qop] at hq
      split at hq
      · rename_i h
        cases hq
        rw [h] at hx
        obtain ⟨b, hb, rfl⟩ := rel_str hx
        refine ⟨.string b, lift (s := convert src dst (ρ x)) ?_, .str _⟩
        rw [hb]
        simp [convert, run_underlying h1, run_underlying h2]
      · cases hq
    · rename_i e h1 h2
      split at hc
      · rename_i hu8
        simp only [Option.bind_eq_some_iff, Option.some.injEq] at hc
        obtain ⟨y, hy, rfl⟩ := hc
        have hx := hσ _ _ hy
        simp only [qop, Option.map_eq_some_iff] at hq
        obtain ⟨s, hq, rfl⟩ := hq
        obtain ⟨b, q1, q2⟩ := sound_bytes (P := P) hs hx hq
        have hsl : ∃ a l c, ρ x = .slice a l c := by
          generalize ρ x = X at hx
          unfold bytesAV at hq
          split at hq <;> first | (cases hq; done) | (rename_i hh; rw [hh] at hx; cases hx; exact ⟨_, _, _, rfl⟩) | skip
        obtain ⟨a, l, c, he⟩ := hsl
        refine ⟨.string b, lift (s := convert src dst (ρ x)) ?_, rel_str_mk b s q2⟩
        rw [he] at q1 ⊢
        rw [run_convert_bytes_string w src dst e a l c h1 hu8 h2]
        exact q1
      · cases hc
    · cases hc
  | fieldAddr s x n =>
    simp only [compOp, Option.bind_eq_bind] at hc
    split at hc
    · rename_i fs hu
      simp only [Option.bind_eq_some_iff] at hc
      obtain ⟨f, hf, i, hi, hc⟩ := hc
      split at hc
      · cases hc
      · rename_i hsz
        simp only [Option.bind_eq_some_iff, Option.some.injEq] at hc
        obtain ⟨y, hy, rfl⟩ := hc
        have hx := hσ _ _ hy
        generalize hX : ρ x = X at hx
        simp only [qop] at hq
        have hfp : ∀ (a : Addr) (w : World), (fieldPlace a f).run P w = .ok (a.add f.offset) w := fun a w => by simp [fieldPlace, sizeOf, typeInfo, hi, hsz]
        split at hq
        · rename_i b off h
          cases hq
          rw [h] at hx
          cases hx with
          | ptr _ _ a hb ha =>
            refine ⟨.pointer (some (a.add f.offset)), lift (s := Instr.fieldAt s (ρ x) n) ?_, .ptr _ _ _ hb fun cb sh top hm => ?_⟩
            · rw [hX]; simp [Instr.fieldAt, run_underlying hu, hf, Instr.sureAddr, hfp]
            · rw [ha _ _ _ hm, add_mk, Nat.add_assoc]
        · rename_i cs off h
          cases hq
          rw [h] at hx
          cases hx with
          | iptr _ _ cb o ha =>
            refine ⟨.pointer (some ⟨cb, o + (off + f.offset), none⟩), lift (s := Instr.fieldAt s (ρ x) n) ?_, .iptr _ _ _ _ ha⟩
            rw [hX]; simp [Instr.fieldAt, run_underlying hu, hf, Instr.sureAddr, hfp, add_mk, Nat.add_assoc]
        · cases hq
    · cases hc
  | field s x n =>
    simp only [compOp, Option.bind_eq_bind] at hc
    split at hc
    · rename_i fs hu
      simp only [Option.bind_eq_some_iff, Option.some.injEq] at hc
      obtain ⟨f, hf, agg, hag, y, hy, rfl⟩ := hc
      have hx := hσ _ _ hy
      simp only [qop] at hq
      split at hq
      · rename_i cs h
        rw [h] at hx
        obtain ⟨vs, hX, hr, hone⟩ := rel_agg hx
        obtain ⟨V, h1, h2⟩ := sound_part (w := w) hag hr hone hq
        refine ⟨V, lift (s := Instr.field s (ρ x) n) ?_, h2⟩
        rw [hX]
        simp [Instr.field, run_underlying hu, hf, asAgg, h1]
      · cases hq
    · cases hc
  | indexAddr t x i =>
    simp only [compOp, Option.bind_eq_bind] at hc
    split at hc
    · rename_i e hu
      simp only [Option.bind_eq_some_iff, Option.some.injEq] at hc
      obtain ⟨j, hj, x', hx, i', hi, rfl⟩ := hc
      simp only [qop] at hq
      split at hq
      · rename_i k n h
        have h1 := hσ _ _ hi
        rw [h] at h1
        obtain ⟨V, h2, h3⟩ := sound_indexAddr (w := w) (k := k) hj (.inl ⟨rfl, hu⟩) (hσ _ _ hx) hq
        exact ⟨V, lift (s := Instr.indexAt t (ρ x) (ρ i)) (by rw [rel_int h1]; exact h2), h3⟩
      · cases hq
    · rename_i len e hu
      simp only [Option.bind_eq_some_iff, Option.some.injEq] at hc
      obtain ⟨j, hj, x', hx, i', hi, rfl⟩ := hc
      simp only [qop] at hq
      split at hq
      · rename_i k n h
        have h1 := hσ _ _ hi
        rw [h] at h1
        obtain ⟨V, h2, h3⟩ := sound_indexAddr (w := w) (k := k) hj (.inr ⟨_, rfl, hu⟩) (hσ _ _ hx) hq
        exact ⟨V, lift (s := Instr.indexAt t (ρ x) (ρ i)) (by rw [rel_int h1]; exact h2), h3⟩
      · cases hq
    · cases hc
  | index t x i =>
    simp only [compOp, Option.bind_eq_bind] at hc
    split at hc
    · rename_i hu
      simp only [Option.bind_eq_some_iff, Option.some.injEq] at hc
      obtain ⟨x', hx, i', hi, rfl⟩ := hc
      simp only [qop] at hq
      split at hq
      · rename_i s k n h1 h2
        split at hq
        · rename_i h0
          simp only [Option.map_eq_some_iff] at hq
          obtain ⟨b, hb, rfl⟩ := hq
          have r1 := hσ _ _ hx
          have r2 := hσ _ _ hi
          rw [h1] at r1
          rw [h2] at r2
          obtain ⟨bs, hX, rfl⟩ := rel_str r1
          refine ⟨.int .u8 b.toNat, lift (s := Instr.index t (ρ x) (ρ i)) ?_, .int _ _⟩
          rw [hX, rel_int r2]
          have hb' : bs[n.toNat]? = some b := by
            have h3 := List.getElem?_eq_some_iff.1 hb
            obtain ⟨h3, h4⟩ := h3
            have h5 : n.toNat < bs.size := by
              have : bs.size = bs.data.toList.length := by rw [Array.length_toList]; rfl
              omega
            rw [getElem?_pos bs n.toNat h5]
            rw [← h4]
            rfl
          simp [Instr.index, asIntOf, run_underlying hu, h0, hb']
        · cases hq
      · cases hq
    · rename_i len e hu
      simp only [Option.bind_eq_some_iff, Option.some.injEq] at hc
      obtain ⟨j, hj, agg, hag, x', hx, i', hi, rfl⟩ := hc
      simp only [qop] at hq
      split at hq
      · rename_i cs k n h1 h2
        split at hq
        · rename_i hn
          have r1 := hσ _ _ hx
          have r2 := hσ _ _ hi
          rw [h1] at r1
          rw [h2] at r2
          obtain ⟨vs, hX, hr, hone⟩ := rel_agg r1
          obtain ⟨V, h3, h4⟩ := sound_part (w := w) hag hr hone hq
          refine ⟨V, lift (s := Instr.index t (ρ x) (ρ i)) ?_, h4⟩
          rw [hX, rel_int r2]
          simp [Instr.index, asIntOf, run_underlying hu, hn, sizeOf, typeInfo, hj, h3]
        · cases hq
      · cases hq
    · cases hc
  | slice t x lo hi mx =>
    simp only [compOp, Option.bind_eq_bind] at hc
    split at hc
    · rename_i hu
      simp only [Option.bind_eq_some_iff, Option.some.injEq] at hc
      obtain ⟨x', hx, lo', hlo, hi', hhi, mx', hmx, rfl⟩ := hc
      obtain ⟨V, h1, h2⟩ := sound_slice (P := P) (w := w) (.inl ⟨rfl, hu⟩) (optOpd_ok hσ hlo) (optOpd_ok hσ hhi) (optOpd_ok hσ hmx) (hσ _ _ hx) hq
      exact ⟨V, lift h1, h2⟩
    · rename_i e hu
      simp only [Option.bind_eq_some_iff, Option.some.injEq] at hc
      obtain ⟨j, hj, x', hx, lo', hlo, hi', hhi, mx', hmx, rfl⟩ := hc
      obtain ⟨V, h1, h2⟩ := sound_slice (P := P) (w := w) (.inr ⟨_, _, hu, hj, rfl⟩) (optOpd_ok hσ hlo) (optOpd_ok hσ hhi) (optOpd_ok hσ hmx) (hσ _ _ hx) hq
      exact ⟨V, lift h1, h2⟩
    · cases hc
  | lookup t x k ok =>
    simp only [compOp, Option.bind_eq_bind] at hc
    split at hc
    · rename_i kt e hu
      simp only [Option.bind_eq_some_iff] at hc
      obtain ⟨Z, ⟨i, hi, hZ⟩, z, hz, hc⟩ := hc
      split at hc
      · rename_i kk hk
        simp only [Option.bind_eq_some_iff, Option.some.injEq] at hc
        obtain ⟨x', hx, k', hk', rfl⟩ := hc
        simp only [qop] at hq
        split at hq
        · cases hq
        · rename_i hko
          simp only [Option.map_eq_some_iff] at hq
          obtain ⟨r, hr, rfl⟩ := hq
          obtain ⟨V, h1, h2⟩ := sound_lookup (ok := ok) hs hu hk (str := false) ⟨_, rfl⟩ hi hZ (constAV_rel hz) (hσ _ _ hx) (hσ _ _ hk') (by simpa using hko) hr
          exact ⟨V, lift h1, h2⟩
      · rename_i hk
        simp only [Option.bind_eq_some_iff, Option.some.injEq] at hc
        obtain ⟨x', hx, k', hk', rfl⟩ := hc
        simp only [qop] at hq
        split at hq
        · cases hq
        · rename_i hko
          simp only [Option.map_eq_some_iff] at hq
          obtain ⟨r, hr, rfl⟩ := hq
          obtain ⟨V, h1, h2⟩ := sound_lookup (ok := ok) hs hu hk (str := true) rfl hi hZ (constAV_rel hz) (hσ _ _ hx) (hσ _ _ hk') (by simpa using hko) hr
          exact ⟨V, lift h1, h2⟩
      · cases hc
    · cases hc
  | makeFunc fn first caps =>
    cases fn with
    | func f =>
      simp only [compOp, Option.bind_eq_bind, Option.bind_eq_some_iff, Option.some.injEq] at hc
      obtain ⟨fs, hf, cs, hcs, rfl⟩ := hc
      simp only [qop, Option.some.injEq] at hq
      subst hq
      have h1 := ops_arr hσ hf
      have h2 := ops_arr hσ hcs
      exact ⟨_, lift (s := Instr.makeFunc (.func f) (first.map ρ) (caps.map ρ)) rfl, .func _ _ _ _ _ h1.len h2.len (fun i a b => h1.get i a b) (fun i a b => h2.get i a b)⟩
    | _ => simp [compOp] at hc
  | makeInterface t x =>
    simp only [compOp, Option.bind_eq_bind] at hc
    split at hc
    · rename_i hcon
      simp only [Option.bind_eq_some_iff, Option.some.injEq] at hc
      obtain ⟨y, hy, rfl⟩ := hc
      cases hq
      exact ⟨_, lift (run_makeInterface w t (ρ x) hcon), .iface _ _ _ (hσ _ _ hy)⟩
    · cases hc
  | extract x i =>
    simp only [compOp, Option.bind_eq_bind, Option.bind_eq_some_iff, Option.some.injEq] at hc
    obtain ⟨y, hy, rfl⟩ := hc
    have hx := hσ _ _ hy
    simp only [qop] at hq
    split at hq
    · rename_i vs h
      rw [h] at hx
      obtain ⟨Vs, hX, hr⟩ := rel_tuple hx
      obtain ⟨V, h1, h2⟩ := hr.get? hq
      refine ⟨V, lift (s := Instr.extract (ρ x) i) ?_, h2⟩
      rw [hX]
      simp [Instr.extract, h1]
    · cases hq
  | call c =>
    obtain ⟨callee, args, argTypes⟩ := c
    simp only [compOp] at hc
    unfold compCall at hc
    split at hc <;> (try (cases hc; done))
    · -- len
      rename_i x t ha ht
      obtain rfl : args = #[x] := Array.toList_inj.1 ha
      obtain rfl : argTypes = #[t] := Array.toList_inj.1 ht
      simp only [Option.bind_eq_bind] at hc
      have key : ∀ {k : LenK} (ht : match k with | .str => P.underlying t = some .string | .slice => ∃ e, P.underlying t = some (.slice e) | .map => ∃ a b, P.underlying t = some (.map a b)) (hc : ((compOpd x).bind fun y => some (NOp.len k y)) = some nop),
          ∃ V, (execOp ρ { dst := dst, op := .call { callee := .builtin .len, args := #[x], argTypes := #[t] }, type := type, pos := pos, after := after, guard := guard }).run P w = .ok (.value V) w ∧ Rel g v V := by
        intro k ht hc
        simp only [Option.bind_eq_some_iff, Option.some.injEq] at hc
        obtain ⟨y, hy, rfl⟩ := hc
        simp only [qop, Option.map_eq_some_iff] at hq
        obtain ⟨n, hn, rfl⟩ := hq
        have h1 := sound_len (ty := type) hs ht (hσ _ _ hy) hn
        refine ⟨_, ?_, .int _ _⟩
        simp only [execOp, resolve, List.map_toArray, List.map_cons, List.map_nil, Sem.run_bind, Sem.run_pure, Result.andThen_ok, invoke, builtin]
        simp [h1]
      split at hc
      · rename_i hu; exact key (k := .str) hu hc
      · rename_i hu; exact key (k := .slice) ⟨_, hu⟩ hc
      · rename_i hu; exact key (k := .map) ⟨_, _, hu⟩ hc
      · cases hc
    · -- append
      simp only [Option.bind_eq_bind] at hc
      split at hc
      · simp only [Option.bind_eq_some_iff] at hc
        obtain ⟨i, hi, z, hz, hc⟩ := hc
        split at hc
        · cases hc
        · split at hc
          · simp only [Option.bind_eq_some_iff, Option.some.injEq] at hc
            obtain ⟨_, _, _, _, rfl⟩ := hc
            simp [qop] at hq
          · simp only [Option.bind_eq_some_iff, Option.some.injEq] at hc
            obtain ⟨_, _, _, _, rfl⟩ := hc
            simp [qop] at hq
          · cases hc
      · cases hc
    · -- max
      rename_i x y ha
      obtain rfl : args = #[x, y] := Array.toList_inj.1 ha
      simp only [Option.bind_eq_bind, Option.bind_eq_some_iff, Option.some.injEq] at hc
      obtain ⟨x', hx, y', hy, rfl⟩ := hc
      have h1 := hσ _ _ hx
      have h2 := hσ _ _ hy
      simp only [qop] at hq
      split at hq
      · rename_i k a k' b ha hb
        rw [ha] at h1
        rw [hb] at h2
        split at hq
        · rename_i hk
          cases hq
          subst hk
          refine ⟨_, ?_, .int _ _⟩
          simp only [execOp, resolve, List.map_toArray, List.map_cons, List.map_nil, Sem.run_bind, Sem.run_pure, Result.andThen_ok, invoke, builtin, rel_int h1, rel_int h2, Builtin.max_]
          simp only [List.foldlM_cons, List.foldlM_nil, Builtin.max2, Sem.run_bind, Sem.run_pure, Result.andThen_ok]
        · cases hq
      · cases hq
    · -- min
      rename_i x y ha
      obtain rfl : args = #[x, y] := Array.toList_inj.1 ha
      simp only [Option.bind_eq_bind, Option.bind_eq_some_iff, Option.some.injEq] at hc
      obtain ⟨x', hx, y', hy, rfl⟩ := hc
      have h1 := hσ _ _ hx
      have h2 := hσ _ _ hy
      simp only [qop] at hq
      split at hq
      · rename_i k a k' b ha hb
        rw [ha] at h1
        rw [hb] at h2
        split at hq
        · rename_i hk
          cases hq
          subst hk
          refine ⟨_, ?_, .int _ _⟩
          simp only [execOp, resolve, List.map_toArray, List.map_cons, List.map_nil, Sem.run_bind, Sem.run_pure, Result.andThen_ok, invoke, builtin, rel_int h1, rel_int h2, Builtin.min_]
          simp only [List.foldlM_cons, List.foldlM_nil, Builtin.min2, Sem.run_bind, Sem.run_pure, Result.andThen_ok]
        · cases hq
      · cases hq
    · -- a call
      simp only [Option.bind_eq_bind, Option.bind_eq_some_iff, Option.some.injEq] at hc
      obtain ⟨_, _, _, _, rfl⟩ := hc
      simp [qop] at hq
  | alloc t =>
    simp only [compOp, Option.map_eq_some_iff] at hc
    obtain ⟨_, _, rfl⟩ := hc
    simp [qop] at hq
  | box t x =>
    simp only [compOp, Option.map_eq_some_iff] at hc
    obtain ⟨_, _, rfl⟩ := hc
    simp [qop] at hq
  | buildSlice t len parts =>
    exfalso
    have : ∀ a b c d, nop = .buildSlice a b c d → False := by rintro a b c d rfl; simp [qop] at hq
    simp only [compOp, Option.bind_eq_bind] at hc
    split at hc
    · simp only [Option.bind_eq_some_iff] at hc
      obtain ⟨i, hi, z, hz, hc⟩ := hc
      split at hc
      · cases hc
      · split at hc
        · cases hc
        · simp only [Option.bind_eq_some_iff, Option.some.injEq] at hc
          obtain ⟨_, _, rfl⟩ := hc
          exact this _ _ _ _ rfl
    · cases hc
  | store t a x =>
    simp only [compOp, Option.bind_eq_bind, Option.bind_eq_some_iff, Option.some.injEq] at hc
    obtain ⟨_, _, _, _, _, _, rfl⟩ := hc
    simp [qop] at hq
  | mapUpdate t m k x =>
    exfalso
    have : ∀ a b c d, nop = .mapUpdate a b c d → False := by rintro a b c d rfl; simp [qop] at hq
    simp only [compOp, Option.bind_eq_bind] at hc
    split at hc
    · split at hc <;> (try (cases hc; done))
      all_goals
        simp only [Option.bind_eq_some_iff, Option.some.injEq] at hc
        obtain ⟨_, _, _, _, _, _, rfl⟩ := hc
        exact this _ _ _ _ rfl
    · cases hc
  | insert t m k x =>
    exfalso
    have : ∀ a b c d, nop = .mapUpdate a b c d → False := by rintro a b c d rfl; simp [qop] at hq
    simp only [compOp, Option.bind_eq_bind] at hc
    split at hc
    · split at hc <;> (try (cases hc; done))
      all_goals
        simp only [Option.bind_eq_some_iff, Option.some.injEq] at hc
        obtain ⟨_, _, _, _, _, _, rfl⟩ := hc
        exact this _ _ _ _ rfl
    · cases hc
  | makeMap t r =>
    cases r with
    | none => simp only [compOp, Option.some.injEq] at hc; subst hc; simp [qop] at hq
    | some r => simp [compOp] at hc
  | makeSlice t l c =>
    exfalso
    have : ∀ a b c d e, nop = .makeSlice a b c d e → False := by rintro a b c d e rfl; simp [qop] at hq
    simp only [compOp, Option.bind_eq_bind] at hc
    split at hc
    · simp only [Option.bind_eq_some_iff] at hc
      obtain ⟨i, hi, z, hz, hc⟩ := hc
      split at hc
      · cases hc
      · simp only [Option.bind_eq_some_iff, Option.some.injEq] at hc
        obtain ⟨_, _, _, _, rfl⟩ := hc
        exact this _ _ _ _ _ rfl
    · cases hc
  | _ => simp [compOp] at hc

end Go.NL
