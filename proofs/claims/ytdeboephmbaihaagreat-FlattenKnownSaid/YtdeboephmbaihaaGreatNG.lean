/- THE N-LOGIC, part G: places and maps; all of 'qop'. -/
import Derived.Test.YtdeboephmbaihaaGreatNF
set_option linter.unusedVariables false
set_option linter.unusedSimpArgs false
namespace Go.NL

theorem sound_indexAddr {P : Program} {g : G} {w : World} {t e : TypeId} {j : TypeInfo} {arr : Option Nat} (hj : P.info? e = some j)
    (ht : (arr = none ∧ P.underlying t = some (.slice e)) ∨ ∃ n, arr = some n ∧ P.underlying t = some (.array n e)) {x v : AV} {X : Value} (hx : Rel g x X) {k : IntKind} {n : Int} (hv : indexAddrAV j.size arr x n = some v) :
    ∃ V, (Instr.indexAt t X (.int k n)).run P w = .ok V w ∧ Rel g v V := by
  unfold indexAddrAV at hv
  split at hv
  · rename_i len
    rcases ht with ⟨h, _⟩ | ⟨m, h, hu⟩
    · cases h
    · cases h
      split at hv
      · rename_i hn
        split at hv
        · rename_i b off
          cases hv
          cases hx with
          | ptr _ _ a hb h =>
            refine ⟨.pointer (some (a.add (n.toNat * j.size))), ?_, .ptr _ _ _ hb fun cb sh top hm => ?_⟩
            · simp [Instr.indexAt, asIntOf, run_underlying hu, Instr.sureAddr, hn, sizeOf, typeInfo, hj]
            · rw [h _ _ _ hm, add_mk, Nat.add_assoc]
        · rename_i cs off
          cases hv
          cases hx with
          | iptr _ _ cb o h =>
            refine ⟨.pointer (some ⟨cb, o + (off + n.toNat * j.size), none⟩), ?_, .iptr _ _ _ _ h⟩
            simp [Instr.indexAt, asIntOf, run_underlying hu, Instr.sureAddr, hn, sizeOf, typeInfo, hj, add_mk, Nat.add_assoc]
        · cases hv
      · cases hv
  · rcases ht with ⟨_, hu⟩ | ⟨m, h, hu⟩
    · split at hv
      · rename_i e' b off len cap
        split at hv
        · rename_i hc
          obtain ⟨rfl, h0, hlt⟩ := hc
          cases hv
          cases hx with
          | slice _ _ _ _ _ a c hb hlc hcap hsp h =>
            refine ⟨.pointer (some (a.add (n.toNat * j.size))), ?_, .ptr _ _ _ hb fun cb sh top hm => ?_⟩
            · simp [Instr.indexAt, asIntOf, run_underlying hu, h0, hlt, sizeOf, typeInfo, hj]
            · have hc0 : c ≠ 0 := by omega
              rw [(h hc0 _ _ _ hm).1, add_mk, Nat.add_assoc]
        · cases hv
      · rename_i e' es ex
        split at hv
        · rename_i hc
          obtain ⟨rfl, h0⟩ := hc
          simp only [Option.map_eq_some_iff] at hv
          obtain ⟨el, hel, rfl⟩ := hv
          cases hx with
          | islice _ _ _ cb o c hlc hex h =>
            obtain ⟨h1, h2⟩ := h _ _ hel
            have hlt : n < es.length := by
              have := (List.getElem?_eq_some_iff.1 hel).1
              omega
            refine ⟨.pointer (some ⟨cb, o + n.toNat * j.size + 0, none⟩), ?_, .iptr _ _ _ _ h2⟩
            simp [Instr.indexAt, asIntOf, run_underlying hu, h0, hlt, sizeOf, typeInfo, hj, add_mk]
        · cases hv
      · cases hv
    · cases h

theorem sound_len {P : Program} {g : G} {A : Heap} {w : World} (hs : Sim g A w) {t ty : TypeId} {k : LenK}
    (ht : match k with | .str => P.underlying t = some .string | .slice => ∃ e, P.underlying t = some (.slice e) | .map => ∃ a b, P.underlying t = some (.map a b)) {x : AV} {X : Value} (hx : Rel g x X) {n : Nat} (hn : lenAV A k x = some n) :
    (Builtin.len_ #[t] ty #[X]).run P w = .ok (.int .i64 n) w := by
  unfold lenAV at hn
  split at hn
  · cases hn
    obtain ⟨b, rfl, rfl⟩ := rel_str hx
    have hbs : b.size = b.data.toList.length := by rw [Array.length_toList]; rfl
    rw [← hbs]
    simp [Builtin.len_, run_underlying ht, goInt]
  · cases hn; cases hx
    obtain ⟨e, hu⟩ := ht
    simp [Builtin.len_, run_underlying hu, goInt]
  · cases hn; cases hx
    obtain ⟨e, hu⟩ := ht
    simp [Builtin.len_, run_underlying hu, goInt]
  · cases hn; cases hx
    obtain ⟨e, hu⟩ := ht
    simp [Builtin.len_, run_underlying hu, goInt]
  · cases hn; cases hx
    obtain ⟨a, b, hu⟩ := ht
    simp [Builtin.len_, run_underlying hu, goInt]
  · split at hn
    · rename_i es ck hA
      cases hn
      obtain ⟨cb, sh, top, hm, ces, hh, hlen, _⟩ := hs.blk _ _ hA
      cases hx with
      | map _ cb' hb h =>
        have := h _ _ _ hm
        subst this
        obtain ⟨a, b, hu⟩ := ht
        have hg : (getObj cb).run P w = .ok (.map ces ck) w := by simp only [getObj, Sem.run, hh]
        have h1 : (Builtin.len_ #[t] ty #[.map (some cb)]).run P w = ((getObj cb).run P w).andThen fun o w' => (match o with | .map entries _ => (pure (goInt entries.size) : Sem Value) | _ => stuck "len: map expected").run P w' := by
          simp only [Builtin.len_, List.getElem?_toArray, List.getElem?_cons_zero, Sem.run_bind, run_underlying hu, Result.andThen_ok]
          rfl
        rw [h1, hg, Result.andThen_ok, hlen.symm]
        rfl
    · cases hn
  · cases hn

/-! maps -/
theorem keyEq_sound {P : Program} {g : G} {d : TypeDesc} (hd : (∃ k, d = .int k) ∨ d = .string) {a b : AV} {A B : Value} (ha : Rel g a A) (hb : Rel g b B) {r : Bool} (h : keyEq a b = some r) (hty : (∃ k n, a = .int k n) ↔ ∃ k, d = .int k) :
    Instr.sameNow d A B = some r := by
  unfold keyEq at h
  split at h
  · split at h
    · rename_i hk
      cases h; cases hk; cases ha; cases hb
      obtain ⟨k, rfl⟩ := hty.1 ⟨_, _, rfl⟩
      simp only [Instr.sameNow, if_true]
      rfl
    · cases h
  · cases h
    obtain ⟨a, rfl, rfl⟩ := rel_str ha
    obtain ⟨b, rfl, rfl⟩ := rel_str hb
    rcases hd with ⟨k, rfl⟩ | rfl
    · obtain ⟨k, n, h⟩ := hty.2 ⟨k, rfl⟩
      cases h
    · simp only [Instr.sameNow]
      rw [bytes_eq]
  · cases h

/-- The key's kind and the map type's. -/
def keyDesc (str : Bool) (d : TypeDesc) : Prop := if str then d = .string else ∃ k, d = .int k

theorem findE_sound {P : Program} {g : G} {d : TypeDesc} {str : Bool} (hd : keyDesc str d) {k : AV} {K : Value} (hk : Rel g k K) (hf : keyOk str k = true) :
    ∀ (es : List (AV × AV × Nat)) (ces : List MapEntry) (i : Nat) (hl : ces.length = es.length)
      (hr : ∀ (j : Nat) (k' v : AV) (born : Nat) (e : MapEntry), es[j]? = some (k', v, born) → ces[j]? = some e → Rel g k' e.key ∧ Rel g v e.val ∧ e.born = born) {r : Option (Nat × AV)} (h : findE k es i = some r),
      ∃ R, Instr.findNow d K ces i = some R ∧ match r with
        | none => R = none
        | some (n, v) => ∃ V, R = some (n, V) ∧ Rel g v V ∧ i ≤ n ∧ ∃ k' born, es[n - i]? = some (k', v, born) ∧ keyEq k k' = some true
  | [], [], i, _, _, r, h => by
    simp only [findE, Option.some.injEq] at h
    subst h
    exact ⟨none, rfl, rfl⟩
  | [], e :: ces, i, hl, _, r, h => by simp at hl
  | x :: es, [], i, hl, _, r, h => by simp at hl
  | (k', v, born) :: es, e :: ces, i, hl, hr, r, h => by
    obtain ⟨h1, h2, h3⟩ := hr 0 k' v born e rfl rfl
    have hd' : (∃ k, d = .int k) ∨ d = .string := by cases str <;> simp only [keyDesc] at hd <;> simp_all
    have hty : (∃ kk n, k = AV.int kk n) ↔ ∃ kk, d = .int kk := by
      cases str <;> simp only [keyDesc, Bool.false_eq_true, if_false, if_true] at hd <;> cases k <;> simp [keyOk] at hf <;> simp_all
    simp only [findE] at h
    split at h
    · rename_i he
      cases h
      have hs := keyEq_sound (P := P) hd' hk h1 he hty
      refine ⟨some (i, e.val), by simp only [Instr.findNow, hs], e.val, rfl, h2, Nat.le_refl _, k', born, by simp, he⟩
    · rename_i he
      have hs := keyEq_sound (P := P) hd' hk h1 he hty
      obtain ⟨R, hR, hm⟩ := findE_sound (P := P) hd hk hf es ces (i + 1) (by simpa using hl) (fun j k'' v' b' e' hj he' => hr (j + 1) k'' v' b' e' (by simpa using hj) (by simpa using he')) h
      refine ⟨R, by simp only [Instr.findNow, hs, hR], ?_⟩
      cases r with
      | none => exact hm
      | some x =>
        obtain ⟨n, v'⟩ := x
        obtain ⟨V, q1, q2, q3, k'', b'', q4, q5⟩ := hm
        refine ⟨V, q1, q2, by omega, k'', b'', ?_, q5⟩
        have : n - i = n - (i + 1) + 1 := by omega
        rw [this, List.getElem?_cons_succ]
        exact q4
    · cases h

theorem checkKey_plain {P : Program} {w : World} {t : TypeId} {d : TypeDesc} (hu : P.underlying t = some d) {str : Bool} (hd : keyDesc str d) (b : Bool) (V : Value) : (Instr.checkKey b 10000 t V).run P w = .ok () w := by
  rw [show (10000 : Nat) = 9999 + 1 from rfl]
  generalize (9999 : Nat) = n
  cases str <;> simp only [keyDesc, Bool.false_eq_true, if_false, if_true] at hd
  · obtain ⟨k, rfl⟩ := hd; simp [Instr.checkKey, run_underlying hu]
  · subst hd; simp [Instr.checkKey, run_underlying hu]


theorem run_findKey {P : Program} {w : World} {t : TypeId} {d : TypeDesc} (hu : P.underlying t = some d) {K : Value} {ces : Array MapEntry} {R : Option (Nat × Value)} (h : Instr.findNow d K ces.toList 0 = some R) :
    (Instr.findKey t K ces.toList).run P w = .ok R w := by
  simp [Instr.findKey, run_underlying hu, h]

theorem run_getMap {P : Program} {w : World} {cb : Nat} {ces : Array MapEntry} {ck : Nat} (h : w.heap[cb]? = some (.map ces ck)) : (getObj cb).run P w = .ok (.map ces ck) w := by
  simp only [getObj, Sem.run, h]

theorem sound_lookup {P : Program} {g : G} {A : Heap} {w : World} (hs : Sim g A w) {t kt e : TypeId} {d : TypeDesc} {str ok : Bool} (hu : P.underlying t = some (.map kt e)) (hk : P.underlying kt = some d) (hd : keyDesc str d)
    {i : TypeInfo} (hi : P.info? e = some i) {Z : Value} (hZ : i.zero = some Z) {z : AV} (hz : Rel g z Z) {x k : AV} {X K : Value} (hx : Rel g x X) (hkr : Rel g k K) (hko : keyOk str k = true) {r : Option (Nat × AV)}
    (hf : mapFind A k x = some r) : ∃ V, (Instr.lookup t X K ok).run P w = .ok V w ∧ Rel g (lookRes z ok r) V := by
  have hzero : ∀ w, (zeroValue e).run P w = .ok Z w := fun w => by simp [zeroValue, typeInfo, hi, hZ]
  have mk : ∀ {a : AV} {A : Value} {b : Bool}, Rel g a A → Rel g (if ok then .tuple [a, .bool b] else a) (if ok then .tuple #[A, .bool b] else A) := by
    intro a A b h
    cases ok
    · exact h
    · exact (RelL.cons (vs := [.bool b]) h (RelL.cons (vs := []) (.bool b) .nil)).tuple
  unfold mapFind at hf
  split at hf
  · cases hf; cases hx
    refine ⟨_, ?_, mk hz⟩
    have hfn : (Instr.findKey kt K []).run P w = .ok none w := run_findKey (ces := #[]) hk rfl
    simp [Instr.lookup, run_underlying hu, checkKey_plain hk hd, hfn, hzero]
  · rename_i b
    split at hf
    · rename_i es ck hA
      obtain ⟨cb, sh, top, hm, ces, hh, hlen, hes⟩ := hs.blk _ _ hA
      cases hx with
      | map _ cb' hb h =>
        have := h _ _ _ hm
        subst this
        obtain ⟨R, hR, hrr⟩ := findE_sound (P := P) hd hkr hko es ces.toList 0 (by simpa using hlen) (fun j k' v' b' e' h1 h2 => hes j k' v' b' e' h1 (by simpa using h2)) hf
        have hfn := run_findKey (P := P) (w := w) hk hR
        have hg := run_getMap (P := P) hh
        cases r with
        | none =>
          simp only at hrr
          subst hrr
          refine ⟨_, ?_, mk hz⟩
          simp [Instr.lookup, run_underlying hu, hg, checkKey_plain hk hd, hfn, hzero]
        | some q =>
          obtain ⟨n, v'⟩ := q
          obtain ⟨V, rfl, hRv, _⟩ := hrr
          refine ⟨_, ?_, mk hRv⟩
          simp [Instr.lookup, run_underlying hu, hg, checkKey_plain hk hd, hfn, hzero]
    · cases hf
  · cases hf

end Go.NL
