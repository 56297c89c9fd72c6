/- THE N-LOGIC, part K: calls, and operations that change memory. -/
import Derived.Test.YtdeboephmbaihaaGreatNJ
set_option linter.unusedVariables false
set_option linter.unusedSimpArgs false
namespace Go.NL

/-- The function has a text that is entered by a call. -/
def enters (P : Program) (f : FuncId) : Bool :=
  match P.funcs[f]? with
  | some fn => fn.body.isSome && !(fn.name == "runtime.NumGoroutine")
  | none => false

/-- A call, as the N-logic sees it: K holds of what it tells and of the blocks behind it. -/
def NCalls (P : Program) (f : FuncId) (args : List AV) (A : Heap) (K : AV → Heap → Prop) : Prop :=
  enters P f = true ∧ ∀ (g : G) (w : World) (cargs : Array Value), Sim g A w → RelL g args cargs →
    Calls P f cargs w fun e w' => ∃ v V A' g', e = .returned V ∧ Rel g' v V ∧ Sim g' A' w' ∧ Ext g w g' w' ∧ K v A'

theorem NCalls.mono {P : Program} {f : FuncId} {args : List AV} {A : Heap} {K K' : AV → Heap → Prop} (h : NCalls P f args A K) (hk : ∀ v A', K v A' → K' v A') : NCalls P f args A K' :=
  ⟨h.1, fun g w cargs hs hr => (h.2 g w cargs hs hr).mono fun e w' ⟨v, V, A', g', h1, h2, h3, h4, h5⟩ => ⟨v, V, A', g', h1, h2, h3, h4, hk _ _ h5⟩⟩

/-- A call that leaves all blocks alone, and tells v. -/
def NPure (P : Program) (f : FuncId) (args : List AV) (v : AV) : Prop := ∀ A, NCalls P f args A fun v' A' => v' = v ∧ A' = A

/-- m[k] = v -/
def mapUpd (A : Heap) (K : Heap → Prop) (k v : AV) : AV → Prop
  | .map b => match A b with
    | some (.map es ck) => match findE k es 0 with
      | some (some (i, _)) => K (A.set b (.map (es.modify i fun e => (k, v, e.2.2)) ck))
      | some none => K (A.set b (.map (es ++ [(k, v, ck)]) (ck + 1)))
      | none => False
    | _ => False
  | _ => False

/-- What must hold ahead of an operation, for K to hold behind it. -/
def cop (P : Program) (σ : Opd → AV) (A : Heap) (K : AV → Heap → Prop) : NOp → Prop
  | .zero cs => ∀ b, A b = none → K (.ptr b 0) (A.set b (.cells cs))
  | .box x => (σ x).cells.all AV.one = true ∧ ∀ b, A b = none → K (.ptr b 0) (A.set b (.cells (σ x).cells))
  | .buildSlice esz len z ps => match fillAV z (ps.map fun (o, n, x) => (o, n, σ x)) with
    | some cs => ∀ b, A b = none → K (.slice esz b 0 len (.eq len)) (A.set b (.cells cs))
    | none => False
  | .store size x v => (σ v).cells.length = size ∧ (σ v).cells.all AV.one = true ∧ match σ x with
    | .ptr b off => match A b with
      | some (.cells cs) => off + size ≤ cs.length ∧ K .undef (A.set b (.cells (over cs off (σ v).cells)))
      | _ => False
    | _ => False
  | .mapUpdate str m k v => keyOk str (σ k) = true ∧ mapUpd A (K .undef) (σ k) (σ v) (σ m)
  | .makeMap => ∀ b, A b = none → K (.map b) (A.set b (.map [] 0))
  | .makeSlice esz bytes z l c => match σ l, σ c with
    | .int .i64 l, .int .i64 c => 0 ≤ l ∧ l ≤ c ∧ c * bytes ≤ 140737488355328 ∧ c ≤ 4611686018427387904 ∧
      ∀ b, A b = none → K (.slice esz b 0 l.toNat (.eq c.toNat)) (A.set b (.cells (List.replicate c.toNat z).flatten))
    | _, _ => False
  | .append str esz bytes s x => appendN A K str esz bytes (σ s) (σ x)
  | .call f args => match σ f with
    | .func f first caps => NCalls P f (first ++ args.map σ ++ caps) A K
    | _ => False
  | nop => match qop A σ nop with
    | some v => K v A
    | none => False

theorem one_all {l : List AV} (h : l.all AV.one = true) : ∀ c ∈ l, c.one = true := by simpa [List.all_eq_true] using h

/-- What an operation comes to, in the world. -/
def Did (P : Program) (g : G) (w : World) (o : Oper) (a : Act) (K : AV → Heap → Prop) : Prop :=
  ∃ V w' g' v A', ((execOp a.eval o).run P w = .ok (.value V) w' ∨ ((execOp a.eval o).run P w = .ok .skip w' ∧ V = undef)) ∧ Rel g' v V ∧ Sim g' A' w' ∧ Ext g w g' w' ∧ K v A'

theorem run_storeVar_cells {P : Program} {g : G} {A : Heap} {w : World} (hs : Sim g A w) {t : TypeId} {i : TypeInfo} (hi : P.info? t = some i) {b off : Nat} {cs : List AV} (hA : A b = some (.cells cs)) {v : AV} {V : Value} (hv : Rel g v V)
    (hl : v.cells.length = i.size) (hone : v.cells.all AV.one = true) (hle : off + i.size ≤ cs.length) {X : Value} (hX : Rel g (.ptr b off) X) :
    ∃ w', (Instr.storeAt t X V).run P w = .ok () w' ∧ Sim g (A.set b (.cells (over cs off v.cells))) w' ∧ Ext g w g w' := by
  obtain ⟨cb, sh, top, c, el, hm, hh, htop, hlen, hcs, hcell⟩ := blk_cells hs hA
  cases hX with
  | ptr _ _ a hb ha =>
    have := ha _ _ _ hm
    subst this
    have hr := rel_cells hv
    have hVs : V.cells.size = i.size := by rw [← hr.len, hl]
    have hst := run_storeCells_at P cb (sh + off) el V.cells.toList 0 c w hh (by simp [hVs]; omega) (by
      intro u hu
      obtain ⟨j, hj, hju⟩ := List.getElem_of_mem hu
      have hj' : j < v.cells.length := by have := hr.len; simp at hj; omega
      have hrel := hr.get j hj' (by simpa using hj)
      have h1 := one_all hone _ (List.getElem_mem hj')
      have : V.cells[j]'(by simpa using hj) = u := by simpa using hju
      rw [← this]
      exact rel_one hrel h1)
    simp only [Nat.add_zero] at hst
    have hlist : V.cells.toList.length = i.size := by simpa using hVs
    refine ⟨w.setRow cb (c.toList.take (sh + off) ++ V.cells.toList ++ c.toList.drop (sh + off + V.cells.toList.length)).toArray, ?_, ?_⟩
    · simp only [Instr.storeAt, Instr.sureAddr, Sem.run_bind, Sem.run_pure, Result.andThen_ok, storeVar, sizeOf, typeInfo, run_program, hi]
      simp only [hVs, ne_eq, not_true_eq_false, if_false]
      exact hst
    · have hup : Upd w (w.setRow cb (c.toList.take (sh + off) ++ V.cells.toList ++ c.toList.drop (sh + off + V.cells.toList.length)).toArray) cb
          (.cells (c.toList.take (sh + off) ++ V.cells.toList ++ c.toList.drop (sh + off + V.cells.toList.length)).toArray el (0, 0)) :=
        ⟨fun k hk => setRow_other w cb k _ hk, setRow_heap w cb c _ el _ hh, by simp, rfl, rfl, rfl⟩
      have hget : ∀ j, (c.toList.take (sh + off) ++ V.cells.toList ++ c.toList.drop (sh + off + V.cells.toList.length)).toArray[j]? = if sh + off ≤ j ∧ j < sh + off + i.size then V.cells[j - (sh + off)]? else c[j]? := by
        intro j
        rw [List.getElem?_toArray, List.append_assoc]
        have hlt : (c.toList.take (sh + off)).length = sh + off := by simp; omega
        by_cases h1 : j < sh + off
        · rw [List.getElem?_append_left (by omega), List.getElem?_take, if_pos h1, if_neg (by omega)]
          simp
        · rw [List.getElem?_append_right (by omega), hlt]
          by_cases h2 : j - (sh + off) < i.size
          · rw [List.getElem?_append_left (by omega), if_pos (by omega)]
            simp
          · rw [List.getElem?_append_right (by omega), List.getElem?_drop, if_neg (by omega), hlist]
            simp
            congr 1
            omega
      refine hs.upd hm hh hup (fun j hj => by rw [hget j, if_neg (by omega)]) (by simp [hVs]; omega) (by rw [over_length _ _ _ (by omega)]; omega) (fun j u hu => ?_)
      rw [over_get _ _ _ (by omega)] at hu
      rw [hget (sh + j)]
      split at hu
      · rename_i hj
        rw [if_pos (by omega)]
        obtain ⟨U, q1, q2⟩ := hr.get? hu
        refine ⟨one_all hone u (List.mem_of_getElem? hu), U, ?_, q2⟩
        rw [show sh + j - (sh + off) = j - off by omega]
        exact q1
      · rename_i hj
        rw [if_neg (by omega)]
        exact hcs j u hu

theorem alloc_var {g : G} {A : Heap} {w : World} (hs : Sim g A w) {cs : List AV} {vs : Array Value} (e : TypeId) (hr : RelL g cs vs) (hone : ∀ c ∈ cs, c.one = true) :
    Sim (g.more w.heap.size vs.size) (A.set g.n (.cells cs)) (w.alloc (.cells vs e)) ∧ Ext g w (g.more w.heap.size vs.size) (w.alloc (.cells vs e)) := by
  have := alloc_row (rest := #[]) (e := e) hs hr hone
  simpa using this

theorem alloc_ptr_rel {g : G} {w : World} {top : Nat} : Rel (g.more w.heap.size top) (.ptr g.n 0) (.pointer (some ⟨w.heap.size, 0, none⟩)) := by
  refine .ptr _ _ _ (Nat.lt_succ_self _) fun cb sh top' hm => ?_
  simp only [G.more, if_true, Option.some.injEq, Prod.mk.injEq] at hm
  obtain ⟨rfl, rfl, rfl⟩ := hm
  rfl

theorem sound_mapUpdate {P : Program} {g : G} {A : Heap} {w : World} (hs : Sim g A w) {t kt e : TypeId} {d : TypeDesc} {str : Bool} (hu : P.underlying t = some (.map kt e)) (hk : P.underlying kt = some d) (hd : keyDesc str d)
    {m k v : AV} {M Kv V : Value} (hm : Rel g m M) (hkr : Rel g k Kv) (hvr : Rel g v V) (hko : keyOk str k = true) {K : Heap → Prop}
    (h : mapUpd A K k v m) : ∃ w' A', (Instr.mapUpdate t M Kv V).run P w = .ok () w' ∧ Sim g A' w' ∧ Ext g w g w' ∧ K A' := by
  unfold mapUpd at h
  cases m <;> simp only at h
  rename_i b
  cases hA : A b with
  | none => rw [hA] at h; exact h.elim
  | some x =>
    rw [hA] at h
    cases x with
    | cells cs => exact h.elim
    | map es ck =>
      simp only at h
      obtain ⟨cb, sh, top, hmb, ces, hh, hlen, hes⟩ := hs.blk _ _ hA
      cases hm with
      | map _ cb' hb hcb =>
        have := hcb _ _ _ hmb
        subst this
        have hg := run_getMap (P := P) hh
        have hck := fun b => checkKey_plain (P := P) (w := w) hk hd b Kv
        cases hf : findE k es 0 with
        | none => rw [hf] at h; exact h.elim
        | some r =>
          rw [hf] at h
          obtain ⟨R, hR, hrr⟩ := findE_sound (P := P) hd hkr hko es ces.toList 0 (by simpa using hlen) (fun j k' v' b' e' h1 h2 => hes j k' v' b' e' h1 (by simpa using h2)) hf
          have hfn := run_findKey (P := P) (w := w) hk hR
          have hset : ∀ (ces' : Array MapEntry) (ck' : Nat), (setObj cb (.map ces' ck')).run P w = .ok () { w with heap := w.heap.setIfInBounds cb (.map ces' ck') } := by
            intro ces' ck'
            simp only [setObj, Sem.run, hh]
          have hupd : ∀ (ces' : Array MapEntry) (ck' : Nat), Upd w { w with heap := w.heap.setIfInBounds cb (.map ces' ck') } cb (.map ces' ck') := by
            intro ces' ck'
            have hlt := (Array.getElem?_eq_some_iff.1 hh).1
            exact ⟨fun k hk => by simp [Array.getElem?_setIfInBounds_ne (Ne.symm hk)], by simp [Array.getElem?_setIfInBounds_self_of_lt hlt], by simp, rfl, rfl, rfl⟩
          cases r with
          | none =>
            simp only at hrr h
            subst hrr
            obtain ⟨q1, q2⟩ := hs.updMap (es' := es ++ [(k, v, ck)]) hmb hh (hupd (ces.push { key := Kv, val := V, born := ck }) (ck + 1)) (by simp [hlen]) (fun j k' v' born e' h1 h2 => by
              rcases Nat.lt_or_ge j es.length with hj | hj
              · rw [List.getElem?_append_left hj] at h1
                rw [Array.getElem?_push_lt (by omega)] at h2
                exact hes j k' v' born e' h1 (by rw [← h2]; exact Array.getElem?_eq_getElem (by omega))
              · rw [List.getElem?_append_right hj] at h1
                have hj0 : j = es.length := by
                  have := (List.getElem?_eq_some_iff.1 h1).1
                  simp at this
                  omega
                subst hj0
                simp only [Nat.sub_self, List.getElem?_cons_zero, Option.some.injEq, Prod.mk.injEq] at h1
                obtain ⟨rfl, rfl, rfl⟩ := h1
                rw [← hlen, Array.getElem?_push_size] at h2
                cases h2
                exact ⟨hkr, hvr, rfl⟩)
            refine ⟨_, _, ?_, q1, q2, h⟩
            simp [Instr.mapUpdate, run_underlying hu, hg, hck, hfn, hset]
          | some q =>
            obtain ⟨n, v0⟩ := q
            obtain ⟨V0, rfl, hRv, _, k', born0, hn, hkeq⟩ := hrr
            simp only [Nat.sub_zero] at hn
            have hnl : n < ces.size := by rw [hlen]; exact (List.getElem?_eq_some_iff.1 hn).1
            obtain ⟨hk'r, hv0, hborn⟩ := hes n k' v0 born0 ces[n] hn (Array.getElem?_eq_getElem hnl)
            have hsame : Instr.sameBits 10000 ces[n].key Kv = true := by
              unfold keyEq at hkeq
              split at hkeq
              · split at hkeq
                · rename_i hkk
                  simp only [Option.some.injEq, decide_eq_true_eq] at hkeq
                  subst hkk; subst hkeq
                  rw [rel_int hk'r, rel_int hkr]
                  simp [Instr.sameBits]
                · cases hkeq
              · simp only [Option.some.injEq, decide_eq_true_eq] at hkeq
                subst hkeq
                obtain ⟨x, hx, hxl⟩ := rel_str hk'r
                obtain ⟨y, hy, hyl⟩ := rel_str hkr
                rw [hx, hy]
                simp only [Instr.sameBits]
                rw [bytes_eq, hxl, hyl]
                simp
              · cases hkeq
            obtain ⟨q1, q2⟩ := hs.updMap (es' := es.modify n fun e => (k, v, e.2.2)) hmb hh (hupd (ces.modify n fun e => { e with key := Kv, val := V }) ck) (by simp [hlen]) (fun j k'' v'' born e' h1 h2 => by
              rw [List.getElem?_modify] at h1
              rw [Array.getElem?_modify] at h2
              by_cases hj : n = j
              · subst hj
                rw [hn] at h1
                rw [if_pos rfl, Array.getElem?_eq_getElem hnl] at h2
                simp only [Option.map_some, if_true, Option.some.injEq, Prod.mk.injEq] at h1 h2
                obtain ⟨rfl, rfl, rfl⟩ := h1
                subst h2
                exact ⟨hkr, hvr, hborn⟩
              · rw [if_neg hj] at h2
                have h1' : es[j]? = some (k'', v'', born) := by
                  cases hej : es[j]? with
                  | none => rw [hej] at h1; simp at h1
                  | some x => rw [hej] at h1; simpa [hj] using h1
                exact hes j k'' v'' born e' h1' (by simpa using h2))
            refine ⟨_, _, ?_, q1, q2, h⟩
            simp [Instr.mapUpdate, run_underlying hu, hg, hck, hfn, hset, Instr.keyThatStays, hnl, hsame]

end Go.NL
