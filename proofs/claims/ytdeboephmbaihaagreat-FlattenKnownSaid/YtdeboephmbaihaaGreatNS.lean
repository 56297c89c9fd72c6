/- THE N-LOGIC, part S: functions; what is seen may be forgotten, and what may change may be taken as never changing from now on. -/
import Derived.Test.YtdeboephmbaihaaGreatNR
set_option linter.unusedVariables false
set_option linter.unusedSimpArgs false
namespace Go.NL

/-- From blocks A and a value v to blocks A' and a value v', nothing being done. -/
def Wk (A : Heap) (v : AV) (A' : Heap) (v' : AV) : Prop := ∀ (g : G) (w : World) (V : Value), Sim g A w → Rel g v V → ∃ g', Ext g w g' w ∧ Sim g' A' w ∧ Rel g' v' V

theorem Wk.refl (A : Heap) (v : AV) : Wk A v A v := fun g w V hs hr => ⟨g, .refl hs, hs, hr⟩
theorem Wk.trans {A A' A'' : Heap} {v v' v'' : AV} (h : Wk A v A' v') (h' : Wk A' v' A'' v'') : Wk A v A'' v'' := fun g w V hs hr => by
  obtain ⟨g1, e1, s1, r1⟩ := h g w V hs hr
  obtain ⟨g2, e2, s2, r2⟩ := h' g1 w V s1 r1
  exact ⟨g2, e1.trans e2, s2, r2⟩
theorem Wk.sub {A A' : Heap} {v : AV} (h : ∀ b x, A' b = some x → A b = some x) : Wk A v A' v := fun g w V hs hr => ⟨g, .refl hs, hs.sub h, hr⟩

def AV.frz0 (b esz : Nat) (es : List AV) : AV → AV
  | .slice e b' off len cap => if b' = b ∧ e = esz ∧ off = 0 ∧ len = es.length then .islice esz es false else .slice e b' off len cap
  | v => v
def AV.frz1 (b esz : Nat) (es : List AV) : AV → AV
  | .agg cs => .agg (cs.map (AV.frz0 b esz es))
  | v => v.frz0 b esz es
def AV.frz (b esz : Nat) (es : List AV) : AV → AV
  | .tuple cs => .tuple (cs.map (AV.frz1 b esz es))
  | v => v.frz1 b esz es

def G.frz (g : G) (b cb sh : Nat) (cs : List AV) : G :=
  { g with mb := fun b' => if b' = b then none else g.mb b', im := fun c o v => g.im c o v ∨ (c = cb ∧ ∃ k, o = sh + k ∧ cs[k]? = some v) }

theorem freeze {g : G} {A : Heap} {w : World} (hs : Sim g A w) {b esz : Nat} {es : List AV} (hA : A b = some (.cells (es.flatMap AV.cells))) (hl : ∀ e ∈ es, e.cells.length = esz) :
    ∃ g', Ext g w g' w ∧ Sim g' (A.del b) w ∧ (∀ v V, Rel g v V → Rel g' (v.frz b esz es) V) := by
  obtain ⟨cb, sh, top, c, el, hm, hh, htop, hlen, hcs, hcell⟩ := blk_cells hs hA
  have e2 : ∀ c o v, g.im c o v → (g.frz b cb sh (es.flatMap AV.cells)).im c o v := fun _ _ _ h => .inl h
  have e3 : ∀ b' x, b' < g.n → (g.frz b cb sh (es.flatMap AV.cells)).mb b' = some x → g.mb b' = some x := by
    intro b' x _ h
    simp only [G.frz] at h
    split at h
    · cases h
    · exact h
  have e3' : ∀ b' x, (g.frz b cb sh (es.flatMap AV.cells)).mb b' = some x → b' ≠ b ∧ g.mb b' = some x := by
    intro b' x h
    simp only [G.frz] at h
    split at h
    · cases h
    · rename_i hb; exact ⟨hb, h⟩
  have ext : Ext g w (g.frz b cb sh (es.flatMap AV.cells)) w := ⟨Nat.le_refl _, e2, e3, (fun b' cb' s t hb h => by
    have := (e3' _ _ h).2
    rw [(hs.fresh b' hb).1] at this
    cases this), fun _ _ _ => rfl, fun _ _ => rfl, Nat.le_refl _, rfl, rfl, rfl⟩
  have up : ∀ {v V}, Rel g v V → Rel (g.frz b cb sh (es.flatMap AV.cells)) v V := fun h => h.of_ext ext
  have r0 : ∀ v V, Rel g v V → Rel (g.frz b cb sh (es.flatMap AV.cells)) (v.frz0 b esz es) V := by
    intro v V h
    unfold AV.frz0
    split
    · rename_i e b' off len cap
      split
      · rename_i hc
        obtain ⟨rfl, rfl, rfl, rfl⟩ := hc
        cases h with
        | slice _ _ _ _ _ a cc hb hlc hcap hsp hlive =>
          obtain ⟨ab, ao, as⟩ := a
          simp only at hsp
          subst hsp
          refine .islice _ _ _ ab ao cc hlc (by simp) fun i el hel => ⟨hl el (List.mem_of_getElem? hel), fun j u hu => ?_⟩
          have hi := (List.getElem?_eq_some_iff.1 hel).1
          obtain ⟨ha, _⟩ := hlive (by omega) _ _ _ hm
          cases ha
          refine .inr ⟨rfl, i * e + j, by omega, ?_⟩
          -- the cell of an element, among all cells
          have key : ∀ (l : List AV) (i : Nat) (el : AV) (j : Nat) (u : AV), (∀ x ∈ l, x.cells.length = e) → l[i]? = some el → el.cells[j]? = some u → (l.flatMap AV.cells)[i * e + j]? = some u := by
            intro l
            induction l with
            | nil => intro i el _ _ _ h; simp at h
            | cons x l ih =>
              intro i el j u hx h hu
              rw [List.flatMap_cons]
              have hx0 := hx x (by simp)
              cases i with
              | zero =>
                simp at h
                subst h
                have hj : j < x.cells.length := (List.getElem?_eq_some_iff.1 hu).1
                rw [Nat.zero_mul, Nat.zero_add, List.getElem?_append_left hj]
                exact hu
              | succ i =>
                simp at h
                rw [List.getElem?_append_right (by rw [hx0, Nat.add_mul]; omega), hx0]
                have := ih i el j u (fun y hy => hx y (by simp [hy])) h hu
                rw [← this]
                congr 1
                rw [Nat.add_mul]
                omega
          exact key es i el j u hl hel hu
      · exact up h
    · exact up h
  have r1 : ∀ v V, Rel g v V → Rel (g.frz b cb sh (es.flatMap AV.cells)) (v.frz1 b esz es) V := by
    intro v V h
    unfold AV.frz1
    split
    · rename_i cs
      obtain ⟨vs, rfl, hr, ho⟩ := rel_agg h
      refine RelL.agg ⟨by simp [hr.len], fun i x u hx hu => ?_⟩ fun x hx => ?_
      · rw [List.getElem?_map, Option.map_eq_some_iff] at hx
        obtain ⟨y, hy, rfl⟩ := hx
        exact r0 _ _ (hr.rel i y u hy hu)
      · rw [List.mem_map] at hx
        obtain ⟨y, hy, rfl⟩ := hx
        have := ho y hy
        cases y <;> simp only [AV.frz0] <;> (try exact this)
        split <;> rfl
    · exact r0 _ _ h
  refine ⟨g.frz b cb sh (es.flatMap AV.cells), ext, ⟨?_, ?_, ?_, ?_, ?_, ?_⟩, fun v V h => ?_⟩
  · intro b' hb'
    have := hs.fresh b' hb'
    simp [G.frz, Heap.del, this]
  · intro b' x hx
    simp only [Heap.del] at hx
    split at hx
    · cases hx
    · rename_i hb
      obtain ⟨cb', s, t, h1, h2⟩ := hs.blk b' x hx
      exact ⟨cb', s, t, by simp [G.frz, hb, h1], h2.ext (Nat.le_refl _) e2 e3 rfl⟩
  · intro b1 b2 cb' s t s' t' h1 h2
    exact hs.inj _ _ _ _ _ _ _ (e3' _ _ h1).2 (e3' _ _ h2).2
  · intro b' cb' s t o v h hv
    obtain ⟨hb, h1⟩ := e3' _ _ h
    rcases hv with hv | ⟨hcb, k, _, _⟩
    · exact hs.own _ _ _ _ _ _ h1 hv
    · rw [hcb] at h1
      exact absurd (hs.inj _ _ _ _ _ _ _ h1 hm) hb
  · intro b' cb' s t h
    exact hs.lt _ _ _ _ (e3' _ _ h).2
  · intro cb' o v hv
    rcases hv with hv | ⟨rfl, k, rfl, hk⟩
    · obtain ⟨V, h1, h2, h3⟩ := hs.imm _ _ _ hv
      exact ⟨V, h1, up h2, h3⟩
    · obtain ⟨h1, V, h2, h3⟩ := hcell k v hk
      exact ⟨V, h2, up h3, h1⟩
  · unfold AV.frz
    split
    · rename_i cs
      obtain ⟨vs, rfl, hr⟩ := rel_tuple h
      refine RelL.tuple ⟨by simp [hr.len], fun i x u hx hu => ?_⟩
      rw [List.getElem?_map, Option.map_eq_some_iff] at hx
      obtain ⟨y, hy, rfl⟩ := hx
      exact r1 _ _ (hr.rel i y u hy hu)
    · exact r1 _ _ h

/-- What may change is taken as never changing from now on. -/
theorem Wk.frz {A : Heap} {v : AV} {b : Nat} (esz : Nat) (es : List AV) (hA : A b = some (.cells (es.flatMap AV.cells))) (hl : ∀ e ∈ es, e.cells.length = esz) : Wk A v (A.del b) (v.frz b esz es) := fun g w V hs hr => by
  obtain ⟨g', h1, h2, h3⟩ := freeze hs hA hl
  exact ⟨g', h1, h2, h3 _ _ hr⟩

/-! functions -/
def resOne (f : Fr) (A : Heap) : NRes → Option AV
  | .slot t => some (f t)
  | .cell t agg => loadAV A agg (f t)

def resAV (f : Fr) (A : Heap) (rs : List NRes) : Option AV :=
  match rs.mapM (resOne f A) with
  | some [v] => some v
  | some vs => some (.tuple vs)
  | none => none

/-- What must hold where a function returns. -/
def retP (rs : List NRes) (K : AV → Heap → Prop) : Post
  | .normal, f, A | .ret, f, A => ∃ v, resAV f A rs = some v ∧ ∃ A' v', Wk A v A' v' ∧ K v' A'
  | _, _, _ => False

def fr0 (args : List AV) : Fr := fun t => args.getD t .undef

def resSem (tmps : Array Value) : ResultVar → Sem Value
  | .tmp t => pure (tmps.getD t undef)
  | .cell x t => do loadVar t (← asAddr (tmps.getD x undef))

theorem results_eq (fn : Func) (tmps : Array Value) : results fn tmps = (do
    let vs ← fn.results.mapM (resSem tmps)
    pure (if h : vs.size = 1 then vs[0] else .tuple vs)) := rfl

theorem sound_results {P : Program} {g : G} {A : Heap} {w : World} (hs : Sim g A w) {m : Nat} {f : Fr} {a : Act} (hf : RelF g m f a) : ∀ {rs : List ResultVar} {ns : List NRes} (hn : rs.mapM (compRes P) = some ns) {vs : List AV} (hv : ns.mapM (resOne f A) = some vs),
    ∃ Vs, (rs.mapM (resSem a.tmps)).run P w = .ok Vs w ∧ RelL g vs Vs.toArray
  | [], ns, hn, vs, hv => by
    simp at hn
    subst hn
    simp at hv
    subst hv
    exact ⟨[], rfl, .nil⟩
  | r :: rs, ns, hn, vs, hv => by
    simp only [List.mapM_cons, Option.bind_eq_bind, Option.bind_eq_some_iff, Option.pure_def, Option.some.injEq] at hn
    obtain ⟨n, h1, ns', h2, rfl⟩ := hn
    simp only [List.mapM_cons, Option.bind_eq_bind, Option.bind_eq_some_iff, Option.pure_def, Option.some.injEq] at hv
    obtain ⟨v, h3, vs', h4, rfl⟩ := hv
    obtain ⟨Vs, q1, q2⟩ := sound_results hs hf h2 h4
    have one : ∃ V, (resSem a.tmps r).run P w = .ok V w ∧ Rel g v V := by
      cases r with
      | tmp t =>
        simp only [compRes, Option.some.injEq] at h1
        subst h1
        simp only [resOne, Option.some.injEq] at h3
        subst h3
        exact ⟨_, rfl, hf.rel t⟩
      | cell x t =>
        simp only [compRes, Option.map_eq_some_iff] at h1
        obtain ⟨agg, hag, rfl⟩ := h1
        simp only [resOne] at h3
        obtain ⟨V, r1, r2⟩ := sound_load (P := P) hs hag (hf.rel x) h3
        refine ⟨V, ?_, r2⟩
        have hp : ∃ ad, a.tmps.getD x undef = .pointer (some ad) := by
          have := hf.rel x
          unfold loadAV at h3
          split at h3
          · rename_i hb; rw [hb] at this; generalize hX : a.tmps.getD x undef = X at this; cases this; exact ⟨_, rfl⟩
          · rename_i hb; rw [hb] at this; generalize hX : a.tmps.getD x undef = X at this; cases this; exact ⟨_, rfl⟩
          · cases h3
        obtain ⟨ad, hp⟩ := hp
        show (do let ad ← asAddr (a.tmps.getD x undef); loadVar t ad : Sem Value).run P w = _
        rw [hp] at r1 ⊢
        simpa [Instr.loadAt, Instr.sureAddr, asAddr] using r1
    obtain ⟨V, r1, r2⟩ := one
    refine ⟨V :: Vs, ?_, .cons r2 q2⟩
    rw [List.mapM_cons, Sem.run_bind, r1, Result.andThen_ok, Sem.run_bind, q1]
    rfl

theorem NCalls.of_body {P : Program} {f : FuncId} {nf : NFn} (hc : compFn P f = some nf) {args : List AV} (hl : args.length ≤ nf.slots) {A : Heap} {K : AV → Heap → Prop} (h : nwp P nf.body (retP nf.results K) (fr0 args) A) : NCalls P f args A K := by
  unfold compFn at hc
  split at hc
  · cases hc
  · rename_i fn hfn
    split at hc
    · cases hc
    · rename_i c hbody
      split at hc
      · rename_i rs b hrs hb
        split at hc
        · rename_i hent
          cases hc
          refine ⟨hent, fun g w cargs hs hr => ?_⟩
          refine calls_of_wp hfn hbody (wp_mono (nwp_sound (m := fn.ntmps) c b hb _ hs ?_ h) ?_)
          · refine ⟨by have := hr.len; simp at hl; simp; omega, rfl, fun t => ?_⟩
            simp only [Array.getD_eq_getD_getElem?, fr0, List.getD_eq_getElem?_getD]
            by_cases ht : t < args.length
            · have ht' : t < cargs.size := hr.len ▸ ht
              rw [Array.getElem?_append_left ht', List.getElem?_eq_getElem ht, Array.getElem?_eq_getElem ht']
              exact hr.get t ht ht'
            · have ht' : cargs.size ≤ t := by have := hr.len; omega
              rw [Array.getElem?_append_right ht', List.getElem?_eq_none (by omega), Array.getElem?_replicate]
              split <;> exact rel_undef
          · intro e a' w' he
            have fin : (∃ g' f' A', Sim g' A' w' ∧ RelF g' fn.ntmps f' a' ∧ Ext g w g' w' ∧ ∃ v, resAV f' A' rs = some v ∧ ∃ A'' v', Wk A' v A'' v' ∧ K v' A'') →
                a'.defers = [] ∧ ∃ v, (results fn a'.tmps).run P w' = .ok v w' ∧ ∃ v_1 V A'_1 g'_1, Ending.returned v = .returned V ∧ Rel g'_1 v_1 V ∧ Sim g'_1 A'_1 w' ∧ Ext g w g'_1 w' ∧ K v_1 A'_1 := by
              rintro ⟨g', f', A', r1, r2, r3, v, r4, A'', v', r5, r6⟩
              refine ⟨r2.defers, ?_⟩
              unfold resAV at r4
              cases hq : rs.mapM (resOne f' A') with
              | none => rw [hq] at r4; simp at r4
              | some vs =>
                rw [hq] at r4
                obtain ⟨Vs, s1, s2⟩ := sound_results (P := P) r1 r2 hrs hq
                have hres : ∀ V, (if h : Vs.toArray.size = 1 then Vs.toArray[0] else .tuple Vs.toArray) = V → (results fn a'.tmps).run P w' = .ok V w' := by
                  intro V hV
                  rw [results_eq, Array.mapM_eq_mapM_toList, Sem.run_bind, Sem.run_map]
                  rw [s1]
                  simp only [Result.andThen_ok, Sem.run_pure]
                  rw [← hV]
                have hrel : ∃ V, (if h : Vs.toArray.size = 1 then Vs.toArray[0] else .tuple Vs.toArray) = V ∧ Rel g' v V := by
                  refine ⟨_, rfl, ?_⟩
                  have hlen := s2.len
                  split at r4
                  · rename_i v1 hv1
                    cases hv1
                    cases r4
                    have h1 : Vs.toArray.size = 1 := by rw [← hlen]; rfl
                    rw [dif_pos h1]
                    exact s2.get 0 (by simp) (by omega)
                  · rename_i vs' hne hv1
                    cases hv1
                    cases r4
                    have h1 : ¬ Vs.toArray.size = 1 := by
                      intro h1
                      rw [h1] at hlen
                      obtain ⟨x, hx⟩ := List.length_eq_one_iff.1 hlen
                      exact hne x (by rw [hx])
                    rw [dif_neg h1]
                    exact s2.tuple
                  · cases r4
                obtain ⟨V, hV, hR⟩ := hrel
                obtain ⟨g2, t1, t2, t3⟩ := r5 g' w' V r1 hR
                exact ⟨V, hres V hV, v', V, A'', g2, rfl, t3, t2, r3.trans t1, r6⟩
            cases e with
            | normal => exact fin he
            | ret => exact fin he
            | exit id => obtain ⟨_, _, _, _, _, _, h⟩ := he; exact h.elim
            | goto l => exact he.elim
            | panic c => exact he.elim
            | outgrown => exact he.elim
        · cases hc
      · cases hc

end Go.NL
