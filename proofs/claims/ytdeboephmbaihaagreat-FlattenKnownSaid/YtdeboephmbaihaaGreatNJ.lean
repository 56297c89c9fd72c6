/- THE N-LOGIC, part J: append, to its end. -/
import Derived.Test.YtdeboephmbaihaaGreatNI
set_option linter.unusedVariables false
set_option linter.unusedSimpArgs false
namespace Go.NL

/-- The largest number of bytes that an append may ask for here. -/
def roomOk (n bytes : Nat) : Prop := n * bytes ≤ 140737488355328 ∧ n ≤ 4611686018427387904

/-- append(s, x..): K is what must hold of the value and the blocks behind it. -/
def appendN (A : Heap) (K : AV → Heap → Prop) (str : Bool) (esz bytes : Nat) (s x : AV) : Prop :=
  match srcAV A str esz x with
  | none => False
  | some (n, news) =>
    match s with
    | .nilslice => if n = 0 then K .nilslice A else roomOk n bytes ∧ ∀ b, A b = none → K (.slice esz b 0 n (.ge n)) (A.set b (.cells news))
    | .islice e es ex => e = esz ∧ ex = true ∧ if n = 0 then K (.islice e es ex) A else roomOk (es.length + n) bytes ∧ ∀ b, A b = none → K (.slice esz b 0 (es.length + n) (.ge (es.length + n))) (A.set b (.cells (es.flatMap AV.cells ++ news)))
    | .slice e b off len cap => e = esz ∧ match A b with
      | some (.cells cs) => off + len * esz ≤ cs.length ∧
        if n = 0 then K (.slice e b off len cap) A
        else if len + n ≤ cap.low ∧ off + (len + n) * esz ≤ cs.length then K (.slice esz b off (len + n) cap) (A.set b (.cells (over cs (off + len * esz) news)))
        else roomOk (len + n) bytes ∧ match cap with
          | .eq c => c < len + n ∧ ∀ b', A b' = none → K (.slice esz b' 0 (len + n) (.ge (len + n))) (A.set b' (.cells ((cs.drop off).take (len * esz) ++ news)))
          | .ge _ => ∀ b', A b' = none → K (.slice esz b' 0 (len + n) (.ge (len + n))) ((A.del b).set b' (.cells ((cs.drop off).take (len * esz) ++ news)))
      | _ => False
    | _ => False

theorem setCells_upd (b : Nat) : ∀ (vs : List Value) (o : Nat) (w : World) (c : Array Value) (e : TypeId), w.heap[b]? = some (.cells c e (0, 0)) → o + vs.length ≤ c.size →
    ∃ c', Upd w (w.setCells b o vs) b (.cells c' e (0, 0)) ∧ c'.size = c.size ∧ ∀ i, c'[i]? = if o ≤ i ∧ i < o + vs.length then vs[i - o]? else c[i]?
  | [], o, w, c, e, h, hl => ⟨c, ⟨fun _ _ => rfl, h, rfl, rfl, rfl, rfl⟩, rfl, fun i => by simp; omega⟩
  | v :: vs, o, w, c, e, h, hl => by
    simp only [List.length_cons] at hl
    have hsc : w.setCell ⟨b, o, none⟩ v = w.setRow b (c.setIfInBounds o v) := setCell_eq_setRow w b o c e (0, 0) v h
    have hh : (w.setCell ⟨b, o, none⟩ v).heap[b]? = some (.cells (c.setIfInBounds o v) e (0, 0)) := by rw [hsc]; exact setRow_heap w b c _ e _ h
    obtain ⟨c', hu, hsz, hget⟩ := setCells_upd b vs (o + 1) (w.setCell ⟨b, o, none⟩ v) (c.setIfInBounds o v) e hh (by simp; omega)
    refine ⟨c', ⟨fun k hk => ?_, hu.here, ?_, ?_, ?_, ?_⟩, by rw [hsz]; simp, fun i => ?_⟩
    · rw [World.setCells, hu.other k hk, hsc, setRow_other w b k _ hk]
    · rw [World.setCells, hu.size, hsc]; simp
    · rw [World.setCells, hu.os, hsc]; simp
    · rw [World.setCells, hu.tape, hsc]; simp
    · rw [World.setCells, hu.output, hsc]; simp
    · rw [hget i]
      simp only [List.length_cons]
      by_cases h1 : o + 1 ≤ i ∧ i < o + 1 + vs.length
      · rw [if_pos h1, if_pos (by omega)]
        rw [show i - o = i - (o + 1) + 1 by omega, List.getElem?_cons_succ]
      · rw [if_neg h1]
        by_cases h2 : i = o
        · subst h2
          rw [if_pos (by omega), Nat.sub_self, List.getElem?_cons_zero, Array.getElem?_setIfInBounds_self_of_lt (by omega)]
        · rw [if_neg (by omega), Array.getElem?_setIfInBounds_ne (by omega)]

/-- A new row whose first cells are known. -/
theorem alloc_row {g : G} {A : Heap} {w : World} (hs : Sim g A w) {cs : List AV} {vs rest : Array Value} {e : TypeId} (hr : RelL g cs vs) (hone : ∀ c ∈ cs, c.one = true) :
    Sim (g.more w.heap.size (vs ++ rest).size) (A.set g.n (.cells cs)) (w.alloc (.cells (vs ++ rest) e)) ∧ Ext g w (g.more w.heap.size (vs ++ rest).size) (w.alloc (.cells (vs ++ rest) e)) := by
  obtain ⟨e1, e2, e3⟩ := G.more_ext (g := g) w.heap.size (vs ++ rest).size
  refine hs.alloc (fun i => by simp) ⟨vs ++ rest, e, heap_new w _, rfl, by have := hr.len; simp; omega, fun i v hv => ?_⟩
  obtain ⟨V, h1, h2⟩ := hr.get? hv
  refine ⟨hone v (List.mem_of_getElem? hv), V, ?_, h2.ext e1 e2 e3⟩
  rw [Nat.zero_add, Array.getElem?_append_left (Array.getElem?_eq_some_iff.1 h1).1]
  exact h1

theorem alloc_slice_rel {g : G} {w : World} {esz n c top : Nat} (hn : n ≤ c) (htop : c * esz ≤ top) {cap : Cap} (hcap : match cap with | .ge k => k ≤ c | .eq k => c = k) :
    Rel (g.more w.heap.size top) (.slice esz g.n 0 n cap) (.slice (some ⟨w.heap.size, 0, none⟩) n c) := by
  refine .slice _ _ _ _ _ _ _ (Nat.lt_succ_self _) hn hcap rfl fun _ cb sh top' hm => ?_
  simp only [G.more, if_true, Option.some.injEq, Prod.mk.injEq] at hm
  obtain ⟨rfl, rfl, rfl⟩ := hm
  exact ⟨rfl, by omega⟩

/-- A block gets a new name; what stood ahead of a place is given up. -/
def G.ren (g : G) (b cb sh top : Nat) : G := { g with n := g.n + 1, mb := fun b' => if b' = b then none else if b' = g.n then some (cb, sh, top) else g.mb b' }

theorem Sim.rename {g : G} {A : Heap} {w w' : World} (hs : Sim g A w) {b cb sh sh' top : Nat} {c c' : Array Value} {e : TypeId} {cs' : List AV} (hb : g.mb b = some (cb, sh, top))
    (hc : w.heap[cb]? = some (.cells c e (0, 0))) (hu : Upd w w' cb (.cells c' e (0, 0))) (hsh : sh ≤ sh') (hlow : ∀ i, i < sh' → c'[i]? = c[i]?) (htop : c'.size = top) (hlen : sh' + cs'.length ≤ top)
    (hcs : ∀ (i : Nat) (v : AV), cs'[i]? = some v → v.one = true ∧ ∃ V, c'[sh' + i]? = some V ∧ Rel g v V) : Sim (g.ren b cb sh' top) ((A.del b).set g.n (.cells cs')) w' ∧ Ext g w (g.ren b cb sh' top) w' := by
  have hbn : b < g.n := by
    rcases Nat.lt_or_ge b g.n with h | h
    · exact h
    · rw [(hs.fresh b h).1] at hb; cases hb
  have e1 : g.n ≤ (g.ren b cb sh' top).n := Nat.le_succ _
  have e2 : ∀ cb' o v, g.im cb' o v → (g.ren b cb sh' top).im cb' o v := fun _ _ _ h => h
  have e3 : ∀ b' x, b' < g.n → (g.ren b cb sh' top).mb b' = some x → g.mb b' = some x := by
    intro b' x hb' hx
    simp only [G.ren] at hx
    split at hx
    · cases hx
    · rw [if_neg (by omega)] at hx; exact hx
  have hmb : ∀ b' cb' s t, (g.ren b cb sh' top).mb b' = some (cb', s, t) → (b' = g.n ∧ cb' = cb ∧ s = sh' ∧ t = top) ∨ (b' ≠ b ∧ b' ≠ g.n ∧ g.mb b' = some (cb', s, t) ∧ cb' ≠ cb) := by
    intro b' cb' s t h
    simp only [G.ren] at h
    split at h
    · cases h
    · rename_i h1
      split at h
      · rename_i h2
        simp only [Option.some.injEq, Prod.mk.injEq] at h
        exact .inl ⟨h2, h.1.symm, h.2.1.symm, h.2.2.symm⟩
      · rename_i h2
        refine .inr ⟨h1, h2, h, fun hcb => ?_⟩
        subst hcb
        exact h1 (hs.inj _ _ _ _ _ _ _ h hb)
  refine ⟨⟨?_, ?_, ?_, ?_, ?_, ?_⟩, ⟨e1, e2, e3, ?_, ?_, ?_, by rw [hu.size]; exact Nat.le_refl _, hu.os, hu.tape, hu.output⟩⟩
  · intro b' hb'
    have hb' : g.n + 1 ≤ b' := hb'
    have h1 : b' ≠ b := by omega
    have h2 : b' ≠ g.n := by omega
    have h3 := hs.fresh b' (by omega)
    simp [G.ren, Heap.set, Heap.del, h1, h2, h3]
  · intro b' x hx
    simp only [Heap.set, Heap.del] at hx
    split at hx
    · rename_i h
      cases hx
      subst h
      refine ⟨cb, sh', top, ?_, c', e, hu.here, htop, hlen, fun i v hv => ?_⟩
      · have : g.n ≠ b := by omega
        simp [G.ren, this]
      · obtain ⟨q1, V, q2, q3⟩ := hcs i v hv
        exact ⟨q1, V, q2, q3.ext e1 e2 e3⟩
    · rename_i h
      split at hx
      · cases hx
      · rename_i h'
        obtain ⟨cb', s, t, hm, hok⟩ := hs.blk b' x hx
        refine ⟨cb', s, t, by simp [G.ren, h, h', hm], hok.ext e1 e2 e3 (hu.other _ fun he => ?_)⟩
        subst he
        exact h' (hs.inj _ _ _ _ _ _ _ hm hb)
  · intro b1 b2 cb' s t s' t' h1 h2
    rcases hmb _ _ _ _ h1 with ⟨p1, p2, _⟩ | ⟨p1, p2, p3, p4⟩ <;> rcases hmb _ _ _ _ h2 with ⟨q1, q2, _⟩ | ⟨q1, q2, q3, q4⟩
    · omega
    · exact absurd p2 q4
    · exact absurd q2 p4
    · exact hs.inj _ _ _ _ _ _ _ p3 q3
  · intro b' cb' s t o v h hv
    rcases hmb _ _ _ _ h with ⟨_, rfl, rfl, rfl⟩ | ⟨_, _, p3, _⟩
    · have := hs.own _ _ _ _ _ _ hb hv
      omega
    · exact hs.own _ _ _ _ _ _ p3 hv
  · intro b' cb' s t h
    rw [hu.size]
    rcases hmb _ _ _ _ h with ⟨_, rfl, rfl, rfl⟩ | ⟨_, _, p3, _⟩
    · exact hs.lt _ _ _ _ hb
    · exact hs.lt _ _ _ _ p3
  · intro cb' o v hv
    obtain ⟨V, h1, h2, h3⟩ := hs.imm cb' o v hv
    refine ⟨V, ?_, h2.ext e1 e2 e3, h3⟩
    by_cases he : cb' = cb
    · subst he
      have ho := hs.own _ _ _ _ _ _ hb hv
      simp only [World.cell?, hc] at h1
      simp only [World.cell?, hu.here]
      rw [hlow o (by omega)]
      exact h1
    · rw [cell?_of_heap (hu.other _ he)]
      exact h1
  · intro b' cb' s t hg h
    rcases hmb _ _ _ _ h with ⟨_, rfl, rfl, rfl⟩ | ⟨_, _, p3, _⟩
    · exact .inr ⟨b, sh, t, hbn, hb⟩
    · rw [(hs.fresh b' hg).1] at p3; cases p3
  · intro cb' _ hno
    exact hu.other _ fun he => hno b sh top (he ▸ hb)
  · intro a _
    by_cases he : a.block = cb
    · have h1 : w'.heap[a.block]? = some (.cells c' e (0, 0)) := he ▸ hu.here
      have h2 : w.heap[a.block]? = some (.cells c e (0, 0)) := he ▸ hc
      simp [World.frozen?, h1, h2]
    · exact frozen?_of_heap (hu.other _ he)

theorem sound_append {P : Program} {g : G} {A : Heap} {w : World} (hs : Sim g A w) {str : Bool} {t tx ty e : TypeId} {i : TypeInfo} (hu : P.underlying t = some (.slice e)) (hi : P.info? e = some i) {z : List AV} (hz : zeroCellsOf P e = some z) (hsz : i.size ≠ 0)
    (htx : if str then P.underlying tx = some .string else ∃ e, P.underlying tx = some (.slice e)) {s x : AV} {S X : Value} (hS : Rel g s S) (hX : Rel g x X) {K : AV → Heap → Prop} (h : appendN A K str i.size i.bytes s x) :
    ∃ V w' g' v A', (Builtin.append_ #[t, tx] ty #[S, X]).run P w = .ok V w' ∧ Rel g' v V ∧ Sim g' A' w' ∧ Ext g w g' w' ∧ K v A' := by
  unfold appendN at h
  obtain ⟨i', Z, hi', hZ, hzr, hzl, hzo⟩ := zeroCells_rel (g := g) hz
  rw [hi] at hi'
  cases hi'
  have hZs : Z.cells.size = i.size := by rw [← hzr.len, hzl]
  split at h
  · exact h.elim
  · rename_i n news hsrc
    obtain ⟨N, hN, hNr, hNl, hNo⟩ := sound_src (P := P) hs htx hX hsrc
    have hNsz : N.length = n * i.size := by have := hNr.len; simp at this; omega
    -- what a new row comes to
    have grow : ∀ (base : Option Addr) (sLen sCap : Nat) (olds : List Value) (oldsA : List AV), (Builtin.firstCells i.size sLen (.slice base sLen sCap)).run P w.drew = .ok olds.toArray w.drew → RelL g oldsA olds.toArray → (∀ c ∈ oldsA, c.one = true) →
        oldsA.length = sLen * i.size → sCap < sLen + n → roomOk (sLen + n) i.bytes → ∀ A', Sim g A' w → K (.slice i.size g.n 0 (sLen + n) (.ge (sLen + n))) (A'.set g.n (.cells (oldsA ++ news))) →
        ∃ V w' g' v A'', (Builtin.append_ #[t, tx] ty #[.slice base sLen sCap, X]).run P w = .ok V w' ∧ Rel g' v V ∧ Sim g' A'' w' ∧ Ext g w g' w' ∧ K v A'' := by
      intro base sLen sCap olds oldsA hold hor hoo hol hg hroom A' hs' hK
      have hrun := run_append_grow_src (P := P) w t tx ty e i Z hu hi hZ base sLen sCap olds hold X n N hN hg (by have := hroom.2; omega) (growslice_fits hg hroom.1)
      obtain ⟨hsd, hed⟩ := hs'.drew
      have hall : RelL g (oldsA ++ news) (olds ++ N).toArray := by
        have := hor.append hNr
        simpa using this
      obtain ⟨h1, h2⟩ := alloc_row (rest := Builtin.zeroCells Z.cells (grownCap w (sLen + n) sCap e - (sLen + n))) (e := e) hsd hall (by
        intro c hc
        rcases List.mem_append.1 hc with hc | hc
        · exact hoo c hc
        · exact hNo c hc)
      have hge := grownCap_ge w (sLen + n) sCap e
      refine ⟨_, _, _, _, _, hrun, ?_, h1, hed.trans h2, hK⟩
      refine alloc_slice_rel (w := w.drew) hge ?_ hge
      simp only [Array.size_append, List.size_toArray, List.length_append, size_zeroCells, hZs]
      have hol' : olds.length = sLen * i.size := by have := hor.len; simp at this; omega
      rw [hol', hNsz, ← Nat.add_mul, ← Nat.add_mul]
      exact Nat.mul_le_mul_right _ (by omega)
    split at h
    · -- nil
      cases hS
      split at h
      · rename_i hn
        subst hn
        have hN0 : N = [] := List.eq_nil_of_length_eq_zero (by simpa using hNsz)
        refine ⟨_, w, g, _, A, ?_, .nilslice, hs, .refl hs, h⟩
        have hk : (∃ e', P.underlying tx = some (.slice e')) ∨ P.underlying tx = some .string := hN.kind
        have hcells := hN.cells
        subst hN0
        rcases hk with ⟨e', hk⟩ | hk <;> simp [Builtin.append_, run_underlying hu, run_underlying hk, sizeOf, typeInfo, hi, hN.len, hcells]
      · rename_i hn
        obtain ⟨hroom, hK⟩ := h
        refine grow none 0 0 [] [] (by simp [Builtin.firstCells]) .nil (by simp) (by simp) (by omega) (by simpa using hroom) A hs ?_
        have := hK g.n (hs.fresh _ (Nat.le_refl _)).2
        simpa using this
    · -- what does not change
      rename_i e' es ex
      obtain ⟨rfl, rfl, h⟩ := h
      have hS0 := hS
      cases hS with
      | islice _ _ _ cb o c hlc hex him =>
        have hc := hex rfl
        subst hc
        split at h
        · rename_i hn
          subst hn
          have hN0 : N = [] := List.eq_nil_of_length_eq_zero (by simpa using hNsz)
          refine ⟨_, w, g, _, A, ?_, hS0, hs, .refl hs, h⟩
          subst hN0
          have hcells := hN.cells
          rcases hN.kind with ⟨e', hk⟩ | hk <;> simp [Builtin.append_, run_underlying hu, run_underlying hk, sizeOf, typeInfo, hi, hN.len, hcells, storeCells]
        · rename_i hn
          obtain ⟨hroom, hK⟩ := h
          obtain ⟨O, h1, h2, h3, h4, h5⟩ := cells_list (P := P) (g := g) (w := w) (cb := cb) (o := o) (cs := es.flatMap AV.cells) (fun k u hu => by
            obtain ⟨V, q1, q2, q3⟩ := hs.imm _ _ _ (flat_im es o him k u hu)
            exact ⟨q3, V, q1, q2⟩)
          have hfl := flat_length (g := g) (cb := cb) es o (fun i e he => (him i e he).1)
          exact grow _ _ _ O _ (run_firstCells_some w.drew i.size es.length _ _ _ O (by rw [h1, hfl]) (by simpa using h2)) h4 h5 hfl (by omega) hroom A hs (hK _ (hs.fresh _ (Nat.le_refl _)).2)
    · -- a block that may change
      rename_i e' b off len cap
      obtain ⟨rfl, h⟩ := h
      split at h
      · rename_i cs hA
        obtain ⟨hle, h⟩ := h
        obtain ⟨cb, sh, top, c, el, hm, hh, htop, hlen, hcs, hcell⟩ := blk_cells hs hA
        have hS0 := hS
        cases hS with
        | slice _ _ _ _ _ a cc hb hlc hcap hsp hlive =>
          split at h
          · rename_i hn
            subst hn
            have hN0 : N = [] := List.eq_nil_of_length_eq_zero (by simpa using hNsz)
            refine ⟨_, w, g, _, A, ?_, hS0, hs, .refl hs, h⟩
            subst hN0
            have hcells := hN.cells
            rcases hN.kind with ⟨e', hk⟩ | hk <;> simp [Builtin.append_, run_underlying hu, run_underlying hk, sizeOf, typeInfo, hi, hN.len, hcells, hlc, storeCells]
          · rename_i hn
            have hlow := low_le hcap
            -- there is room: the cells are written
            have room : len + n ≤ cc → a = ⟨cb, sh + off, none⟩ ∧ sh + off + cc * i.size ≤ top ∧ ∃ c', (Builtin.append_ #[t, tx] ty #[.slice (some a) len cc, X]).run P w = .ok (.slice (some a) (len + n) cc) (w.setCells cb (sh + off + len * i.size) N) ∧
                Upd w (w.setCells cb (sh + off + len * i.size) N) cb (.cells c' el (0, 0)) ∧ c'.size = c.size ∧ ∀ j, c'[j]? = if sh + off + len * i.size ≤ j ∧ j < sh + off + len * i.size + N.length then N[j - (sh + off + len * i.size)]? else c[j]? := by
              intro hroom
              obtain ⟨ha, hfit⟩ := hlive (by omega) _ _ _ hm
              have hmul : (len + n) * i.size ≤ cc * i.size := Nat.mul_le_mul_right _ hroom
              rw [Nat.add_mul] at hmul
              obtain ⟨c', q1, q2, q3⟩ := setCells_upd cb N (sh + off + len * i.size) w c el hh (by omega)
              refine ⟨ha, hfit, c', ?_, q1, q2, q3⟩
              rw [ha]
              refine run_append_room_src (P := P) w t tx ty e i hu hi cb (sh + off) len cc X n N hN hroom (fun j hj => ?_) (fun j hj => ?_)
              · simp only [World.cell?, hh]
                simp
                omega
              · simp [World.frozen?, hh]
            split at h
            · -- known to be there
              rename_i hc
              obtain ⟨ha, hfit, c', hrun, hu', hsz', hget⟩ := room (by omega)
              have hmul : off + len * i.size + n * i.size ≤ cs.length := by have := hc.2; rw [Nat.add_mul] at this; omega
              have hol : (over cs (off + len * i.size) news).length = cs.length := over_length _ _ _ (by omega)
              obtain ⟨h1, h2⟩ := hs.upd (cs' := over cs (off + len * i.size) news) hm hh hu' (fun j hj => by rw [hget j, if_neg (by omega)]) (by omega) (by omega) (fun j v hv => by
                rw [over_get _ _ _ (by omega)] at hv
                rw [hget (sh + j)]
                split at hv
                · rename_i hj
                  rw [if_pos (by omega)]
                  obtain ⟨V, q1, q2⟩ := hNr.get? hv
                  refine ⟨hNo v (List.mem_of_getElem? hv), V, ?_, q2⟩
                  rw [show sh + j - (sh + off + len * i.size) = j - (off + len * i.size) by omega]
                  simpa using q1
                · rename_i hj
                  rw [if_neg (by omega)]
                  exact hcs j v hv)
              refine ⟨_, _, g, _, _, hrun, ?_, h1, h2, h⟩
              exact .slice _ _ _ _ _ _ _ hb (by omega) hcap hsp (fun hne cb' sh' top' hm' => hlive hne _ _ _ hm')
            · rename_i hc
              obtain ⟨hroom, h⟩ := h
              -- the old cells
              obtain ⟨O, h1, h2, h3, h4, h5⟩ := cells_list (P := P) (g := g) (w := w) (cb := cb) (o := sh + off) (cs := (cs.drop off).take (len * i.size)) (fun k u hu => by
                obtain ⟨hk, hk2⟩ := take_drop_get hu
                obtain ⟨q1, V, q2, q3⟩ := hcell _ _ hk2
                exact ⟨q1, V, by rw [Nat.add_assoc]; exact q2, q3⟩)
              have hol : ((cs.drop off).take (len * i.size)).length = len * i.size := by simp; omega
              have hfirst : (Builtin.firstCells i.size len (.slice (some a) len cc)).run P w.drew = .ok O.toArray w.drew := by
                refine run_firstCells_some w.drew i.size len a len cc O (by rw [h1, hol]) (fun j u hu => ?_)
                have hj : j < len * i.size := by rw [← hol, ← h1]; exact (List.getElem?_eq_some_iff.1 hu).1
                have hlen0 : len ≠ 0 := by rintro rfl; simp at hj
                rw [(hlive (by omega) _ _ _ hm).1]
                simpa using h2 j u hu
              split at h
              · -- no room, surely
                obtain ⟨hlt, hK⟩ := h
                simp only at hcap
                exact grow _ _ _ O _ hfirst h4 h5 hol (by omega) hroom A hs (hK _ (hs.fresh _ (Nat.le_refl _)).2)
              · -- nobody knows
                rename_i k
                rcases Nat.lt_or_ge cc (len + n) with hg | hg
                · refine grow _ _ _ O _ hfirst h4 h5 hol hg hroom (A.del b) (hs.sub fun b' x hx => ?_) (h _ (hs.fresh _ (Nat.le_refl _)).2)
                  simp only [Heap.del] at hx
                  split at hx
                  · cases hx
                  · exact hx
                · obtain ⟨ha, hfit, c', hrun, hu', hsz', hget⟩ := room hg
                  have hall : ((cs.drop off).take (len * i.size) ++ news).length = (len + n) * i.size := by rw [List.length_append, hol, hNl, Nat.add_mul]
                  have hmul : (len + n) * i.size ≤ cc * i.size := Nat.mul_le_mul_right _ hg
                  obtain ⟨q1, q2⟩ := hs.rename (cs' := (cs.drop off).take (len * i.size) ++ news) (sh' := sh + off) hm hh hu' (by omega) (fun j hj => by rw [hget j, if_neg (by omega)]) (by omega) (by omega) (fun j v hv => by
                    rw [hget (sh + off + j)]
                    rcases Nat.lt_or_ge j (len * i.size) with hj | hj
                    · rw [List.getElem?_append_left (by omega)] at hv
                      obtain ⟨_, hv⟩ := take_drop_get hv
                      rw [if_neg (by omega), Nat.add_assoc]
                      exact hcs _ v hv
                    · rw [List.getElem?_append_right (by omega), hol] at hv
                      have hjn : j - len * i.size < news.length := (List.getElem?_eq_some_iff.1 hv).1
                      rw [if_pos (by omega)]
                      obtain ⟨V, r1, r2⟩ := hNr.get? hv
                      refine ⟨hNo v (List.mem_of_getElem? hv), V, ?_, r2⟩
                      rw [show sh + off + j - (sh + off + len * i.size) = j - len * i.size by omega]
                      simpa using r1)
                  refine ⟨_, _, _, _, _, hrun, ?_, q1, q2, h _ (hs.fresh _ (Nat.le_refl _)).2⟩
                  refine .slice _ _ _ _ _ _ _ (Nat.lt_succ_self _) (by omega) hg hsp fun _ cb' sh' top' hm' => ?_
                  have hbn : g.n ≠ b := by omega
                  simp only [G.ren, if_neg hbn, if_true, Option.some.injEq, Prod.mk.injEq] at hm'
                  obtain ⟨rfl, rfl, rfl⟩ := hm'
                  exact ⟨ha, by omega⟩
      · exact h.elim
    · exact h.elim

end Go.NL
