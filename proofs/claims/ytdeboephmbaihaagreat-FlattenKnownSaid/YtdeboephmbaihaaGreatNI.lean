/- THE N-LOGIC, part I: append. -/
import Derived.Test.YtdeboephmbaihaaGreatNH
import Derived.Deep.AppendSrc
set_option linter.unusedVariables false
set_option linter.unusedSimpArgs false
namespace Go.NL

theorem flat_length {g : G} {cb esz : Nat} : ∀ (es : List AV) (o : Nat), (∀ (i : Nat) (e : AV), es[i]? = some e → e.cells.length = esz) → (es.flatMap AV.cells).length = es.length * esz
  | [], o, _ => by simp
  | e :: es, o, h => by
    have h0 := h 0 e rfl
    have ih := flat_length (g := g) (cb := cb) es o (fun i e' he => h (i + 1) e' (by simpa using he))
    rw [List.flatMap_cons, List.length_append, ih, h0, List.length_cons, Nat.add_mul]
    omega

theorem flat_im {g : G} {cb esz : Nat} : ∀ (es : List AV) (o : Nat), (∀ (i : Nat) (e : AV), es[i]? = some e → e.cells.length = esz ∧ ∀ (j : Nat) (v : AV), e.cells[j]? = some v → g.im cb (o + i * esz + j) v) →
    ∀ (k : Nat) (u : AV), (es.flatMap AV.cells)[k]? = some u → g.im cb (o + k) u
  | [], o, _, k, u, h => by simp at h
  | e :: es, o, h, k, u, hu => by
    obtain ⟨h0, h1⟩ := h 0 e rfl
    rw [List.flatMap_cons] at hu
    rcases Nat.lt_or_ge k e.cells.length with hk | hk
    · rw [List.getElem?_append_left hk] at hu
      have := h1 k u hu
      simpa using this
    · rw [List.getElem?_append_right hk] at hu
      have := flat_im es (o + esz) (fun i e' he => by
        obtain ⟨q1, q2⟩ := h (i + 1) e' (by simpa using he)
        refine ⟨q1, fun j v hv => ?_⟩
        have := q2 j v hv
        rw [Nat.add_mul, Nat.one_mul] at this
        rw [show o + esz + i * esz + j = o + (i * esz + esz) + j by omega]
        exact this) (k - e.cells.length) u hu
      rw [show o + esz + (k - e.cells.length) = o + k by omega] at this
      exact this

/-- Cells that stand one behind the other in the world, as a list of values. -/
theorem cells_list {P : Program} {g : G} {w : World} {cb o : Nat} {cs : List AV} (h : ∀ (k : Nat) (u : AV), cs[k]? = some u → u.one = true ∧ ∃ V, w.cell? ⟨cb, o + k, none⟩ = some V ∧ Rel g u V) :
    ∃ N : List Value, N.length = cs.length ∧ (∀ j u, N[j]? = some u → w.cell? ((⟨cb, o, none⟩ : Addr).add j) = some u) ∧ (∀ u ∈ N, u.oneCell' = true) ∧ RelL g cs N.toArray ∧ ∀ c ∈ cs, c.one = true := by
  let f : Nat → Value := fun j => (w.cell? ⟨cb, o + j, none⟩).getD undef
  have hf : ∀ j, j < cs.length → ∃ u, cs[j]? = some u ∧ u.one = true ∧ w.cell? ⟨cb, o + j, none⟩ = some (f j) ∧ Rel g u (f j) := by
    intro j hj
    obtain ⟨h1, V, h2, h3⟩ := h j _ (List.getElem?_eq_getElem hj)
    have : f j = V := by simp only [f, h2, Option.getD_some]
    exact ⟨_, List.getElem?_eq_getElem hj, h1, by rw [this]; exact h2, by rw [this]; exact h3⟩
  have get : ∀ j u, ((List.range cs.length).map f)[j]? = some u → j < cs.length ∧ u = f j := by
    intro j u hu
    rw [List.getElem?_map] at hu
    rcases Nat.lt_or_ge j cs.length with hj | hj
    · rw [List.getElem?_range hj] at hu
      simp at hu
      exact ⟨hj, hu.symm⟩
    · rw [List.getElem?_eq_none (by simpa using hj)] at hu
      cases hu
  refine ⟨(List.range cs.length).map f, by simp, ?_, ?_, ⟨by simp, ?_⟩, ?_⟩
  · intro j u hu
    obtain ⟨hj, rfl⟩ := get j u hu
    obtain ⟨_, _, _, h3, _⟩ := hf j hj
    rw [add_mk]
    exact h3
  · intro u hu
    obtain ⟨j, hj, hju⟩ := List.getElem_of_mem hu
    obtain ⟨hj', rfl⟩ := get j u (by rw [List.getElem?_eq_getElem hj, hju])
    obtain ⟨_, _, h2, _, h4⟩ := hf j hj'
    exact rel_one h4 h2
  · intro j c v hc hv
    obtain ⟨hj, rfl⟩ := get j v (by simpa using hv)
    obtain ⟨u, h1, _, _, h4⟩ := hf j hj
    rw [h1] at hc
    cases hc
    exact h4
  · intro c hc
    obtain ⟨j, hj, hjc⟩ := List.getElem_of_mem hc
    obtain ⟨u, h1, h2, _⟩ := hf j hj
    rw [List.getElem?_eq_getElem hj, hjc] at h1
    cases h1
    exact h2

theorem take_drop_get {α : Type} {l : List α} {a n j : Nat} {u : α} (h : ((l.drop a).take n)[j]? = some u) : j < n ∧ l[a + j]? = some u := by
  rcases Nat.lt_or_ge j n with h' | h'
  · rw [drop_take_get _ _ _ _ h'] at h; exact ⟨h', h⟩
  · rw [List.getElem?_take, if_neg (by omega)] at h; cases h

theorem blk_cells {g : G} {A : Heap} {w : World} (hs : Sim g A w) {b : Nat} {cs : List AV} (h : A b = some (.cells cs)) : ∃ cb sh top c e, g.mb b = some (cb, sh, top) ∧ w.heap[cb]? = some (.cells c e (0, 0)) ∧ c.size = top ∧ sh + cs.length ≤ top ∧
    (∀ (i : Nat) (v : AV), cs[i]? = some v → v.one = true ∧ ∃ V, c[sh + i]? = some V ∧ Rel g v V) ∧ ∀ (i : Nat) (v : AV), cs[i]? = some v → v.one = true ∧ ∃ V, w.cell? ⟨cb, sh + i, none⟩ = some V ∧ Rel g v V := by
  obtain ⟨cb, sh, top, hm, c, e, hh, htop, hlen, hcs⟩ := hs.blk _ _ h
  refine ⟨cb, sh, top, c, e, hm, hh, htop, hlen, hcs, fun i v hv => ?_⟩
  obtain ⟨h1, V, h2, h3⟩ := hcs i v hv
  exact ⟨h1, V, by simp [World.cell?, hh, h2], h3⟩

/-- What is appended. -/
theorem sound_src {P : Program} {g : G} {A : Heap} {w : World} (hs : Sim g A w) {str : Bool} {esz : Nat} {tx : TypeId} (ht : if str then P.underlying tx = some .string else ∃ e, P.underlying tx = some (.slice e)) {x : AV} {X : Value} (hx : Rel g x X) {n : Nat} {news : List AV}
    (h : srcAV A str esz x = some (n, news)) : ∃ N, Src P esz tx X n N w ∧ RelL g news N.toArray ∧ news.length = n * esz ∧ ∀ c ∈ news, c.one = true := by
  unfold srcAV at h
  split at h
  · split at h
    · cases h
    · rename_i hst
      cases h
      cases hx
      rw [if_neg (by simpa using hst)] at ht
      obtain ⟨e, hu⟩ := ht
      exact ⟨[], Src.ofNil w hu 0, .nil, by simp, by simp⟩
  · rename_i e es ex
    split at h
    · rename_i hc
      obtain ⟨rfl, rfl⟩ := hc
      simp only [Option.some.injEq, Prod.mk.injEq] at h
      obtain ⟨rfl, rfl⟩ := h
      simp only [Bool.false_eq_true, if_false] at ht
      obtain ⟨e', hu⟩ := ht
      cases hx with
      | islice _ _ _ cb o c hlc hex him =>
        obtain ⟨N, h1, h2, h3, h4, h5⟩ := cells_list (P := P) (g := g) (w := w) (cb := cb) (o := o) (cs := es.flatMap AV.cells) (fun k u hu => by
          obtain ⟨V, q1, q2, q3⟩ := hs.imm _ _ _ (flat_im es o him k u hu)
          exact ⟨q3, V, q1, q2⟩)
        have hfl := flat_length (g := g) (cb := cb) es o (fun i e he => (him i e he).1)
        exact ⟨N, Src.ofSlice w hu _ _ _ N (by rw [h1, hfl]) h2 h3, h4, hfl, h5⟩
    · cases h
  · rename_i e b off len cap
    split at h
    · rename_i hc
      obtain ⟨rfl, rfl⟩ := hc
      simp only [Bool.false_eq_true, if_false] at ht
      obtain ⟨e', hu⟩ := ht
      split at h
      · rename_i cs hA
        split at h
        · rename_i hle
          simp only [Option.some.injEq, Prod.mk.injEq] at h
          obtain ⟨rfl, rfl⟩ := h
          obtain ⟨cb, sh, top, c, el, hm, hh, htop, hlen, _, hcell⟩ := blk_cells hs hA
          cases hx with
          | slice _ _ _ _ _ a cc hb hlc hcap hsp hlive =>
            have hnl : ((cs.drop off).take (len * e)).length = len * e := by simp; omega
            obtain ⟨N, h1, h2, h3, h4, h5⟩ := cells_list (P := P) (g := g) (w := w) (cb := cb) (o := sh + off) (cs := (cs.drop off).take (len * e)) (fun k u hu => by
              obtain ⟨hk, hk2⟩ := take_drop_get hu
              obtain ⟨q1, V, q2, q3⟩ := hcell _ _ hk2
              exact ⟨q1, V, by rw [Nat.add_assoc]; exact q2, q3⟩)
            refine ⟨N, Src.ofSlice w hu _ _ _ N (by rw [h1, hnl]) ?_ h3, h4, hnl, h5⟩
            intro j u hu'
            have hj : j < len * e := by rw [← hnl, ← h1]; exact (List.getElem?_eq_some_iff.1 hu').1
            have hlen0 : len ≠ 0 := by rintro rfl; simp at hj
            have hc0 : cc ≠ 0 := by omega
            rw [(hlive hc0 _ _ _ hm).1]
            exact h2 j u hu'
        · cases h
      · cases h
    · cases h
  · rename_i s
    split at h
    · rename_i hc
      obtain ⟨rfl, rfl⟩ := hc
      simp only [Option.some.injEq, Prod.mk.injEq] at h
      obtain ⟨rfl, rfl⟩ := h
      simp only [if_true] at ht
      obtain ⟨b, rfl, rfl⟩ := rel_str hx
      have hbs : b.size = b.data.toList.length := by rw [Array.length_toList]; rfl
      refine ⟨byteCells b, by rw [← hbs]; exact Src.ofString w ht b, ⟨by simp [byteCells], ?_⟩, by simp, ?_⟩
      · intro i c v hc hv
        simp only [List.getElem?_toArray, byteCells, List.getElem?_map] at hv
        rw [List.getElem?_map] at hc
        cases hq : b.data.toList[i]? with
        | none => rw [hq] at hc; cases hc
        | some q =>
          rw [hq] at hc hv
          cases hc
          cases hv
          exact .int _ _
      · intro c hc
        simp only [List.mem_map] at hc
        obtain ⟨q, _, rfl⟩ := hc
        rfl
    · cases h
  · cases h

end Go.NL
