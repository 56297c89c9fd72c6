/- slices.Sort, slices.Compact at []int, as the N-logic sees them. -/
import Derived.Test.YtdeboephmbaihaaGreatSB
set_option linter.unusedVariables false
set_option linter.unusedSimpArgs false
namespace Go.NL
open Go.Proofs Go.Maps Go.RowKit Go.Sort

/-- One argument. -/
theorem one_arg {g : G} {a : AV} {cargs : Array Value} (h : RelL g [a] cargs) : ∃ V, cargs = #[V] ∧ Rel g a V := by
  have hl := h.len
  simp at hl
  have h0 : 0 < cargs.size := by omega
  refine ⟨cargs[0], ?_, h.rel 0 _ _ rfl (Array.getElem?_eq_getElem h0)⟩
  apply Array.ext
  · simp; omega
  · intro i h1 h2
    have : i = 0 := by simp at h2; omega
    subst this
    rfl

abbrev ints (zs : List Int) : List AV := zs.map (AV.int .i64)

/-- A slice of numbers in a block of the run's own. -/
theorem ints_slice {g : G} {A : Heap} {w : World} (hs : Sim g A w) {b : Nat} {zs : List Int} {rest : List AV} (hb : A b = some (.cells (ints zs ++ rest))) {cap : Cap} {V : Value} (hz : zs ≠ []) (hr : Rel g (.slice 1 b 0 zs.length cap) V) :
    ∃ cb sh top c e cp, V = .slice (some ⟨cb, sh, none⟩) zs.length cp ∧ zs.length ≤ cp ∧ (match cap with | .ge k => k ≤ cp | .eq k => cp = k) ∧ sh + cp ≤ top ∧ g.mb b = some (cb, sh, top) ∧ w.heap[cb]? = some (.cells c e (0, 0)) ∧ c.size = top ∧ sh + (zs.length + rest.length) ≤ top ∧ cb < w.heap.size ∧
      Holds (Value.int .i64) w cb sh zs.toArray := by
  obtain ⟨cb, sh, top, c, e, hm, hh, htop, hlen, hcs, hcell⟩ := blk_cells hs hb
  have hzl : 0 < zs.length := List.length_pos_iff.2 hz
  cases hr with
  | slice _ _ _ _ _ a cp _ hlc hcap hsp h =>
    obtain ⟨h1, h2⟩ := h (by omega) _ _ _ hm
    subst h1
    refine ⟨cb, sh, top, c, e, cp, rfl, hlc, hcap, by omega, hm, hh, htop, by simpa using hlen, hs.lt _ _ _ _ hm, fun j hj => ?_⟩
    have hj' : j < zs.length := by simpa using hj
    obtain ⟨_, V, hV, hVr⟩ := hcell j (.int .i64 zs[j]) (by rw [List.getElem?_append_left (by simpa using hj')]; simp [hj'])
    have hVe : V = .int .i64 zs[j] := by cases hVr; rfl
    subst hVe
    refine ⟨?_, by simp [World.frozen?, hh]⟩
    rw [hV]
    simp [hj']

/-- The cells of a slice of numbers are written. -/
theorem put_ints {g : G} {A : Heap} {w : World} (hs : Sim g A w) {b : Nat} {zs ys : List Int} {rest : List AV} (hb : A b = some (.cells (ints zs ++ rest))) (hy : ys.length = zs.length) {cb sh top : Nat} {c : Array Value} {e : TypeId} (hm : g.mb b = some (cb, sh, top)) (hh : w.heap[cb]? = some (.cells c e (0, 0)))
    (htop : c.size = top) (hlen : sh + (zs.length + rest.length) ≤ top) (n : Nat) (os : Array Obj) :
    Sim g (A.set b (.cells (ints ys ++ rest))) (grow (putRow (Value.int .i64) (Sort.ahead w n) cb sh ys.toArray) os) ∧ Ext g w g (grow (putRow (Value.int .i64) (Sort.ahead w n) cb sh ys.toArray) os) := by
  have hlt : cb < w.heap.size := hs.lt _ _ _ _ hm
  have hu : Upd w (putRow (Value.int .i64) (Sort.ahead w n) cb sh ys.toArray) cb (.cells (putCells (Value.int .i64) sh ys.toArray c) e (0, 0)) := by
    refine ⟨fun k hk => ?_, ?_, ?_, rfl, rfl, rfl⟩
    · simp only [putRow, mapBlock, Sort.ahead, Array.getElem?_modify, if_neg (Ne.symm hk)]
    · simp only [putRow, mapBlock, Sort.ahead, Array.getElem?_modify, if_true, hh, Option.map_some, onCells]
    · simp [putRow, mapBlock, Sort.ahead]
  obtain ⟨cb', sh', top', hm', c', e', hh', _, _, hcell⟩ := hs.blk b _ hb
  rw [hm] at hm'
  cases hm'
  rw [hh] at hh'
  cases hh'
  obtain ⟨s1, e1⟩ := hs.upd (cs' := ints ys ++ rest) hm hh hu (fun i hi => by
      rw [putCells, Array.getElem?_mapIdx]
      cases hc : c[i]? with
      | none => rfl
      | some x => simp; intro h; omega) (by simp [putCells, htop]) (by simp [hy]; omega) (fun i v hv => by
      by_cases hi : i < ys.length
      · rw [List.getElem?_append_left (by simpa using hi)] at hv
        simp [hi] at hv
        subst hv
        refine ⟨rfl, .int .i64 ys[i], ?_, .int _ _⟩
        rw [putCells, Array.getElem?_mapIdx, Array.getElem?_eq_getElem (by omega)]
        simp [hi]
      · rw [List.getElem?_append_right (by simpa using hi)] at hv
        have h2 : (ints zs ++ rest)[i]? = some v := by
          rw [List.getElem?_append_right (by simp; omega)]
          simpa [hy] using hv
        obtain ⟨h3, V, h4, h5⟩ := hcell i v h2
        refine ⟨h3, V, ?_, h5⟩
        rw [putCells, Array.getElem?_mapIdx, h4]
        simp
        omega)
  have hb : Below (putRow (Value.int .i64) (Sort.ahead w n) cb sh ys.toArray).heap.size (putRow (Value.int .i64) (Sort.ahead w n) cb sh ys.toArray) (grow (putRow (Value.int .i64) (Sort.ahead w n) cb sh ys.toArray) os) :=
    ⟨rfl, rfl, rfl, by simp [grow], fun k hk => heap_grow_old _ _ hk⟩
  obtain ⟨s2, e2⟩ := s1.below hb
  exact ⟨s2, e1.trans e2⟩

theorem sort_enters : enters Tryz.prog 64 = true := by kernel_rfl
theorem compact_enters : enters Tryz.prog 65 = true := by kernel_rfl

theorem set_self {A : Heap} {b : Nat} {x : Blk} (h : A b = some x) : A.set b x = A := by
  funext c
  unfold Heap.set
  split
  · rename_i e; rw [e, h]
  · rfl

/-- slices.Sort of numbers in a block of the run's own. -/
theorem sort_ints {A : Heap} {b : Nat} {zs : List Int} {rest : List AV} (hb : A b = some (.cells (ints zs ++ rest))) {cap : Cap} (hsz : zs.length < 4611686018427387904) {K : AV → Heap → Prop} (hz : zs ≠ [])
    (hk : K (.tuple []) (A.set b (.cells (ints (zs.mergeSort fun x y => decide (x ≤ y)) ++ rest)))) : NCalls Tryz.prog 64 [.slice 1 b 0 zs.length cap] A K := by
  refine ⟨sort_enters, fun g w cargs hs hr => ?_⟩
  obtain ⟨V, rfl, hV⟩ := one_arg hr
  obtain ⟨cb, sh, top, c, e, cp, rfl, h1, h2, h3, hm, hh, htop, hlen, hlt, hH⟩ := ints_slice hs hb hz hV
  refine (Tryz.slices_Sort_int cb sh cp zs w hH hlt hsz).mono ?_
  rintro e' w' ⟨rfl, n, os, rfl⟩
  obtain ⟨s1, e1⟩ := put_ints hs hb (ys := zs.mergeSort fun x y => decide (x ≤ y)) (List.length_mergeSort _) hm hh htop hlen n os
  exact ⟨.tuple [], .tuple #[], _, _, rfl, RelL.nil.tuple, s1, e1, hk⟩

theorem sort_nil {A : Heap} {K : AV → Heap → Prop} (hk : K (.tuple []) A) : NCalls Tryz.prog 64 [.nilslice] A K := by
  refine ⟨sort_enters, fun g w cargs hs hr => ?_⟩
  obtain ⟨V, rfl, hV⟩ := one_arg hr
  cases hV
  refine (Tryz.slices_Sort_int_none none 0 w).mono ?_
  rintro e' w' ⟨rfl, rfl⟩
  exact ⟨.tuple [], .tuple #[], _, _, rfl, RelL.nil.tuple, hs, .refl hs, hk⟩

/-- slices.Compact of numbers in a block of the run's own. -/
theorem compact_ints {A : Heap} {b : Nat} {zs : List Int} {rest : List AV} (hb : A b = some (.cells (ints zs ++ rest))) {cap : Cap} (hsz : zs.length < 4611686018427387904) {K : AV → Heap → Prop} (hz : zs ≠ []) (hcl : (Lib.compact zs).length ≤ zs.length)
    (hk : K (.slice 1 b 0 (Lib.compact zs).length cap) (A.set b (.cells (ints (Lib.compact zs ++ List.replicate (zs.length - (Lib.compact zs).length) 0) ++ rest)))) : NCalls Tryz.prog 65 [.slice 1 b 0 zs.length cap] A K := by
  refine ⟨compact_enters, fun g w cargs hs hr => ?_⟩
  obtain ⟨V, rfl, hV⟩ := one_arg hr
  obtain ⟨cb, sh, top, c, e, cp, rfl, h1, h2, h3, hm, hh, htop, hlen, hlt, hH⟩ := ints_slice hs hb hz hV
  refine (Tryz.slices_Compact_int cb sh cp zs w hH (by omega) h1).mono ?_
  rintro e' w' ⟨rfl, n, rfl⟩
  obtain ⟨s1, e1⟩ := put_ints hs hb (ys := Lib.compact zs ++ List.replicate (zs.length - (Lib.compact zs).length) 0) (by simp; omega) hm hh htop hlen n #[]
  rw [grow_empty] at s1 e1
  refine ⟨.slice 1 b 0 (Lib.compact zs).length cap, _, _, _, rfl, ?_, s1, e1, hk⟩
  refine .slice _ _ _ _ _ _ _ ?_ (by omega) h2 rfl fun _ cb' sh' top' hmm => ?_
  · cases hV; assumption
  · rw [hm] at hmm
    cases hmm
    exact ⟨rfl, by omega⟩

theorem compact_nil {A : Heap} {K : AV → Heap → Prop} (hk : K .nilslice A) : NCalls Tryz.prog 65 [.nilslice] A K := by
  refine ⟨compact_enters, fun g w cargs hs hr => ?_⟩
  obtain ⟨V, rfl, hV⟩ := one_arg hr
  cases hV
  refine (Tryz.slices_Compact_int_empty none 0 w).mono ?_
  rintro e' w' ⟨rfl, rfl⟩
  exact ⟨.nilslice, _, _, _, rfl, .nilslice, hs, .refl hs, hk⟩

end Go.NL
