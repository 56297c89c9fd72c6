/- slices.Sorted(maps.Keys(m)) as the N-logic sees it. -/
import Derived.Test.YtdeboephmbaihaaGreatSA
import Derived.Test.YtdeboephmbaihaaGreatDC
set_option linter.unusedVariables false
set_option linter.unusedSimpArgs false
namespace Go.NL
open Go.Proofs Go.Maps Go.RowKit Go.Sort Go.WideShapes Go.ChangeMaps

/-- Behind a part of a run that left all that there was. -/
theorem Sim.below {g : G} {A : Heap} {w w' : World} (hs : Sim g A w) (hb : Below w.heap.size w w') : Sim g A w' ∧ Ext g w g w' := by
  refine ⟨⟨hs.fresh, ?_, hs.inj, hs.own, ?_, ?_⟩, ⟨Nat.le_refl _, fun _ _ _ h => h, fun _ _ _ h => h, ?_, ?_, ?_, hb.size, hb.os, hb.tape, hb.output⟩⟩
  · intro b x hx
    obtain ⟨cb, sh, top, h1, h2⟩ := hs.blk b x hx
    exact ⟨cb, sh, top, h1, h2.ext (Nat.le_refl _) (fun _ _ _ h => h) (fun _ _ _ h => h) (hb.block _ (hs.lt _ _ _ _ h1))⟩
  · intro b cb sh top h
    exact Nat.lt_of_lt_of_le (hs.lt _ _ _ _ h) hb.size
  · intro cb o v hv
    obtain ⟨V, hV, hR, h1⟩ := hs.imm _ _ _ hv
    refine ⟨V, ?_, hR, h1⟩
    have := World.block_lt_of_cell? _ _ hV
    rw [cell?_of_heap (hb.block _ this)]
    exact hV
  · intro b cb sh top hg hm
    rw [(hs.fresh b hg).1] at hm
    cases hm
  · intro cb hlt _
    exact hb.block _ hlt
  · intro a ha
    exact frozen?_of_heap (hb.block _ ha)

/-- And one of the new blocks gets a name. -/
theorem Sim.adopt {g : G} {A : Heap} {w w' : World} (hs : Sim g A w) (hb : Below w.heap.size w w') {gb top : Nat} {x : Blk} (hgb : w.heap.size ≤ gb) (hlt : gb < w'.heap.size) (hx : BlkOk (g.more gb top) w' gb 0 top x) :
    Sim (g.more gb top) (A.set g.n x) w' ∧ Ext g w (g.more gb top) w' := by
  obtain ⟨hs', he⟩ := hs.below hb
  obtain ⟨e1, e2, e3⟩ := G.more_ext (g := g) gb top
  have hne : ∀ b cb sh t, g.mb b = some (cb, sh, t) → cb ≠ gb := fun b cb sh t h hc => by have := hs.lt _ _ _ _ h; omega
  have hmb : ∀ b cb sh t, (g.more gb top).mb b = some (cb, sh, t) → (b = g.n ∧ cb = gb ∧ sh = 0 ∧ t = top) ∨ (b ≠ g.n ∧ g.mb b = some (cb, sh, t)) := by
    intro b cb sh t h
    by_cases hb : b = g.n
    · simp [G.more, hb] at h
      exact .inl ⟨hb, by omega, by omega, by omega⟩
    · simp [G.more, hb] at h
      exact .inr ⟨hb, h⟩
  refine ⟨⟨?_, ?_, ?_, ?_, ?_, ?_⟩, ⟨e1, e2, e3, ?_, fun cb hlt _ => hb.block _ hlt, he.frozen, hb.size, hb.os, hb.tape, hb.output⟩⟩
  · intro b hb
    have hb : g.n + 1 ≤ b := hb
    have h1 : b ≠ g.n := by omega
    have h2 := hs.fresh b (by omega)
    simp [G.more, Heap.set, h1, h2]
  · intro b y hy
    by_cases hb : b = g.n
    · subst hb
      simp [Heap.set] at hy
      subst hy
      exact ⟨gb, 0, top, by simp [G.more], hx⟩
    · simp [Heap.set, hb] at hy
      obtain ⟨cb, sh, t, hm, hok⟩ := hs'.blk b y hy
      exact ⟨cb, sh, t, by simp [G.more, hb, hm], hok.ext e1 e2 e3 rfl⟩
  · intro b b' cb sh t sh' t' h h'
    rcases hmb _ _ _ _ h with ⟨h1, h2, _⟩ | ⟨h1, h2⟩ <;> rcases hmb _ _ _ _ h' with ⟨h3, h4, _⟩ | ⟨h3, h4⟩
    · omega
    · exact absurd h2 (hne _ _ _ _ h4)
    · exact absurd h4 (hne _ _ _ _ h2)
    · exact hs.inj _ _ _ _ _ _ _ h2 h4
  · intro b cb sh t o' v h hv
    rcases hmb _ _ _ _ h with ⟨h1, h2, _⟩ | ⟨h1, h2⟩
    · obtain ⟨V, hV, _⟩ := hs.imm _ _ _ hv
      have := World.block_lt_of_cell? _ _ hV
      simp at this
      omega
    · exact hs.own _ _ _ _ _ _ h2 hv
  · intro b cb sh t h
    rcases hmb _ _ _ _ h with ⟨h1, h2, _⟩ | ⟨h1, h2⟩
    · omega
    · exact hs'.lt _ _ _ _ h2
  · intro cb o' v hv
    obtain ⟨V, hV, hR, h1⟩ := hs'.imm _ _ _ hv
    exact ⟨V, hV, hR.ext e1 e2 e3, h1⟩
  · intro b cb sh t hb h
    rcases hmb _ _ _ _ h with ⟨h1, h2, _⟩ | ⟨h1, h2⟩
    · exact .inl (by omega)
    · rw [(hs.fresh b hb).1] at h2; cases h2

/-- A map by numbers, as its entries came. -/
def ents {V : Type} (enc : V → AV) : List (Int × V) → Nat → List (AV × AV × Nat)
  | [], _ => []
  | (k, v) :: m, i => (.int .i64 k, enc v, i) :: ents enc m (i + 1)
def mapB {V : Type} (enc : V → AV) (m : List (Int × V)) : Blk := .map (ents enc m 0) m.length

theorem ents_length {V : Type} (enc : V → AV) : ∀ (m : List (Int × V)) (i : Nat), (ents enc m i).length = m.length
  | [], _ => rfl
  | (k, v) :: m, i => by simp [ents, ents_length enc m]
theorem ents_get {V : Type} (enc : V → AV) : ∀ (m : List (Int × V)) (i j : Nat) (k : Int) (v : V), m[j]? = some (k, v) → (ents enc m i)[j]? = some (.int .i64 k, enc v, i + j)
  | [], _, _, _, _, h => by simp at h
  | (k', v') :: m, i, 0, k, v, h => by simp at h; obtain ⟨rfl, rfl⟩ := h; rfl
  | (k', v') :: m, i, j + 1, k, v, h => by
    simp at h
    have := ents_get enc m (i + 1) j k v h
    simp only [ents, List.getElem?_cons_succ, this]
    congr 3
    omega

/-- Numbers in a map, none twice. -/
def MapOk {V : Type} (m : List (Int × V)) : Prop := (m.map (·.1)).Nodup ∧ ∀ p ∈ m, -9223372036854775808 ≤ p.1 ∧ p.1 ≤ 9223372036854775807

theorem nk_sorts (m : Nat) : nk_SortsIn Fence.wide m :=
  ⟨fun blk off cap ss W hH hblk hsz => callsIn_wide.2 (Tryz.slices_Sort_int blk off cap ss W hH hblk hsz), fun p cap W => callsIn_wide.2 (Tryz.slices_Sort_int_none p cap W)⟩

theorem i64_wf {x : Int} (h1 : -9223372036854775808 ≤ x) (h2 : x ≤ 9223372036854775807) : (Lit.int .i64 x).wf = true := by
  have e1 : IntKind.i64.min = -9223372036854775808 := by decide
  have e2 : IntKind.i64.max = 9223372036854775807 := by decide
  simp [Lit.wf, e1, e2, h1, h2]

theorem map_own {V : Type} (enc : V → AV) (m : List (Int × V)) (hm : MapOk m) (hl : m.length ≤ maxLen) {g : G} {w : World} {cb : Nat} {ces : Array MapEntry} (hh : w.heap[cb]? = some (.map ces m.length)) (hsz : ces.size = (ents enc m 0).length)
    (hrel : ∀ (i : Nat) (k v : AV) (born : Nat) (e : MapEntry), (ents enc m 0)[i]? = some (k, v, born) → ces[i]? = some e → Rel g k e.key ∧ Rel g v e.val ∧ e.born = born) :
    ∃ D : DataW Nat, w.ownsMap Tryz.prog 3 nk_R cb m.length D ∧ (m.map (·.1)).Perm (intKeys D) := by
  rw [ents_length] at hsz
  have hce : ∀ (i : Nat) (e : MapEntry), ces[i]? = some e → ∃ k v, m[i]? = some (k, v) ∧ e.key = .int .i64 k ∧ e.born = i := by
    intro i e he
    have hi : i < m.length := by rw [← hsz]; exact (Array.getElem?_eq_some_iff.1 he).1
    have hmi : m[i]? = some m[i] := List.getElem?_eq_getElem hi
    obtain ⟨h1, _, h3⟩ := hrel i _ _ _ e (ents_get enc m 0 i _ _ hmi) he
    refine ⟨_, _, hmi, ?_, by omega⟩
    generalize e.key = K at h1
    cases h1
    rfl
  have hkeys : ces.toList.map (·.key) = m.map fun p => Value.int .i64 p.1 := by
    apply List.ext_getElem?
    intro i
    rw [List.getElem?_map, List.getElem?_map, Array.getElem?_toList]
    by_cases hi : i < ces.size
    · obtain ⟨k, v, h1, h2, _⟩ := hce i ces[i] (Array.getElem?_eq_getElem hi)
      rw [h1, Array.getElem?_eq_getElem hi]
      simp [h2]
    · rw [Array.getElem?_eq_none (by omega), List.getElem?_eq_none (by omega)]
      rfl
  have hborn : ces.toList.map (·.born) = List.range m.length := by
    apply List.ext_getElem?
    intro i
    rw [List.getElem?_map, Array.getElem?_toList]
    by_cases hi : i < ces.size
    · obtain ⟨k, v, _, _, h2⟩ := hce i ces[i] (Array.getElem?_eq_getElem hi)
      rw [Array.getElem?_eq_getElem hi, List.getElem?_range (by omega)]
      simp [h2]
    · rw [Array.getElem?_eq_none (by omega), List.getElem?_eq_none (by simp; omega)]
      rfl
  have hread : ∀ x ∈ ces.toList, ∃ k, x.key = .int .i64 k ∧ k ∈ m.map (·.1) ∧ (Lit.int .i64 k).wf = true := by
    intro x hx
    obtain ⟨i, hi, rfl⟩ := List.getElem_of_mem hx
    obtain ⟨k, v, h1, h2, _⟩ := hce i _ (by rw [← Array.getElem?_toList]; exact List.getElem?_eq_getElem hi)
    have hmem := List.mem_of_getElem? h1
    exact ⟨k, h2, List.mem_map.2 ⟨_, hmem, rfl⟩, i64_wf (hm.2 _ hmem).1 (hm.2 _ hmem).2⟩
  have hko : ∀ {x : MapEntry} {k : Int}, x.key = .int .i64 k → (Lit.int .i64 k).wf = true → Go.WideElems.rd Tryz.prog 3 (nk_R (H := Nat)) x = some (.int .i64 k, .nil) := by
    intro x k hx hw
    simp [Go.WideElems.rd, hx, keyOf_int_mk Tryz.underlying3 hw, nk_R]
  have F : Go.WideElems.Fit Tryz.prog 3 (nk_R (H := Nat)) ces m.length := by
    refine ⟨by omega, (MapKept.stamped_iff _ _).2 ⟨fun x hx => ?_, by rw [hborn]; exact List.nodup_range, ?_⟩, fun x hx => ?_⟩
    · obtain ⟨i, hi, rfl⟩ := List.getElem_of_mem hx
      obtain ⟨k, v, _, _, h2⟩ := hce i _ (by rw [← Array.getElem?_toList]; exact List.getElem?_eq_getElem hi)
      rw [h2]
      simp at hi
      omega
    · have : (ces.toList.map (·.key)).Nodup := by
        rw [hkeys]
        have h1 := hm.1
        rw [List.Nodup, List.pairwise_map] at h1 ⊢
        exact h1.imp fun hne e => hne (by injection e)
      exact List.pairwise_map.1 this
    · obtain ⟨k, h1, _, h2⟩ := hread x hx
      exact ⟨_, hko h1 h2⟩
  refine ⟨_, ⟨ces, m.length, hh, F, by omega, rfl⟩, ?_⟩
  have hmem : ∀ p, p ∈ (ces.toList.map (Go.WideElems.rg Tryz.prog 3 (nk_R (H := Nat)))).foldr DataW.insert [] ↔ ∃ x ∈ ces.toList, ∃ k, x.key = .int .i64 k ∧ (Lit.int .i64 k).wf = true ∧ p = (.int .i64 k, .nil) := by
    intro p
    rw [mem_sorted, List.mem_map]
    constructor
    · rintro ⟨x, hx, rfl⟩
      obtain ⟨k, h1, _, h2⟩ := hread x hx
      exact ⟨x, hx, k, h1, h2, Go.WideElems.rg_of (hko h1 h2)⟩
    · rintro ⟨x, hx, k, h1, h2, rfl⟩
      exact ⟨x, hx, Go.WideElems.rg_of (hko h1 h2)⟩
  refine perm_intKeys ?_ ?_ hm.1 ?_
  · exact ((sorted_perm _).pairwise_iff (fun {_ _} hne => Ne.symm hne)).2 (Maps.fit_apart nk_law F)
  · intro p hp
    obtain ⟨x, _, k, _, _, rfl⟩ := (hmem p).1 hp
    exact ⟨k, rfl⟩
  · intro x
    rw [has_eq, List.any_eq_true]
    constructor
    · intro hx
      obtain ⟨i, hi, hxi⟩ := List.getElem_of_mem hx
      have hi' : i < ces.toList.length := by simp at hi ⊢; omega
      have hmm : ces.toList[i] ∈ ces.toList := List.getElem_mem hi'
      have hk : ces.toList[i].key = .int .i64 x := by
        have : (ces.toList.map (·.key))[i]? = (m.map fun p => Value.int .i64 p.1)[i]? := by rw [hkeys]
        rw [List.getElem?_map, List.getElem?_eq_getElem hi', List.getElem?_map, List.getElem?_eq_getElem (by simpa using hi)] at this
        simp at this hxi
        simp [this, hxi]
      obtain ⟨k, h1, _, h2⟩ := hread _ hmm
      rw [hk] at h1
      cases h1
      exact ⟨_, (hmem _).2 ⟨_, hmm, x, hk, h2, rfl⟩, by simp [Lit.sameKey]⟩
    · rintro ⟨p, hp, hs⟩
      obtain ⟨y, hy, k, h1, h2, rfl⟩ := (hmem p).1 hp
      obtain ⟨k', h3, h4, _⟩ := hread y hy
      rw [h1] at h3
      cases h3
      have : k = x := by simpa [Lit.sameKey] using hs
      rw [← this]
      exact h4

theorem sorted_enters : enters Tryz.prog 67 = true := by kernel_rfl
theorem keys1_enters : ∀ args w, (callFunc 127 args).run Tryz.prog w = .ok (.enter 127 args) w := enters_of Tryz.func127 (by kernel_rfl) rfl

theorem sortInts_perm {a b : List Int} (h : a.Perm b) : a.mergeSort (fun x y => decide (x ≤ y)) = b.mergeSort (fun x y => decide (x ≤ y)) := mergeSort_of_perm_i h

/-- slices.Sorted(maps.Keys(m)), m not nil. -/
theorem sorted_keys {V : Type} (enc : V → AV) (m : List (Int × V)) (hm : MapOk m) (hl : m.length * 8 ≤ 140737488355328) {A : Heap} {bx mb : Nat} (hbx : A bx = some (.cells [.map mb])) (hmb : A mb = some (mapB enc m)) {K : AV → Heap → Prop}
    (h0 : m = [] → K .nilslice A)
    (h1 : m ≠ [] → ∀ b, A b = none → K (.slice 1 b 0 m.length (.ge m.length)) (A.set b (.cells (((m.map (·.1)).mergeSort (fun x y => decide (x ≤ y))).map (AV.int .i64))))) :
    NCalls Tryz.prog 67 [.func 127 [] [.ptr bx 0]] A K := by
  refine ⟨sorted_enters, fun g w cargs hs hr => ?_⟩
  -- the argument
  obtain ⟨C, rfl⟩ : ∃ C, cargs = #[C] := by
    have := hr.len
    simp at this
    exact ⟨cargs[0], by
      apply Array.ext
      · simp; omega
      · intro i h1 h2
        have : i = 0 := by simp at h2; omega
        subst this
        rfl⟩
  have hC := hr.rel 0 _ C rfl rfl
  obtain ⟨cbx, sx, tx, hgx, c, e, hcx, _, hlx, hcellx⟩ := hs.blk bx _ hbx
  obtain ⟨X, hX⟩ : ∃ X, C = .func (.func 127) #[] #[X] ∧ Rel g (.ptr bx 0) X := by
    generalize hav : AV.func 127 [] [.ptr bx 0] = av at hC
    cases hC <;> cases hav
    rename_i fs cs hf h1 hc h2
    have hfs : fs = #[] := Array.eq_empty_of_size_eq_zero (by simpa using hf.symm)
    subst hfs
    have hcs : cs.size = 1 := by simpa using hc.symm
    refine ⟨cs[0], ?_, h2 0 (by simp) (by omega)⟩
    congr 1
    apply Array.ext
    · simp; omega
    · intro i h1 h2
      have : i = 0 := by simp at h2; omega
      subst this
      rfl
  obtain ⟨rfl, hXr⟩ := hX
  obtain ⟨a, rfl, ha⟩ : ∃ a, X = .pointer (some a) ∧ a = ⟨cbx, sx + 0, none⟩ := by
    cases hXr with
    | ptr _ _ a _ h => exact ⟨a, rfl, h _ _ _ hgx⟩
  subst ha
  obtain ⟨_, MV, hMV, hMr⟩ := hcellx 0 _ rfl
  obtain ⟨cbm, sm, tm, hgm, ces, hcm, hcsz, hcrel⟩ := hs.blk mb _ hmb
  obtain rfl : MV = .map (some cbm) := by
    cases hMr with
    | map _ cb _ h => rw [h _ _ _ hgm]
  have hlm : m.length ≤ maxLen := by unfold maxLen; omega
  obtain ⟨D, hown, hperm⟩ := map_own enc m hm hlm hcm hcsz hcrel
  have hcell : w.cell? ⟨cbx, sx + 0, none⟩ = some (.map (some cbm)) := by simp [World.cell?, hcx] at hMV ⊢; exact hMV
  have hsizeD := hown.size_le
  have hseq := nk_keys_gives Fence.wide (6 - 1 - 1 - 1) trivial rfl (by decide) cbx (sx + 0) cbm m.length D w (hs.lt _ _ _ _ hgx) hcell hown
  refine ((callsIn_wide (n := 6)).1 (nk_sorted_in Fence.wide 6 trivial trivial trivial trivial rfl (by decide) (nk_sorts _) 127 _ trivial keys1_enters _ _ (by omega) (by omega) w hseq)).mono ?_
  rintro e' w' ⟨v, ss, rfl, hS, hrow, hnil, hb⟩
  have hss : ss.Perm (m.map (·.1)) := hS.trans hperm.symm
  have hlen : ss.length = m.length := by rw [hss.length_eq, List.length_map]
  rw [sortInts_perm hss, hlen] at hrow
  rcases hrow.2 with ⟨rfl, hz⟩ | ⟨gb, cap, cur, rfl, hbase, hgb, r1, r2, r3, r4⟩
  · have hm0 : m = [] := List.eq_nil_of_length_eq_zero hz
    obtain ⟨s1, e1⟩ := hs.below hb
    exact ⟨.nilslice, _, A, g, rfl, .nilslice, s1, e1, h0 hm0⟩
  · have hm0 : m ≠ [] := by
      rintro rfl
      have : ss = [] := List.eq_nil_of_length_eq_zero hlen
      have := hnil.2 this
      cases this
    have hgl : gb < w'.heap.size := (Array.getElem?_eq_some_iff.1 hgb).1
    obtain ⟨s1, e1⟩ := hs.adopt (gb := gb) (top := cur.size) (x := .cells (((m.map (·.1)).mergeSort (fun x y => decide (x ≤ y))).map (AV.int .i64))) hb hbase hgl ⟨cur, _, hgb, rfl, by simp; omega, fun i v hv => by
      rw [List.getElem?_map, Option.map_eq_some_iff] at hv
      obtain ⟨x, hx, rfl⟩ := hv
      have hi : i < m.length := by have := (List.getElem?_eq_some_iff.1 hx).1; simpa using this
      refine ⟨rfl, .int .i64 x, ?_, .int _ _⟩
      have h2 : (cur.toList.take (m.length * 1))[i]? = some (encZ x) := by rw [r4, List.getElem?_map, hx]; rfl
      rw [List.getElem?_take_of_lt (by omega), Array.getElem?_toList] at h2
      rw [Nat.zero_add]
      exact h2⟩
    refine ⟨.slice 1 g.n 0 m.length (.ge m.length), _, _, _, rfl, ?_, s1, e1, h1 hm0 g.n (hs.fresh _ (Nat.le_refl _)).2⟩
    refine .slice _ _ _ _ _ _ _ (Nat.lt_succ_self _) r1 r1 rfl fun _ cb sh top' hmm => ?_
    simp only [G.more, if_true, Option.some.injEq, Prod.mk.injEq] at hmm
    obtain ⟨rfl, rfl, rfl⟩ := hmm
    exact ⟨rfl, by omega⟩

end Go.NL
