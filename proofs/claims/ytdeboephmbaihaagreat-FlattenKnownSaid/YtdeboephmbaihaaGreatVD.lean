/- THE EVALUATOR, part D: memory. -/
import Derived.Test.YtdeboephmbaihaaGreatVC
set_option linter.unusedVariables false
set_option linter.unusedSimpArgs false
namespace Go.NL

def EH.next : EH → Nat | .mk n _ _ => n
def EH.cap : EH → Nat | .mk _ c _ => c
def EH.tree : EH → TB | .mk _ _ t => t
noncomputable def EH.blk (H : EH) (i : Nat) : EB := H.tree.get i

def EB.live : EB → Bool
  | .gone => false
  | _ => true

/-- A block of the evaluator's, and one of the N-logic's. -/
def BR (ρ : Nm) : EB → Blk → Prop
  | .cells n c t, .cells cs => cs.length = n ∧ n ≤ c ∧ ∀ j, j < n → (t.get j).one = true ∧ ∃ v, cs[j]? = some v ∧ VR ρ (t.get j) v
  | .map es ck, .map es' ck' => ck = ck' ∧ es.length = es'.length ∧ ∀ (i : Nat) (k v : AV) (b : Nat) (k' v' : AV) (b' : Nat), es[i]? = some (k, v, b) → es'[i]? = some (k', v', b') → VR ρ k k' ∧ VR ρ v v' ∧ b = b'
  | _, _ => False

theorem BR.mono {ρ ρ' : Nm} (hle : ρ.le ρ') {x : EB} {y : Blk} (h : BR ρ x y) : BR ρ' x y := by
  cases x <;> cases y <;> simp only [BR] at h ⊢
  · exact ⟨h.1, h.2.1, fun j hj => let ⟨h1, v, h2, h3⟩ := h.2.2 j hj; ⟨h1, v, h2, h3.mono hle⟩⟩
  · exact ⟨h.1, h.2.1, fun i k v b k' v' b' h1 h2 => let ⟨a, c, d⟩ := h.2.2 i k v b k' v' b' h1 h2; ⟨a.mono hle, c.mono hle, d⟩⟩

structure Fits (ρ : Nm) (H : EH) (A : Heap) : Prop where
  lt : ∀ i b, ρ i = some b → i < H.next
  cap : H.next ≤ H.cap ∧ 0 < H.cap
  inj : ∀ i j b, (H.blk i).live = true → (H.blk j).live = true → ρ i = some b → ρ j = some b → i = j
  blk : ∀ i b, ρ i = some b → (H.blk i).live = true → ∃ x, A b = some x ∧ BR ρ (H.blk i) x

/-! a new block -/
noncomputable def EH.alloc (x : EB) : EH → EH
  | .mk next cap t => if cap ≤ next then .mk (next + 1) (cap + cap) ((CT.node cap t (.rep .gone)).set next x 0 (cap + cap)) else .mk (next + 1) cap (t.set next x 0 cap)

noncomputable def allocK (x : EB) (H : EH) : (Nat → EH → ER) → ER := EH.rec (motive := fun _ => EB → (Nat → EH → ER) → ER)
  (fun next cap t x k => Bool.rec (motive := fun _ => ER)
    (setB t next x 0 cap fun t => natK (Nat.succ next) fun n => k next (.mk n cap t))
    (natK (Nat.add cap cap) fun c => setB (.node cap t (.rep .gone)) next x 0 c fun t => natK (Nat.succ next) fun n => k next (.mk n c t))
    (Nat.ble cap next)) H x
theorem allocK_eq (x : EB) (H : EH) (k : Nat → EH → ER) : allocK x H k = k H.next (H.alloc x) := by
  cases H with
  | mk next cap t =>
    show Bool.rec (motive := fun _ => ER)
      (setB t next x 0 cap fun t => natK (Nat.succ next) fun n => k next (.mk n cap t))
      (natK (Nat.add cap cap) fun c => setB (.node cap t (.rep .gone)) next x 0 c fun t => natK (Nat.succ next) fun n => k next (.mk n c t))
      (Nat.ble cap next) = _
    rw [ble_cases, setB_eq, natK_eq, natK_eq, setB_eq, natK_eq]
    simp only [EH.alloc, EH.next]
    by_cases h : next < cap
    · rw [if_pos h, if_neg (by omega)]
    · rw [if_neg h, if_pos (by omega)]
      rfl

theorem alloc_next (x : EB) (H : EH) : (H.alloc x).next = H.next + 1 := by
  cases H with
  | mk next cap t =>
    simp only [EH.alloc]
    split <;> rfl
theorem alloc_cap (x : EB) {H : EH} (h : H.next ≤ H.cap ∧ 0 < H.cap) : (H.alloc x).next ≤ (H.alloc x).cap ∧ 0 < (H.alloc x).cap := by
  cases H with
  | mk next cap t =>
    simp only [EH.next, EH.cap] at h
    simp only [EH.alloc]
    split <;> simp only [EH.next, EH.cap] <;> omega
theorem alloc_blk (x : EB) {H : EH} (h : H.next ≤ H.cap ∧ 0 < H.cap) {i : Nat} (hi : i < H.next + 1) : (H.alloc x).blk i = if i = H.next then x else H.blk i := by
  cases H with
  | mk next cap t =>
    simp only [EH.next, EH.cap] at h hi
    simp only [EH.alloc]
    split
    · simp only [EH.blk, EH.tree, EH.next]
      rw [CT.get_set next x _ 0 (cap + cap) i (by omega) (by omega) (by omega) (by omega), CT.get_node]
      by_cases he : i = next
      · rw [if_pos he]; exact (if_pos he).symm
      · rw [if_neg he, if_pos (by omega)]; exact (if_neg he).symm
    · simp only [EH.blk, EH.tree, EH.next]
      rw [CT.get_set next x _ 0 cap i (by omega) (by omega) (by omega) (by omega)]
      rfl

def Nm.with (ρ : Nm) (i b : Nat) : Nm := fun j => if j = i then some b else ρ j
theorem Nm.with_same (ρ : Nm) (i b : Nat) : ρ.with i b i = some b := by simp [Nm.with]

theorem Fits.le_with {ρ : Nm} {H : EH} {A : Heap} (h : Fits ρ H A) (b : Nat) : ρ.le (ρ.with H.next b) := by
  intro i c hi
  have := h.lt i c hi
  have hne : i ≠ H.next := by omega
  simp [Nm.with, hne, hi]

theorem Fits.alloc {ρ : Nm} {H : EH} {A : Heap} (h : Fits ρ H A) {x : EB} {X : Blk} {b : Nat} (hb : A b = none) (hx : BR ρ x X) : Fits (ρ.with H.next b) (H.alloc x) (A.set b X) := by
  have hle := h.le_with b
  have hlt : ∀ i c, ρ.with H.next b i = some c → i < H.next + 1 := by
    intro i c hi
    simp only [Nm.with] at hi
    split at hi
    · omega
    · have := h.lt i c hi; omega
  refine ⟨fun i c hi => by rw [alloc_next]; exact hlt i c hi, alloc_cap x h.cap, ?_, ?_⟩
  · intro i j c hi hj h1 h2
    rw [alloc_blk x h.cap (hlt i c h1)] at hi
    rw [alloc_blk x h.cap (hlt j c h2)] at hj
    simp only [Nm.with] at h1 h2
    by_cases e1 : i = H.next <;> by_cases e2 : j = H.next
    · omega
    · rw [if_pos e1] at h1
      rw [if_neg e2] at h2 hj
      cases h1
      obtain ⟨y, hy, _⟩ := h.blk j b h2 hj
      rw [hb] at hy; cases hy
    · rw [if_neg e1] at h1 hi
      rw [if_pos e2] at h2
      cases h2
      obtain ⟨y, hy, _⟩ := h.blk i b h1 hi
      rw [hb] at hy; cases hy
    · rw [if_neg e1] at h1 hi
      rw [if_neg e2] at h2 hj
      exact h.inj i j c hi hj h1 h2
  · intro i c h1 hi
    rw [alloc_blk x h.cap (hlt i c h1)] at hi ⊢
    simp only [Nm.with] at h1
    by_cases e1 : i = H.next
    · rw [if_pos e1] at h1 ⊢
      cases h1
      exact ⟨X, by simp, hx.mono hle⟩
    · rw [if_neg e1] at h1 hi ⊢
      obtain ⟨y, hy, hr⟩ := h.blk i c h1 hi
      refine ⟨y, ?_, hr.mono hle⟩
      rw [Heap.set_other _ _ (fun e => by subst e; rw [hb] at hy; cases hy)]
      exact hy

/-! a block is written -/
noncomputable def EH.upd (i : Nat) (x : EB) : EH → EH
  | .mk next cap t => .mk next cap (t.set i x 0 cap)
noncomputable def updK (i : Nat) (x : EB) (H : EH) : (EH → ER) → ER := EH.rec (motive := fun _ => Nat → EB → (EH → ER) → ER) (fun next cap t i x k => setB t i x 0 cap fun t => k (.mk next cap t)) H i x
theorem updK_eq (i : Nat) (x : EB) (H : EH) (k : EH → ER) : updK i x H k = k (H.upd i x) := by
  cases H with
  | mk next cap t =>
    show (setB t i x 0 cap fun t => k (.mk next cap t)) = _
    rw [setB_eq]
    rfl
theorem upd_next (i : Nat) (x : EB) (H : EH) : (H.upd i x).next = H.next := by cases H; rfl
theorem upd_cap (i : Nat) (x : EB) (H : EH) : (H.upd i x).cap = H.cap := by cases H; rfl
theorem upd_blk (i : Nat) (x : EB) {H : EH} (h : H.next ≤ H.cap) {j : Nat} (hi : i < H.next) (hj : j < H.next) : (H.upd i x).blk j = if j = i then x else H.blk j := by
  cases H with
  | mk next cap t =>
    simp only [EH.next, EH.cap] at h hi hj
    simp only [EH.upd, EH.blk, EH.tree]
    rw [CT.get_set i x t 0 cap j (by omega) (by omega) (by omega) (by omega)]

theorem Fits.upd {ρ : Nm} {H : EH} {A : Heap} (h : Fits ρ H A) {i b : Nat} (hi : ρ i = some b) (hl : (H.blk i).live = true) {x : EB} {X : Blk} (hx : BR ρ x X) : Fits ρ (H.upd i x) (A.set b X) := by
  have hin := h.lt i b hi
  refine ⟨fun j c hj => by rw [upd_next]; exact h.lt j c hj, by rw [upd_next, upd_cap]; exact h.cap, ?_, ?_⟩
  · intro j k c hj hk h1 h2
    have q1 := h.lt j c h1
    have q2 := h.lt k c h2
    rw [upd_blk i x h.cap.1 hin q1] at hj
    rw [upd_blk i x h.cap.1 hin q2] at hk
    refine h.inj j k c ?_ ?_ h1 h2
    · split at hj
      · rename_i e; rw [e]; exact hl
      · exact hj
    · split at hk
      · rename_i e; rw [e]; exact hl
      · exact hk
  · intro j c h1 hj
    have q1 := h.lt j c h1
    rw [upd_blk i x h.cap.1 hin q1] at hj ⊢
    split at hj
    · rename_i e
      subst e
      rw [hi] at h1
      cases h1
      rw [if_pos rfl]
      exact ⟨X, by simp, hx⟩
    · rename_i e
      rw [if_neg e]
      obtain ⟨y, hy, hr⟩ := h.blk j c h1 hj
      refine ⟨y, ?_, hr⟩
      rw [Heap.set_other _ _ (fun e' => by subst e'; exact e (h.inj _ _ _ hj hl h1 hi))]
      exact hy

theorem Fits.gone {ρ : Nm} {H : EH} {A : Heap} (h : Fits ρ H A) {i b : Nat} (hi : ρ i = some b) (hl : (H.blk i).live = true) : Fits ρ (H.upd i .gone) (A.del b) := by
  have hin := h.lt i b hi
  refine ⟨fun j c hj => by rw [upd_next]; exact h.lt j c hj, by rw [upd_next, upd_cap]; exact h.cap, ?_, ?_⟩
  · intro j k c hj hk h1 h2
    have q1 := h.lt j c h1
    have q2 := h.lt k c h2
    rw [upd_blk i _ h.cap.1 hin q1] at hj
    rw [upd_blk i _ h.cap.1 hin q2] at hk
    refine h.inj j k c ?_ ?_ h1 h2
    · split at hj
      · cases hj
      · exact hj
    · split at hk
      · cases hk
      · exact hk
  · intro j c h1 hj
    have q1 := h.lt j c h1
    rw [upd_blk i _ h.cap.1 hin q1] at hj ⊢
    split at hj
    · cases hj
    · rename_i e
      rw [if_neg e]
      obtain ⟨y, hy, hr⟩ := h.blk j c h1 hj
      refine ⟨y, ?_, hr⟩
      have hne : c ≠ b := fun e' => by subst e'; exact e (h.inj _ _ _ hj hl h1 hi)
      simp [Heap.del, hne, hy]

/-! cells -/
theorem br_cells {ρ : Nm} {n c : Nat} {t : TA} {X : Blk} (h : BR ρ (.cells n c t) X) : ∃ cs, X = .cells cs ∧ cs.length = n ∧ n ≤ c ∧ VL ρ (takeT n t 0) cs ∧ (takeT n t 0).all AV.one = true ∧ ∀ j, j < n → ∃ v, cs[j]? = some v ∧ VR ρ (t.get j) v := by
  cases X with
  | map es ck => exact h.elim
  | cells cs =>
    obtain ⟨h1, h2, h3⟩ := h
    refine ⟨cs, rfl, h1, h2, ⟨by simp [takeT, h1], fun j x y hx hy => ?_⟩, ?_, fun j hj => (h3 j hj).2⟩
    · simp only [takeT, List.getElem?_map, Option.map_eq_some_iff] at hx
      obtain ⟨k, hk, rfl⟩ := hx
      have hjn : j < n := by
        have := (List.getElem?_eq_some_iff.1 hk).1
        simpa using this
      rw [List.getElem?_range hjn] at hk
      cases hk
      obtain ⟨_, v, hv, hr⟩ := h3 j hjn
      rw [hv] at hy
      cases hy
      simpa using hr
    · rw [List.all_eq_true]
      intro x hx
      simp only [takeT, List.mem_map, List.mem_range] at hx
      obtain ⟨j, hj, rfl⟩ := hx
      simpa using (h3 j hj).1

theorem takeT_drop (n m off : Nat) (t : TA) (h : off + m ≤ n) : takeT m t off = ((takeT n t 0).drop off).take m := by
  apply List.ext_getElem?
  intro j
  rw [List.getElem?_take]
  split
  · rename_i hj
    rw [List.getElem?_drop]
    simp only [takeT, List.getElem?_map]
    rw [List.getElem?_range hj, List.getElem?_range (by omega)]
    simp
  · rename_i hj
    rw [List.getElem?_eq_none]
    simp [takeT]
    omega
theorem takeT_length (n off : Nat) (t : TA) : (takeT n t off).length = n := by simp [takeT]
theorem takeT_get {n j : Nat} (t : TA) (off : Nat) (h : j < n) : (takeT n t off)[j]? = some (t.get (off + j)) := by
  simp only [takeT, List.getElem?_map]
  rw [List.getElem?_range h]
  rfl

/-- Cells that are written over. -/
theorem BR.put {ρ : Nm} {n c : Nat} {t : TA} {cs : List AV} (h : BR ρ (.cells n c t) (.cells cs)) {vs us : List AV} (hv : VL ρ vs us) (hone : vs.all AV.one = true) {off : Nat} (hle : off + vs.length ≤ n) : BR ρ (.cells n c (putT vs t off c)) (.cells (over cs off us)) := by
  obtain ⟨h1, h2, h3⟩ := h
  have hl := hv.len
  refine ⟨by rw [over_length _ _ _ (by omega)]; exact h1, h2, fun j hj => ?_⟩
  rw [putT_get vs t off c j (by omega) (by omega), over_get _ _ _ (by omega)]
  split
  · rename_i hjj
    rw [if_pos (by omega)]
    have hlt : j - off < vs.length := by omega
    rw [List.getD_eq_getElem?_getD, List.getElem?_eq_getElem hlt]
    simp only [Option.getD_some]
    obtain ⟨d, hd, hr⟩ := hv.get? (List.getElem?_eq_getElem hlt)
    exact ⟨List.all_eq_true.1 hone _ (List.getElem_mem hlt), d, hd, hr⟩
  · rename_i hjj
    rw [if_neg (by omega)]
    exact h3 j hj

theorem BR.new {ρ : Nm} {vs us : List AV} (hv : VL ρ vs us) (hone : vs.all AV.one = true) {n c : Nat} (hn : vs.length = n) (hc : n ≤ c) (t : TA) : BR ρ (.cells n c (putT vs t 0 c)) (.cells us) := by
  refine ⟨by rw [← hv.len]; exact hn, hc, fun j hj => ?_⟩
  rw [putT_get vs t 0 c j (by omega) (by omega), if_pos (by omega), Nat.sub_zero]
  have hlt : j < vs.length := by omega
  rw [List.getD_eq_getElem?_getD, List.getElem?_eq_getElem hlt]
  simp only [Option.getD_some]
  obtain ⟨d, hd, hr⟩ := hv.get? (List.getElem?_eq_getElem hlt)
  exact ⟨List.all_eq_true.1 hone _ (List.getElem_mem hlt), d, hd, hr⟩

/-- Cells behind cells: the tree of the first ones serves. -/
theorem BR.more {ρ : Nm} {n m c c' : Nat} {t t' : TA} {cs : List AV} (h : BR ρ (.cells n c t) (.cells cs)) {vs us : List AV} (hv : VL ρ vs us) (hone : vs.all AV.one = true) (hm : m ≤ n) (hc : m + vs.length ≤ c') (ht : ∀ j, j < m → t'.get j = t.get j) :
    BR ρ (.cells (m + vs.length) c' (putT vs t' m c')) (.cells (cs.take m ++ us)) := by
  obtain ⟨h1, h2, h3⟩ := h
  have hl := hv.len
  refine ⟨by simp; omega, hc, fun j hj => ?_⟩
  rw [putT_get vs t' m c' j hc (by omega)]
  by_cases hjm : j < m
  · rw [if_neg (by omega), ht j hjm]
    obtain ⟨q1, v, q2, q3⟩ := h3 j (by omega)
    refine ⟨q1, v, ?_, q3⟩
    rw [List.getElem?_append_left (by simp; omega), List.getElem?_take, if_pos hjm]
    exact q2
  · rw [if_pos (by omega)]
    have hlt : j - m < vs.length := by omega
    rw [List.getD_eq_getElem?_getD, List.getElem?_eq_getElem hlt]
    simp only [Option.getD_some]
    obtain ⟨d, hd, hr⟩ := hv.get? (List.getElem?_eq_getElem hlt)
    refine ⟨List.all_eq_true.1 hone _ (List.getElem_mem hlt), d, ?_, hr⟩
    rw [List.getElem?_append_right (by simp; omega)]
    rw [show j - (cs.take m).length = j - m by simp; omega]
    exact hd

end Go.NL
