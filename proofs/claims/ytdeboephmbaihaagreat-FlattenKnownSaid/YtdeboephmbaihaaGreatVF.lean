/- THE EVALUATOR, part F: operations on memory, handed on; what they say of the N-logic's. -/
import Derived.Test.YtdeboephmbaihaaGreatVE
set_option linter.unusedVariables false
set_option linter.unusedSimpArgs false
namespace Go.NL

noncomputable def blkK (H : EH) : Nat → (EB → ER) → ER := EH.rec (motive := fun _ => Nat → (EB → ER) → ER) (fun _ _ t i k => getB t i k) H
theorem blkK_eq (H : EH) (i : Nat) (k : EB → ER) : blkK H i k = k (H.blk i) := by
  cases H with
  | mk next cap t => exact getB_eq t i k
noncomputable def cellsB' (x : EB) : (Nat → Nat → TA → ER) → ER := EB.rec (motive := fun _ => (Nat → Nat → TA → ER) → ER) (fun _ => none) (fun n c t k => k n c t) (fun _ _ _ => none) x
theorem cellsB'_some {x : EB} {k : Nat → Nat → TA → ER} {r : Unit} (h : cellsB' x k = some r) : ∃ n c t, x = .cells n c t ∧ k n c t = some r := by
  cases x <;> first | (cases h; done) | exact ⟨_, _, _, rfl, h⟩
noncomputable def mapB' (x : EB) : (List (AV × AV × Nat) → Nat → ER) → ER := EB.rec (motive := fun _ => (List (AV × AV × Nat) → Nat → ER) → ER) (fun _ => none) (fun _ _ _ _ => none) (fun es ck k => k es ck) x
theorem mapB'_some {x : EB} {k : List (AV × AV × Nat) → Nat → ER} {r : Unit} (h : mapB' x k = some r) : ∃ es ck, x = .map es ck ∧ k es ck = some r := by
  cases x <;> first | (cases h; done) | exact ⟨_, _, rfl, h⟩

theorem ble_le {a b : Nat} (h : Nat.ble a b = true) : a ≤ b := Nat.le_of_ble_eq_true h

/-- A block of cells, by its name. -/
theorem Fits.cells {ρ : Nm} {H : EH} {A : Heap} (hf : Fits ρ H A) {i b n c : Nat} {t : TA} (hi : ρ i = some b) (hx : H.blk i = .cells n c t) : ∃ cs, A b = some (.cells cs) ∧ BR ρ (.cells n c t) (.cells cs) := by
  obtain ⟨X, h1, h2⟩ := hf.blk i b hi (by rw [hx]; rfl)
  rw [hx] at h2
  cases X with
  | cells cs => exact ⟨cs, h1, h2⟩
  | map es ck => exact h2.elim
theorem Fits.map {ρ : Nm} {H : EH} {A : Heap} (hf : Fits ρ H A) {i b ck : Nat} {es : List (AV × AV × Nat)} (hi : ρ i = some b) (hx : H.blk i = .map es ck) : ∃ es', A b = some (.map es' ck) ∧ BR ρ (.map es ck) (.map es' ck) := by
  obtain ⟨X, h1, h2⟩ := hf.blk i b hi (by rw [hx]; rfl)
  rw [hx] at h2
  cases X with
  | cells cs => exact h2.elim
  | map es' ck' =>
    have := h2.1
    subst this
    exact ⟨es', h1, h2⟩

/-! load -/
noncomputable def readK (agg : Option Nat) : TA → Nat → Nat → (AV → ER) → ER := Option.rec (motive := fun _ => TA → Nat → Nat → (AV → ER) → ER)
  (fun t n o k => iteK (Nat.ble (Nat.succ o) n) (getK t o k) none) (fun m t n o k => iteK (Nat.ble (Nat.add o m) n) (takeK m t o fun l => k (.agg l)) none) agg
noncomputable def loadK (agg : Option Nat) (v : AV) (H : EH) (k : AV → ER) : ER := ptrV v fun i o => blkK H i fun x => cellsB' x fun n _ t => readK agg t n o k

theorem readK_sound {ρ : Nm} {n c : Nat} {t : TA} {cs : List AV} (h : BR ρ (.cells n c t) (.cells cs)) {agg : Option Nat} {o : Nat} {k : AV → ER} {r : Unit} (hr : readK agg t n o k = some r) : ∃ u U, takeAV agg cs o = some U ∧ VR ρ u U ∧ k u = some r := by
  obtain ⟨h1, h2, h3⟩ := h
  cases agg with
  | none =>
    have hq := iteK_some (x := getK t o k) hr; clear hr; obtain ⟨hle, hr⟩ := hq
    rw [getK_eq] at hr
    obtain ⟨_, v, hv, hvr⟩ := h3 o (ble_le hle)
    exact ⟨_, v, hv, hvr, hr⟩
  | some m =>
    have hq := iteK_some (x := takeK m t o fun l => k (.agg l)) hr; clear hr; obtain ⟨hle, hr⟩ := hq
    rw [takeK_eq] at hr
    have hle := ble_le hle
    change o + m ≤ n at hle
    refine ⟨_, .agg ((cs.drop o).take m), by simp only [takeAV]; rw [if_pos (by omega)], VL.agg ⟨by simp [takeT]; omega, fun j x y hx hy => ?_⟩ ?_, hr⟩
    · have hj : j < m := by
        have := (List.getElem?_eq_some_iff.1 hx).1
        simpa [takeT] using this
      rw [takeT_get t o hj] at hx
      cases hx
      rw [drop_take_get _ _ _ _ hj] at hy
      obtain ⟨_, v, hv, hvr⟩ := h3 (o + j) (by omega)
      rw [hv] at hy
      cases hy
      exact hvr
    · rw [List.all_eq_true]
      intro x hx
      simp only [takeT, List.mem_map, List.mem_range] at hx
      obtain ⟨j, hj, rfl⟩ := hx
      exact (h3 (o + j) (by omega)).1

theorem loadK_sound {ρ : Nm} {H : EH} {A : Heap} (hf : Fits ρ H A) {agg : Option Nat} {v V : AV} (hv : VR ρ v V) {k : AV → ER} {r : Unit} (hr : loadK agg v H k = some r) : ∃ u U, loadAV A agg V = some U ∧ VR ρ u U ∧ k u = some r := by
  have hq := ptrV_some hr; clear hr; obtain ⟨i, o, rfl, hr⟩ := hq
  rw [blkK_eq] at hr
  have hq := cellsB'_some hr; clear hr; obtain ⟨n, c, t, hx, hr⟩ := hq
  cases hv with
  | ptr _ b _ hb =>
    obtain ⟨cs, h1, h2⟩ := hf.cells hb hx
    obtain ⟨u, U, q1, q2, q3⟩ := readK_sound h2 hr
    exact ⟨u, U, by simp only [loadAV, h1]; exact q1, q2, q3⟩

/-! maps -/
noncomputable def keyK (a b : AV) (yes no : ER) : ER := Option.rec (motive := fun _ => ER) none (fun r => iteK r yes no) (keyEq a b)
theorem keyK_some {a b : AV} {yes no : ER} {r : Unit} (h : keyK a b yes no = some r) : (keyEq a b = some true ∧ yes = some r) ∨ (keyEq a b = some false ∧ no = some r) := by
  unfold keyK at h
  cases hq : keyEq a b with
  | none => rw [hq] at h; cases h
  | some c =>
    rw [hq] at h
    cases c
    · exact .inr ⟨rfl, h⟩
    · exact .inl ⟨rfl, h⟩
noncomputable def findK (es : List (AV × AV × Nat)) : AV → (AV → ER) → ER → ER := List.rec (motive := fun _ => AV → (AV → ER) → ER → ER) (fun _ _ no => no) (fun e _ ih key yes no => keyK key e.1 (yes e.2.1) (ih key yes no)) es
theorem findK_some {es : List (AV × AV × Nat)} {key : AV} {yes : AV → ER} {no : ER} {r : Unit} (n : Nat) (h : findK es key yes no = some r) : (∃ i v, findE key es n = some (some (i, v)) ∧ yes v = some r) ∨ (findE key es n = some none ∧ no = some r) := by
  induction es generalizing n with
  | nil => exact .inr ⟨rfl, h⟩
  | cons e es ih =>
    obtain ⟨k', v, b⟩ := e
    have h : keyK key k' (yes v) (findK es key yes no) = some r := h
    simp only [findE]
    have hq := keyK_some h; clear h; rcases hq with ⟨h1, h2⟩ | ⟨h1, h2⟩
    · rw [h1]; exact .inl ⟨_, _, rfl, h2⟩
    · rw [h1]; exact ih (n + 1) h2
noncomputable def putMK (es : List (AV × AV × Nat)) : AV → AV → Nat → (List (AV × AV × Nat) → Nat → ER) → ER := List.rec (motive := fun _ => AV → AV → Nat → (List (AV × AV × Nat) → Nat → ER) → ER)
  (fun key v ck k => natK (Nat.succ ck) fun ck' => k [(key, v, ck)] ck')
  (fun e es ih key v ck k => keyK key e.1 (k ((key, v, e.2.2) :: es) ck) (ih key v ck fun es' ck' => k (e :: es') ck')) es
theorem putMK_some {es : List (AV × AV × Nat)} {key v : AV} {ck : Nat} {k : List (AV × AV × Nat) → Nat → ER} {r : Unit} (n : Nat) (h : putMK es key v ck k = some r) :
    (∃ i u, findE key es n = some (some (n + i, u)) ∧ k (es.modify i fun e => (key, v, e.2.2)) ck = some r) ∨ (findE key es n = some none ∧ k (es ++ [(key, v, ck)]) (ck + 1) = some r) := by
  induction es generalizing n k with
  | nil =>
    have h : (natK (Nat.succ ck) fun ck' => k [(key, v, ck)] ck') = some r := h
    rw [natK_eq] at h
    exact .inr ⟨rfl, h⟩
  | cons e es ih =>
    obtain ⟨k', v', b⟩ := e
    have h : keyK key k' (k ((key, v, b) :: es) ck) (putMK es key v ck fun es' ck' => k ((k', v', b) :: es') ck') = some r := h
    simp only [findE]
    have hq := keyK_some h; clear h; rcases hq with ⟨h1, h2⟩ | ⟨h1, h2⟩
    · rw [h1]; exact .inl ⟨0, v', rfl, h2⟩
    · rw [h1]
      rcases ih (n + 1) h2 with ⟨i, u, q1, q2⟩ | ⟨q1, q2⟩
      · refine .inl ⟨i + 1, u, ?_, ?_⟩
        · simp only; rw [q1, show n + 1 + i = n + (i + 1) by omega]
        · rw [← q2]; rfl
      · exact .inr ⟨q1, q2⟩

theorem keyEq_vr {ρ : Nm} {a b a' b' : AV} {r : Bool} (ha : VR ρ a a') (hb : VR ρ b b') (h : keyEq a b = some r) : keyEq a' b' = some r := by
  unfold keyEq at h
  split at h
  · rw [vr_int ha, vr_int hb]; exact h
  · rw [vr_str ha, vr_str hb]; exact h
  · cases h
theorem keyOk_vr {ρ : Nm} {s : Bool} {a a' : AV} (ha : VR ρ a a') (h : keyOk s a = true) : keyOk s a' = true := by
  unfold keyOk at h
  split at h
  · rw [vr_int ha]; rfl
  · rw [vr_str ha]; rfl
  · cases h

/-- The entries of a map and their names. -/
def ER' (ρ : Nm) (es es' : List (AV × AV × Nat)) : Prop := es.length = es'.length ∧ ∀ (i : Nat) (k v : AV) (b : Nat) (k' v' : AV) (b' : Nat), es[i]? = some (k, v, b) → es'[i]? = some (k', v', b') → VR ρ k k' ∧ VR ρ v v' ∧ b = b'
theorem er_tail {ρ : Nm} {e e' : AV × AV × Nat} {es es' : List (AV × AV × Nat)} (h : ER' ρ (e :: es) (e' :: es')) : VR ρ e.1 e'.1 ∧ VR ρ e.2.1 e'.2.1 ∧ e.2.2 = e'.2.2 ∧ ER' ρ es es' := by
  have h0 := h.2 0 e.1 e.2.1 e.2.2 e'.1 e'.2.1 e'.2.2 rfl rfl
  exact ⟨h0.1, h0.2.1, h0.2.2, by have := h.1; simpa using this, fun i k v b k' v' b' h1 h2 => h.2 (i + 1) k v b k' v' b' (by simpa using h1) (by simpa using h2)⟩
theorem findE_vr {ρ : Nm} {key key' : AV} (hk : VR ρ key key') : ∀ {es es' : List (AV × AV × Nat)} (_ : ER' ρ es es') (n : Nat),
    (∀ i v, findE key es n = some (some (i, v)) → ∃ v', findE key' es' n = some (some (i, v')) ∧ VR ρ v v') ∧ (findE key es n = some none → findE key' es' n = some none)
  | [], [], _, n => ⟨fun i v h => by simp [findE] at h, fun _ => rfl⟩
  | [], e' :: es', h, n => by have := h.1; simp at this
  | e :: es, [], h, n => by have := h.1; simp at this
  | (k, v, b) :: es, (k', v', b') :: es', h, n => by
    obtain ⟨h1, h2, h3, h4⟩ := er_tail h
    have ih := findE_vr hk h4 (n + 1)
    simp only [findE]
    cases hq : keyEq key k with
    | none => simp
    | some c =>
      rw [keyEq_vr hk h1 hq]
      cases c
      · exact ih
      · refine ⟨fun i u hu => ?_, fun hu => by simp at hu⟩
        simp only [Option.some.injEq, Prod.mk.injEq] at hu
        obtain ⟨rfl, rfl⟩ := hu
        exact ⟨v', rfl, h2⟩

/-- x[k] -/
noncomputable def lookK (str : Bool) (z : AV) (ok : Bool) (x key : AV) (H : EH) (k : AV → ER) : ER :=
  iteK (keyOk str key) (mapV x (k (lookRes z ok none)) fun i => blkK H i fun b => mapB' b fun es _ => findK es key (fun v => k (lookRes z ok (some (0, v)))) (k (lookRes z ok none))) none

theorem lookRes_vr {ρ : Nm} {z : AV} (hz : VR ρ z z) {ok : Bool} {i j : Nat} {v v' : AV} (h : VR ρ v v') : VR ρ (lookRes z ok (some (i, v))) (lookRes z ok (some (j, v'))) ∧ VR ρ (lookRes z ok none) (lookRes z ok none) := by
  cases ok <;> simp only [lookRes, if_true, Bool.false_eq_true, if_false]
  · exact ⟨h, hz⟩
  · exact ⟨(VL.cons h (.cons (.bool _) .nil)).tuple, (VL.cons hz (.cons (.bool _) .nil)).tuple⟩

theorem lookK_sound {ρ : Nm} {H : EH} {A : Heap} (hf : Fits ρ H A) {str ok : Bool} {z x key X Key : AV} (hz : VR ρ z z) (hx : VR ρ x X) (hk : VR ρ key Key) {k : AV → ER} {r : Unit} (hr : lookK str z ok x key H k = some r) :
    keyOk str Key = true ∧ ∃ u U, (mapFind A Key X).map (lookRes z ok) = some U ∧ VR ρ u U ∧ k u = some r := by
  have hq := iteK_some hr; clear hr; obtain ⟨h1, hr⟩ := hq
  refine ⟨keyOk_vr hk h1, ?_⟩
  have hq := mapV_some hr; clear hr; rcases hq with ⟨rfl, hr⟩ | ⟨i, rfl, hr⟩
  · cases hx
    exact ⟨_, _, rfl, (lookRes_vr (i := 0) (j := 0) hz hz).2, hr⟩
  · rw [blkK_eq] at hr
    have hq := mapB'_some hr; clear hr; obtain ⟨es, ck, he, hr⟩ := hq
    cases hx with
    | map _ b hb =>
      obtain ⟨es', h2, h3⟩ := hf.map hb he
      have hes : ER' ρ es es' := h3.2
      have fv := findE_vr hk hes 0
      simp only [mapFind, h2]
      rcases findK_some 0 hr with ⟨j, v, q1, q2⟩ | ⟨q1, q2⟩
      · obtain ⟨v', p1, p2⟩ := fv.1 j v q1
        rw [p1]
        exact ⟨_, _, rfl, (lookRes_vr hz p2).1, q2⟩
      · rw [fv.2 q1]
        exact ⟨_, _, rfl, (lookRes_vr (i := 0) (j := 0) hz hz).2, q2⟩

noncomputable def updMK (m key v : AV) (H : EH) (k : EH → ER) : ER := mapV m none fun i => blkK H i fun b => mapB' b fun es ck => putMK es key v ck fun es' ck' => updK i (.map es' ck') H k

theorem updMK_sound {ρ : Nm} {H : EH} {A : Heap} (hf : Fits ρ H A) {m key v M Key V : AV} (hm : VR ρ m M) (hk : VR ρ key Key) (hv : VR ρ v V) {k : EH → ER} {r : Unit} (hr : updMK m key v H k = some r) {K : Heap → Prop}
    (hK : ∀ H' A', Fits ρ H' A' → k H' = some r → K A') : mapUpd A K Key V M := by
  have hq := mapV_some hr; clear hr; rcases hq with ⟨_, hr⟩ | ⟨i, rfl, hr⟩
  · cases hr
  rw [blkK_eq] at hr
  have hq := mapB'_some hr; clear hr; obtain ⟨es, ck, he, hr⟩ := hq
  cases hm with
  | map _ b hb =>
    obtain ⟨es', h2, h3⟩ := hf.map hb he
    have hes : ER' ρ es es' := h3.2
    have fv := findE_vr hk hes 0
    have hlive : (H.blk i).live = true := by rw [he]; rfl
    simp only [mapUpd, h2]
    rcases putMK_some 0 hr with ⟨j, u, q1, q2⟩ | ⟨q1, q2⟩
    · obtain ⟨v', p1, p2⟩ := fv.1 _ u q1
      rw [p1]
      rw [updK_eq] at q2
      simp only [Nat.zero_add]
      refine hK _ _ (hf.upd (x := .map (es.modify j fun e => (key, v, e.2.2)) ck) hb hlive ⟨rfl, by simp [hes.1], fun a k1 v1 b1 k2 v2 b2 e1 e2 => ?_⟩) q2
      rw [List.getElem?_modify] at e1 e2
      cases g1 : es[a]? with
      | none => rw [g1] at e1; simp at e1
      | some x1 =>
        cases g2 : es'[a]? with
        | none => rw [g2] at e2; simp at e2
        | some x2 =>
          rw [g1] at e1
          rw [g2] at e2
          obtain ⟨r1, r2, r3⟩ := hes.2 a x1.1 x1.2.1 x1.2.2 x2.1 x2.2.1 x2.2.2 g1 g2
          have e1' : (if j = a then (key, v, x1.2.2) else x1) = (k1, v1, b1) := by simpa using e1
          have e2' : (if j = a then (Key, V, x2.2.2) else x2) = (k2, v2, b2) := by simpa using e2
          by_cases hja : j = a
          · rw [if_pos hja] at e1' e2'
            cases e1'
            cases e2'
            exact ⟨hk, hv, r3⟩
          · rw [if_neg hja] at e1' e2'
            subst e1'
            subst e2'
            exact ⟨r1, r2, r3⟩
    · rw [fv.2 q1]
      rw [updK_eq] at q2
      refine hK _ _ (hf.upd (x := .map (es ++ [(key, v, ck)]) (ck + 1)) hb hlive ⟨rfl, by simp [hes.1], fun a k1 v1 b1 k2 v2 b2 e1 e2 => ?_⟩) q2
      have hlen := hes.1
      by_cases ha : a < es.length
      · rw [List.getElem?_append_left ha] at e1
        rw [List.getElem?_append_left (by omega)] at e2
        exact hes.2 a _ _ _ _ _ _ e1 e2
      · rw [List.getElem?_append_right (by omega)] at e1
        rw [List.getElem?_append_right (by omega), ← hlen] at e2
        have ha0 : a - es.length = 0 := by
          have := (List.getElem?_eq_some_iff.1 e1).1
          simp at this
          omega
        rw [ha0] at e1 e2
        simp only [List.getElem?_cons_zero, Option.some.injEq, Prod.mk.injEq] at e1 e2
        obtain ⟨rfl, rfl, rfl⟩ := e1
        obtain ⟨rfl, rfl, rfl⟩ := e2
        exact ⟨hk, hv, rfl⟩

/-! what allocates, what stores -/
noncomputable def newK (vs : List AV) (H : EH) (k : Nat → EH → ER) : ER := natK (lenR vs) fun n => putK vs (.rep .undef) 0 n fun t => allocK (.cells n n t) H k
theorem newK_eq (vs : List AV) (H : EH) (k : Nat → EH → ER) : newK vs H k = k H.next (H.alloc (.cells vs.length vs.length (putT vs (.rep .undef) 0 vs.length))) := by
  unfold newK
  rw [natK_eq, putK_eq, allocK_eq, lenR_eq]

/-- What holds behind an allocation. -/
theorem new_sound {ρ : Nm} {H : EH} {A : Heap} (hf : Fits ρ H A) {vs us : List AV} (hv : VL ρ vs us) (hone : vs.all AV.one = true) {b : Nat} (hb : A b = none) :
    Fits (ρ.with H.next b) (H.alloc (.cells vs.length vs.length (putT vs (.rep .undef) 0 vs.length))) (A.set b (.cells us)) := hf.alloc hb (BR.new hv hone rfl (Nat.le_refl _) _)

noncomputable def storeK (size : Nat) (x v : AV) (H : EH) (k : EH → ER) : ER := ptrV x fun i o => cellsV v fun vs => iteK (Nat.beq (lenR vs) size) (blkK H i fun b => cellsB' b fun n c t => iteK (Nat.ble (Nat.add o size) n) (putK vs t o c fun t => updK i (.cells n c t) H k) none) none
theorem storeK_sound {ρ : Nm} {H : EH} {A : Heap} (hf : Fits ρ H A) {size : Nat} {x v X V : AV} (hx : VR ρ x X) (hv : VR ρ v V) {k : EH → ER} {r : Unit} (hr : storeK size x v H k = some r) {K : AV → Heap → Prop}
    (hK : ∀ H' A', Fits ρ H' A' → k H' = some r → K .undef A') : V.cells.length = size ∧ V.cells.all AV.one = true ∧ match (generalizing := false) X with
    | .ptr b off => match A b with
      | some (.cells cs) => off + size ≤ cs.length ∧ K .undef (A.set b (.cells (over cs off V.cells)))
      | _ => False
    | _ => False := by
  have hq := ptrV_some hr; clear hr; obtain ⟨i, o, rfl, hr⟩ := hq
  have hq := cellsV_some hr; clear hr; obtain ⟨hnt, hr⟩ := hq
  have hq := iteK_some hr; clear hr; obtain ⟨hl, hr⟩ := hq
  rw [beq_dec, decide_eq_true_eq, lenR_eq] at hl
  rw [blkK_eq] at hr
  have hq := cellsB'_some hr; clear hr; obtain ⟨n, c, t, hb, hr⟩ := hq
  have hq := iteK_some hr; clear hr; obtain ⟨hle, hr⟩ := hq
  have hle := ble_le hle
  change o + size ≤ n at hle
  rw [putK_eq, updK_eq] at hr
  have hc := vr_cells hv
  have hone := cells_all_one hv hnt
  refine ⟨by rw [← hc.len]; exact hl, vl_all_one hc hone, ?_⟩
  cases hx with
  | ptr _ b _ hρ =>
    obtain ⟨cs, h1, h2⟩ := hf.cells hρ hb
    simp only [h1]
    have hn : cs.length = n := h2.1
    refine ⟨by omega, hK _ _ (hf.upd hρ (by rw [hb]; rfl) (h2.put hc hone (by omega))) hr⟩

end Go.NL
