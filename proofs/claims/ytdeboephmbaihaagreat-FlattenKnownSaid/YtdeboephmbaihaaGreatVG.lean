/- THE EVALUATOR, part G: append; all operations. -/
import Derived.Test.YtdeboephmbaihaaGreatVF
set_option linter.unusedVariables false
set_option linter.unusedSimpArgs false
namespace Go.NL

noncomputable def strV (v : AV) : (List UInt8 → ER) → ER := AV.casesOn (motive_1 := fun _ => (List UInt8 → ER) → ER) v (fun _ _ => none) (fun _ _ _ => none) (fun s k => k s) (fun _ => none) (fun _ _ _ => none) (fun _ _ _ => none) (fun _ => none)
  (fun _ _ _ _ _ _ => none) (fun _ _ _ _ => none) (fun _ => none) (fun _ _ => none) (fun _ => none) (fun _ _ _ _ => none) (fun _ => none) (fun _ _ _ => none) (fun _ _ => none) (fun _ _ => none)
theorem strV_some {v : AV} {k : List UInt8 → ER} {r : Unit} (h : strV v k = some r) : ∃ s, v = .str s ∧ k s = some r := by
  cases v <;> first | (cases h; done) | exact ⟨_, rfl, h⟩
noncomputable def bytesK (s : List UInt8) : (List AV → ER) → ER := List.rec (motive := fun _ => (List AV → ER) → ER) (fun k => k []) (fun c _ ih k => natK c.toNat fun n => ih fun r => k (.int .u8 (.ofNat n) :: r)) s
theorem bytesK_eq (s : List UInt8) (k : List AV → ER) : bytesK s k = k (s.map fun b => .int .u8 b.toNat) := by
  induction s generalizing k with
  | nil => rfl
  | cons c s ih =>
    show (natK c.toNat fun n => bytesK s fun r => k (.int .u8 (.ofNat n) :: r)) = _
    rw [natK_eq, ih]
    rfl

/-- What an append's second argument yields. -/
noncomputable def srcK (str : Bool) (esz : Nat) (x : AV) (H : EH) (k : Nat → List AV → ER) : ER :=
  iteK str (iteK (Nat.beq esz 1) (strV x fun s => bytesK s fun l => natK (lenR l) fun n => k n l) none)
    (sliV x (k 0 []) fun e i o l _ => iteK (Nat.beq e esz) (blkK H i fun b => cellsB' b fun n _ t => iteK (Nat.ble (Nat.add o (Nat.mul l esz)) n) (takeK (Nat.mul l esz) t o fun vs => k l vs) none) none)

theorem takeT_vl {ρ : Nm} {n c : Nat} {t : TA} {cs : List AV} (h : BR ρ (.cells n c t) (.cells cs)) {o m : Nat} (hle : o + m ≤ n) : VL ρ (takeT m t o) ((cs.drop o).take m) ∧ (takeT m t o).all AV.one = true := by
  obtain ⟨h1, h2, h3⟩ := h
  refine ⟨⟨by simp [takeT]; omega, fun j x y hx hy => ?_⟩, ?_⟩
  · have hj : j < m := by
      have := (List.getElem?_eq_some_iff.1 hx).1
      simpa [takeT] using this
    rw [takeT_get t o hj] at hx
    cases hx
    rw [drop_take_get _ _ _ _ hj] at hy
    obtain ⟨_, v, hv, hvr⟩ := h3 (o + j) (by omega)
    rw [hv] at hy
    cases hy
    exact hvr
  · rw [List.all_eq_true]
    intro x hx
    simp only [takeT, List.mem_map, List.mem_range] at hx
    obtain ⟨j, hj, rfl⟩ := hx
    exact (h3 (o + j) (by omega)).1

theorem srcK_sound {ρ : Nm} {H : EH} {A : Heap} (hf : Fits ρ H A) {str : Bool} {esz : Nat} {x X : AV} (hx : VR ρ x X) {k : Nat → List AV → ER} {r : Unit} (hr : srcK str esz x H k = some r) :
    ∃ n vs us, srcAV A str esz X = some (n, us) ∧ VL ρ vs us ∧ vs.all AV.one = true ∧ vs.length = n * esz ∧ k n vs = some r := by
  unfold srcK at hr
  cases str
  · simp only [iteK_eq, Bool.false_eq_true, if_false] at hr
    have hq := sliV_some hr; clear hr; rcases hq with ⟨rfl, hr⟩ | ⟨e, i, o, l, c, rfl, hr⟩
    · cases hx
      exact ⟨0, [], [], by simp [srcAV], .nil, rfl, by simp, hr⟩
    · split at hr
      · rename_i he
        rw [beq_dec, decide_eq_true_eq] at he
        subst he
        rw [blkK_eq] at hr
        have hq := cellsB'_some hr; clear hr; obtain ⟨n, c', t, hb, hr⟩ := hq
        split at hr
        · rename_i hle
          have hle := ble_le hle
          change o + l * e ≤ n at hle
          rw [takeK_eq] at hr
          cases hx with
          | slice _ _ b _ _ _ hρ =>
            obtain ⟨cs, h1, h2⟩ := hf.cells hρ hb
            obtain ⟨q1, q2⟩ := takeT_vl h2 hle
            have hn : cs.length = n := h2.1
            refine ⟨l, _, (cs.drop o).take (l * e), ?_, q1, q2, by rw [takeT_length], hr⟩
            simp only [srcAV, h1, and_self, if_true]
            rw [if_pos (by omega)]
        · cases hr
      · cases hr
  · simp only [iteK_eq, if_true] at hr
    split at hr
    · rename_i he
      rw [beq_dec, decide_eq_true_eq] at he
      subst he
      have hq := strV_some hr; clear hr; obtain ⟨s, rfl, hr⟩ := hq
      rw [bytesK_eq, natK_eq, lenR_eq] at hr
      rw [vr_str hx]
      refine ⟨s.length, _, s.map fun b => .int .u8 b.toNat, by simp [srcAV], plains_vl ?_, ?_, by simp, by simpa using hr⟩
      · simp [AV.plain]
      · simp [AV.one]
    · cases hr

/-- A tree with room for more. -/
noncomputable def roomK (n c : Nat) (t : TA) (k : Nat → TA → ER) : ER := iteK (Nat.ble n c) (k c t) (natK (Nat.add n n) fun c' => k c' (.node c t (.rep .undef)))
theorem roomK_some {n c : Nat} {t : TA} {k : Nat → TA → ER} {r : Unit} (h : roomK n c t k = some r) : ∃ c' t', n ≤ c' ∧ (∀ j, j < c → t'.get j = t.get j) ∧ k c' t' = some r := by
  unfold roomK at h
  rw [iteK_eq] at h
  split at h
  · rename_i hle
    exact ⟨c, t, ble_le hle, fun _ _ => rfl, h⟩
  · rw [natK_eq] at h
    exact ⟨_, _, by show n ≤ n + n; omega, fun j hj => by rw [CT.get_node, if_pos hj], h⟩

noncomputable def fitsRoom (n bytes : Nat) : Bool := and (Nat.ble (Nat.mul n bytes) 140737488355328) (Nat.ble n 4611686018427387904)
theorem fitsRoom_ok {n bytes : Nat} (h : fitsRoom n bytes = true) : roomOk n bytes := by
  unfold fitsRoom at h
  rw [Bool.and_eq_true] at h
  exact ⟨ble_le h.1, ble_le h.2⟩

noncomputable def capLow (c : Cap) : Nat := Cap.rec (motive := fun _ => Nat) (fun n => n) (fun n => n) c
theorem capLow_eq (c : Cap) : capLow c = c.low := by cases c <;> rfl
noncomputable def capCase (c : Cap) (m : Nat) (eq ge : ER) : ER := Cap.rec (motive := fun _ => ER) (fun _ => ge) (fun n => iteK (Nat.ble (Nat.succ n) m) eq none) c

noncomputable def appendK (str : Bool) (esz bytes : Nat) (s x : AV) (H : EH) (k : AV → EH → ER) : ER :=
  srcK str esz x H fun n vs => sliV s
    (iteK (Nat.beq n 0) (k .nilslice H) (iteK (fitsRoom n bytes) (newK vs H fun b H => k (.slice esz b 0 n (.ge n)) H) none))
    fun e i o l cap => iteK (Nat.beq e esz) (blkK H i fun b => cellsB' b fun N c t => natK (Nat.mul l esz) fun le => iteK (Nat.ble (Nat.add o le) N)
      (iteK (Nat.beq n 0) (k (.slice e i o l cap) H) (natK (Nat.add l n) fun m => iteK (and (Nat.ble m (capLow cap)) (Nat.ble (Nat.add o (Nat.mul m esz)) N))
        (putK vs t (Nat.add o le) c fun t => updK i (.cells N c t) H fun H => k (.slice esz i o m cap) H)
        (iteK (fitsRoom m bytes)
          (natK (Nat.mul m esz) fun me =>
            (fun (go : EH → ER) => capCase cap m (go H) (updK i .gone H go))
            (fun H => iteK (Nat.beq o 0)
              (roomK me c t fun c' t' => putK vs t' le c' fun t' => allocK (.cells me c' t') H fun b H => k (.slice esz b 0 m (.ge m)) H)
              (takeK le t o fun old => appK old vs fun all => newK all H fun b H => k (.slice esz b 0 m (.ge m)) H)))
          none))) none) none

theorem appendK_sound {ρ : Nm} {H : EH} {A : Heap} (hf : Fits ρ H A) {str : Bool} {esz bytes : Nat} {s x S X : AV} (hs : VR ρ s S) (hx : VR ρ x X) {k : AV → EH → ER} {r : Unit} (hr : appendK str esz bytes s x H k = some r) {K : AV → Heap → Prop}
    (hK : ∀ ρ' v H' V A', ρ.le ρ' → VR ρ' v V → Fits ρ' H' A' → k v H' = some r → K V A') : appendN A K str esz bytes S X := by
  have hq := srcK_sound hf hx hr; clear hr; obtain ⟨n, vs, us, h1, h2, h3, h4, hr⟩ := hq
  simp only [appendN, h1]
  have hq := sliV_some hr; clear hr; rcases hq with ⟨rfl, hr⟩ | ⟨e, i, o, l, cap, rfl, hr⟩
  · cases hs
    simp only
    rw [iteK_eq, beq_dec] at hr
    simp only [decide_eq_true_eq] at hr
    split
    · rename_i hn
      rw [if_pos hn] at hr
      exact hK ρ _ _ _ _ (.refl _) .nilslice hf hr
    · rename_i hn
      rw [if_neg hn] at hr
      have hq := iteK_some hr; clear hr; obtain ⟨hroom, hr⟩ := hq
      refine ⟨fitsRoom_ok hroom, fun b hb => ?_⟩
      rw [newK_eq] at hr
      exact hK _ _ _ _ _ (hf.le_with b) (.slice _ _ _ _ _ _ (Nm.with_same _ _ _)) (new_sound hf h2 h3 hb) hr
  · have hq := iteK_some hr; clear hr; obtain ⟨he, hr⟩ := hq
    rw [beq_dec, decide_eq_true_eq] at he
    subst he
    rw [blkK_eq] at hr
    have hq := cellsB'_some hr; clear hr; obtain ⟨N, c, t, hb, hr⟩ := hq
    rw [natK_eq] at hr
    have hq := iteK_some hr; clear hr; obtain ⟨hle, hr⟩ := hq
    have hle := ble_le hle
    change o + l * e ≤ N at hle
    cases hs with
    | slice _ _ b _ _ _ hρ =>
      obtain ⟨cs, q1, q2⟩ := hf.cells hρ hb
      have hn : cs.length = N := q2.1
      have hNc : N ≤ c := q2.2.1
      have hlive : (H.blk i).live = true := by rw [hb]; rfl
      simp only [q1, true_and]
      refine ⟨by omega, ?_⟩
      rw [iteK_eq, beq_dec] at hr
      simp only [decide_eq_true_eq] at hr
      split
      · rename_i hn0
        rw [if_pos hn0] at hr
        exact hK ρ _ _ _ _ (.refl _) (.slice _ _ _ _ _ _ hρ) hf hr
      · rename_i hn0
        rw [if_neg hn0, natK_eq, iteK_eq] at hr
        change (if (and (Nat.ble (l + n) (capLow cap)) (Nat.ble (o + (l + n) * e) N)) = true then _ else _) = _ at hr
        simp only [Bool.and_eq_true, ble_dec, decide_eq_true_eq, capLow_eq] at hr
        have hvl : vs.length = n * e := h4
        split
        · rename_i hin
          rw [if_pos (by omega)] at hr
          rw [putK_eq, updK_eq] at hr
          refine hK ρ _ _ _ _ (.refl _) (.slice _ _ _ _ _ _ hρ) (hf.upd hρ hlive (q2.put h2 h3 ?_)) hr
          show o + l * e + vs.length ≤ N
          rw [hvl, Nat.add_assoc, ← Nat.add_mul]
          omega
        · rename_i hin
          rw [if_neg (by omega)] at hr
          have hq := iteK_some hr; clear hr; obtain ⟨hroom, hr⟩ := hq
          refine ⟨fitsRoom_ok hroom, ?_⟩
          rw [natK_eq] at hr
          -- the new block, whatever memory it stands in
          have fin : ∀ {H1 : EH} {A1 : Heap} {b' : Nat}, Fits ρ H1 A1 → A1 b' = none → (iteK (Nat.beq o 0)
              (roomK (Nat.mul (Nat.add l n) e) c t fun c' t' => putK vs t' (Nat.mul l e) c' fun t' => allocK (.cells (Nat.mul (Nat.add l n) e) c' t') H1 fun b H => k (.slice e b 0 (Nat.add l n) (.ge (Nat.add l n))) H)
              (takeK (Nat.mul l e) t o fun old => appK old vs fun all => newK all H1 fun b H => k (.slice e b 0 (Nat.add l n) (.ge (Nat.add l n))) H)) = some r →
              K (.slice e b' 0 (l + n) (.ge (l + n))) (A1.set b' (.cells ((cs.drop o).take (l * e) ++ us))) := by
            intro H1 A1 b' hf1 hb' hz
            have hme : (l + n) * e = l * e + vs.length := by rw [hvl, Nat.add_mul]
            rw [iteK_eq, beq_dec] at hz
            simp only [decide_eq_true_eq] at hz
            split at hz
            · rename_i ho
              subst ho
              have hq := roomK_some hz; clear hz; obtain ⟨c', t', w1, w2, hz⟩ := hq
              change (l + n) * e ≤ c' at w1
              rw [putK_eq, allocK_eq] at hz
              have := BR.more (c' := c') q2 h2 h3 (m := l * e) (by omega) (by omega) (t' := t') (fun j hj => w2 j (by omega))
              rw [← hme] at this
              refine hK _ _ _ _ _ (hf1.le_with b') (.slice _ _ _ _ _ _ (Nm.with_same _ _ _)) (hf1.alloc hb' ?_) hz
              rw [List.drop_zero]
              exact this
            · rw [takeK_eq, appK_eq, newK_eq] at hz
              obtain ⟨w1, w2⟩ := takeT_vl q2 hle
              refine hK _ _ _ _ _ (hf1.le_with b') (.slice _ _ _ _ _ _ (Nm.with_same _ _ _)) (new_sound hf1 (w1.append h2) ?_ hb') hz
              rw [List.all_append, h3]
              simpa using w2
          cases cap with
          | eq cc =>
            have hr : iteK (Nat.ble (Nat.succ cc) (Nat.add l n)) _ none = some r := hr
            have hq := iteK_some hr; clear hr; obtain ⟨hcc, hr⟩ := hq
            have hcc := ble_le hcc
            simp only
            exact ⟨hcc, fun b' hb' => fin hf hb' hr⟩
          | ge cc =>
            simp only
            intro b' hb'
            have hu := hr
            rw [show ∀ x y, capCase (.ge cc) (Nat.add l n) x y = y from fun _ _ => rfl, updK_eq] at hu
            have hg := hf.gone hρ hlive
            by_cases hbb : b' = b
            · subst hbb
              rw [q1] at hb'
              cases hb'
            · exact fin hg (by simp [Heap.del, hbb, hb']) hu

/-! calls -/
abbrev Hdl := FuncId → List AV → EH → (AV → EH → ER) → ER

/-- What is told of a call is so. -/
def HdlOk (P : Program) (hd : Hdl) : Prop := ∀ F args H k r, hd F args H k = some r → ∀ (ρ : Nm) (args' : List AV) (A : Heap) (K : AV → Heap → Prop), VL ρ args args' → Fits ρ H A →
  (∀ ρ' v H' v' A', ρ.le ρ' → VR ρ' v v' → Fits ρ' H' A' → k v H' = some r → K v' A') → NCalls P F args' A K

noncomputable def callK (hd : Hdl) (g : AV) (args : List AV) (H : EH) (k : AV → EH → ER) : ER := funV g fun f first caps => appK args caps fun r => appK first r fun all => hd f all H k

theorem flatten_one (v : AV) (c : Nat) : (List.replicate c [v]).flatten = List.replicate c v := by
  induction c with
  | zero => rfl
  | succ c ih => rw [List.replicate_succ, List.flatten_cons, ih, List.replicate_succ]; rfl

/-- The zeros of a made slice. -/
noncomputable def zerosK (z : List AV) : Nat → EH → (Nat → EH → ER) → ER := List.rec (motive := fun _ => Nat → EH → (Nat → EH → ER) → ER) (fun c H k => newK (List.replicate c ([] : List AV)).flatten H k)
  (fun v z _ c H k => List.rec (motive := fun _ => ER) (allocK (.cells c c (.rep v)) H k) (fun u z' _ => newK (List.replicate c (v :: u :: z')).flatten H k) z) z
theorem zerosK_sound {ρ : Nm} {H : EH} {A : Heap} (hf : Fits ρ H A) {z : List AV} (hz : z.all AV.plain = true) {c : Nat} {k : Nat → EH → ER} {r : Unit} (hr : zerosK z c H k = some r) :
    ∃ H', k H.next H' = some r ∧ ∀ b, A b = none → Fits (ρ.with H.next b) H' (A.set b (.cells (List.replicate c z).flatten)) := by
  have all : ((List.replicate c z).flatten).all AV.plain = true := by
    rw [List.all_eq_true] at hz ⊢
    intro x hx
    rw [List.mem_flatten] at hx
    obtain ⟨l, hl, hx⟩ := hx
    rw [List.mem_replicate] at hl
    rw [hl.2] at hx
    exact hz x hx
  have gen : ∀ {r'}, newK (List.replicate c z).flatten H k = some r' → r' = r → ∃ H', k H.next H' = some r ∧ ∀ b, A b = none → Fits (ρ.with H.next b) H' (A.set b (.cells (List.replicate c z).flatten)) := by
    intro r' h e
    subst e
    rw [newK_eq] at h
    exact ⟨_, h, fun b hb => new_sound hf (plains_vl all) (plains_one all) hb⟩
  cases z with
  | nil => exact gen hr rfl
  | cons v z =>
    cases z with
    | nil =>
      have hr : allocK (.cells c c (.rep v)) H k = some r := hr
      rw [allocK_eq] at hr
      refine ⟨_, hr, fun b hb => hf.alloc hb ?_⟩
      have hv : v.plain = true := by simpa using hz
      refine ⟨by simp, Nat.le_refl _, fun j hj => ⟨plain_one hv, v, ?_, plain_vr hv⟩⟩
      rw [flatten_one, List.getElem?_replicate, if_pos hj]
    | cons u z' => exact gen hr rfl

/-! bytes -/
noncomputable def bytesOfK (l : List AV) : (List UInt8 → ER) → ER := List.rec (motive := fun _ => (List UInt8 → ER) → ER) (fun k => k []) (fun v _ ih k => intV v fun kd n => iteK (Nat.beq (kcode kd) 4) (natK n.toNat fun m => ih fun r => k (UInt8.ofNat m :: r)) none) l
theorem bytesOfK_some : ∀ {l : List AV} {k : List UInt8 → ER} {r : Unit} (_ : bytesOfK l k = some r), ∃ s, l.mapM byteAV = some s ∧ k s = some r
  | [], k, r, h => ⟨[], rfl, h⟩
  | v :: l, k, r, h => by
    have h : (intV v fun kd n => iteK (Nat.beq (kcode kd) 4) (natK n.toNat fun m => bytesOfK l fun r => k (UInt8.ofNat m :: r)) none) = some r := h
    have hq := intV_some h; clear h; obtain ⟨kd, n, rfl, h⟩ := hq
    have hq := iteK_some h; clear h; obtain ⟨hk, h⟩ := hq
    have : kd = .u8 := kcode_inj (b := .u8) hk
    subst this
    rw [natK_eq] at h
    have hq := bytesOfK_some h; clear h; obtain ⟨s, h1, h2⟩ := hq
    exact ⟨UInt8.ofNat n.toNat :: s, by simp [byteAV, h1], h2⟩
theorem byteAV_vr {ρ : Nm} {v V : AV} (h : VR ρ v V) {b : UInt8} (hb : byteAV v = some b) : byteAV V = some b := by
  unfold byteAV at hb
  split at hb
  · rw [vr_int h]; exact hb
  · cases hb
theorem bytes_vl {ρ : Nm} : ∀ {l l' : List AV} (_ : VL ρ l l') {s : List UInt8} (_ : l.mapM byteAV = some s), l'.mapM byteAV = some s
  | [], [], _, s, h => h
  | [], _ :: _, hl, _, _ => by have := hl.len; simp at this
  | _ :: _, [], hl, _, _ => by have := hl.len; simp at this
  | v :: l, v' :: l', hl, s, h => by
    simp only [List.mapM_cons, Option.bind_eq_bind, Option.bind_eq_some_iff, Option.pure_def, Option.some.injEq] at h
    obtain ⟨b, hb, s', hs, rfl⟩ := h
    have h0 := hl.rel 0 v v' rfl rfl
    have ht : VL ρ l l' := ⟨by have := hl.len; simpa using this, fun j c d hc hd => hl.rel (j + 1) c d (by simpa using hc) (by simpa using hd)⟩
    simp [byteAV_vr h0 hb, bytes_vl ht hs]
noncomputable def strOfK (v : AV) (H : EH) (k : AV → ER) : ER := sliV v (k (.str [])) fun e i o l _ => iteK (Nat.beq e 1) (blkK H i fun b => cellsB' b fun n _ t => iteK (Nat.ble (Nat.add o l) n) (takeK l t o fun vs => bytesOfK vs fun s => k (.str s)) none) none
theorem strOfK_sound {ρ : Nm} {H : EH} {A : Heap} (hf : Fits ρ H A) {v V : AV} (hv : VR ρ v V) {k : AV → ER} {r : Unit} (hr : strOfK v H k = some r) : ∃ s, bytesAV A V = some s ∧ k (.str s) = some r := by
  have hq := sliV_some hr; clear hr; rcases hq with ⟨rfl, hr⟩ | ⟨e, i, o, l, c, rfl, hr⟩
  · cases hv
    exact ⟨[], rfl, hr⟩
  · have hq := iteK_some hr; clear hr; obtain ⟨he, hr⟩ := hq
    rw [beq_dec, decide_eq_true_eq] at he
    subst he
    rw [blkK_eq] at hr
    have hq := cellsB'_some hr; clear hr; obtain ⟨n, c', t, hb, hr⟩ := hq
    have hq := iteK_some hr; clear hr; obtain ⟨hle, hr⟩ := hq
    have hle := ble_le hle
    change o + l ≤ n at hle
    rw [takeK_eq] at hr
    have hq := bytesOfK_some hr; clear hr; obtain ⟨s, h1, h2⟩ := hq
    cases hv with
    | slice _ _ b _ _ _ hρ =>
      obtain ⟨cs, q1, q2⟩ := hf.cells hρ hb
      obtain ⟨w1, w2⟩ := takeT_vl q2 hle
      have hn : cs.length = n := q2.1
      refine ⟨s, ?_, h2⟩
      simp only [bytesAV, q1, if_true]
      rw [if_pos (by omega)]
      exact bytes_vl w1 h1

/-! an operation -/
noncomputable def opK (hd : Hdl) (op : NOp) : TA → EH → (AV → EH → ER) → ER :=
  match op with
  | .move x => fun f H k => opdK x f fun v => k v H
  | .load agg x => fun f H k => opdK x f fun v => loadK agg v H fun u => k u H
  | .store size x v => fun f H k => opdK x f fun x => opdK v f fun v => storeK size x v H fun H => k .undef H
  | .bin op ek x y => fun f H k => opdK x f fun x => opdK y f fun y => binK op ek x y fun v => k v H
  | .fieldAddr off x => fun f H k => opdK x f fun x => ptrV x fun b o => natK (Nat.add o off) fun o => k (.ptr b o) H
  | .indexAddr esz arr x i => fun f H k => opdK x f fun x => opdK i f fun i => dfK (qop noHeap (fun o => Opd.rec (motive := fun _ => AV) (fun t => Nat.rec (motive := fun _ => AV) x (fun _ _ => i) t) (fun v => v) o) (.indexAddr esz arr (.tmp 0) (.tmp 1))) fun v => k v H
  | .field agg off x => fun f H k => opdK x f fun x => aggV x fun cs => takeLK agg cs off fun v => k v H
  | .extract x i => fun f H k => opdK x f fun x => tupV x fun cs => nthK cs i fun v => k v H
  | .nilCheck x => fun f H k => opdK x f fun x => ptrV x fun b o => k (.ptr b o) H
  | .build z ps => fun f H k => fillK ps f z fun cs => k (.agg cs) H
  | .zero cs => fun _ H k => allocK (.cells (lenR cs) (lenR cs) (putT cs (.rep .undef) 0 (lenR cs))) H fun b H => k (.ptr b 0) H
  | .box x => fun f H k => opdK x f fun x => cellsV x fun vs => newK vs H fun b H => k (.ptr b 0) H
  | .buildSlice esz len z ps => fun f H k => fillK ps f z fun cs => newK cs H fun b H => k (.slice esz b 0 len (.eq len)) H
  | .mapUpdate str m key v => fun f H k => opdK m f fun m => opdK key f fun key => opdK v f fun v => iteK (keyOk str key) (updMK m key v H fun H => k .undef H) none
  | .makeMap => fun _ H k => allocK (.map [] 0) H fun b H => k (.map b) H
  | .makeSlice esz bytes z l c => fun f H k => opdK l f fun l => opdK c f fun c => intV l fun kl l => intV c fun kc c => iteK (decide (kl = .i64 ∧ kc = .i64 ∧ 0 ≤ l ∧ l ≤ c ∧ c * bytes ≤ 140737488355328 ∧ c ≤ 4611686018427387904))
      (natK l.toNat fun l => natK c.toNat fun c => zerosK z c H fun b H => k (.slice esz b 0 l (.eq c)) H) none
  | .makeFunc g first caps => fun f H k => opdsK first f fun a => opdsK caps f fun c => k (.func g a c) H
  | .lookup str z ok x key => fun f H k => opdK x f fun x => opdK key f fun key => lookK str z ok x key H fun v => k v H
  | .bytesStr x => fun f H k => opdK x f fun x => strOfK x H fun v => k v H
  | .len .map x => fun f H k => opdK x f fun x => mapV x (k (.int .i64 (.ofNat 0)) H) fun i => blkK H i fun b => mapB' b fun es _ => natK es.length fun n => k (.int .i64 (.ofNat n)) H
  | .len kd x => fun f H k => opdK x f fun x => dfK (qop noHeap (fun _ => x) (.len kd (.tmp 0))) fun v => k v H
  | .append str esz bytes s x => fun f H k => opdK s f fun s => opdK x f fun x => appendK str esz bytes s x H k
  | .call g args => fun f H k => opdK g f fun g => opdsK args f fun args => callK hd g args H k
  | op => fun f H k => dfK (qop noHeap (opdS f) op) fun v => k v H

/-- A frame stands as another one. -/
structure FrR (ρ : Nm) (m : Nat) (f : TA) (F : Fr) : Prop where
  full : CT.Full 0 (m + 1) f
  rel : ∀ t, t < m → VR ρ (f.get t) (F t)

def Opd.okIn (m : Nat) : Opd → Bool
  | .tmp t => decide (t < m)
  | .const v => v.fixed
def NOp.okIn (m : Nat) (op : NOp) : Bool := op.opds.all (Opd.okIn m) && op.zeros.all AV.plain

theorem opd_vr {ρ : Nm} {m : Nat} {f : TA} {F : Fr} (hf : FrR ρ m f F) {x : Opd} (hx : x.okIn m = true) : VR ρ (opdS f x) (evalOpd F x) := by
  cases x with
  | tmp t => exact hf.rel t (by simpa [Opd.okIn] using hx)
  | const v =>
    have hv : v.fixed = true := hx
    exact fixed_vr hv
theorem opds_vl {ρ : Nm} {m : Nat} {f : TA} {F : Fr} (hf : FrR ρ m f F) {xs : List Opd} (hx : xs.all (Opd.okIn m) = true) : VL ρ (xs.map (opdS f)) (xs.map (evalOpd F)) := by
  induction xs with
  | nil => exact .nil
  | cons x xs ih =>
    simp only [List.all_cons, Bool.and_eq_true] at hx
    exact .cons (opd_vr hf hx.1) (ih hx.2)
theorem FrR.mono {ρ ρ' : Nm} (hle : ρ.le ρ') {m : Nat} {f : TA} {F : Fr} (h : FrR ρ m f F) : FrR ρ' m f F := ⟨h.full, fun t ht => (h.rel t ht).mono hle⟩

set_option maxHeartbeats 2000000 in
theorem opK_sound {P : Program} {hd : Hdl} (hhd : HdlOk P hd) {ρ : Nm} {m : Nat} {f : TA} {F : Fr} {H : EH} {A : Heap} (hf : FrR ρ m f F) (hH : Fits ρ H A) {op : NOp} (hok : op.okIn m = true) {k : AV → EH → ER} {r : Unit} (hr : opK hd op f H k = some r)
    {K : AV → Heap → Prop} (hK : ∀ ρ' v H' V A', ρ.le ρ' → VR ρ' v V → Fits ρ' H' A' → k v H' = some r → K V A') : cop P (evalOpd F) A K op := by
  simp only [NOp.okIn, Bool.and_eq_true] at hok
  obtain ⟨hops, hzs⟩ := hok
  have ho : ∀ x ∈ op.opds, VR ρ (opdS f x) (evalOpd F x) := fun x hx => opd_vr hf (List.all_eq_true.1 hops x hx)
  -- operations that look at their operands alone
  have alone : ∀ {v : AV}, op.alone = true → qop noHeap (opdS f) op = some v → k v H = some r → (∃ V, qop A (evalOpd F) op = some V ∧ K V A) := by
    intro v ha hq hk
    obtain ⟨V, h1, h2⟩ := qop_vr (A := A) ha ho hzs hq
    exact ⟨V, h1, hK ρ v H V A (.refl _) h2 hH hk⟩
  have quiet : (∃ V, qop A (evalOpd F) op = some V ∧ K V A) → (match qop A (evalOpd F) op with | some v => K v A | none => False) := by
    rintro ⟨V, h1, h2⟩
    rw [h1]
    exact h2
  cases op with
  | move x =>
    simp only [opK, opdK_eq] at hr
    exact quiet (alone rfl rfl hr)
  | load agg x =>
    simp only [opK, opdK_eq] at hr
    obtain ⟨u, U, h1, h2, h3⟩ := loadK_sound hH (ho x (by simp [NOp.opds])) hr
    exact quiet ⟨U, h1, hK ρ u H U A (.refl _) h2 hH h3⟩
  | store size x v =>
    simp only [opK, opdK_eq] at hr
    exact storeK_sound hH (ho x (by simp [NOp.opds])) (ho v (by simp [NOp.opds])) hr fun H' A' h1 h2 => hK ρ _ H' _ A' (.refl _) vr_undef h1 h2
  | bin op ek x y =>
    simp only [opK, opdK_eq] at hr
    obtain ⟨v, h1, h2⟩ := binK_ko op ek _ _ _ _ hr
    exact quiet (alone rfl h1 h2)
  | fieldAddr off x =>
    simp only [opK, opdK_eq] at hr
    have hq := ptrV_some hr; clear hr; obtain ⟨b, o, he, hr⟩ := hq
    rw [natK_eq] at hr
    exact quiet (alone rfl (by simp only [qop, he]; rfl) hr)
  | indexAddr esz arr x i =>
    simp only [opK, opdK_eq] at hr
    obtain ⟨v, h1, h2⟩ := dfK_ko _ _ _ hr
    exact quiet (alone rfl (by simp only [qop] at h1 ⊢; exact h1) h2)
  | field agg off x =>
    simp only [opK, opdK_eq] at hr
    have hq := aggV_some hr; clear hr; obtain ⟨cs, he, hr⟩ := hq
    obtain ⟨v, h1, h2⟩ := takeLK_ko _ _ _ _ _ hr
    exact quiet (alone rfl (by simp only [qop, he]; exact h1) h2)
  | extract x i =>
    simp only [opK, opdK_eq] at hr
    have hq := tupV_some hr; clear hr; obtain ⟨cs, he, hr⟩ := hq
    obtain ⟨v, h1, h2⟩ := nthK_ko _ _ _ _ hr
    exact quiet (alone rfl (by simp only [qop, he]; exact h1) h2)
  | nilCheck x =>
    simp only [opK, opdK_eq] at hr
    have hq := ptrV_some hr; clear hr; obtain ⟨b, o, he, hr⟩ := hq
    exact quiet (alone rfl (by simp only [qop, he]) hr)
  | build z ps =>
    simp only [opK] at hr
    obtain ⟨cs, h1, h2⟩ := fillK_some (fun p hp => ⟨ρ, _, ho p.2.2 (by simp only [NOp.opds, List.mem_map]; exact ⟨p, hp, rfl⟩)⟩) hr
    exact quiet (alone rfl (by simp only [qop, h1]; rfl) h2)
  | zero cs =>
    simp only [opK, allocK_eq, lenR_eq] at hr
    intro b hb
    exact hK _ _ _ _ _ (hH.le_with b) (.ptr _ _ _ (Nm.with_same _ _ _)) (hH.alloc hb (BR.new (plains_vl hzs) (plains_one hzs) rfl (Nat.le_refl _) _)) hr
  | box x =>
    simp only [opK, opdK_eq] at hr
    have hq := cellsV_some hr; clear hr; obtain ⟨hnt, hr⟩ := hq
    rw [newK_eq] at hr
    have hx := ho x (by simp [NOp.opds])
    have hone := cells_all_one hx hnt
    exact ⟨vl_all_one (vr_cells hx) hone, fun b hb => hK _ _ _ _ _ (hH.le_with b) (.ptr _ _ _ (Nm.with_same _ _ _)) (new_sound hH (vr_cells hx) hone hb) hr⟩
  | buildSlice esz len z ps =>
    simp only [opK] at hr
    have hp : ∀ p ∈ ps, VR ρ (opdS f p.2.2) (evalOpd F p.2.2) := fun p hp => ho p.2.2 (by simp only [NOp.opds, List.mem_map]; exact ⟨p, hp, rfl⟩)
    obtain ⟨cs, h1, h2⟩ := fillK_some (fun p hp' => ⟨ρ, _, hp p hp'⟩) hr
    obtain ⟨cs', q1, q2, q3⟩ := fillAV_vl hp (plains_vl hzs) (plains_one hzs) h1
    have hc : cop P (evalOpd F) A K (.buildSlice esz len z ps) = (match fillAV z (ps.map fun (o, n, x) => (o, n, evalOpd F x)) with | some cs => ∀ b, A b = none → K (.slice esz b 0 len (.eq len)) (A.set b (.cells cs)) | none => False) := rfl
    have q1' : fillAV z (ps.map fun (o, n, x) => (o, n, evalOpd F x)) = some cs' := q1
    rw [hc, q1']
    rw [newK_eq] at h2
    exact fun b hb => hK _ _ _ _ _ (hH.le_with b) (.slice _ _ _ _ _ _ (Nm.with_same _ _ _)) (new_sound hH q2 q3 hb) h2
  | mapUpdate str mm key v =>
    simp only [opK, opdK_eq] at hr
    have hq := iteK_some hr; clear hr; obtain ⟨h1, hr⟩ := hq
    exact ⟨keyOk_vr (ho key (by simp [NOp.opds])) h1, updMK_sound hH (ho mm (by simp [NOp.opds])) (ho key (by simp [NOp.opds])) (ho v (by simp [NOp.opds])) hr fun H' A' q1 q2 => hK ρ _ H' _ A' (.refl _) vr_undef q1 q2⟩
  | makeMap =>
    simp only [opK, allocK_eq] at hr
    intro b hb
    exact hK _ _ _ _ _ (hH.le_with b) (.map _ _ (Nm.with_same _ _ _)) (hH.alloc (x := .map [] 0) hb ⟨rfl, rfl, fun i k v b' k' v' b'' h => by simp at h⟩) hr
  | makeSlice esz bytes z l c =>
    simp only [opK, opdK_eq] at hr
    have hq := intV_some hr; clear hr; obtain ⟨kl, ln, hl, hr⟩ := hq
    have hq := intV_some hr; clear hr; obtain ⟨kc, cn, hc, hr⟩ := hq
    have hq := iteK_some hr; clear hr; obtain ⟨hcond, hr⟩ := hq
    rw [decide_eq_true_eq] at hcond
    obtain ⟨rfl, rfl, c1, c2, c3, c4⟩ := hcond
    have hl' := ho l (by simp [NOp.opds])
    have hc' := ho c (by simp [NOp.opds])
    rw [hl] at hl'
    rw [hc] at hc'
    rw [natK_eq, natK_eq] at hr
    obtain ⟨H', q1, q2⟩ := zerosK_sound hH hzs hr
    simp only [cop, vr_int hl', vr_int hc']
    exact ⟨c1, c2, c3, c4, fun b hb => hK _ _ _ _ _ (hH.le_with b) (.slice _ _ _ _ _ _ (Nm.with_same _ _ _)) (q2 b hb) q1⟩
  | makeFunc g first caps =>
    simp only [opK, opdsK_eq] at hr
    exact quiet (alone rfl rfl hr)
  | lookup str z ok x key =>
    simp only [opK, opdK_eq] at hr
    have hz : VR ρ z z := by
      have hzz := hzs
      simp only [NOp.zeros] at hzz
      cases z with
      | agg cs => exact (plains_vl hzz).agg (plains_one hzz)
      | _ => exact plain_vr (by simpa [AV.cells] using hzz)
    obtain ⟨h0, u, U, h1, h2, h3⟩ := lookK_sound hH hz (ho x (by simp [NOp.opds])) (ho key (by simp [NOp.opds])) hr
    refine quiet ⟨U, ?_, hK ρ u H U A (.refl _) h2 hH h3⟩
    simp only [qop, h0]
    exact h1
  | len kd x =>
    cases kd with
    | map =>
      simp only [opK, opdK_eq] at hr
      have hx := ho x (by simp [NOp.opds])
      have hq := mapV_some hr; clear hr; rcases hq with ⟨he, hr⟩ | ⟨i, he, hr⟩
      · rw [he] at hx
        generalize hX : evalOpd F x = X at hx
        cases hx
        exact quiet ⟨.int .i64 0, by simp only [qop, lenAV, hX]; rfl, hK ρ _ H _ A (.refl _) (.int _ _) hH hr⟩
      · rw [blkK_eq] at hr
        have hq := mapB'_some hr; clear hr; obtain ⟨es, ck, hb, hr⟩ := hq
        rw [natK_eq] at hr
        rw [he] at hx
        generalize hX : evalOpd F x = X at hx
        cases hx with
        | map _ b hρ =>
          obtain ⟨es', h1, h2⟩ := hH.map hρ hb
          refine quiet ⟨.int .i64 es.length, ?_, hK ρ _ H _ A (.refl _) (.int _ _) hH hr⟩
          simp only [qop, lenAV, hX, h1, ← h2.2.1]
          rfl
    | str =>
      simp only [opK, opdK_eq] at hr
      obtain ⟨v, h1, h2⟩ := dfK_ko _ _ _ hr
      exact quiet (alone rfl (by simp only [qop] at h1 ⊢; exact h1) h2)
    | slice =>
      simp only [opK, opdK_eq] at hr
      obtain ⟨v, h1, h2⟩ := dfK_ko _ _ _ hr
      exact quiet (alone rfl (by simp only [qop] at h1 ⊢; exact h1) h2)
  | bytesStr x =>
    simp only [opK, opdK_eq] at hr
    obtain ⟨s, h1, h2⟩ := strOfK_sound hH (ho x (by simp [NOp.opds])) hr
    exact quiet ⟨.str s, by simp only [qop, h1]; rfl, hK ρ _ H _ A (.refl _) (.str _) hH h2⟩
  | append str esz bytes s x =>
    simp only [opK, opdK_eq] at hr
    exact appendK_sound hH (ho s (by simp [NOp.opds])) (ho x (by simp [NOp.opds])) hr hK
  | call g args =>
    simp only [opK, opdK_eq, opdsK_eq] at hr
    have hq := funV_some hr; clear hr; obtain ⟨fn, first, caps, hg, hr⟩ := hq
    rw [appK_eq, appK_eq] at hr
    have hgv := ho g (by simp [NOp.opds])
    rw [hg] at hgv
    obtain ⟨first', caps', he, hl1, hl2⟩ := vr_func hgv
    have hargs : VL ρ (args.map (opdS f)) (args.map (evalOpd F)) := opds_vl hf (by
      simp only [NOp.opds, List.all_cons, Bool.and_eq_true] at hops
      exact hops.2)
    simp only [cop, he]
    rw [← List.append_assoc] at hr
    exact hhd fn _ H k r hr ρ _ A K ((hl1.append hargs).append hl2) hH hK
  | pick c a b => simp only [opK] at hr; obtain ⟨v, h1, h2⟩ := dfK_ko _ _ _ hr; exact quiet (alone rfl h1 h2)
  | un op x => simp only [opK] at hr; obtain ⟨v, h1, h2⟩ := dfK_ko _ _ _ hr; exact quiet (alone rfl h1 h2)
  | convInt kd x => simp only [opK] at hr; obtain ⟨v, h1, h2⟩ := dfK_ko _ _ _ hr; exact quiet (alone rfl h1 h2)
  | convSame x => simp only [opK] at hr; obtain ⟨v, h1, h2⟩ := dfK_ko _ _ _ hr; exact quiet (alone rfl h1 h2)
  | indexStr x i => simp only [opK] at hr; obtain ⟨v, h1, h2⟩ := dfK_ko _ _ _ hr; exact quiet (alone rfl h1 h2)
  | indexArr agg esz len x i => simp only [opK] at hr; obtain ⟨v, h1, h2⟩ := dfK_ko _ _ _ hr; exact quiet (alone rfl h1 h2)
  | slice esz x lo hi mx => simp only [opK] at hr; obtain ⟨v, h1, h2⟩ := dfK_ko _ _ _ hr; exact quiet (alone rfl h1 h2)
  | makeIface t x => simp only [opK] at hr; obtain ⟨v, h1, h2⟩ := dfK_ko _ _ _ hr; exact quiet (alone rfl h1 h2)
  | max x y => simp only [opK] at hr; obtain ⟨v, h1, h2⟩ := dfK_ko _ _ _ hr; exact quiet (alone rfl h1 h2)
  | min x y => simp only [opK] at hr; obtain ⟨v, h1, h2⟩ := dfK_ko _ _ _ hr; exact quiet (alone rfl h1 h2)

end Go.NL
