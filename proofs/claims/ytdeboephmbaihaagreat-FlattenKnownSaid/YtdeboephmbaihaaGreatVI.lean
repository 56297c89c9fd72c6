/- THE EVALUATOR, part I: Sort, Compact, Sorted(maps.Keys(..)) at numbers, by their contracts. -/
import Derived.Test.YtdeboephmbaihaaGreatVH
import Derived.Test.YtdeboephmbaihaaGreatSC
set_option linter.unusedVariables false
set_option linter.unusedSimpArgs false
namespace Go.NL
open Go.Proofs

def insI (x : Int) : List Int → List Int
  | [] => [x]
  | y :: l => if x ≤ y then x :: y :: l else y :: insI x l
def sortI : List Int → List Int
  | [] => []
  | x :: l => insI x (sortI l)
theorem insI_perm (x : Int) : ∀ l, (insI x l).Perm (x :: l)
  | [] => .refl _
  | y :: l => by
    simp only [insI]
    split
    · exact .refl _
    · exact ((insI_perm x l).cons y).trans (.swap x y l)
theorem sortI_perm : ∀ l, (sortI l).Perm l
  | [] => .refl _
  | x :: l => (insI_perm x _).trans ((sortI_perm l).cons x)
theorem insI_sorted (x : Int) : ∀ l, l.Pairwise (fun a b => (decide (a ≤ b)) = true) → (insI x l).Pairwise (fun a b => (decide (a ≤ b)) = true)
  | [], _ => by simp [insI]
  | y :: l, h => by
    simp only [insI]
    rw [List.pairwise_cons] at h
    split
    · rename_i hxy
      refine List.pairwise_cons.2 ⟨fun z hz => ?_, List.pairwise_cons.2 h⟩
      rcases List.mem_cons.1 hz with rfl | hz
      · simpa using hxy
      · have := h.1 z hz
        simp only [decide_eq_true_eq] at this ⊢
        omega
    · rename_i hxy
      refine List.pairwise_cons.2 ⟨fun z hz => ?_, insI_sorted x l h.2⟩
      rcases List.mem_cons.1 ((insI_perm x l).mem_iff.1 hz) with rfl | hz
      · simp only [decide_eq_true_eq]; omega
      · exact h.1 z hz
theorem sortI_sorted : ∀ l, (sortI l).Pairwise (fun a b => (decide (a ≤ b)) = true)
  | [] => List.Pairwise.nil
  | x :: l => insI_sorted x _ (sortI_sorted l)
theorem sortI_eq (l : List Int) : l.mergeSort (fun x y => decide (x ≤ y)) = sortI l := by
  refine List.Perm.eq_of_pairwise (le := fun a b => (decide (a ≤ b)) = true) ?_ ?_ (sortI_sorted l) ((List.mergeSort_perm l _).trans (sortI_perm l).symm)
  · intro a b _ _ h1 h2
    simp only [decide_eq_true_eq] at h1 h2
    omega
  · exact List.pairwise_mergeSort (by intro a b c h1 h2; simp only [decide_eq_true_eq] at *; omega) (by intro a b; simp only [Bool.or_eq_true, decide_eq_true_eq]; omega) l

/-- Numbers, out of values. -/
noncomputable def intsK (l : List AV) : (List Int → ER) → ER := List.rec (motive := fun _ => (List Int → ER) → ER) (fun k => k []) (fun v _ ih k => intV v fun kd n => iteK (Nat.beq (kcode kd) 3) (ih fun r => k (n :: r)) none) l
theorem intsK_some {l : List AV} {k : List Int → ER} {r : Unit} (h : intsK l k = some r) : ∃ zs, l = ints zs ∧ k zs = some r := by
  induction l generalizing k with
  | nil => exact ⟨[], rfl, h⟩
  | cons v l ih =>
    replace h : (intV v fun kd n => iteK (Nat.beq (kcode kd) 3) (intsK l fun r => k (n :: r)) none) = some r := h
    have hq := intV_some h; clear h; obtain ⟨kd, n, rfl, h⟩ := hq
    have hq := iteK_some h; clear h; obtain ⟨hk, h⟩ := hq
    have : kd = .i64 := kcode_inj (b := .i64) hk
    subst this
    have hq := ih h; clear h; obtain ⟨zs, rfl, h⟩ := hq
    exact ⟨n :: zs, rfl, h⟩
theorem ints_vl {ρ : Nm} {zs : List Int} {l : List AV} (h : VL ρ (ints zs) l) : l = ints zs := by
  have hl := h.len
  apply List.ext_getElem
  · omega
  · intro i h1 h2
    have := h.get i h2 h1
    simp only [ints, List.getElem_map] at this ⊢
    exact vr_int this
theorem ints_self {ρ : Nm} (zs : List Int) : VL ρ (ints zs) (ints zs) ∧ (ints zs).all AV.one = true := by
  have : (ints zs).all AV.plain = true := by simp [ints, AV.plain]
  exact ⟨plains_vl this, plains_one this⟩

theorem over_ints {cs : List AV} {zs ws : List Int} {l : Nat} (h : cs.take l = ints zs) (hl : l ≤ cs.length) (hw : ws.length = l) : cs = ints zs ++ cs.drop l ∧ over cs 0 (ints ws) = ints ws ++ cs.drop l := by
  refine ⟨by rw [← h, List.take_append_drop], ?_⟩
  simp [over, ints, hw]

/-- A slice of numbers, from its block's head on. -/
noncomputable def intSlK (v : AV) (H : EH) (empty : ER) (k : Nat → Nat → Nat → Nat → TA → Cap → List Int → ER) : ER :=
  sliV v empty fun e i o l cap => iteK (and (Nat.beq e 1) (and (Nat.beq o 0) (and (Nat.ble 1 l) (Nat.ble l 4611686018427387903)))) (blkK H i fun b => cellsB' b fun n c t => iteK (Nat.ble l n) (takeK l t 0 fun vs => intsK vs fun zs => k i l n c t cap zs) none) none
theorem intSlK_some {v V : AV} {H : EH} {empty : ER} {k : Nat → Nat → Nat → Nat → TA → Cap → List Int → ER} {r : Unit} (h : intSlK v H empty k = some r) {ρ : Nm} {A : Heap} (hv : VR ρ v V) (hf : Fits ρ H A) :
    (V = .nilslice ∧ empty = some r) ∨ ∃ i b l n c t cap cs zs, ρ i = some b ∧ V = .slice 1 b 0 l cap ∧ (H.blk i).live = true ∧ BR ρ (.cells n c t) (.cells cs) ∧ A b = some (.cells cs) ∧ zs.length = l ∧ l < 4611686018427387904 ∧ zs ≠ [] ∧ l ≤ n ∧ cs.length = n ∧ cs.take l = ints zs ∧ k i l n c t cap zs = some r := by
  have hq := sliV_some h; clear h; rcases hq with ⟨rfl, h⟩ | ⟨e, i, o, l, cap, rfl, h⟩
  · cases hv; exact .inl ⟨rfl, h⟩
  · have hq := iteK_some h; clear h; obtain ⟨h1, h⟩ := hq
    simp only [Bool.and_eq_true, beq_dec, decide_eq_true_eq] at h1
    obtain ⟨rfl, rfl, h2, h3⟩ := h1
    have h2 := ble_le h2
    have h3 := ble_le h3
    rw [blkK_eq] at h
    have hq := cellsB'_some h; clear h; obtain ⟨n, c, t, hb, h⟩ := hq
    have hq := iteK_some h; clear h; obtain ⟨hln, h⟩ := hq
    have hln := ble_le hln
    rw [takeK_eq] at h
    have hq := intsK_some h; clear h; obtain ⟨zs, hz, h⟩ := hq
    cases hv with
    | slice _ _ b _ _ _ hρ =>
      obtain ⟨cs, q1, q2⟩ := hf.cells hρ hb
      obtain ⟨w1, w2⟩ := takeT_vl q2 (o := 0) (m := l) (by omega)
      rw [hz] at w1
      have w3 := ints_vl w1
      rw [List.drop_zero] at w3
      have hzl : zs.length = l := by
        have := takeT_length l 0 t
        rw [hz] at this
        simpa [ints] using this
      refine .inr ⟨i, b, l, n, c, t, cap, cs, zs, hρ, rfl, by rw [hb]; rfl, q2, q1, hzl, by omega, ?_, hln, q2.1, w3, h⟩
      intro e
      subst e
      simp at hzl
      omega

noncomputable def sortSK (args : List AV) (H : EH) (k : AV → EH → ER) : ER := List.rec (motive := fun _ => ER) none (fun v r _ => List.rec (motive := fun _ => ER) (intSlK v H (k (.tuple []) H) fun i l n c t cap zs => putK (ints (sortI zs)) t 0 c fun t => updK i (.cells n c t) H fun H => k (.tuple []) H) (fun _ _ _ => none) r) args
theorem sortSK_ok : SpOk Tryz.prog 64 sortSK := by
  intro args H k r h ρ args' A K hl hf hK
  cases args with
  | nil => cases h
  | cons a args =>
    cases args with
    | cons _ _ => cases h
    | nil =>
      have hlen := hl.len
      obtain ⟨a', rfl⟩ : ∃ a', args' = [a'] := by
        cases args' with
        | nil => simp at hlen
        | cons x xs => cases xs with
          | nil => exact ⟨x, rfl⟩
          | cons _ _ => simp at hlen
      have ha := hl.rel 0 a a' rfl rfl
      replace h : (intSlK a H (k (.tuple []) H) fun i l n c t cap zs => putK (ints (sortI zs)) t 0 c fun t => updK i (.cells n c t) H fun H => k (.tuple []) H) = some r := h
      rcases intSlK_some h ha hf with ⟨rfl, h⟩ | ⟨i, b, l, n, c, t, cap, cs, zs, hρ, rfl, hlive, hbr, hA, hzl, hlt, hz, hln, hcs, htake, h⟩
      · exact sort_nil (hK ρ _ H _ A (.refl _) (.tuple _ _ rfl (fun i h => by simp at h)) hf h)
      · rw [putK_eq, updK_eq] at h
        have hsl : (sortI zs).length = zs.length := (sortI_perm zs).length_eq
        obtain ⟨e1, e2⟩ := over_ints htake (by omega) (ws := sortI zs) (by omega)
        subst hzl
        refine sort_ints (rest := cs.drop zs.length) (by rw [hA, ← e1]) hlt hz ?_
        rw [sortI_eq, ← e2]
        have hs := ints_self (ρ := ρ) (sortI zs)
        exact hK ρ _ _ _ _ (.refl _) (.tuple _ _ rfl (fun i h => by simp at h)) (hf.upd hρ hlive (hbr.put hs.1 hs.2 (by simp [ints]; omega))) h

noncomputable def compSK (args : List AV) (H : EH) (k : AV → EH → ER) : ER := List.rec (motive := fun _ => ER) none (fun v r _ => List.rec (motive := fun _ => ER) (intSlK v H (k .nilslice H) fun i l n c t cap zs => natK (Lib.compact zs).length fun m => iteK (Nat.ble m l)
  (putK (ints (Lib.compact zs ++ List.replicate (zs.length - (Lib.compact zs).length) 0)) t 0 c fun t => updK i (.cells n c t) H fun H => k (.slice 1 i 0 m cap) H) none) (fun _ _ _ => none) r) args
theorem compSK_ok : SpOk Tryz.prog 65 compSK := by
  intro args H k r h ρ args' A K hl hf hK
  cases args with
  | nil => cases h
  | cons a args =>
    cases args with
    | cons _ _ => cases h
    | nil =>
      have hlen := hl.len
      obtain ⟨a', rfl⟩ : ∃ a', args' = [a'] := by
        cases args' with
        | nil => simp at hlen
        | cons x xs => cases xs with
          | nil => exact ⟨x, rfl⟩
          | cons _ _ => simp at hlen
      have ha := hl.rel 0 a a' rfl rfl
      replace h : (intSlK a H (k .nilslice H) fun i l n c t cap zs => natK (Lib.compact zs).length fun m => iteK (Nat.ble m l)
        (putK (ints (Lib.compact zs ++ List.replicate (zs.length - (Lib.compact zs).length) 0)) t 0 c fun t => updK i (.cells n c t) H fun H => k (.slice 1 i 0 m cap) H) none) = some r := h
      rcases intSlK_some h ha hf with ⟨rfl, h⟩ | ⟨i, b, l, n, c, t, cap, cs, zs, hρ, rfl, hlive, hbr, hA, hzl, hlt, hz, hln, hcs, htake, h⟩
      · exact compact_nil (hK ρ _ H _ A (.refl _) .nilslice hf h)
      · rw [natK_eq] at h
        have hq := iteK_some h; clear h; obtain ⟨hm, h⟩ := hq
        have hm := ble_le hm
        rw [putK_eq, updK_eq] at h
        subst hzl
        have hsl : (Lib.compact zs ++ List.replicate (zs.length - (Lib.compact zs).length) 0).length = zs.length := by simp; omega
        obtain ⟨e1, e2⟩ := over_ints htake (by omega) (ws := Lib.compact zs ++ List.replicate (zs.length - (Lib.compact zs).length) 0) hsl
        refine compact_ints (rest := cs.drop zs.length) (by rw [hA, ← e1]) hlt hz hm ?_
        rw [← e2]
        have hs := ints_self (ρ := ρ) (Lib.compact zs ++ List.replicate (zs.length - (Lib.compact zs).length) 0)
        exact hK ρ _ _ _ _ (.refl _) (.slice _ _ _ _ _ _ hρ) (hf.upd hρ hlive (hbr.put hs.1 hs.2 (by simp [ints]; omega))) h

/-! the keys of a map -/
/-- The keys, if they are numbers and lie as they were put in. -/
noncomputable def keysK (es : List (AV × AV × Nat)) : Nat → (List (Int × AV) → ER) → ER := List.rec (motive := fun _ => Nat → (List (Int × AV) → ER) → ER) (fun _ k => k [])
  (fun e _ ih n k => intV e.1 fun kd m => iteK (and (Nat.beq (kcode kd) 3) (Nat.beq e.2.2 n)) (ih (Nat.succ n) fun r => k ((m, e.2.1) :: r)) none) es
theorem keysK_some {ρ : Nm} : ∀ {es es' : List (AV × AV × Nat)} (_ : ER' ρ es es') {n : Nat} {k : List (Int × AV) → ER} {r : Unit} (_ : keysK es n k = some r), ∃ m m', es' = ents id m' n ∧ m.map (·.1) = m'.map (·.1) ∧ k m = some r
  | [], [], _, n, k, r, h => ⟨[], [], rfl, rfl, h⟩
  | [], _ :: _, he, _, _, _, _ => by have := he.1; simp at this
  | _ :: _, [], he, _, _, _, _ => by have := he.1; simp at this
  | (a, b, c) :: es, (a', b', c') :: es', he, n, k, r, h => by
    obtain ⟨h1, h2, h3, h4⟩ := er_tail he
    replace h : (intV a fun kd m => iteK (and (Nat.beq (kcode kd) 3) (Nat.beq c n)) (keysK es (Nat.succ n) fun r => k ((m, b) :: r)) none) = some r := h
    have hq := intV_some h; clear h; obtain ⟨kd, m, rfl, h⟩ := hq
    have hq := iteK_some h; clear h; obtain ⟨hc, h⟩ := hq
    simp only [Bool.and_eq_true] at hc
    have hkd : kd = .i64 := kcode_inj (b := .i64) hc.1
    have hcn := hc.2
    rw [beq_dec, decide_eq_true_eq] at hcn
    subst hkd
    obtain ⟨q, q', p1, p2, p3⟩ := keysK_some h4 h
    have e1 := vr_int h1
    simp only at e1 h3
    exact ⟨(m, b) :: q, (m, b') :: q', by simp only [ents, id]; rw [p1, e1, ← h3, hcn], by simp [p2], p3⟩

noncomputable def allNew : List Int → Bool
  | [] => true
  | x :: l => l.all (fun y => !eqI x y) && allNew l && decide (-9223372036854775808 ≤ x ∧ x ≤ 9223372036854775807)
theorem allNew_ok : ∀ {l : List Int}, allNew l = true → l.Nodup ∧ ∀ x ∈ l, -9223372036854775808 ≤ x ∧ x ≤ 9223372036854775807
  | [], _ => ⟨List.nodup_nil, by simp⟩
  | x :: l, h => by
    simp only [allNew, Bool.and_eq_true, decide_eq_true_eq] at h
    obtain ⟨⟨h1, h2⟩, h3⟩ := h
    obtain ⟨q1, q2⟩ := allNew_ok h2
    refine ⟨List.nodup_cons.2 ⟨fun hx => ?_, q1⟩, fun y hy => ?_⟩
    · rw [List.all_eq_true] at h1
      have := h1 x hx
      rw [eqI_eq] at this
      simp at this
    · rcases List.mem_cons.1 hy with rfl | hy
      · exact h3
      · exact q2 y hy

noncomputable def keysSK (args : List AV) (H : EH) (k : AV → EH → ER) : ER := List.rec (motive := fun _ => ER) none (fun v r _ => List.rec (motive := fun _ => ER) (funV v fun f first caps => iteK (and (Nat.beq f 127) (Nat.beq (lenR first) 0))
    (List.rec (motive := fun _ => ER) none (fun p q _ => List.rec (motive := fun _ => ER) (ptrV p fun bx o => iteK (Nat.beq o 0) (blkK H bx fun b => cellsB' b fun n _ t => iteK (Nat.beq n 1) (getK t 0 fun mv => mapV mv none fun i => blkK H i fun b => mapB' b fun es ck =>
      keysK es 0 fun m => iteK (and (allNew (m.map (·.1))) (and (Nat.beq ck m.length) (Nat.ble (Nat.mul m.length 8) 140737488355328)))
        (List.rec (motive := fun _ => ER) (k .nilslice H) (fun _ _ _ => natK m.length fun l => newK (ints (sortI (m.map (·.1)))) H fun b H => k (.slice 1 b 0 l (.ge l)) H) m) none) none) none) (fun _ _ _ => none) q) caps) none) (fun _ _ _ => none) r) args

theorem one_of_vl {ρ : Nm} {a : AV} {l : List AV} (h : VL ρ [a] l) : ∃ b, l = [b] ∧ VR ρ a b := by
  have hlen := h.len
  cases l with
  | nil => simp at hlen
  | cons x xs => cases xs with
    | nil => exact ⟨x, rfl, h.rel 0 a x rfl rfl⟩
    | cons _ _ => simp at hlen

theorem keysSK_ok : SpOk Tryz.prog 67 keysSK := by
  intro args H k r h ρ args' A K hl hf hK
  cases args with
  | nil => cases h
  | cons a args =>
    cases args with
    | cons _ _ => cases h
    | nil =>
      obtain ⟨a', rfl, ha⟩ := one_of_vl hl
      replace h : (funV a fun f first caps => iteK (and (Nat.beq f 127) (Nat.beq (lenR first) 0))
        (List.rec (motive := fun _ => ER) none (fun p q _ => List.rec (motive := fun _ => ER) (ptrV p fun bx o => iteK (Nat.beq o 0) (blkK H bx fun b => cellsB' b fun n _ t => iteK (Nat.beq n 1) (getK t 0 fun mv => mapV mv none fun i => blkK H i fun b => mapB' b fun es ck =>
          keysK es 0 fun m => iteK (and (allNew (m.map (·.1))) (and (Nat.beq ck m.length) (Nat.ble (Nat.mul m.length 8) 140737488355328)))
            (List.rec (motive := fun _ => ER) (k .nilslice H) (fun _ _ _ => natK m.length fun l => newK (ints (sortI (m.map (·.1)))) H fun b H => k (.slice 1 b 0 l (.ge l)) H) m) none) none) none) (fun _ _ _ => none) q) caps) none) = some r := h
      have hq := funV_some h; clear h; obtain ⟨f, first, caps, rfl, h⟩ := hq
      have hq := iteK_some h; clear h; obtain ⟨hc, h⟩ := hq
      simp only [Bool.and_eq_true, beq_dec, decide_eq_true_eq, lenR_eq] at hc
      obtain ⟨rfl, hfirst⟩ := hc
      cases first with
      | cons _ _ => simp at hfirst
      | nil =>
        cases caps with
        | nil => cases h
        | cons p q =>
          cases q with
          | cons _ _ => cases h
          | nil =>
            replace h : (ptrV p fun bx o => iteK (Nat.beq o 0) (blkK H bx fun b => cellsB' b fun n _ t => iteK (Nat.beq n 1) (getK t 0 fun mv => mapV mv none fun i => blkK H i fun b => mapB' b fun es ck =>
              keysK es 0 fun m => iteK (and (allNew (m.map (·.1))) (and (Nat.beq ck m.length) (Nat.ble (Nat.mul m.length 8) 140737488355328)))
                (List.rec (motive := fun _ => ER) (k .nilslice H) (fun _ _ _ => natK m.length fun l => newK (ints (sortI (m.map (·.1)))) H fun b H => k (.slice 1 b 0 l (.ge l)) H) m) none) none) none) = some r := h
            have hq := ptrV_some h; clear h; obtain ⟨bx, o, rfl, h⟩ := hq
            have hq := iteK_some h; clear h; obtain ⟨ho, h⟩ := hq
            rw [beq_dec, decide_eq_true_eq] at ho
            subst ho
            rw [blkK_eq] at h
            have hq := cellsB'_some h; clear h; obtain ⟨n, c, t, hb, h⟩ := hq
            have hq := iteK_some h; clear h; obtain ⟨hn, h⟩ := hq
            rw [beq_dec, decide_eq_true_eq] at hn
            subst hn
            rw [getK_eq] at h
            have hq := mapV_some h; clear h; rcases hq with ⟨_, h⟩ | ⟨i, hi, h⟩
            · cases h
            rw [blkK_eq] at h
            have hq := mapB'_some h; clear h; obtain ⟨es, ck, he, h⟩ := hq
            obtain ⟨first', caps', rfl, hl1, hl2⟩ := vr_func ha
            obtain ⟨p', rfl, hp⟩ := one_of_vl hl2
            have hfirst' : first' = [] := by
              have := hl1.len
              cases first' with
              | nil => rfl
              | cons _ _ => simp at this
            subst hfirst'
            cases hp with
            | ptr _ bx' _ hρ =>
              obtain ⟨cs, g1, g2⟩ := hf.cells hρ hb
              obtain ⟨w, hw1, hw2⟩ := (g2.2.2 0 (by omega)).2
              rw [hi] at hw2
              cases hw2 with
              | map _ mb hmρ =>
                obtain ⟨es', k1, k2⟩ := hf.map hmρ he
                have hq := keysK_some (show ER' ρ es es' from k2.2) h; clear h; obtain ⟨m, m', r1, r2, h⟩ := hq
                have hq := iteK_some h; clear h; obtain ⟨hcond, h⟩ := hq
                simp only [Bool.and_eq_true, beq_dec, decide_eq_true_eq] at hcond
                obtain ⟨c1, c2, c3⟩ := hcond
                have c3 := ble_le c3
                have hlen : m.length = m'.length := by
                  have := congrArg List.length r2
                  simpa using this
                obtain ⟨d1, d2⟩ := allNew_ok c1
                have hcs : cs = [.map mb] := by
                  have := g2.1
                  cases cs with
                  | nil => simp at this
                  | cons x xs =>
                    cases xs with
                    | nil => simp at hw1; rw [hw1]
                    | cons _ _ => simp at this
                subst hcs
                refine sorted_keys id m' ⟨by rw [← r2]; exact d1, fun p hp => d2 p.1 (by rw [r2]; exact List.mem_map.2 ⟨p, hp, rfl⟩)⟩ (by change m.length * 8 ≤ 140737488355328 at c3; omega) g1 (by rw [k1, r1, c2, hlen]; rfl) ?_ ?_
                · intro hm
                  subst hm
                  have hm0 : m = [] := by
                    cases m with
                    | nil => rfl
                    | cons _ _ => simp at hlen
                  subst hm0
                  exact hK ρ _ H _ A (.refl _) .nilslice hf h
                · intro hm b hb'
                  cases m with
                  | nil =>
                    cases m' with
                    | nil => exact absurd rfl hm
                    | cons _ _ => simp at hlen
                  | cons x xs =>
                    replace h : (natK (x :: xs).length fun l => newK (ints (sortI ((x :: xs).map (·.1)))) H fun b H => k (AV.slice 1 b 0 l (.ge l)) H) = some r := h
                    rw [natK_eq, newK_eq] at h
                    rw [← r2, sortI_eq, ← hlen]
                    have hs := ints_self (ρ := ρ) (sortI ((x :: xs).map (·.1)))
                    exact hK _ _ _ _ _ (hf.le_with b) (.slice _ _ _ _ _ _ (Nm.with_same _ _ _)) (new_sound hf hs.1 hs.2 hb') h

end Go.NL
