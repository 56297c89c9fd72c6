/- THE EVALUATOR, part C: operations that look at their operands alone do the same whatever the names are. -/
import Derived.Test.YtdeboephmbaihaaGreatVB
set_option linter.unusedVariables false
set_option linter.unusedSimpArgs false
namespace Go.NL

section
variable {ρ : Nm}
theorem vr_bool {b : Bool} {V : AV} (h : VR ρ (.bool b) V) : V = .bool b := by cases h; rfl
theorem vr_int {k : IntKind} {n : Int} {V : AV} (h : VR ρ (.int k n) V) : V = .int k n := by cases h; rfl
theorem vr_str {s : List UInt8} {V : AV} (h : VR ρ (.str s) V) : V = .str s := by cases h; rfl
theorem vr_int' {k : IntKind} {n : Int} {V : AV} (h : VR ρ V (.int k n)) : V = .int k n := by cases h; rfl
theorem vr_str' {s : List UInt8} {V : AV} (h : VR ρ V (.str s)) : V = .str s := by cases h; rfl

theorem eq0_vr {k : EqK0} {a b a' b' : AV} {r : Bool} (ha : VR ρ a a') (hb : VR ρ b b') (h : eq0 k a b = some r) : eq0 k a' b' = some r := by
  unfold eq0 at h
  split at h
  · rw [vr_bool ha, vr_bool hb]; exact h
  · rw [vr_int ha, vr_int hb]; exact h
  · rw [vr_str ha, vr_str hb]; exact h
  · cases h

theorem eqFields_vl {xs ys xs' ys' : List AV} (hx : VL ρ xs xs') (hy : VL ρ ys ys') : ∀ {fs : List (Nat × EqK0)} {r : Bool}, eqFields xs ys fs = some r → eqFields xs' ys' fs = some r
  | [], r, h => h
  | (o, k) :: fs, r, h => by
    simp only [eqFields] at h ⊢
    split at h
    · rename_i a b ha hb
      obtain ⟨a', ha', ra⟩ := hx.get? ha
      obtain ⟨b', hb', rb⟩ := hy.get? hb
      rw [ha', hb']
      simp only
      split at h
      · rename_i r1 r2 h1 h2
        rw [eq0_vr ra rb h1, eqFields_vl hx hy h2]
        exact h
      · cases h
    · cases h

theorem eqAV_vr {e : EqK} {x y x' y' : AV} {r : Bool} (hx : VR ρ x x') (hy : VR ρ y y') (h : eqAV e x y = some r) : eqAV e x' y' = some r := by
  unfold eqAV at h
  split at h <;> first
    | (cases h; done)
    | (cases hx <;> cases hy <;> exact h)
    | (obtain ⟨a, rfl, ha, _⟩ := vr_agg hx
       obtain ⟨b, rfl, hb, _⟩ := vr_agg hy
       exact eqFields_vl ha hb h)

theorem binAV_vr {op : BinOp} {ek : Option EqK} {x y x' y' v : AV} (hx : VR ρ x x') (hy : VR ρ y y') (h : binAV op ek x y = some v) : binAV op ek x' y' = some v := by
  by_cases h1 : (∃ k a k' b, x = .int k a ∧ y = .int k' b) ∨ ∃ a b, x = .str a ∧ y = .str b
  · rcases h1 with ⟨k, a, k', b, rfl, rfl⟩ | ⟨a, b, rfl, rfl⟩
    · rw [vr_int hx, vr_int hy]; exact h
    · rw [vr_str hx, vr_str hy]; exact h
  · have e1 : ∀ {x y : AV}, ¬ ((∃ k a k' b, x = .int k a ∧ y = .int k' b) ∨ ∃ a b, x = .str a ∧ y = .str b) → binAV op ek x y = (match (generalizing := false) op, ek with
        | .eql, some e => (eqAV e x y).map .bool
        | .neq, some e => (eqAV e x y).map fun r => .bool (!r)
        | _, _ => none) := by
      intro x y hn
      unfold binAV
      split
      · exact absurd (.inl ⟨_, _, _, _, rfl, rfl⟩) hn
      · exact absurd (.inr ⟨_, _, rfl, rfl⟩) hn
      · rfl
    have h2 : ¬ ((∃ k a k' b, x' = .int k a ∧ y' = .int k' b) ∨ ∃ a b, x' = .str a ∧ y' = .str b) := by
      rintro (⟨k, a, k', b, rfl, rfl⟩ | ⟨a, b, rfl, rfl⟩)
      · exact h1 (.inl ⟨k, a, k', b, vr_int' hx, vr_int' hy⟩)
      · exact h1 (.inr ⟨a, b, vr_str' hx, vr_str' hy⟩)
    rw [e1 h1] at h
    rw [e1 h2]
    split at h
    · cases hq : eqAV _ x y with
      | none => rw [hq] at h; cases h
      | some r => rw [hq] at h; rw [eqAV_vr hx hy hq]; exact h
    · cases hq : eqAV _ x y with
      | none => rw [hq] at h; cases h
      | some r => rw [hq] at h; rw [eqAV_vr hx hy hq]; exact h
    · cases h

theorem binInt_plain {op : BinOp} {k : IntKind} {a b : Int} {v : AV} (h : binInt op k a b = some v) : v.plain = true := by
  unfold binInt at h
  split at h <;> first
    | (cases h; done)
    | (cases h; rfl)
    | (split at h <;> first | (cases h; done) | (cases h; rfl))
theorem binStr_plain {op : BinOp} {a b : List UInt8} {v : AV} (h : binStr op a b = some v) : v.plain = true := by
  unfold binStr at h
  split at h <;> first
    | (cases h; done)
    | (cases h; rfl)
    | (split at h <;> first | (cases h; done) | (cases h; rfl))
theorem binAV_plain {op : BinOp} {ek : Option EqK} {x y v : AV} (h : binAV op ek x y = some v) : v.plain = true := by
  unfold binAV at h
  split at h
  · split at h
    · split at h <;> first | (cases h; done) | (cases h; rfl)
    · split at h <;> first | (cases h; done) | (cases h; rfl)
    · split at h
      · exact binInt_plain h
      · cases h
  · exact binStr_plain h
  · split at h
    · simp only [Option.map_eq_some_iff] at h
      obtain ⟨r, _, rfl⟩ := h
      rfl
    · simp only [Option.map_eq_some_iff] at h
      obtain ⟨r, _, rfl⟩ := h
      rfl
    · cases h

theorem takeAV_vl {agg : Option Nat} {cs ds : List AV} (hl : VL ρ cs ds) (hone : cs.all AV.one = true) {off : Nat} {v : AV} (h : takeAV agg cs off = some v) : ∃ v', takeAV agg ds off = some v' ∧ VR ρ v v' := by
  cases agg with
  | none => exact hl.get? h
  | some n =>
    simp only [takeAV] at h ⊢
    split at h
    · rename_i hle
      cases h
      rw [if_pos (hl.len ▸ hle)]
      exact ⟨_, rfl, ((hl.drop off).take n).agg (all_sub hone fun x hx => List.mem_of_mem_drop (List.mem_of_mem_take hx))⟩
    · cases h

theorem boundAV_vr {d top n : Nat} {lo : Option Opd} {σ σ' : Opd → AV} (hσ : ∀ x ∈ lo.toList, VR ρ (σ x) (σ' x)) (h : boundAV d top (lo.map σ) = some n) : boundAV d top (lo.map σ') = some n := by
  cases lo with
  | none => exact h
  | some x =>
    have hx := hσ x (by simp)
    simp only [Option.map_some] at h ⊢
    cases hv : σ x with
    | int k m => rw [hv] at h hx; rw [vr_int hx]; exact h
    | _ => rw [hv] at h; simp [boundAV] at h

theorem fillAV_vl : ∀ {ps : List (Nat × Nat × Opd)} {cs ds : List AV} {σ σ' : Opd → AV} (_ : ∀ p ∈ ps, VR ρ (σ p.2.2) (σ' p.2.2)) (_ : VL ρ cs ds) (_ : cs.all AV.one = true) {r : List AV}, fillAV cs (ps.map fun (o, n, x) => (o, n, σ x)) = some r →
    ∃ r', fillAV ds (ps.map fun (o, n, x) => (o, n, σ' x)) = some r' ∧ VL ρ r r' ∧ r.all AV.one = true
  | [], cs, ds, σ, σ', _, hl, ho, r, h => by
    simp only [List.map_nil, fillAV, Option.some.injEq] at h
    subst h
    exact ⟨ds, rfl, hl, ho⟩
  | (o, n, x) :: ps, cs, ds, σ, σ', hσ, hl, ho, r, h => by
    simp only [List.map_cons, fillAV] at h ⊢
    have hx := hσ (o, n, x) (by simp)
    have hc := vr_cells hx
    split at h
    · rename_i hcond
      obtain ⟨h1, h2, h3⟩ := hcond
      rw [if_pos ⟨by rw [← hc.len]; exact h1, by rw [← hl.len]; exact h2, vl_all_one hc h3⟩]
      refine fillAV_vl (fun p hp => hσ p (by simp [hp])) ?_ ?_ h
      · unfold over
        rw [← hc.len]
        exact ((hl.take o).append hc).append (hl.drop _)
      · unfold over
        rw [List.all_append, List.all_append, h3, all_sub ho fun x hx => List.mem_of_mem_take hx, all_sub ho fun x hx => List.mem_of_mem_drop hx]
        rfl
    · cases h

def noHeap : Heap := fun _ => none

/-- Operations that look at their operands alone. -/
def NOp.alone : NOp → Bool
  | .move _ | .pick _ _ _ | .build _ _ | .nilCheck _ | .bin _ _ _ _ | .un _ _ | .convInt _ _ | .convSame _ | .fieldAddr _ _ | .field _ _ _ | .indexAddr _ _ _ _ | .indexStr _ _ | .indexArr _ _ _ _ _
  | .slice _ _ _ _ _ | .makeFunc _ _ _ | .makeIface _ _ | .extract _ _ | .max _ _ | .min _ _ | .len .str _ | .len .slice _ => true
  | _ => false

/-- What the constants of an operation are. -/
def NOp.zeros : NOp → List AV
  | .build z _ | .zero z | .buildSlice _ _ z _ | .makeSlice _ _ z _ _ => z
  | .lookup _ z _ _ _ => z.cells
  | _ => []

set_option maxHeartbeats 1000000 in
theorem qop_vr {A : Heap} {σ σ' : Opd → AV} {op : NOp} (ha : op.alone = true) (hσ : ∀ x ∈ op.opds, VR ρ (σ x) (σ' x)) (hz : op.zeros.all AV.plain = true) {v : AV} (h : qop noHeap σ op = some v) : ∃ v', qop A σ' op = some v' ∧ VR ρ v v' := by
  cases op with
  | move x =>
    simp only [qop, Option.some.injEq] at h
    subst h
    exact ⟨_, rfl, hσ x (by simp [NOp.opds])⟩
  | pick c a b =>
    have hc := hσ c (by simp [NOp.opds])
    simp only [qop] at h ⊢
    split at h
    · rename_i bb hb
      rw [hb] at hc
      rw [vr_bool hc]
      cases h
      refine ⟨_, rfl, ?_⟩
      split
      · exact hσ a (by simp [NOp.opds])
      · exact hσ b (by simp [NOp.opds])
    · cases h
  | build z ps =>
    simp only [qop, Option.map_eq_some_iff] at h ⊢
    obtain ⟨r, hr, rfl⟩ := h
    obtain ⟨r', h1, h2, h3⟩ := fillAV_vl (ρ := ρ) (fun p hp => hσ p.2.2 (by simp only [NOp.opds, List.mem_map]; exact ⟨p, hp, rfl⟩)) (plains_vl hz) (plains_one hz) hr
    exact ⟨_, ⟨r', h1, rfl⟩, h2.agg h3⟩
  | nilCheck x =>
    have hx := hσ x (by simp [NOp.opds])
    simp only [qop] at h ⊢
    split at h
    · rename_i b o hb
      cases h
      rw [hb] at hx
      generalize σ' x = X at hx ⊢
      cases hx with
      | ptr _ b' _ hh => exact ⟨_, rfl, .ptr _ _ _ hh⟩
    · rename_i hb; rw [hb] at hx; generalize σ' x = X at hx ⊢; cases hx
    · rename_i f a b hb
      cases h
      rw [hb] at hx
      obtain ⟨a', b', he, h1, h2⟩ := vr_func hx
      rw [he]
      exact ⟨_, rfl, h1.func f h2⟩
    · cases h
  | bin op ek x y =>
    have hx := hσ x (by simp [NOp.opds])
    have hy := hσ y (by simp [NOp.opds])
    simp only [qop] at h ⊢
    exact ⟨v, binAV_vr hx hy h, plain_vr (binAV_plain h)⟩
  | un op x =>
    have hx := hσ x (by simp [NOp.opds])
    simp only [qop] at h ⊢
    split at h
    · rename_i hb; rw [hb] at hx; rw [vr_int hx]; cases h; exact ⟨_, rfl, .int _ _⟩
    · rename_i hb; rw [hb] at hx; rw [vr_int hx]; cases h; exact ⟨_, rfl, .int _ _⟩
    · rename_i hb; rw [hb] at hx; rw [vr_bool hx]; cases h; exact ⟨_, rfl, .bool _⟩
    · cases h
  | convInt k x =>
    have hx := hσ x (by simp [NOp.opds])
    simp only [qop] at h ⊢
    split at h
    · rename_i hb; rw [hb] at hx; rw [vr_int hx]; cases h; exact ⟨_, rfl, .int _ _⟩
    · cases h
  | convSame x =>
    have hx := hσ x (by simp [NOp.opds])
    simp only [qop] at h ⊢
    split at h
    · rename_i hb; rw [hb] at hx; rw [vr_str hx]; cases h; exact ⟨_, rfl, .str _⟩
    · cases h
  | fieldAddr off x =>
    have hx := hσ x (by simp [NOp.opds])
    simp only [qop] at h ⊢
    split at h
    · rename_i b o hb
      cases h
      rw [hb] at hx
      generalize σ' x = X at hx ⊢
      cases hx with
      | ptr _ b' _ hh => exact ⟨_, rfl, .ptr _ _ _ hh⟩
    · rename_i hb; rw [hb] at hx; generalize σ' x = X at hx ⊢; cases hx
    · cases h
  | field agg off x =>
    have hx := hσ x (by simp [NOp.opds])
    simp only [qop] at h ⊢
    split at h
    · rename_i cs hb
      rw [hb] at hx
      obtain ⟨ds, he, hl, ho⟩ := vr_agg hx
      rw [he]
      exact takeAV_vl hl ho h
    · cases h
  | indexAddr esz arr x i =>
    have hx := hσ x (by simp [NOp.opds])
    have hi := hσ i (by simp [NOp.opds])
    simp only [qop] at h ⊢
    split at h
    · rename_i k n hn
      rw [hn] at hi
      rw [vr_int hi]
      simp only
      unfold indexAddrAV at h ⊢
      cases arr with
      | some m =>
        simp only at h ⊢
        split at h
        · rename_i hm
          rw [if_pos hm]
          split at h
          · rename_i b o hb
            cases h
            rw [hb] at hx
            generalize σ' x = X at hx ⊢
            cases hx with
            | ptr _ b' _ hh => exact ⟨_, rfl, .ptr _ _ _ hh⟩
          · rename_i hb; rw [hb] at hx; generalize σ' x = X at hx ⊢; cases hx
          · cases h
        · cases h
      | none =>
        simp only at h ⊢
        split at h
        · rename_i e b o l c hb
          rw [hb] at hx
          generalize σ' x = X at hx ⊢
          cases hx with
          | slice _ _ b' _ _ _ hh =>
            simp only
            split at h
            · rename_i hm
              cases h
              rw [if_pos hm]
              exact ⟨_, rfl, .ptr _ _ _ hh⟩
            · cases h
        · rename_i hb; rw [hb] at hx; generalize σ' x = X at hx ⊢; cases hx
        · cases h
    · cases h
  | indexStr x i =>
    have hx := hσ x (by simp [NOp.opds])
    have hi := hσ i (by simp [NOp.opds])
    simp only [qop] at h ⊢
    split at h
    · rename_i s k n hs hn
      rw [hs] at hx
      rw [hn] at hi
      rw [vr_str hx, vr_int hi]
      refine ⟨v, h, plain_vr ?_⟩
      split at h
      · simp only [Option.map_eq_some_iff] at h
        obtain ⟨c, _, rfl⟩ := h
        rfl
      · cases h
    · cases h
  | indexArr agg esz len x i =>
    have hx := hσ x (by simp [NOp.opds])
    have hi := hσ i (by simp [NOp.opds])
    simp only [qop] at h ⊢
    split at h
    · rename_i cs k n hs hn
      rw [hs] at hx
      rw [hn] at hi
      obtain ⟨ds, he, hl, ho⟩ := vr_agg hx
      rw [he, vr_int hi]
      simp only
      split at h
      · rename_i hm
        rw [if_pos hm]
        exact takeAV_vl hl ho h
      · cases h
    · cases h
  | slice esz x lo hi mx =>
    have hx := hσ x (by simp [NOp.opds])
    have h1 : ∀ y ∈ lo.toList, VR ρ (σ y) (σ' y) := fun y hy => hσ y (by simp only [NOp.opds, List.mem_cons, List.mem_append]; exact .inr (.inl (.inl hy)))
    have h2 : ∀ y ∈ hi.toList, VR ρ (σ y) (σ' y) := fun y hy => hσ y (by simp only [NOp.opds, List.mem_cons, List.mem_append]; exact .inr (.inl (.inr hy)))
    have h3 : ∀ y ∈ mx.toList, VR ρ (σ y) (σ' y) := fun y hy => hσ y (by simp only [NOp.opds, List.mem_cons, List.mem_append]; exact .inr (.inr hy))
    simp only [qop] at h ⊢
    unfold sliceAV at h ⊢
    split at h
    · rename_i s hs
      rw [hs] at hx
      rw [vr_str hx]
      simp only
      split at h
      · cases h
      · rename_i he
        rw [if_neg he]
        cases mx with
        | some m => simp at h
        | none =>
          simp only [Option.map_none] at h ⊢
          split at h
          · cases h
          · rename_i q hq
            rw [boundAV_vr h2 hq]
            simp only
            split at h
            · cases h
            · rename_i p hp
              rw [boundAV_vr h1 hp]
              cases h
              exact ⟨_, rfl, .str _⟩
    · rename_i hs
      rw [hs] at hx
      generalize σ' x = X at hx ⊢
      cases hx
      simp only
      split at h
      · cases h
      · rename_i hc
        rw [if_neg (by simpa using hc)]
        split at h
        · rename_i a b c ha hb hcc
          cases h
          rw [boundAV_vr h3 ha, boundAV_vr h2 hb, boundAV_vr h1 hcc]
          exact ⟨_, rfl, .nilslice⟩
        · cases h
    · rename_i e b off len cap hs
      rw [hs] at hx
      generalize σ' x = X at hx ⊢
      cases hx with
      | slice _ _ b' _ _ _ hh =>
        simp only
        split at h
        · cases h
        · rename_i he
          rw [if_neg he]
          cases mx with
          | none =>
            simp only [Option.map_none] at h ⊢
            split at h
            · cases h
            · rename_i q hq
              rw [boundAV_vr h2 hq]
              simp only
              split at h
              · cases h
              · rename_i p hp
                rw [boundAV_vr h1 hp]
                cases h
                exact ⟨_, rfl, .slice _ _ _ _ _ _ hh⟩
          | some m =>
            simp only [Option.map_some] at h ⊢
            split at h
            · cases h
            · rename_i q hq
              have hq' := boundAV_vr h3 (by simpa using hq)
              simp only [Option.map_some] at hq'
              rw [hq']
              simp only
              cases hi with
              | none => simp at h
              | some hi =>
                simp only [Option.map_some] at h ⊢
                split at h
                · cases h
                · rename_i p hp
                  have hp' := boundAV_vr h2 (by simpa using hp)
                  simp only [Option.map_some] at hp'
                  rw [hp']
                  simp only
                  split at h
                  · cases h
                  · rename_i l hl
                    rw [boundAV_vr h1 hl]
                    cases h
                    exact ⟨_, rfl, .slice _ _ _ _ _ _ hh⟩
    · rename_i hs; rw [hs] at hx; generalize σ' x = X at hx ⊢; cases hx
    · cases h
  | makeFunc f a c =>
    simp only [qop, Option.some.injEq] at h
    subst h
    have key : ∀ (l : List Opd), (∀ x ∈ l, x ∈ a ++ c) → VL ρ (l.map σ) (l.map σ') := by
      intro l
      induction l with
      | nil => intro _; exact .nil
      | cons x l ih => intro hm; exact .cons (hσ x (by simp only [NOp.opds]; exact hm x (by simp))) (ih fun y hy => hm y (by simp [hy]))
    exact ⟨_, rfl, (key a (fun x hx => by simp [hx])).func f (key c (fun x hx => by simp [hx]))⟩
  | makeIface t x =>
    simp only [qop, Option.some.injEq] at h
    subst h
    exact ⟨_, rfl, .iface _ _ _ (hσ x (by simp [NOp.opds]))⟩
  | extract x i =>
    have hx := hσ x (by simp [NOp.opds])
    simp only [qop] at h ⊢
    split at h
    · rename_i vs hb
      rw [hb] at hx
      obtain ⟨ds, he, hl⟩ := vr_tuple hx
      rw [he]
      exact hl.get? h
    · cases h
  | len k x =>
    have hx := hσ x (by simp [NOp.opds])
    simp only [qop, Option.map_eq_some_iff] at h ⊢
    obtain ⟨n, hn, rfl⟩ := h
    refine ⟨_, ⟨n, ?_, rfl⟩, .int _ _⟩
    unfold lenAV at hn
    split at hn
    · rename_i hs; rw [hs] at hx; rw [vr_str hx]; exact hn
    · rename_i hs; rw [hs] at hx; generalize σ' x = X at hx ⊢; cases hx; exact hn
    · rename_i hs; rw [hs] at hx; generalize σ' x = X at hx ⊢; cases hx; exact hn
    · rename_i hs; rw [hs] at hx; generalize σ' x = X at hx ⊢; cases hx
    · cases ha
    · cases ha
    · cases hn
  | max x y =>
    have hx := hσ x (by simp [NOp.opds])
    have hy := hσ y (by simp [NOp.opds])
    simp only [qop] at h ⊢
    split at h
    · rename_i h1 h2
      rw [h1] at hx
      rw [h2] at hy
      rw [vr_int hx, vr_int hy]
      refine ⟨v, h, plain_vr ?_⟩
      split at h <;> cases h
      rfl
    · cases h
  | min x y =>
    have hx := hσ x (by simp [NOp.opds])
    have hy := hσ y (by simp [NOp.opds])
    simp only [qop] at h ⊢
    split at h
    · rename_i h1 h2
      rw [h1] at hx
      rw [h2] at hy
      rw [vr_int hx, vr_int hy]
      refine ⟨v, h, plain_vr ?_⟩
      split at h <;> cases h
      rfl
    · cases h
  | _ => simp [NOp.alone] at ha
end

end Go.NL
