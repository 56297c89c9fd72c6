/- THE N-LOGIC, part N: instructions one behind the other. -/
import Derived.Test.YtdeboephmbaihaaGreatNM
set_option linter.unusedVariables false
set_option linter.unusedSimpArgs false
namespace Go.NL

/-- A frame stands as f says. -/
structure RelF (g : G) (m : Nat) (f : Fr) (a : Act) : Prop where
  size : a.tmps.size = m
  defers : a.defers = []
  rel : ∀ t, Rel g (f t) (a.tmps.getD t undef)

theorem RelF.ext {g g' : G} {w w' : World} {m : Nat} {f : Fr} {a : Act} (h : RelF g m f a) (e : Ext g w g' w') : RelF g' m f a := ⟨h.size, h.defers, fun t => (h.rel t).of_ext e⟩

theorem RelF.ops {g : G} {m : Nat} {f : Fr} {a : Act} (h : RelF g m f a) : Ops g (evalOpd f) a.eval := by
  intro x y hx
  cases x with
  | tmp t =>
    simp only [compOpd, Option.some.injEq] at hx
    subst hx
    exact h.rel t
  | const v =>
    simp only [compOpd, Option.map_eq_some_iff] at hx
    obtain ⟨c, hc, rfl⟩ := hx
    exact constAV_rel hc
  | func f =>
    simp only [compOpd, Option.some.injEq] at hx
    subst hx
    exact .func _ [] [] #[] #[] rfl rfl (fun i h => by simp at h) (fun i h => by simp at h)
  | global g => simp [compOpd] at hx

theorem RelF.put {g : G} {m : Nat} {f : Fr} {a : Act} (h : RelF g m f a) {d : Option Nat} (hd : d.all (· < m) = true) {v : AV} {V : Value} (hv : Rel g v V) : RelF g m (f.set d v) (a.put d V) := by
  cases d with
  | none => exact h
  | some d =>
    simp only [Option.all_some, decide_eq_true_eq] at hd
    refine ⟨by simp [Act.put, h.size], h.defers, fun t => ?_⟩
    have hsz := h.size
    by_cases ht : t = d
    · subst ht
      have : (a.put (some t) V).tmps.getD t undef = V := by simp [Act.put, hsz, hd]
      rw [this]
      simpa [Fr.set] using hv
    · have : (a.put (some d) V).tmps.getD t undef = a.tmps.getD t undef := by
        simp only [Act.put, Array.getD_eq_getD_getElem?]
        rw [Array.getElem?_setIfInBounds_ne (Ne.symm ht)]
      rw [this]
      simpa [Fr.set, ht] using h.rel t

theorem RelF.guard {g : G} {m : Nat} {f : Fr} {a : Act} (h : RelF g m f a) {ops : Array Oper} {j d : Nat} (hj : ((ops[j]?).bind (·.dst)) = some d) {b : Bool} (hb : f d = .bool b) : yielded ops a.tmps j = some b := by
  have h1 := h.rel d
  rw [hb] at h1
  have h2 := rel_bool h1
  unfold yielded
  rw [hj]
  have h3 : a.tmps[d]? = some (.bool b) := by
    rw [Array.getD_eq_getD_getElem?] at h2
    cases hq : a.tmps[d]? with
    | none => rw [hq] at h2; simp [undef] at h2
    | some v => rw [hq] at h2; simp at h2; rw [h2]
  simp [h3]

theorem gval_true {v : AV} {w : Bool} (h : gval v w = some true) : v = .bool w := by
  unfold gval at h
  split at h
  · simp only [Option.some.injEq, decide_eq_true_eq] at h; rw [h]
  · cases h
  · cases h
theorem gval_false {v : AV} {w : Bool} (h : gval v w = some false) : (∃ b, v = .bool b ∧ b ≠ w) ∨ v = .tuple [] := by
  unfold gval at h
  split at h
  · simp only [Option.some.injEq, decide_eq_false_iff_not] at h; exact .inl ⟨_, rfl, h⟩
  · exact .inr rfl
  · cases h
theorem RelF.unguard {g : G} {m : Nat} {f : Fr} {a : Act} (h : RelF g m f a) {ops : Array Oper} {j d : Nat} (hj : ((ops[j]?).bind (·.dst)) = some d) (hb : f d = .tuple []) : yielded ops a.tmps j = none := by
  have h1 := h.rel d
  rw [hb] at h1
  obtain ⟨vs, h2, _⟩ := rel_tuple h1
  unfold yielded
  rw [hj]
  rw [Array.getD_eq_getD_getElem?] at h2
  cases hq : a.tmps[d]? with
  | none => simp [hq]
  | some v =>
    rw [hq] at h2
    simp only [Option.getD_some] at h2
    subst h2
    simp [hq]

theorem compNI_spec {P : Program} {m : Nat} {ops : Array Oper} {i : Nat} {re : List (Option Nat × Option (Nat × Bool) × NOp)} {ni : NI} (h : compNI P m ops i re = some ni) :
    ∃ o, ops[i]? = some o ∧ ni.at_ = i ∧ ni.dst = o.dst ∧ compOp P o.op = some ni.op ∧ compGuard ops o.guard = some ni.guard ∧ o.dst.all (· < m) = true ∧ ni.re = re := by
  unfold compNI at h
  split at h
  · cases h
  · rename_i o ho
    split at h
    · rename_i nop g hn hg
      split at h
      · rename_i hd
        cases h
        exact ⟨o, ho, rfl, rfl, hn, hg, hd, rfl⟩
      · cases h
    · cases h

/-- One operation of a region is done. -/
theorem step_sound {P : Program} {g : G} {A : Heap} {w : World} {m : Nat} {f : Fr} {a : Act} (hs : Sim g A w) (hf : RelF g m f a) {ops : Array Oper} {i : Nat} {o : Oper} (ho : ops[i]? = some o) {nop : NOp} {gd : Option (Nat × Bool)} (hn : compOp P o.op = some nop)
    (hg : compGuard ops o.guard = some gd) (hd : o.dst.all (· < m) = true) {Q : Exit → Act → World → Prop} {K : Fr → Heap → Prop}
    (h : guarded f gd (cop P (evalOpd f) A (fun v A' => K (f.set o.dst v) A') nop) (K (f.set o.dst .undef) A)) :
    wpOp P ops Q i (fun a' w' => ∃ g' f' A', Sim g' A' w' ∧ RelF g' m f' a' ∧ Ext g w g' w' ∧ K f' A') a w := by
  have done : ∀ (hc : cop P (evalOpd f) A (fun v A' => K (f.set o.dst v) A') nop), o.wp P a w (fun a' w' => ∃ g' f' A', Sim g' A' w' ∧ RelF g' m f' a' ∧ Ext g w g' w' ∧ K f' A') Q := by
    intro hc
    refine Oper.wp_mono ?_ (cop_sound hs hn hf.ops hc)
    rintro a' w' ⟨g', v, V, A', rfl, h1, h2, h3, h4⟩
    exact ⟨g', _, A', h2, (hf.ext h3).put hd h1, h3, h4⟩
  have skip : ∀ (hc : K (f.set o.dst .undef) A), ∃ g' f' A', Sim g' A' w ∧ RelF g' m f' (a.put o.dst undef) ∧ Ext g w g' w ∧ K f' A' := fun hc =>
    ⟨g, _, A, hs, hf.put hd rel_undef, .refl hs, hc⟩
  unfold wpOp
  rw [ho]
  cases hgd : o.guard with
  | none =>
    rw [hgd] at hg
    simp only [compGuard, Option.some.injEq] at hg
    subst hg
    simp only [guarded] at h
    simp only [Region.wanted, hgd, if_true]
    exact .inl (done h)
  | some jw =>
    obtain ⟨j, want⟩ := jw
    rw [hgd] at hg
    simp only [compGuard, Option.map_eq_some_iff] at hg
    obtain ⟨d, hj, rfl⟩ := hg
    simp only [guarded] at h
    split at h
    · rename_i hb
      have hy := hf.guard (ops := ops) hj (gval_true hb)
      simp only [Region.wanted, hgd, hy, BEq.rfl, if_true]
      exact .inl (done h)
    · rename_i hb
      rcases gval_false hb with ⟨b, hb, hbw⟩ | hb
      · have hy := hf.guard (ops := ops) hj hb
        simp only [Region.wanted, hgd, hy]
        rw [if_neg (by simpa using hbw)]
        exact skip h
      · have hy := hf.unguard (ops := ops) hj hb
        simp only [Region.wanted, hgd, hy]
        rw [if_neg (by simp)]
        exact skip h
    · exact h.elim

theorem nrun_sound {P : Program} {m : Nat} {ops : Array Oper} {Q : Exit → Act → World → Prop} {K : Fr → Heap → Prop} : ∀ (is : List NI) (l : List Nat) (hl : List.mapM (fun i => compNI P m ops i []) l = some is)
    {g : G} {A : Heap} {w : World} {f : Fr} {a : Act} (hs : Sim g A w) (hf : RelF g m f a) (h : nrun P K is f A) (hQ : ∀ g' A' w' f' a', Sim g' A' w' → RelF g' m f' a' → Ext g w g' w' → K f' A' → Q .normal a' w'), wpOps P ops Q l a w
  | is, [], hl, g, A, w, f, a, hs, hf, h, hQ => by
    simp at hl
    subst hl
    exact hQ g A w f a hs hf (.refl hs) h
  | is, i :: l, hl, g, A, w, f, a, hs, hf, h, hQ => by
    simp only [List.mapM_cons, Option.bind_eq_bind, Option.bind_eq_some_iff, Option.pure_def, Option.some.injEq] at hl
    obtain ⟨ni, hni, is', his, rfl⟩ := hl
    obtain ⟨o, ho, h1, h2, h3, h4, h5, h6⟩ := compNI_spec hni
    rw [wpOps_cons]
    have hh := h
    simp only [nrun] at hh
    rw [h2] at hh
    refine wpOp_mono ?_ (step_sound (K := fun f' A' => reAll A' f' ni.re ∧ nrun P K is' f' A') (Q := Q) hs hf ho h3 h4 h5 hh)
    rintro a' w' ⟨g', f', A', q1, q2, q3, q4⟩
    exact nrun_sound is' l his q1 q2 q4.2 (fun g'' A'' w'' f'' a'' r1 r2 r3 r4 => hQ g'' A'' w'' f'' a'' r1 r2 (q3.trans r3) r4)

/-- What stands behind code, in the world. -/
def CPost (g : G) (w : World) (m : Nat) (Q : Post) : Exit → Act → World → Prop
  | .normal, a, w' => ∃ g' f A, Sim g' A w' ∧ RelF g' m f a ∧ Ext g w g' w' ∧ Q .normal f A
  | .exit id, a, w' => ∃ g' f A, Sim g' A w' ∧ RelF g' m f a ∧ Ext g w g' w' ∧ Q (.exit id) f A
  | .ret, a, w' => ∃ g' f A, Sim g' A w' ∧ RelF g' m f a ∧ Ext g w g' w' ∧ Q .ret f A
  | _, _, _ => False

theorem CPost.ext {g g' : G} {w w' : World} {m : Nat} {Q : Post} (e : Ext g w g' w') : ∀ x a v, CPost g' w' m Q x a v → CPost g w m Q x a v := by
  intro x a v h
  cases x <;> simp only [CPost] at h ⊢ <;> (try exact h)
  all_goals
    obtain ⟨g2, f, A, h1, h2, h3, h4⟩ := h
    exact ⟨g2, f, A, h1, h2, e.trans h3, h4⟩

end Go.NL
