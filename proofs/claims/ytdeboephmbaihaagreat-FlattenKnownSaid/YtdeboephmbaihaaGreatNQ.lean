/- THE N-LOGIC, part Q: regions whose order is left open, to the end. -/
import Derived.Test.YtdeboephmbaihaaGreatNP
set_option linter.unusedVariables false
set_option linter.unusedSimpArgs false
namespace Go.NL

section
variable {P : Program} {m : Nat} {ops : Array Oper} {B : Array Nat} {chain : Nat → Bool} {K : Fr → Heap → Prop}

/-- Between two operations: 'done' was done in the world, 'pre' in the order that was looked at. -/
structure DS (P : Program) (m : Nat) (ops : Array Oper) (B : Array Nat) (chain : Nat → Bool) (K : Fr → Heap → Prop) (rest done pre suf : List Nat) (is : List NI) (g : G) (A : Heap) (w : World) (f F : Fr) (a : Act) : Prop where
  lin : Lin ops done rest
  closed : Closed ops B done
  preClosed : Closed ops B pre
  order : orderOk ops B chain pre suf = true
  seq : compSeq P m ops B chain pre suf = some is
  chains : rest.filter chain = suf.filter chain
  did : ∀ c ∈ pre, chain c = true → c ∈ done
  sub : ∀ c ∈ done, c ∈ pre
  lt : ∀ i ∈ pre, i < ops.size
  sim : Sim g A w
  frame : RelF g m F a
  agree : ∀ s, (∀ q ∈ pre, q ∉ done → dstOf ops q ≠ some s) → F s = f s
  pend : ∀ q ∈ pre, q ∉ done → Pend P ops q f A
  run : nrun P K is f A

theorem compSeq_cons {pre suf : List Nat} {i : Nat} {is : List NI} (h : compSeq P m ops B chain pre (i :: suf) = some is) :
    ∃ re ni is', reOf P ops B chain pre i = some re ∧ compNI P m ops i re = some ni ∧ compSeq P m ops B chain (pre ++ [i]) suf = some is' ∧ is = ni :: is' := by
  simp only [compSeq, Option.bind_eq_bind, Option.bind_eq_some_iff, Option.some.injEq] at h
  obtain ⟨re, hre, ni, hni, is', his, rfl⟩ := h
  exact ⟨re, ni, is', hre, hni, his, rfl⟩

theorem dst_eq {i : Nat} {o : Oper} (ho : ops[i]? = some o) : dstOf ops i = o.dst := by simp [dstOf, ho]

/-- A quiet operation that comes next is looked at ahead of time. -/
theorem DS.adv (R : RegOk P ops B chain) (hquiet : ∀ i, i < ops.size → chain i = false → ∃ o nop, ops[i]? = some o ∧ compOp P o.op = some nop ∧ nop.quiet = true) {rest done pre suf : List Nat} {q : Nat} {is : List NI} {g : G} {A : Heap} {w : World} {f F : Fr} {a : Act}
    (h : DS P m ops B chain K rest done pre (q :: suf) is g A w f F a) (hq : chain q = false) : ∃ is' f', DS P m ops B chain K rest done (pre ++ [q]) suf is' g A w f' F a := by
  obtain ⟨o1, o2, o3, _, o5⟩ := orderOk_cons h.order
  obtain ⟨re, ni, is', hre, hni, his, rfl⟩ := compSeq_cons h.seq
  obtain ⟨o, ho, n1, n2, n3, n4, n5, n6⟩ := compNI_spec hni
  obtain ⟨o', nop, ho', hn, hqt⟩ := hquiet q o1 hq
  rw [ho] at ho'
  cases ho'
  rw [n3] at hn
  cases hn
  have hqd : q ∉ done := fun hd => o2 (h.sub q hd)
  -- the slot that q writes is looked at by none that waits, nor by q
  have far : ∀ x, (x = q ∨ (x ∈ pre ∧ x ∉ done)) → ∀ d, dstOf ops q = some d → d ∉ slotsOf P ops x := by
    rintro x hx d hd hs
    rcases hx with rfl | ⟨hx1, hx2⟩
    · exact R.own x d o1 hd hq hs
    · have hxq : q ≠ x := fun e => o2 (e ▸ hx1)
      rcases (R.dst x q d (h.lt x hx1) o1 hxq hd).2 hs with hb | ⟨_, hc⟩
      · exact o2 ((h.preClosed x hx1).2 q o1 hb)
      · rw [hq] at hc; cases hc
  have pre' : Closed ops B (pre ++ [q]) := by
    intro k hk
    rcases List.mem_append.1 hk with hk | hk
    · exact ⟨(h.preClosed k hk).1, fun j hj hb => List.mem_append.2 (.inl ((h.preClosed k hk).2 j hj hb))⟩
    · simp only [List.mem_singleton] at hk
      subst hk
      exact ⟨o1, fun j hj hb => List.mem_append.2 (.inl (o3 j hj hb))⟩
  -- what is left, whatever the new value
  have build : ∀ (v : AV), nrun P K is' (f.set o.dst v) A → Pend P ops q (f.set o.dst v) A → DS P m ops B chain K rest done (pre ++ [q]) suf is' g A w (f.set o.dst v) F a := by
    intro v hrun hpend
    refine ⟨h.lin, h.closed, pre', o5, his, ?_, ?_, ?_, ?_, h.sim, h.frame, ?_, ?_, hrun⟩
    · rw [h.chains, List.filter_cons, if_neg (by simp [hq])]
    · intro c hc hcc
      rcases List.mem_append.1 hc with hc | hc
      · exact h.did c hc hcc
      · simp only [List.mem_singleton] at hc; subst hc; rw [hq] at hcc; cases hcc
    · exact fun c hc => List.mem_append.2 (.inl (h.sub c hc))
    · intro i hi
      rcases List.mem_append.1 hi with hi | hi
      · exact h.lt i hi
      · simp only [List.mem_singleton] at hi; subst hi; exact o1
    · intro s hs
      have h1 := h.agree s (fun q' hq' hqd' => hs q' (List.mem_append.2 (.inl hq')) hqd')
      have h2 : o.dst ≠ some s := by
        have := hs q (by simp) hqd
        rwa [dst_eq ho] at this
      rw [h1]
      cases hdst : o.dst with
      | none => rfl
      | some d =>
        have : s ≠ d := fun e => h2 (by rw [hdst, e])
        simp [Fr.set, this]
    · intro x hx hxd
      rcases List.mem_append.1 hx with hx | hx
      · refine (h.pend x hx hxd).congr (fun s hs => ?_) (fun d hd => ?_)
        · cases hdst : o.dst with
          | none => rfl
          | some d =>
            have : s ≠ d := fun e => far x (.inr ⟨hx, hxd⟩) d (by rw [dst_eq ho, hdst]) (e ▸ hs)
            simp [Fr.set, this]
        · cases hdst : o.dst with
          | none => rfl
          | some d' =>
            have hxq : x ≠ q := fun e => o2 (e ▸ hx)
            have := (R.dst q x d o1 (h.lt x hx) hxq hd).1
            rw [dst_eq ho, hdst] at this
            have : d ≠ d' := fun e => this (by rw [e])
            simp [Fr.set, this]
      · simp only [List.mem_singleton] at hx
        subst hx
        exact hpend
  have stay : ∀ v, ∀ s ∈ slotsOf P ops q, f s = f.set o.dst v s := by
    intro v s hs
    cases hdst : o.dst with
    | none => rfl
    | some d =>
      have : s ≠ d := fun e => far q (.inl rfl) d (by rw [dst_eq ho, hdst]) (e ▸ hs)
      simp [Fr.set, this]
  have one : ∀ v, qop A (evalOpd f) ni.op = some v → reOne A (f.set o.dst v) o.dst ni.op := by
    intro v hv
    have hc : qop A (evalOpd f) ni.op = qop A (evalOpd (f.set o.dst v)) ni.op := qop_congr (evalOpd_congr fun s hs => stay v s (slots_op ho n3 s hs))
    rw [hc] at hv
    cases hdst : o.dst with
    | none => simp only [reOne]; rw [hdst] at hv; rw [hv]; rfl
    | some d => simp only [reOne]; rw [hdst] at hv; rw [hv]; simp [Fr.set]
  have yes : cop P (evalOpd f) A (fun v A' => reAll A' (f.set ni.dst v) ni.re ∧ nrun P K is' (f.set ni.dst v) A') ni.op → ∃ v, qop A (evalOpd f) ni.op = some v ∧ nrun P K is' (f.set o.dst v) A := by
    intro hc
    rw [cop_quiet hqt] at hc
    split at hc
    · rename_i v hv
      rw [n2] at hc
      exact ⟨v, hv, hc.2⟩
    · exact hc.elim
  have hrun := h.run
  simp only [nrun, guarded] at hrun
  cases hg : ni.guard with
  | none =>
    rw [hg] at hrun n4
    obtain ⟨v, hv, hr⟩ := yes hrun
    exact ⟨is', _, build v hr ⟨o, ni.op, none, ho, n3, n4, hqt, one v hv⟩⟩
  | some sw =>
    obtain ⟨s, want⟩ := sw
    rw [hg] at hrun n4
    simp only at hrun
    split at hrun
    · rename_i hb
      have hss : s ∈ slotsOf P ops q := slots_guard ho n4
      obtain ⟨v, hv, hr⟩ := yes hrun
      exact ⟨is', _, build v hr ⟨o, ni.op, some (s, want), ho, n3, n4, hqt, true, by rw [← stay v s hss]; exact hb, fun _ => one v hv, fun hne => by cases hne⟩⟩
    · rename_i hb
      have hss : s ∈ slotsOf P ops q := slots_guard ho n4
      rw [n2] at hrun
      refine ⟨is', _, build .undef hrun.2 ⟨o, ni.op, some (s, want), ho, n3, n4, hqt, false, by rw [← stay .undef s hss]; exact hb, (fun he => by cases he), fun _ d hd => ?_⟩⟩
      rw [hd]
      simp [Fr.set]
    · exact hrun.elim

theorem DS.norm (R : RegOk P ops B chain) (hquiet : ∀ i, i < ops.size → chain i = false → ∃ o nop, ops[i]? = some o ∧ compOp P o.op = some nop ∧ nop.quiet = true) {rest done : List Nat} {g : G} {A : Heap} {w : World} {F : Fr} {a : Act} :
    ∀ (suf pre : List Nat) (is : List NI) (f : Fr), DS P m ops B chain K rest done pre suf is g A w f F a →
      ∃ pre' suf' is' f', DS P m ops B chain K rest done pre' suf' is' g A w f' F a ∧ (suf' = [] ∨ ∃ c s, suf' = c :: s ∧ chain c = true)
  | [], pre, is, f, h => ⟨pre, [], is, f, h, .inl rfl⟩
  | q :: suf, pre, is, f, h => by
    cases hq : chain q with
    | true => exact ⟨pre, _, is, f, h, .inr ⟨q, suf, rfl, hq⟩⟩
    | false =>
      obtain ⟨is', f', h'⟩ := h.adv R hquiet hq
      exact DS.norm R hquiet suf (pre ++ [q]) is' f' h'


theorem reAll_mem {A : Heap} {f : Fr} : ∀ {l : List (Option Nat × Option (Nat × Bool) × NOp)}, reAll A f l → ∀ d gd op, (d, gd, op) ∈ l → match gd with
      | some (s, want) => (match gval (f s) want with | some true => reOne A f d op | some false => True | none => False)
      | none => reOne A f d op
  | [], _, d, gd, op, hm => by cases hm
  | (d', gd', op') :: l, h, d, gd, op, hm => by
    simp only [reAll] at h
    rcases List.mem_cons.1 hm with he | hm
    · cases he; exact h.1
    · exact reAll_mem h.2 d gd op hm

theorem reOf_mem {pre : List Nat} {c : Nat} {re : List (Option Nat × Option (Nat × Bool) × NOp)} (h : reOf P ops B chain pre c = some re) (hc : chain c = true) {q : Nat} (hq : q ∈ pre) (hqc : chain q = false) (hb : (B.getD c 0).testBit q = false) {o : Oper} {nop : NOp} {gd : Option (Nat × Bool)}
    (ho : ops[q]? = some o) (hn : compOp P o.op = some nop) (hg : compGuard ops o.guard = some gd) (hr : nop.reads = true) : (o.dst, gd, nop) ∈ re := by
  unfold reOf at h
  rw [if_pos hc] at h
  have hmem : q ∈ pre.filter fun q => !chain q && !(B.getD c 0).testBit q := List.mem_filter.2 ⟨hq, by simp only [hqc, hb]; rfl⟩
  generalize (pre.filter fun q => !chain q && !(B.getD c 0).testBit q) = l at h hmem
  induction l generalizing re with
  | nil => cases hmem
  | cons x l ih =>
    simp only [List.foldr_cons, Option.bind_eq_bind, Option.bind_eq_some_iff] at h
    obtain ⟨acc, hacc, o', ho', nop', hn', gd', hg', h⟩ := h
    rcases List.mem_cons.1 hmem with rfl | hmem
    · rw [ho] at ho'; cases ho'
      rw [hn] at hn'; cases hn'
      rw [hg] at hg'; cases hg'
      rw [if_pos hr] at h
      cases h
      simp
    · have := ih hacc hmem
      split at h
      · cases h; exact List.mem_cons_of_mem _ this
      · cases h; exact this

theorem orderOk_all : ∀ {suf pre : List Nat}, orderOk ops B chain pre suf = true → ∀ i, i < ops.size → i ∈ pre ∨ i ∈ suf
  | [], pre, h, i, hi => by
    simp only [orderOk, List.all_eq_true] at h
    have := h i (List.mem_range.2 hi)
    exact .inl (by simpa using this)
  | x :: suf, pre, h, i, hi => by
    obtain ⟨_, _, _, _, o5⟩ := orderOk_cons h
    rcases orderOk_all o5 i hi with h | h
    · rcases List.mem_append.1 h with h | h
      · exact .inl h
      · simp only [List.mem_singleton] at h; exact .inr (by simp [h])
    · exact .inr (List.mem_cons_of_mem _ h)

theorem draw_go (R : RegOk P ops B chain) (hdlt : ∀ (i : Nat) (o : Oper), ops[i]? = some o → o.dst.all (· < m) = true) (hquiet : ∀ i, i < ops.size → chain i = false → ∃ o nop, ops[i]? = some o ∧ compOp P o.op = some nop ∧ nop.quiet = true) {Q : Exit → Act → World → Prop} :
    ∀ (rest done pre suf : List Nat) (is : List NI) {g : G} {A : Heap} {w : World} {f F : Fr} {a : Act}, DS P m ops B chain K rest done pre suf is g A w f F a →
      (∀ g' A' w' f' a', Sim g' A' w' → RelF g' m f' a' → Ext g w g' w' → K f' A' → Q .normal a' w') → wpOps P ops Q rest a w := by
  intro rest
  induction rest with
  | nil =>
    intro done pre suf is g A w f F a h hQ
    have hsuf : suf = [] := by
      cases suf with
      | nil => rfl
      | cons x suf =>
        have := (orderOk_mem h.order).1 x (by simp)
        exact absurd (h.sub x (h.lin x this.1)) this.2
    subst hsuf
    have hseq := h.seq
    simp only [compSeq, Option.some.injEq] at hseq
    subst hseq
    refine hQ g A w f a h.sim ⟨h.frame.size, h.frame.defers, fun t => ?_⟩ (.refl h.sim) h.run
    rw [← h.agree t (fun q hq hqd => absurd (h.lin q (h.lt q hq)) hqd)]
    exact h.frame.rel t
  | cons i rest ih =>
    intro done pre suf is g A w f F a h0 hQ
    obtain ⟨pre, suf, is, f, h, hsuf⟩ := DS.norm R hquiet suf pre is f h0
    clear h0
    obtain ⟨l1, l2, l3, l4⟩ := h.lin
    have hmask := closed_ready R h.closed l1 l3
    have hclosed := closed_snoc R h.closed l1 l3
    have hchains := h.chains
    rw [wpOps_cons]
    cases hci : chain i with
    | true =>
      rw [List.filter_cons, if_pos hci] at hchains
      obtain ⟨c, s, rfl, hc⟩ : ∃ c s, suf = c :: s ∧ chain c = true := by
        rcases hsuf with rfl | h'
        · simp at hchains
        · exact h'
      rw [List.filter_cons, if_pos hc] at hchains
      obtain ⟨rfl, hch⟩ := List.cons.inj hchains
      obtain ⟨o1, o2, o3, _, o5⟩ := orderOk_cons h.order
      obtain ⟨re, ni, is', hre, hni, his, rfl⟩ := compSeq_cons h.seq
      obtain ⟨o, ho, n1, n2, n3, n4, n5, n6⟩ := compNI_spec hni
      -- what i looks at stands in the world as it stood in the order that was looked at
      have same : ∀ s ∈ slotsOf P ops i, F s = f s := by
        intro s hs
        refine h.agree s fun q hq hqd hd => ?_
        have hqi : q ≠ i := fun e => o2 (e ▸ hq)
        rcases (R.dst i q s o1 (h.lt q hq) hqi hd).2 hs with hb | ⟨_, hcq⟩
        · exact hqd (hmask q (h.lt q hq) hb)
        · exact hqd (h.did q hq hcq)
      have hrun := h.run
      simp only [nrun] at hrun
      rw [n2, n6] at hrun
      have hrun' : guarded F ni.guard (cop P (evalOpd F) A (fun v A' => reAll A' (f.set o.dst v) re ∧ nrun P K is' (f.set o.dst v) A') ni.op) (reAll A (f.set o.dst .undef) re ∧ nrun P K is' (f.set o.dst .undef) A) := by
        cases hg : ni.guard with
        | none =>
          rw [hg] at hrun
          simp only [guarded] at hrun ⊢
          exact cop_congr (evalOpd_congr fun s hs => (same s (slots_op ho n3 s hs)).symm) hrun
        | some sw =>
          obtain ⟨s, want⟩ := sw
          rw [hg] at hrun n4
          simp only [guarded] at hrun ⊢
          rw [same s (slots_guard ho n4)]
          split at hrun
          · exact cop_congr (evalOpd_congr fun s hs => (same s (slots_op ho n3 s hs)).symm) hrun
          · exact hrun
          · exact hrun.elim
      -- the step in the world: the new value goes to both frames
      have hstep := step_sound (K := fun F' A' => ∃ v, F' = F.set o.dst v ∧ reAll A' (f.set o.dst v) re ∧ nrun P K is' (f.set o.dst v) A') (Q := Q) h.sim h.frame ho n3 n4 n5 (by
        cases hg : ni.guard with
        | none =>
          rw [hg] at hrun'
          simp only [guarded] at hrun' ⊢
          exact cop_mono (fun v A' hv => ⟨v, rfl, hv⟩) hrun'
        | some sw =>
          obtain ⟨s, want⟩ := sw
          rw [hg] at hrun'
          simp only [guarded] at hrun' ⊢
          split at hrun'
          · exact cop_mono (fun v A' hv => ⟨v, rfl, hv⟩) hrun'
          · exact ⟨_, rfl, hrun'⟩
          · exact hrun'.elim)
      refine wpOp_mono ?_ hstep
      rintro a' w' ⟨g', F', A', q1, q2, q3, v, rfl, q4, q5⟩
      have far : ∀ x ∈ pre, x ∉ done → (∀ d, dstOf ops i = some d → d ∉ slotsOf P ops x) ∧ ∀ d, dstOf ops x = some d → o.dst ≠ some d := by
        intro x hx hxd
        have hix : i ≠ x := fun e => o2 (e ▸ hx)
        refine ⟨fun d hd hs => ?_, fun d hd => ?_⟩
        · rcases (R.dst x i d (h.lt x hx) o1 hix hd).2 hs with hb | ⟨hb, _⟩
          · exact o2 ((h.preClosed x hx).2 i o1 hb)
          · exact hxd (hmask x (h.lt x hx) hb)
        · have := (R.dst i x d o1 (h.lt x hx) (Ne.symm hix) hd).1
          rwa [dst_eq ho] at this
      have hset : ∀ (G : Fr) x, x ∈ pre → x ∉ done → (∀ s ∈ slotsOf P ops x, G s = G.set o.dst v s) ∧ ∀ d, dstOf ops x = some d → G d = G.set o.dst v d := by
        intro G x hx hxd
        obtain ⟨r1, r2⟩ := far x hx hxd
        refine ⟨fun s hs => ?_, fun d hd => ?_⟩
        · cases hdst : o.dst with
          | none => rfl
          | some d =>
            have : s ≠ d := fun e => r1 d (by rw [dst_eq ho, hdst]) (e ▸ hs)
            simp [Fr.set, this]
        · have h2 := r2 d hd
          cases hdst : o.dst with
          | none => rfl
          | some d' =>
            have : d ≠ d' := fun e => h2 (by rw [hdst, e])
            simp [Fr.set, this]
      refine ih (done ++ [i]) (pre ++ [i]) s is' (f := f.set o.dst v) (F := F.set o.dst v) ⟨l4, hclosed, ?_, o5, his, hch, ?_, ?_, ?_, q1, q2, ?_, ?_, q5⟩ (fun g'' A'' w'' f'' a'' r1 r2 r3 r4 => hQ g'' A'' w'' f'' a'' r1 r2 (q3.trans r3) r4)
      · intro k hk
        rcases List.mem_append.1 hk with hk | hk
        · exact ⟨(h.preClosed k hk).1, fun j hj hb => List.mem_append.2 (.inl ((h.preClosed k hk).2 j hj hb))⟩
        · simp only [List.mem_singleton] at hk
          subst hk
          exact ⟨o1, fun j hj hb => List.mem_append.2 (.inl (o3 j hj hb))⟩
      · intro c hc' hcc
        rcases List.mem_append.1 hc' with hc' | hc'
        · exact List.mem_append.2 (.inl (h.did c hc' hcc))
        · exact List.mem_append.2 (.inr hc')
      · intro c hc'
        rcases List.mem_append.1 hc' with hc' | hc'
        · exact List.mem_append.2 (.inl (h.sub c hc'))
        · exact List.mem_append.2 (.inr hc')
      · intro k hk
        rcases List.mem_append.1 hk with hk | hk
        · exact h.lt k hk
        · simp only [List.mem_singleton] at hk; subst hk; exact o1
      · intro t ht
        by_cases hd : o.dst = some t
        · rw [hd]; simp [Fr.set]
        · have h1 : F t = f t := h.agree t fun q hq hqd => ht q (List.mem_append.2 (.inl hq)) (fun hm => by
            rcases List.mem_append.1 hm with hm | hm
            · exact hqd hm
            · simp only [List.mem_singleton] at hm
              subst hm
              exact o2 hq)
          cases hdst : o.dst with
          | none => exact h1
          | some d =>
            have : t ≠ d := fun e => hd (by rw [hdst, e])
            simp [Fr.set, this, h1]
      · intro x hx hxd
        have hx' : x ∈ pre := by
          rcases List.mem_append.1 hx with hx | hx
          · exact hx
          · exact absurd (List.mem_append.2 (.inr hx)) hxd
        have hxd' : x ∉ done := fun hm => hxd (List.mem_append.2 (.inl hm))
        obtain ⟨hs1, hs2⟩ := hset f x hx' hxd'
        have hp := (h.pend x hx' hxd').congr hs1 hs2
        obtain ⟨ox, nop, gd, hox, hnx, hgx, hqx, hpx⟩ := hp
        refine ⟨ox, nop, gd, hox, hnx, hgx, hqx, ?_⟩
        have hcx : chain x = false := by
          cases hcx : chain x with
          | false => rfl
          | true => exact absurd (h.did x hx' hcx) hxd'
        have hbx : (B.getD i 0).testBit x = false := by
          cases hbx : (B.getD i 0).testBit x with
          | false => rfl
          | true => exact absurd (hmask x (h.lt x hx') hbx) hxd'
        cases hrd : nop.reads with
        | true =>
          have hmem := reOf_mem hre hc hx' hcx hbx hox hnx hgx hrd
          have := reAll_mem q4 _ _ _ hmem
          cases gd with
          | none => exact this
          | some sw =>
            obtain ⟨s', want⟩ := sw
            simp only at this hpx ⊢
            obtain ⟨b, hb, r1, r2⟩ := hpx
            rw [hb] at this
            refine ⟨b, hb, fun hbw => ?_, r2⟩
            subst hbw
            exact this
        | false =>
          have hq : ∀ σ, qop A σ nop = qop A' σ nop := fun σ => qop_noreads hrd
          cases gd with
          | none =>
            simp only [reOne] at hpx ⊢
            rw [← hq]
            exact hpx
          | some sw =>
            obtain ⟨s', want⟩ := sw
            simp only [reOne] at hpx ⊢
            obtain ⟨b, hb, r1, r2⟩ := hpx
            rw [← hq]
            exact ⟨b, hb, r1, r2⟩
    | false =>
      rw [List.filter_cons, if_neg (by simp [hci])] at hchains
      -- i was looked at ahead of time
      have hip : i ∈ pre := by
        refine Classical.byContradiction fun hip => ?_
        rcases hsuf with rfl | ⟨c, s, rfl, hc⟩
        · rcases orderOk_all h.order i l1 with hm | hm
          · exact hip hm
          · cases hm
        · obtain ⟨o1, o2, o3, o4, o5⟩ := orderOk_cons h.order
          have his : i ∈ s := by
            rcases orderOk_all h.order i l1 with hm | hm
            · exact absurd hm hip
            · rcases List.mem_cons.1 hm with rfl | hm
              · rw [hc] at hci; cases hci
              · exact hm
          obtain ⟨c', hc', hcc, hb⟩ := o4 hc i his hci
          have hlt' : c' < ops.size ∧ c' ∉ pre := (orderOk_mem h.order).1 c' hc'
          exact hlt'.2 (h.sub c' (hmask c' hlt'.1 hb))
      obtain ⟨o, nop, gd, ho, hn, hg, hqt, hp⟩ := h.pend i hip l2
      have same : ∀ s ∈ slotsOf P ops i, F s = f s := by
        intro s hs
        refine h.agree s fun q hq hqd hd => ?_
        by_cases hqi : q = i
        · subst hqi
          exact R.own q s l1 hd hci hs
        · rcases (R.dst i q s l1 (h.lt q hq) hqi hd).2 hs with hb | ⟨_, hcq⟩
          · exact hqd (hmask q (h.lt q hq) hb)
          · exact hqd (h.did q hq hcq)
      have hdn : o.dst.all (· < m) = true := by
        exact hdlt i o ho
      have hqc : qop A (evalOpd F) nop = qop A (evalOpd f) nop := qop_congr (evalOpd_congr fun s hs => same s (slots_op ho hn s hs))
      have hstep := step_sound (K := fun F' A' => A' = A ∧ ∃ v, F' = F.set o.dst v ∧ ∀ d, o.dst = some d → f d = v) (Q := Q) h.sim h.frame ho hn hg hdn (by
        have yes : reOne A f o.dst nop → cop P (evalOpd F) A (fun v A' => A' = A ∧ ∃ v', F.set o.dst v = F.set o.dst v' ∧ ∀ d, o.dst = some d → f d = v') nop := by
          intro hr
          rw [cop_quiet hqt, hqc]
          cases hdst : o.dst with
          | none =>
            rw [hdst] at hr
            simp only [reOne] at hr
            obtain ⟨v, hv⟩ := Option.isSome_iff_exists.1 hr
            rw [hv]
            exact ⟨rfl, v, rfl, fun d hd => by cases hd⟩
          | some d =>
            rw [hdst] at hr
            simp only [reOne] at hr
            rw [hr]
            exact ⟨rfl, _, rfl, fun d' hd => by cases hd; rfl⟩
        cases gd with
        | none => exact yes hp
        | some sw =>
          obtain ⟨s, want⟩ := sw
          obtain ⟨b, hb, r1, r2⟩ := hp
          simp only [guarded]
          rw [same s (slots_guard ho hg), hb]
          cases b
          · exact ⟨trivial, _, rfl, r2 rfl⟩
          · exact yes (r1 rfl))
      refine wpOp_mono ?_ hstep
      rintro a' w' ⟨g', F', A', q1, q2, q3, rfl, v, rfl, hv⟩
      refine ih (done ++ [i]) pre suf is (f := f) (F := F.set o.dst v) ⟨l4, hclosed, h.preClosed, h.order, h.seq, hchains, ?_, ?_, h.lt, q1, q2, ?_, ?_, h.run⟩ (fun g'' A'' w'' f'' a'' r1 r2 r3 r4 => hQ g'' A'' w'' f'' a'' r1 r2 (q3.trans r3) r4)
      · exact fun c hc hcc => List.mem_append.2 (.inl (h.did c hc hcc))
      · intro c hc
        rcases List.mem_append.1 hc with hc | hc
        · exact h.sub c hc
        · simp only [List.mem_singleton] at hc; subst hc; exact hip
      · intro t ht
        by_cases hd : o.dst = some t
        · rw [hd]
          simp [Fr.set, hv t hd]
        · have h1 : F t = f t := h.agree t fun q hq hqd => by
            by_cases hqi : q = i
            · subst hqi
              rw [dst_eq ho]
              exact hd
            · exact ht q hq (fun hm => by
                rcases List.mem_append.1 hm with hm | hm
                · exact hqd hm
                · simp only [List.mem_singleton] at hm; exact hqi hm)
          cases hdst : o.dst with
          | none => exact h1
          | some d =>
            have : t ≠ d := fun e => hd (by rw [hdst, e])
            simp [Fr.set, this, h1]
      · intro x hx hxd
        exact h.pend x hx (fun hm => hxd (List.mem_append.2 (.inl hm)))

end
end Go.NL
