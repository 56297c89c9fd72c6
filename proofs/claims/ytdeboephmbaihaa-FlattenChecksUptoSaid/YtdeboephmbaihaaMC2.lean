import Derived.Test.YtdeboephmbaihaaMC1
import Derived.LoopN
set_option linter.unusedVariables false

namespace Go.NL
section
variable {P : Program} {m : Nat} {ops : Array Oper} {B : Array Nat} {chain : Nat → Bool} {K : Fr → Heap → Prop}
/-- Between two operations: 'done' was done in the world, 'pre' in the order that was looked at. -/
structure DS (P : Program) (m : Nat) (ops : Array Oper) (B : Array Nat) (chain : Nat → Bool) (K : Fr → Heap → Prop) (rest done pre suf : List Nat) (is : List NI) (g : G) (A : Heap) (w : World) (f F : Fr) (a : Act) : Prop where
  lin : Lin ops done rest
  closed : Closed ops B done
  preClosed : Closed ops B pre
  order : orderOk ops B chain pre suf = true
  seq : compSeq P m ops B chain pre suf = some is
  chains : rest.filter chain = suf.filter chain
  did : ∀ c ∈ pre, chain c = true → c ∈ done
  sub : ∀ c ∈ done, c ∈ pre
  lt : ∀ i ∈ pre, i < ops.size
  sim : Sim g A w
  frame : RelF g m F a
  agree : ∀ s, (∀ q ∈ pre, q ∉ done → dstOf ops q ≠ some s) → F s = f s
  pend : ∀ q ∈ pre, q ∉ done → Pend P ops q f A
  run : nrun P K is f A
theorem compSeq_cons {pre suf : List Nat} {i : Nat} {is : List NI} (h : compSeq P m ops B chain pre (i :: suf) = some is) :
    ∃ re ni is', reOf P ops B chain pre i = some re ∧ compNI P m ops i re = some ni ∧ compSeq P m ops B chain (pre ++ [i]) suf = some is' ∧ is = ni :: is' := by
  simp only [compSeq, Option.bind_eq_bind, Option.bind_eq_some_iff, Option.some.injEq] at h
  obtain ⟨re, hre, ni, hni, is', his, rfl⟩ := h
  exact ⟨re, ni, is', hre, hni, his, rfl⟩
theorem dst_eq {i : Nat} {o : Oper} (ho : ops[i]? = some o) : dstOf ops i = o.dst := by simp [dstOf, ho]
/-- A quiet operation that comes next is looked at ahead of time. -/
theorem DS.adv (R : RegOk P ops B chain) (hquiet : ∀ i, i < ops.size → chain i = false → ∃ o nop, ops[i]? = some o ∧ compOp P o.op = some nop ∧ nop.quiet = true) {rest done pre suf : List Nat} {q : Nat} {is : List NI} {g : G} {A : Heap} {w : World} {f F : Fr} {a : Act}
    (h : DS P m ops B chain K rest done pre (q :: suf) is g A w f F a) (hq : chain q = false) : ∃ is' f', DS P m ops B chain K rest done (pre ++ [q]) suf is' g A w f' F a := by
  obtain ⟨o1, o2, o3, _, o5⟩ := orderOk_cons h.order
  obtain ⟨re, ni, is', hre, hni, his, rfl⟩ := compSeq_cons h.seq
  obtain ⟨o, ho, n1, n2, n3, n4, n5, n6⟩ := compNI_spec hni
  obtain ⟨o', nop, ho', hn, hqt⟩ := hquiet q o1 hq
  rw [ho] at ho'
  cases ho'
  rw [n3] at hn
  cases hn
  have hqd : q ∉ done := fun hd => o2 (h.sub q hd)
  -- the slot that q writes is looked at by none that waits, nor by q
  have far : ∀ x, (x = q ∨ (x ∈ pre ∧ x ∉ done)) → ∀ d, dstOf ops q = some d → d ∉ slotsOf P ops x := by
    rintro x hx d hd hs
    rcases hx with rfl | ⟨hx1, hx2⟩
    · exact R.own x d o1 hd hq hs
    · have hxq : q ≠ x := fun e => o2 (e ▸ hx1)
      rcases (R.dst x q d (h.lt x hx1) o1 hxq hd).2 hs with hb | ⟨_, hc⟩
      · exact o2 ((h.preClosed x hx1).2 q o1 hb)
      · rw [hq] at hc; cases hc
  have pre' : Closed ops B (pre ++ [q]) := by
    intro k hk
    rcases List.mem_append.1 hk with hk | hk
    · exact ⟨(h.preClosed k hk).1, fun j hj hb => List.mem_append.2 (.inl ((h.preClosed k hk).2 j hj hb))⟩
    · simp only [List.mem_singleton] at hk
      subst hk
      exact ⟨o1, fun j hj hb => List.mem_append.2 (.inl (o3 j hj hb))⟩
  -- what is left, whatever the new value
  have build : ∀ (v : AV), nrun P K is' (f.set o.dst v) A → Pend P ops q (f.set o.dst v) A → DS P m ops B chain K rest done (pre ++ [q]) suf is' g A w (f.set o.dst v) F a := by
    intro v hrun hpend
    refine ⟨h.lin, h.closed, pre', o5, his, ?_, ?_, ?_, ?_, h.sim, h.frame, ?_, ?_, hrun⟩
    · rw [h.chains, List.filter_cons, if_neg (by simp [hq])]
    · intro c hc hcc
      rcases List.mem_append.1 hc with hc | hc
      · exact h.did c hc hcc
      · simp only [List.mem_singleton] at hc; subst hc; rw [hq] at hcc; cases hcc
    · exact fun c hc => List.mem_append.2 (.inl (h.sub c hc))
    · intro i hi
      rcases List.mem_append.1 hi with hi | hi
      · exact h.lt i hi
      · simp only [List.mem_singleton] at hi; subst hi; exact o1
    · intro s hs
      have h1 := h.agree s (fun q' hq' hqd' => hs q' (List.mem_append.2 (.inl hq')) hqd')
      have h2 : o.dst ≠ some s := by
        have := hs q (by simp) hqd
        rwa [dst_eq ho] at this
      rw [h1]
      cases hdst : o.dst with
      | none => rfl
      | some d =>
        have : s ≠ d := fun e => h2 (by rw [hdst, e])
        simp [Fr.set, this]
    · intro x hx hxd
      rcases List.mem_append.1 hx with hx | hx
      · refine (h.pend x hx hxd).congr (fun s hs => ?_) (fun d hd => ?_)
        · cases hdst : o.dst with
          | none => rfl
          | some d =>
            have : s ≠ d := fun e => far x (.inr ⟨hx, hxd⟩) d (by rw [dst_eq ho, hdst]) (e ▸ hs)
            simp [Fr.set, this]
        · cases hdst : o.dst with
          | none => rfl
          | some d' =>
            have hxq : x ≠ q := fun e => o2 (e ▸ hx)
            have := (R.dst q x d o1 (h.lt x hx) hxq hd).1
            rw [dst_eq ho, hdst] at this
            have : d ≠ d' := fun e => this (by rw [e])
            simp [Fr.set, this]
      · simp only [List.mem_singleton] at hx
        subst hx
        exact hpend
  have stay : ∀ v, ∀ s ∈ slotsOf P ops q, f s = f.set o.dst v s := by
    intro v s hs
    cases hdst : o.dst with
    | none => rfl
    | some d =>
      have : s ≠ d := fun e => far q (.inl rfl) d (by rw [dst_eq ho, hdst]) (e ▸ hs)
      simp [Fr.set, this]
  have one : ∀ v, qop A (evalOpd f) ni.op = some v → reOne A (f.set o.dst v) o.dst ni.op := by
    intro v hv
    have hc : qop A (evalOpd f) ni.op = qop A (evalOpd (f.set o.dst v)) ni.op := qop_congr (evalOpd_congr fun s hs => stay v s (slots_op ho n3 s hs))
    rw [hc] at hv
    cases hdst : o.dst with
    | none => simp only [reOne]; rw [hdst] at hv; rw [hv]; rfl
    | some d => simp only [reOne]; rw [hdst] at hv; rw [hv]; simp [Fr.set]
  have yes : cop P (evalOpd f) A (fun v A' => reAll A' (f.set ni.dst v) ni.re ∧ nrun P K is' (f.set ni.dst v) A') ni.op → ∃ v, qop A (evalOpd f) ni.op = some v ∧ nrun P K is' (f.set o.dst v) A := by
    intro hc
    rw [cop_quiet hqt] at hc
    split at hc
    · rename_i v hv
      rw [n2] at hc
      exact ⟨v, hv, hc.2⟩
    · exact hc.elim
  have hrun := h.run
  simp only [nrun, guarded] at hrun
  cases hg : ni.guard with
  | none =>
    rw [hg] at hrun n4
    obtain ⟨v, hv, hr⟩ := yes hrun
    exact ⟨is', _, build v hr ⟨o, ni.op, none, ho, n3, n4, hqt, one v hv⟩⟩
  | some sw =>
    obtain ⟨s, want⟩ := sw
    rw [hg] at hrun n4
    simp only at hrun
    split at hrun
    · rename_i hb
      have hss : s ∈ slotsOf P ops q := slots_guard ho n4
      obtain ⟨v, hv, hr⟩ := yes hrun
      exact ⟨is', _, build v hr ⟨o, ni.op, some (s, want), ho, n3, n4, hqt, true, by rw [← stay v s hss]; exact hb, fun _ => one v hv, fun hne => by cases hne⟩⟩
    · rename_i hb
      have hss : s ∈ slotsOf P ops q := slots_guard ho n4
      rw [n2] at hrun
      refine ⟨is', _, build .undef hrun.2 ⟨o, ni.op, some (s, want), ho, n3, n4, hqt, false, by rw [← stay .undef s hss]; exact hb, (fun he => by cases he), fun _ d hd => ?_⟩⟩
      rw [hd]
      simp [Fr.set]
    · exact hrun.elim
theorem DS.norm (R : RegOk P ops B chain) (hquiet : ∀ i, i < ops.size → chain i = false → ∃ o nop, ops[i]? = some o ∧ compOp P o.op = some nop ∧ nop.quiet = true) {rest done : List Nat} {g : G} {A : Heap} {w : World} {F : Fr} {a : Act} :
    ∀ (suf pre : List Nat) (is : List NI) (f : Fr), DS P m ops B chain K rest done pre suf is g A w f F a →
      ∃ pre' suf' is' f', DS P m ops B chain K rest done pre' suf' is' g A w f' F a ∧ (suf' = [] ∨ ∃ c s, suf' = c :: s ∧ chain c = true)
  | [], pre, is, f, h => ⟨pre, [], is, f, h, .inl rfl⟩
  | q :: suf, pre, is, f, h => by
    cases hq : chain q with
    | true => exact ⟨pre, _, is, f, h, .inr ⟨q, suf, rfl, hq⟩⟩
    | false =>
      obtain ⟨is', f', h'⟩ := h.adv R hquiet hq
      exact DS.norm R hquiet suf (pre ++ [q]) is' f' h'
theorem reAll_mem {A : Heap} {f : Fr} : ∀ {l : List (Option Nat × Option (Nat × Bool) × NOp)}, reAll A f l → ∀ d gd op, (d, gd, op) ∈ l → match gd with
      | some (s, want) => (match gval (f s) want with | some true => reOne A f d op | some false => True | none => False)
      | none => reOne A f d op
  | [], _, d, gd, op, hm => by cases hm
  | (d', gd', op') :: l, h, d, gd, op, hm => by
    simp only [reAll] at h
    rcases List.mem_cons.1 hm with he | hm
    · cases he; exact h.1
    · exact reAll_mem h.2 d gd op hm
theorem reOf_mem {pre : List Nat} {c : Nat} {re : List (Option Nat × Option (Nat × Bool) × NOp)} (h : reOf P ops B chain pre c = some re) (hc : chain c = true) {q : Nat} (hq : q ∈ pre) (hqc : chain q = false) (hb : (B.getD c 0).testBit q = false) {o : Oper} {nop : NOp} {gd : Option (Nat × Bool)}
    (ho : ops[q]? = some o) (hn : compOp P o.op = some nop) (hg : compGuard ops o.guard = some gd) (hr : nop.reads = true) : (o.dst, gd, nop) ∈ re := by
  unfold reOf at h
  rw [if_pos hc] at h
  have hmem : q ∈ pre.filter fun q => !chain q && !(B.getD c 0).testBit q := List.mem_filter.2 ⟨hq, by simp only [hqc, hb]; rfl⟩
  generalize (pre.filter fun q => !chain q && !(B.getD c 0).testBit q) = l at h hmem
  induction l generalizing re with
  | nil => cases hmem
  | cons x l ih =>
    simp only [List.foldr_cons, Option.bind_eq_bind, Option.bind_eq_some_iff] at h
    obtain ⟨acc, hacc, o', ho', nop', hn', gd', hg', h⟩ := h
    rcases List.mem_cons.1 hmem with rfl | hmem
    · rw [ho] at ho'; cases ho'
      rw [hn] at hn'; cases hn'
      rw [hg] at hg'; cases hg'
      rw [if_pos hr] at h
      cases h
      simp
    · have := ih hacc hmem
      split at h
      · cases h; exact List.mem_cons_of_mem _ this
      · cases h; exact this
theorem orderOk_all : ∀ {suf pre : List Nat}, orderOk ops B chain pre suf = true → ∀ i, i < ops.size → i ∈ pre ∨ i ∈ suf
  | [], pre, h, i, hi => by
    simp only [orderOk, List.all_eq_true] at h
    have := h i (List.mem_range.2 hi)
    exact .inl (by simpa using this)
  | x :: suf, pre, h, i, hi => by
    obtain ⟨_, _, _, _, o5⟩ := orderOk_cons h
    rcases orderOk_all o5 i hi with h | h
    · rcases List.mem_append.1 h with h | h
      · exact .inl h
      · simp only [List.mem_singleton] at h; exact .inr (by simp [h])
    · exact .inr (List.mem_cons_of_mem _ h)
theorem draw_go (R : RegOk P ops B chain) (hdlt : ∀ (i : Nat) (o : Oper), ops[i]? = some o → o.dst.all (· < m) = true) (hquiet : ∀ i, i < ops.size → chain i = false → ∃ o nop, ops[i]? = some o ∧ compOp P o.op = some nop ∧ nop.quiet = true) {Q : Exit → Act → World → Prop} :
    ∀ (rest done pre suf : List Nat) (is : List NI) {g : G} {A : Heap} {w : World} {f F : Fr} {a : Act}, DS P m ops B chain K rest done pre suf is g A w f F a →
      (∀ g' A' w' f' a', Sim g' A' w' → RelF g' m f' a' → Ext g w g' w' → K f' A' → Q .normal a' w') → wpOps P ops Q rest a w := by
  intro rest
  induction rest with
  | nil =>
    intro done pre suf is g A w f F a h hQ
    have hsuf : suf = [] := by
      cases suf with
      | nil => rfl
      | cons x suf =>
        have := (orderOk_mem h.order).1 x (by simp)
        exact absurd (h.sub x (h.lin x this.1)) this.2
    subst hsuf
    have hseq := h.seq
    simp only [compSeq, Option.some.injEq] at hseq
    subst hseq
    refine hQ g A w f a h.sim ⟨h.frame.size, h.frame.defers, fun t => ?_⟩ (.refl h.sim) h.run
    rw [← h.agree t (fun q hq hqd => absurd (h.lin q (h.lt q hq)) hqd)]
    exact h.frame.rel t
  | cons i rest ih =>
    intro done pre suf is g A w f F a h0 hQ
    obtain ⟨pre, suf, is, f, h, hsuf⟩ := DS.norm R hquiet suf pre is f h0
    clear h0
    obtain ⟨l1, l2, l3, l4⟩ := h.lin
    have hmask := closed_ready R h.closed l1 l3
    have hclosed := closed_snoc R h.closed l1 l3
    have hchains := h.chains
    rw [wpOps_cons]
    cases hci : chain i with
    | true =>
      rw [List.filter_cons, if_pos hci] at hchains
      obtain ⟨c, s, rfl, hc⟩ : ∃ c s, suf = c :: s ∧ chain c = true := by
        rcases hsuf with rfl | h'
        · simp at hchains
        · exact h'
      rw [List.filter_cons, if_pos hc] at hchains
      obtain ⟨rfl, hch⟩ := List.cons.inj hchains
      obtain ⟨o1, o2, o3, _, o5⟩ := orderOk_cons h.order
      obtain ⟨re, ni, is', hre, hni, his, rfl⟩ := compSeq_cons h.seq
      obtain ⟨o, ho, n1, n2, n3, n4, n5, n6⟩ := compNI_spec hni
      -- what i looks at stands in the world as it stood in the order that was looked at
      have same : ∀ s ∈ slotsOf P ops i, F s = f s := by
        intro s hs
        refine h.agree s fun q hq hqd hd => ?_
        have hqi : q ≠ i := fun e => o2 (e ▸ hq)
        rcases (R.dst i q s o1 (h.lt q hq) hqi hd).2 hs with hb | ⟨_, hcq⟩
        · exact hqd (hmask q (h.lt q hq) hb)
        · exact hqd (h.did q hq hcq)
      have hrun := h.run
      simp only [nrun] at hrun
      rw [n2, n6] at hrun
      have hrun' : guarded F ni.guard (cop P (evalOpd F) A (fun v A' => reAll A' (f.set o.dst v) re ∧ nrun P K is' (f.set o.dst v) A') ni.op) (reAll A (f.set o.dst .undef) re ∧ nrun P K is' (f.set o.dst .undef) A) := by
        cases hg : ni.guard with
        | none =>
          rw [hg] at hrun
          simp only [guarded] at hrun ⊢
          exact cop_congr (evalOpd_congr fun s hs => (same s (slots_op ho n3 s hs)).symm) hrun
        | some sw =>
          obtain ⟨s, want⟩ := sw
          rw [hg] at hrun n4
          simp only [guarded] at hrun ⊢
          rw [same s (slots_guard ho n4)]
          split at hrun
          · exact cop_congr (evalOpd_congr fun s hs => (same s (slots_op ho n3 s hs)).symm) hrun
          · exact hrun
          · exact hrun.elim
      -- the step in the world: the new value goes to both frames
      have hstep := step_sound (K := fun F' A' => ∃ v, F' = F.set o.dst v ∧ reAll A' (f.set o.dst v) re ∧ nrun P K is' (f.set o.dst v) A') (Q := Q) h.sim h.frame ho n3 n4 n5 (by
        cases hg : ni.guard with
        | none =>
          rw [hg] at hrun'
          simp only [guarded] at hrun' ⊢
          exact cop_mono (fun v A' hv => ⟨v, rfl, hv⟩) hrun'
        | some sw =>
          obtain ⟨s, want⟩ := sw
          rw [hg] at hrun'
          simp only [guarded] at hrun' ⊢
          split at hrun'
          · exact cop_mono (fun v A' hv => ⟨v, rfl, hv⟩) hrun'
          · exact ⟨_, rfl, hrun'⟩
          · exact hrun'.elim)
      refine wpOp_mono ?_ hstep
      rintro a' w' ⟨g', F', A', q1, q2, q3, v, rfl, q4, q5⟩
      have far : ∀ x ∈ pre, x ∉ done → (∀ d, dstOf ops i = some d → d ∉ slotsOf P ops x) ∧ ∀ d, dstOf ops x = some d → o.dst ≠ some d := by
        intro x hx hxd
        have hix : i ≠ x := fun e => o2 (e ▸ hx)
        refine ⟨fun d hd hs => ?_, fun d hd => ?_⟩
        · rcases (R.dst x i d (h.lt x hx) o1 hix hd).2 hs with hb | ⟨hb, _⟩
          · exact o2 ((h.preClosed x hx).2 i o1 hb)
          · exact hxd (hmask x (h.lt x hx) hb)
        · have := (R.dst i x d o1 (h.lt x hx) (Ne.symm hix) hd).1
          rwa [dst_eq ho] at this
      have hset : ∀ (G : Fr) x, x ∈ pre → x ∉ done → (∀ s ∈ slotsOf P ops x, G s = G.set o.dst v s) ∧ ∀ d, dstOf ops x = some d → G d = G.set o.dst v d := by
        intro G x hx hxd
        obtain ⟨r1, r2⟩ := far x hx hxd
        refine ⟨fun s hs => ?_, fun d hd => ?_⟩
        · cases hdst : o.dst with
          | none => rfl
          | some d =>
            have : s ≠ d := fun e => r1 d (by rw [dst_eq ho, hdst]) (e ▸ hs)
            simp [Fr.set, this]
        · have h2 := r2 d hd
          cases hdst : o.dst with
          | none => rfl
          | some d' =>
            have : d ≠ d' := fun e => h2 (by rw [hdst, e])
            simp [Fr.set, this]
      refine ih (done ++ [i]) (pre ++ [i]) s is' (f := f.set o.dst v) (F := F.set o.dst v) ⟨l4, hclosed, ?_, o5, his, hch, ?_, ?_, ?_, q1, q2, ?_, ?_, q5⟩ (fun g'' A'' w'' f'' a'' r1 r2 r3 r4 => hQ g'' A'' w'' f'' a'' r1 r2 (q3.trans r3) r4)
      · intro k hk
        rcases List.mem_append.1 hk with hk | hk
        · exact ⟨(h.preClosed k hk).1, fun j hj hb => List.mem_append.2 (.inl ((h.preClosed k hk).2 j hj hb))⟩
        · simp only [List.mem_singleton] at hk
          subst hk
          exact ⟨o1, fun j hj hb => List.mem_append.2 (.inl (o3 j hj hb))⟩
      · intro c hc' hcc
        rcases List.mem_append.1 hc' with hc' | hc'
        · exact List.mem_append.2 (.inl (h.did c hc' hcc))
        · exact List.mem_append.2 (.inr hc')
      · intro c hc'
        rcases List.mem_append.1 hc' with hc' | hc'
        · exact List.mem_append.2 (.inl (h.sub c hc'))
        · exact List.mem_append.2 (.inr hc')
      · intro k hk
        rcases List.mem_append.1 hk with hk | hk
        · exact h.lt k hk
        · simp only [List.mem_singleton] at hk; subst hk; exact o1
      · intro t ht
        by_cases hd : o.dst = some t
        · rw [hd]; simp [Fr.set]
        · have h1 : F t = f t := h.agree t fun q hq hqd => ht q (List.mem_append.2 (.inl hq)) (fun hm => by
            rcases List.mem_append.1 hm with hm | hm
            · exact hqd hm
            · simp only [List.mem_singleton] at hm
              subst hm
              exact o2 hq)
          cases hdst : o.dst with
          | none => exact h1
          | some d =>
            have : t ≠ d := fun e => hd (by rw [hdst, e])
            simp [Fr.set, this, h1]
      · intro x hx hxd
        have hx' : x ∈ pre := by
          rcases List.mem_append.1 hx with hx | hx
          · exact hx
          · exact absurd (List.mem_append.2 (.inr hx)) hxd
        have hxd' : x ∉ done := fun hm => hxd (List.mem_append.2 (.inl hm))
        obtain ⟨hs1, hs2⟩ := hset f x hx' hxd'
        have hp := (h.pend x hx' hxd').congr hs1 hs2
        obtain ⟨ox, nop, gd, hox, hnx, hgx, hqx, hpx⟩ := hp
        refine ⟨ox, nop, gd, hox, hnx, hgx, hqx, ?_⟩
        have hcx : chain x = false := by
          cases hcx : chain x with
          | false => rfl
          | true => exact absurd (h.did x hx' hcx) hxd'
        have hbx : (B.getD i 0).testBit x = false := by
          cases hbx : (B.getD i 0).testBit x with
          | false => rfl
          | true => exact absurd (hmask x (h.lt x hx') hbx) hxd'
        cases hrd : nop.reads with
        | true =>
          have hmem := reOf_mem hre hc hx' hcx hbx hox hnx hgx hrd
          have := reAll_mem q4 _ _ _ hmem
          cases gd with
          | none => exact this
          | some sw =>
            obtain ⟨s', want⟩ := sw
            simp only at this hpx ⊢
            obtain ⟨b, hb, r1, r2⟩ := hpx
            rw [hb] at this
            refine ⟨b, hb, fun hbw => ?_, r2⟩
            subst hbw
            exact this
        | false =>
          have hq : ∀ σ, qop A σ nop = qop A' σ nop := fun σ => qop_noreads hrd
          cases gd with
          | none =>
            simp only [reOne] at hpx ⊢
            rw [← hq]
            exact hpx
          | some sw =>
            obtain ⟨s', want⟩ := sw
            simp only [reOne] at hpx ⊢
            obtain ⟨b, hb, r1, r2⟩ := hpx
            rw [← hq]
            exact ⟨b, hb, r1, r2⟩
    | false =>
      rw [List.filter_cons, if_neg (by simp [hci])] at hchains
      -- i was looked at ahead of time
      have hip : i ∈ pre := by
        refine Classical.byContradiction fun hip => ?_
        rcases hsuf with rfl | ⟨c, s, rfl, hc⟩
        · rcases orderOk_all h.order i l1 with hm | hm
          · exact hip hm
          · cases hm
        · obtain ⟨o1, o2, o3, o4, o5⟩ := orderOk_cons h.order
          have his : i ∈ s := by
            rcases orderOk_all h.order i l1 with hm | hm
            · exact absurd hm hip
            · rcases List.mem_cons.1 hm with rfl | hm
              · rw [hc] at hci; cases hci
              · exact hm
          obtain ⟨c', hc', hcc, hb⟩ := o4 hc i his hci
          have hlt' : c' < ops.size ∧ c' ∉ pre := (orderOk_mem h.order).1 c' hc'
          exact hlt'.2 (h.sub c' (hmask c' hlt'.1 hb))
      obtain ⟨o, nop, gd, ho, hn, hg, hqt, hp⟩ := h.pend i hip l2
      have same : ∀ s ∈ slotsOf P ops i, F s = f s := by
        intro s hs
        refine h.agree s fun q hq hqd hd => ?_
        by_cases hqi : q = i
        · subst hqi
          exact R.own q s l1 hd hci hs
        · rcases (R.dst i q s l1 (h.lt q hq) hqi hd).2 hs with hb | ⟨_, hcq⟩
          · exact hqd (hmask q (h.lt q hq) hb)
          · exact hqd (h.did q hq hcq)
      have hdn : o.dst.all (· < m) = true := by
        exact hdlt i o ho
      have hqc : qop A (evalOpd F) nop = qop A (evalOpd f) nop := qop_congr (evalOpd_congr fun s hs => same s (slots_op ho hn s hs))
      have hstep := step_sound (K := fun F' A' => A' = A ∧ ∃ v, F' = F.set o.dst v ∧ ∀ d, o.dst = some d → f d = v) (Q := Q) h.sim h.frame ho hn hg hdn (by
        have yes : reOne A f o.dst nop → cop P (evalOpd F) A (fun v A' => A' = A ∧ ∃ v', F.set o.dst v = F.set o.dst v' ∧ ∀ d, o.dst = some d → f d = v') nop := by
          intro hr
          rw [cop_quiet hqt, hqc]
          cases hdst : o.dst with
          | none =>
            rw [hdst] at hr
            simp only [reOne] at hr
            obtain ⟨v, hv⟩ := Option.isSome_iff_exists.1 hr
            rw [hv]
            exact ⟨rfl, v, rfl, fun d hd => by cases hd⟩
          | some d =>
            rw [hdst] at hr
            simp only [reOne] at hr
            rw [hr]
            exact ⟨rfl, _, rfl, fun d' hd => by cases hd; rfl⟩
        cases gd with
        | none => exact yes hp
        | some sw =>
          obtain ⟨s, want⟩ := sw
          obtain ⟨b, hb, r1, r2⟩ := hp
          simp only [guarded]
          rw [same s (slots_guard ho hg), hb]
          cases b
          · exact ⟨trivial, _, rfl, r2 rfl⟩
          · exact yes (r1 rfl))
      refine wpOp_mono ?_ hstep
      rintro a' w' ⟨g', F', A', q1, q2, q3, rfl, v, rfl, hv⟩
      refine ih (done ++ [i]) pre suf is (f := f) (F := F.set o.dst v) ⟨l4, hclosed, h.preClosed, h.order, h.seq, hchains, ?_, ?_, h.lt, q1, q2, ?_, ?_, h.run⟩ (fun g'' A'' w'' f'' a'' r1 r2 r3 r4 => hQ g'' A'' w'' f'' a'' r1 r2 (q3.trans r3) r4)
      · exact fun c hc hcc => List.mem_append.2 (.inl (h.did c hc hcc))
      · intro c hc
        rcases List.mem_append.1 hc with hc | hc
        · exact h.sub c hc
        · simp only [List.mem_singleton] at hc; subst hc; exact hip
      · intro t ht
        by_cases hd : o.dst = some t
        · rw [hd]
          simp [Fr.set, hv t hd]
        · have h1 : F t = f t := h.agree t fun q hq hqd => by
            by_cases hqi : q = i
            · subst hqi
              rw [dst_eq ho]
              exact hd
            · exact ht q hq (fun hm => by
                rcases List.mem_append.1 hm with hm | hm
                · exact hqd hm
                · simp only [List.mem_singleton] at hm; exact hqi hm)
          cases hdst : o.dst with
          | none => exact h1
          | some d =>
            have : t ≠ d := fun e => hd (by rw [hdst, e])
            simp [Fr.set, this, h1]
      · intro x hx hxd
        exact h.pend x hx (fun hm => hxd (List.mem_append.2 (.inl hm)))
end
end Go.NL

set_option linter.unusedVariables false

namespace Go.NL
theorem region_sound {P : Program} {m : Nat} {id : Nat} {ops : Array Oper} {draw : Bool} {is : List NI} {more : List (List NI)} (hc : compRegion P m ops draw = some (.region is more)) {K : Fr → Heap → Prop} {Q : Exit → Act → World → Prop} {g : G} {A : Heap} {w : World} {f : Fr} {a : Act}
    (hs : Sim g A w) (hf : RelF g m f a) (h : nrun P K is f A ∧ ∀ x ∈ more, nrun P K x f A) (hQ : ∀ g' A' w' f' a', Sim g' A' w' → RelF g' m f' a' → Ext g w g' w' → K f' A' → Q .normal a' w') : (Code.region id ops draw).wp P Q a w := by
  unfold compRegion at hc
  cases draw with
  | false =>
    simp only [Bool.false_eq_true, if_false, Option.map_eq_some_iff] at hc
    obtain ⟨l, hl, he⟩ := hc
    cases he
    exact wp_region (nrun_sound _ _ hl hs hf h.1 hQ)
  | true =>
    simp only [if_true] at hc
    split at hc
    · rename_i hok
      simp only [Bool.and_eq_true, List.all_eq_true] at hok
      obtain ⟨⟨⟨hmix, hreg⟩, hord⟩, hzip⟩ := hok
      have R := regOk hreg
      refine wp_region_draw fun t => ?_
      have hL : Region.schedule (P.follows .mixedOrders) ops (t) = Region.linearise .any ops t := by simp [Region.schedule, hmix]
      rw [hL]
      have hlin := lin_all R.lt t
      have hclosed : Closed ops (Region.before ops) [] := fun i hi => by cases hi
      have hmem := lin_ext R (Region.linearise .any ops t) [] ((List.range ops.size).filter (chainOf P ops (Region.before ops))) ops.size hlin hclosed (List.nodup_range.filter _) (fun c => by
        simp only [List.mem_filter, List.mem_range, List.not_mem_nil, not_false_eq_true, and_true]
        exact ⟨fun h => ⟨h.2, h.1⟩, fun h => ⟨h.2, h.1⟩⟩) (Nat.le_trans (List.length_filter_le _ _) (by simp))
      -- the order that stands for it
      generalize hexts : linExts (Region.before ops) ops.size ((List.range ops.size).filter (chainOf P ops (Region.before ops))) = exts at hc hzip hord hmem
      obtain ⟨k, hk, hke⟩ := List.getElem_of_mem hmem
      have hall : ∃ o is', orderOk ops (Region.before ops) (chainOf P ops (Region.before ops)) [] o = true ∧ o.filter (chainOf P ops (Region.before ops)) = (Region.linearise .any ops t).filter (chainOf P ops (Region.before ops)) ∧
          compSeq P m ops (Region.before ops) (chainOf P ops (Region.before ops)) [] o = some is' ∧ nrun P K is' f A := by
        let o := orderOf (Region.before ops) ops.size (chainOf P ops (Region.before ops)) exts[k] []
        have ho : o ∈ exts.map fun co => orderOf (Region.before ops) ops.size (chainOf P ops (Region.before ops)) co [] := List.mem_map.2 ⟨_, List.getElem_mem hk, rfl⟩
        have h1 := hord o ho
        have h2 : o.filter (chainOf P ops (Region.before ops)) = exts[k] := by
          have := hzip (exts[k], o) (by
            refine List.mem_iff_getElem.2 ⟨k, by simpa using hk, ?_⟩
            simp [o])
          simpa using this
        split at hc
        · rename_i s ss hss
          cases hc
          obtain ⟨is', his⟩ := mapM_all hss o ho
          refine ⟨o, is', h1, by rw [h2, hke], his, ?_⟩
          have hin : is' ∈ is :: more := by
            have key : ∀ (l : List (List Nat)) (r : List (List NI)), l.mapM (fun o => compSeq P m ops (Region.before ops) (chainOf P ops (Region.before ops)) [] o) = some r → ∀ o ∈ l, ∀ x, compSeq P m ops (Region.before ops) (chainOf P ops (Region.before ops)) [] o = some x → x ∈ r := by
              intro l
              induction l with
              | nil => intro r _ o ho; cases ho
              | cons y l ih =>
                intro r hr o ho x hx
                simp only [List.mapM_cons, Option.bind_eq_bind, Option.bind_eq_some_iff, Option.pure_def, Option.some.injEq] at hr
                obtain ⟨z, hz, rs, hrs, rfl⟩ := hr
                rcases List.mem_cons.1 ho with rfl | ho
                · rw [hx] at hz; cases hz; simp
                · exact List.mem_cons_of_mem _ (ih rs hrs o ho x hx)
            exact key _ _ hss o ho is' his
          rcases List.mem_cons.1 hin with rfl | hin
          · exact h.1
          · exact h.2 _ hin
        · cases hc
      obtain ⟨o, is', h1, h2, h3, h4⟩ := hall
      obtain ⟨hsd, hed⟩ := hs.drew
      have hquiet : ∀ i, i < ops.size → chainOf P ops (Region.before ops) i = false → ∃ o nop, ops[i]? = some o ∧ compOp P o.op = some nop ∧ nop.quiet = true := by
        intro i hi hch
        unfold chainOf at hch
        rw [Array.getElem?_eq_getElem hi] at hch
        simp only at hch
        split at hch
        · cases hch
        · rename_i nop hn
          simp only [Bool.or_eq_false_iff, Bool.not_eq_false'] at hch
          exact ⟨_, nop, Array.getElem?_eq_getElem hi, hn, hch.1⟩
      have hdlt : ∀ (i : Nat) (o : Oper), ops[i]? = some o → o.dst.all (· < m) = true := by
        intro i oi hoi
        have hi := (Array.getElem?_eq_some_iff.1 hoi).1
        have hin : i ∈ o := by
          rcases orderOk_all h1 i hi with h | h
          · cases h
          · exact h
        have key : ∀ (l pre : List Nat) (r : List NI), compSeq P m ops (Region.before ops) (chainOf P ops (Region.before ops)) pre l = some r → i ∈ l → oi.dst.all (· < m) = true := by
          intro l
          induction l with
          | nil => intro _ _ _ h; cases h
          | cons y l ih =>
            intro pre r hr hm
            obtain ⟨re, ni, is'', q1, q2, q3, _⟩ := compSeq_cons hr
            rcases List.mem_cons.1 hm with rfl | hm
            · obtain ⟨o', p1, _, _, _, _, p5, _⟩ := compNI_spec q2
              rw [hoi] at p1
              cases p1
              exact p5
            · exact ih _ _ q3 hm
        exact key o [] is' h3 hin
      refine draw_go (F := f) R hdlt hquiet _ [] [] o is' ⟨hlin, hclosed, hclosed, h1, h3, by rw [h2], (fun c hc => by cases hc), (fun c hc => by cases hc), (fun c hc => by cases hc), hsd, hf.ext hed, fun _ _ => rfl, (fun q hq => by cases hq), h4⟩ ?_
      exact fun g' A' w' f' a' r1 r2 r3 r4 => hQ g' A' w' f' a' r1 r2 (hed.trans r3) r4
    · cases hc
theorem compRegion_form {P : Program} {m : Nat} {ops : Array Oper} {draw : Bool} {nc : NC} (h : compRegion P m ops draw = some nc) : ∃ is more, nc = .region is more := by
  unfold compRegion at h
  split at h
  · simp only at h
    split at h
    · split at h
      · cases h; exact ⟨_, _, rfl⟩
      · cases h
    · cases h
  · simp only [Option.map_eq_some_iff] at h
    obtain ⟨l, _, rfl⟩ := h
    exact ⟨_, _, rfl⟩
theorem nwp_sound {P : Program} {m : Nat} : ∀ (code : Code) (nc : NC), compCode P m code = some nc → ∀ (Q : Post) {g : G} {A : Heap} {w : World} {f : Fr} {a : Act}, Sim g A w → RelF g m f a → nwp P nc Q f A → code.wp P (CPost g w m Q) a w := by
  intro code
  induction code with
  | skip =>
    intro nc hc Q g A w f a hs hf h
    simp only [compCode, Option.some.injEq] at hc
    subst hc
    exact wp_skip ⟨g, f, A, hs, hf, .refl hs, h⟩
  | label l =>
    intro nc hc Q g A w f a hs hf h
    simp only [compCode, Option.some.injEq] at hc
    subst hc
    exact wp_label ⟨g, f, A, hs, hf, .refl hs, h⟩
  | region id ops draw =>
    intro nc hc Q g A w f a hs hf h
    simp only [compCode] at hc
    obtain ⟨is, more, rfl⟩ := compRegion_form hc
    exact region_sound hc hs hf h fun g' A' w' f' a' r1 r2 r3 r4 => ⟨g', f', A', r1, r2, r3, r4⟩
  | seq x y ihx ihy =>
    intro nc hc Q g A w f a hs hf h
    simp only [compCode] at hc
    split at hc
    · rename_i nx ny hx hy
      cases hc
      simp only [nwp] at h
      refine wp_seq (wp_mono (ihx nx hx _ hs hf h) ?_)
      intro e a' w' he
      cases e with
      | normal =>
        obtain ⟨g', f', A', r1, r2, r3, r4⟩ := he
        exact wp_mono (ihy ny hy Q r1 r2 r4) (CPost.ext r3)
      | exit id => exact he
      | ret => exact he
      | goto l => exact he.elim
      | panic c => exact he.elim
      | outgrown => exact he.elim
    · cases hc
  | cond c x y ihx ihy =>
    intro nc hc Q g A w f a hs hf h
    simp only [compCode] at hc
    split at hc
    · rename_i c' nx ny hcc hx hy
      cases hc
      simp only [nwp] at h
      have hr := hf.ops _ _ hcc
      split at h
      · rename_i he
        rw [he] at hr
        exact wp_cond_true (rel_bool hr) (ihx nx hx Q hs hf h)
      · rename_i he
        rw [he] at hr
        exact wp_cond_false (rel_bool hr) (ihy ny hy Q hs hf h)
      · exact h.elim
    · cases hc
  | block id c ih =>
    intro nc hc Q g A w f a hs hf h
    simp only [compCode, Option.map_eq_some_iff] at hc
    obtain ⟨n, hn, rfl⟩ := hc
    simp only [nwp] at h
    refine wp_block (wp_mono (ih n hn _ hs hf h) ?_)
    intro e a' w' he
    cases e with
    | normal => exact he
    | exit id' =>
      obtain ⟨g', f', A', r1, r2, r3, r4⟩ := he
      simp only [Exit.inBlock]
      simp only [blockP] at r4
      split
      · rename_i hid
        rw [if_pos hid] at r4
        exact ⟨g', f', A', r1, r2, r3, r4⟩
      · rename_i hid
        rw [if_neg hid] at r4
        exact ⟨g', f', A', r1, r2, r3, r4⟩
    | ret => exact he
    | goto l => exact he.elim
    | panic c => exact he.elim
    | outgrown => exact he.elim
  | loop c ih =>
    intro nc hc Q g A w f a hs hf h
    simp only [compCode, Option.map_eq_some_iff] at hc
    obtain ⟨nb, hn, rfl⟩ := hc
    simp only [nwp] at h
    obtain ⟨n, h⟩ := h
    have key : ∀ n {g' : G} {A' : Heap} {w' : World} {f' : Fr} {a' : Act}, Ext g w g' w' → Sim g' A' w' → RelF g' m f' a' → nloop (nwp P nb) Q n f' A' → Code.rounds P c (CPost g w m Q) n a' w' := by
      intro n
      induction n with
      | zero => intro g' A' w' f' a' _ _ _ h; exact h.elim
      | succ n ihn =>
        intro g' A' w' f' a' he hs' hf' h
        rw [rounds_succ]
        refine wp_mono (ih nb hn _ hs' hf' h) ?_
        intro e a2 w2 h2
        cases e with
        | normal =>
          obtain ⟨g2, f2, A2, r1, r2, r3, r4⟩ := h2
          exact ihn (he.trans r3) r1 r2 r4
        | exit id => exact CPost.ext (Q := Q) he (.exit id) a2 w2 h2
        | ret => exact CPost.ext (Q := Q) he .ret a2 w2 h2
        | goto l => exact h2.elim
        | panic c => exact h2.elim
        | outgrown => exact h2.elim
    exact wp_loop_rounds n (key n (.refl hs) hs hf h)
  | exit id =>
    intro nc hc Q g A w f a hs hf h
    simp only [compCode, Option.some.injEq] at hc
    subst hc
    exact wp_exit ⟨g, f, A, hs, hf, .refl hs, h⟩
  | ret =>
    intro nc hc Q g A w f a hs hf h
    simp only [compCode, Option.some.injEq] at hc
    subst hc
    exact wp_ret ⟨g, f, A, hs, hf, .refl hs, h⟩
  | _ => intro nc hc; simp [compCode] at hc
end Go.NL

set_option linter.unusedVariables false

namespace Go.NL
/-- From blocks A and a value v to blocks A' and a value v', nothing being done. -/
def Wk (A : Heap) (v : AV) (A' : Heap) (v' : AV) : Prop := ∀ (g : G) (w : World) (V : Value), Sim g A w → Rel g v V → ∃ g', Ext g w g' w ∧ Sim g' A' w ∧ Rel g' v' V
theorem Wk.refl (A : Heap) (v : AV) : Wk A v A v := fun g w V hs hr => ⟨g, .refl hs, hs, hr⟩
theorem Wk.trans {A A' A'' : Heap} {v v' v'' : AV} (h : Wk A v A' v') (h' : Wk A' v' A'' v'') : Wk A v A'' v'' := fun g w V hs hr => by
  obtain ⟨g1, e1, s1, r1⟩ := h g w V hs hr
  obtain ⟨g2, e2, s2, r2⟩ := h' g1 w V s1 r1
  exact ⟨g2, e1.trans e2, s2, r2⟩
theorem Wk.sub {A A' : Heap} {v : AV} (h : ∀ b x, A' b = some x → A b = some x) : Wk A v A' v := fun g w V hs hr => ⟨g, .refl hs, hs.sub h, hr⟩
def AV.frz0 (b esz : Nat) (es : List AV) : AV → AV
  | .slice e b' off len cap => if b' = b ∧ e = esz ∧ off = 0 ∧ len = es.length then .islice esz es false else .slice e b' off len cap
  | v => v
def AV.frz1 (b esz : Nat) (es : List AV) : AV → AV
  | .agg cs => .agg (cs.map (AV.frz0 b esz es))
  | v => v.frz0 b esz es
def AV.frz (b esz : Nat) (es : List AV) : AV → AV
  | .tuple cs => .tuple (cs.map (AV.frz1 b esz es))
  | v => v.frz1 b esz es
def G.frz (g : G) (b cb sh : Nat) (cs : List AV) : G :=
  { g with mb := fun b' => if b' = b then none else g.mb b', im := fun c o v => g.im c o v ∨ (c = cb ∧ ∃ k, o = sh + k ∧ cs[k]? = some v) }
theorem freeze {g : G} {A : Heap} {w : World} (hs : Sim g A w) {b esz : Nat} {es : List AV} (hA : A b = some (.cells (es.flatMap AV.cells))) (hl : ∀ e ∈ es, e.cells.length = esz) :
    ∃ g', Ext g w g' w ∧ Sim g' (A.del b) w ∧ (∀ v V, Rel g v V → Rel g' (v.frz b esz es) V) := by
  obtain ⟨cb, sh, top, c, el, hm, hh, htop, hlen, hcs, hcell⟩ := blk_cells hs hA
  have e2 : ∀ c o v, g.im c o v → (g.frz b cb sh (es.flatMap AV.cells)).im c o v := fun _ _ _ h => .inl h
  have e3 : ∀ b' x, b' < g.n → (g.frz b cb sh (es.flatMap AV.cells)).mb b' = some x → g.mb b' = some x := by
    intro b' x _ h
    simp only [G.frz] at h
    split at h
    · cases h
    · exact h
  have e3' : ∀ b' x, (g.frz b cb sh (es.flatMap AV.cells)).mb b' = some x → b' ≠ b ∧ g.mb b' = some x := by
    intro b' x h
    simp only [G.frz] at h
    split at h
    · cases h
    · rename_i hb; exact ⟨hb, h⟩
  have ext : Ext g w (g.frz b cb sh (es.flatMap AV.cells)) w := ⟨Nat.le_refl _, e2, e3, (fun b' cb' s t hb h => by
    have := (e3' _ _ h).2
    rw [(hs.fresh b' hb).1] at this
    cases this), fun _ _ _ => rfl, fun _ _ => rfl, Nat.le_refl _, rfl, rfl, rfl⟩
  have up : ∀ {v V}, Rel g v V → Rel (g.frz b cb sh (es.flatMap AV.cells)) v V := fun h => h.of_ext ext
  have r0 : ∀ v V, Rel g v V → Rel (g.frz b cb sh (es.flatMap AV.cells)) (v.frz0 b esz es) V := by
    intro v V h
    unfold AV.frz0
    split
    · rename_i e b' off len cap
      split
      · rename_i hc
        obtain ⟨rfl, rfl, rfl, rfl⟩ := hc
        cases h with
        | slice _ _ _ _ _ a cc hb hlc hcap hsp hlive =>
          obtain ⟨ab, ao, as⟩ := a
          simp only at hsp
          subst hsp
          refine .islice _ _ _ ab ao cc hlc (by simp) fun i el hel => ⟨hl el (List.mem_of_getElem? hel), fun j u hu => ?_⟩
          have hi := (List.getElem?_eq_some_iff.1 hel).1
          obtain ⟨ha, _⟩ := hlive (by omega) _ _ _ hm
          cases ha
          refine .inr ⟨rfl, i * e + j, by omega, ?_⟩
          -- the cell of an element, among all cells
          have key : ∀ (l : List AV) (i : Nat) (el : AV) (j : Nat) (u : AV), (∀ x ∈ l, x.cells.length = e) → l[i]? = some el → el.cells[j]? = some u → (l.flatMap AV.cells)[i * e + j]? = some u := by
            intro l
            induction l with
            | nil => intro i el _ _ _ h; simp at h
            | cons x l ih =>
              intro i el j u hx h hu
              rw [List.flatMap_cons]
              have hx0 := hx x (by simp)
              cases i with
              | zero =>
                simp at h
                subst h
                have hj : j < x.cells.length := (List.getElem?_eq_some_iff.1 hu).1
                rw [Nat.zero_mul, Nat.zero_add, List.getElem?_append_left hj]
                exact hu
              | succ i =>
                simp at h
                rw [List.getElem?_append_right (by rw [hx0, Nat.add_mul]; omega), hx0]
                have := ih i el j u (fun y hy => hx y (by simp [hy])) h hu
                rw [← this]
                congr 1
                rw [Nat.add_mul]
                omega
          exact key es i el j u hl hel hu
      · exact up h
    · exact up h
  have r1 : ∀ v V, Rel g v V → Rel (g.frz b cb sh (es.flatMap AV.cells)) (v.frz1 b esz es) V := by
    intro v V h
    unfold AV.frz1
    split
    · rename_i cs
      obtain ⟨vs, rfl, hr, ho⟩ := rel_agg h
      refine RelL.agg ⟨by simp [hr.len], fun i x u hx hu => ?_⟩ fun x hx => ?_
      · rw [List.getElem?_map, Option.map_eq_some_iff] at hx
        obtain ⟨y, hy, rfl⟩ := hx
        exact r0 _ _ (hr.rel i y u hy hu)
      · rw [List.mem_map] at hx
        obtain ⟨y, hy, rfl⟩ := hx
        have := ho y hy
        cases y <;> simp only [AV.frz0] <;> (try exact this)
        split <;> rfl
    · exact r0 _ _ h
  refine ⟨g.frz b cb sh (es.flatMap AV.cells), ext, ⟨?_, ?_, ?_, ?_, ?_, ?_⟩, fun v V h => ?_⟩
  · intro b' hb'
    have := hs.fresh b' hb'
    simp [G.frz, Heap.del, this]
  · intro b' x hx
    simp only [Heap.del] at hx
    split at hx
    · cases hx
    · rename_i hb
      obtain ⟨cb', s, t, h1, h2⟩ := hs.blk b' x hx
      exact ⟨cb', s, t, by simp [G.frz, hb, h1], h2.ext (Nat.le_refl _) e2 e3 rfl⟩
  · intro b1 b2 cb' s t s' t' h1 h2
    exact hs.inj _ _ _ _ _ _ _ (e3' _ _ h1).2 (e3' _ _ h2).2
  · intro b' cb' s t o v h hv
    obtain ⟨hb, h1⟩ := e3' _ _ h
    rcases hv with hv | ⟨hcb, k, _, _⟩
    · exact hs.own _ _ _ _ _ _ h1 hv
    · rw [hcb] at h1
      exact absurd (hs.inj _ _ _ _ _ _ _ h1 hm) hb
  · intro b' cb' s t h
    exact hs.lt _ _ _ _ (e3' _ _ h).2
  · intro cb' o v hv
    rcases hv with hv | ⟨rfl, k, rfl, hk⟩
    · obtain ⟨V, h1, h2, h3⟩ := hs.imm _ _ _ hv
      exact ⟨V, h1, up h2, h3⟩
    · obtain ⟨h1, V, h2, h3⟩ := hcell k v hk
      exact ⟨V, h2, up h3, h1⟩
  · unfold AV.frz
    split
    · rename_i cs
      obtain ⟨vs, rfl, hr⟩ := rel_tuple h
      refine RelL.tuple ⟨by simp [hr.len], fun i x u hx hu => ?_⟩
      rw [List.getElem?_map, Option.map_eq_some_iff] at hx
      obtain ⟨y, hy, rfl⟩ := hx
      exact r1 _ _ (hr.rel i y u hy hu)
    · exact r1 _ _ h
/-- What may change is taken as never changing from now on. -/
theorem Wk.frz {A : Heap} {v : AV} {b : Nat} (esz : Nat) (es : List AV) (hA : A b = some (.cells (es.flatMap AV.cells))) (hl : ∀ e ∈ es, e.cells.length = esz) : Wk A v (A.del b) (v.frz b esz es) := fun g w V hs hr => by
  obtain ⟨g', h1, h2, h3⟩ := freeze hs hA hl
  exact ⟨g', h1, h2, h3 _ _ hr⟩
def resOne (f : Fr) (A : Heap) : NRes → Option AV
  | .slot t => some (f t)
  | .cell t agg => loadAV A agg (f t)
def resAV (f : Fr) (A : Heap) (rs : List NRes) : Option AV :=
  match rs.mapM (resOne f A) with
  | some [v] => some v
  | some vs => some (.tuple vs)
  | none => none
/-- What must hold where a function returns. -/
def retP (rs : List NRes) (K : AV → Heap → Prop) : Post
  | .normal, f, A | .ret, f, A => ∃ v, resAV f A rs = some v ∧ ∃ A' v', Wk A v A' v' ∧ K v' A'
  | _, _, _ => False
def fr0 (args : List AV) : Fr := fun t => args.getD t .undef
def resSem (tmps : Array Value) : ResultVar → Sem Value
  | .tmp t => pure (tmps.getD t undef)
  | .cell x t => do loadVar t (← asAddr (tmps.getD x undef))
theorem results_eq (fn : Func) (tmps : Array Value) : results fn tmps = (do
    let vs ← fn.results.mapM (resSem tmps)
    pure (if h : vs.size = 1 then vs[0] else .tuple vs)) := rfl
theorem sound_results {P : Program} {g : G} {A : Heap} {w : World} (hs : Sim g A w) {m : Nat} {f : Fr} {a : Act} (hf : RelF g m f a) : ∀ {rs : List ResultVar} {ns : List NRes} (hn : rs.mapM (compRes P) = some ns) {vs : List AV} (hv : ns.mapM (resOne f A) = some vs),
    ∃ Vs, (rs.mapM (resSem a.tmps)).run P w = .ok Vs w ∧ RelL g vs Vs.toArray
  | [], ns, hn, vs, hv => by
    simp at hn
    subst hn
    simp at hv
    subst hv
    exact ⟨[], rfl, .nil⟩
  | r :: rs, ns, hn, vs, hv => by
    simp only [List.mapM_cons, Option.bind_eq_bind, Option.bind_eq_some_iff, Option.pure_def, Option.some.injEq] at hn
    obtain ⟨n, h1, ns', h2, rfl⟩ := hn
    simp only [List.mapM_cons, Option.bind_eq_bind, Option.bind_eq_some_iff, Option.pure_def, Option.some.injEq] at hv
    obtain ⟨v, h3, vs', h4, rfl⟩ := hv
    obtain ⟨Vs, q1, q2⟩ := sound_results hs hf h2 h4
    have one : ∃ V, (resSem a.tmps r).run P w = .ok V w ∧ Rel g v V := by
      cases r with
      | tmp t =>
        simp only [compRes, Option.some.injEq] at h1
        subst h1
        simp only [resOne, Option.some.injEq] at h3
        subst h3
        exact ⟨_, rfl, hf.rel t⟩
      | cell x t =>
        simp only [compRes, Option.map_eq_some_iff] at h1
        obtain ⟨agg, hag, rfl⟩ := h1
        simp only [resOne] at h3
        obtain ⟨V, r1, r2⟩ := sound_load (P := P) hs hag (hf.rel x) h3
        refine ⟨V, ?_, r2⟩
        have hp : ∃ ad, a.tmps.getD x undef = .pointer (some ad) := by
          have := hf.rel x
          unfold loadAV at h3
          split at h3
          · rename_i hb; rw [hb] at this; generalize hX : a.tmps.getD x undef = X at this; cases this; exact ⟨_, rfl⟩
          · rename_i hb; rw [hb] at this; generalize hX : a.tmps.getD x undef = X at this; cases this; exact ⟨_, rfl⟩
          · cases h3
        obtain ⟨ad, hp⟩ := hp
        show (do let ad ← asAddr (a.tmps.getD x undef); loadVar t ad : Sem Value).run P w = _
        rw [hp] at r1 ⊢
        simpa [Instr.loadAt, Instr.sureAddr, asAddr] using r1
    obtain ⟨V, r1, r2⟩ := one
    refine ⟨V :: Vs, ?_, .cons r2 q2⟩
    rw [List.mapM_cons, Sem.run_bind, r1, Result.andThen_ok, Sem.run_bind, q1]
    rfl
theorem NCalls.of_body {P : Program} {f : FuncId} {nf : NFn} (hc : compFn P f = some nf) {args : List AV} (hl : args.length ≤ nf.slots) {A : Heap} {K : AV → Heap → Prop} (h : nwp P nf.body (retP nf.results K) (fr0 args) A) : NCalls P f args A K := by
  unfold compFn at hc
  split at hc
  · cases hc
  · rename_i fn hfn
    split at hc
    · cases hc
    · rename_i c hbody
      split at hc
      · rename_i rs b hrs hb
        split at hc
        · rename_i hent
          cases hc
          refine ⟨hent, fun g w cargs hs hr => ?_⟩
          refine calls_of_wp hfn hbody (wp_mono (nwp_sound (m := fn.ntmps) c b hb _ hs ?_ h) ?_)
          · refine ⟨by have := hr.len; simp at hl; simp; omega, rfl, fun t => ?_⟩
            simp only [Array.getD_eq_getD_getElem?, fr0, List.getD_eq_getElem?_getD]
            by_cases ht : t < args.length
            · have ht' : t < cargs.size := hr.len ▸ ht
              rw [Array.getElem?_append_left ht', List.getElem?_eq_getElem ht, Array.getElem?_eq_getElem ht']
              exact hr.get t ht ht'
            · have ht' : cargs.size ≤ t := by have := hr.len; omega
              rw [Array.getElem?_append_right ht', List.getElem?_eq_none (by omega), Array.getElem?_replicate]
              split <;> exact rel_undef
          · intro e a' w' he
            have fin : (∃ g' f' A', Sim g' A' w' ∧ RelF g' fn.ntmps f' a' ∧ Ext g w g' w' ∧ ∃ v, resAV f' A' rs = some v ∧ ∃ A'' v', Wk A' v A'' v' ∧ K v' A'') →
                a'.defers = [] ∧ ∃ v, (results fn a'.tmps).run P w' = .ok v w' ∧ ∃ v_1 V A'_1 g'_1, Ending.returned v = .returned V ∧ Rel g'_1 v_1 V ∧ Sim g'_1 A'_1 w' ∧ Ext g w g'_1 w' ∧ K v_1 A'_1 := by
              rintro ⟨g', f', A', r1, r2, r3, v, r4, A'', v', r5, r6⟩
              refine ⟨r2.defers, ?_⟩
              unfold resAV at r4
              cases hq : rs.mapM (resOne f' A') with
              | none => rw [hq] at r4; simp at r4
              | some vs =>
                rw [hq] at r4
                obtain ⟨Vs, s1, s2⟩ := sound_results (P := P) r1 r2 hrs hq
                have hres : ∀ V, (if h : Vs.toArray.size = 1 then Vs.toArray[0] else .tuple Vs.toArray) = V → (results fn a'.tmps).run P w' = .ok V w' := by
                  intro V hV
                  rw [results_eq, Array.mapM_eq_mapM_toList, Sem.run_bind, Sem.run_map]
                  rw [s1]
                  simp only [Result.andThen_ok, Sem.run_pure]
                  rw [← hV]
                have hrel : ∃ V, (if h : Vs.toArray.size = 1 then Vs.toArray[0] else .tuple Vs.toArray) = V ∧ Rel g' v V := by
                  refine ⟨_, rfl, ?_⟩
                  have hlen := s2.len
                  split at r4
                  · rename_i v1 hv1
                    cases hv1
                    cases r4
                    have h1 : Vs.toArray.size = 1 := by rw [← hlen]; rfl
                    rw [dif_pos h1]
                    exact s2.get 0 (by simp) (by omega)
                  · rename_i vs' hne hv1
                    cases hv1
                    cases r4
                    have h1 : ¬ Vs.toArray.size = 1 := by
                      intro h1
                      rw [h1] at hlen
                      obtain ⟨x, hx⟩ := List.length_eq_one_iff.1 hlen
                      exact hne x (by rw [hx])
                    rw [dif_neg h1]
                    exact s2.tuple
                  · cases r4
                obtain ⟨V, hV, hR⟩ := hrel
                obtain ⟨g2, t1, t2, t3⟩ := r5 g' w' V r1 hR
                exact ⟨V, hres V hV, v', V, A'', g2, rfl, t3, t2, r3.trans t1, r6⟩
            cases e with
            | normal => exact fin he
            | ret => exact fin he
            | exit id => obtain ⟨_, _, _, _, _, _, h⟩ := he; exact h.elim
            | goto l => exact he.elim
            | panic c => exact he.elim
            | outgrown => exact he.elim
        · cases hc
      · cases hc
end Go.NL

set_option linter.unusedVariables false

namespace Go.NL
theorem guarded_mono {f : Fr} {g : Option (Nat × Bool)} {a b a' b' : Prop} (h1 : a → a') (h2 : b → b') (h : guarded f g a b) : guarded f g a' b' := by
  unfold guarded at h ⊢
  split at h
  · exact h1 h
  · split at h
    · exact h1 h
    · exact h2 h
    · exact h
theorem nrun_mono {P : Program} {Q Q' : Fr → Heap → Prop} (hq : ∀ f A, Q f A → Q' f A) : ∀ (is : List NI) {f : Fr} {A : Heap}, nrun P Q is f A → nrun P Q' is f A
  | [], f, A, h => hq f A h
  | i :: is, f, A, h => guarded_mono (cop_mono fun v A' hv => ⟨hv.1, nrun_mono hq is hv.2⟩) (fun h => ⟨h.1, nrun_mono hq is h.2⟩) h
theorem nwp_mono {P : Program} : ∀ (c : NC) {Q Q' : Post} (hq : ∀ e f A, Q e f A → Q' e f A) {f : Fr} {A : Heap}, nwp P c Q f A → nwp P c Q' f A := by
  intro c
  induction c with
  | skip => intro Q Q' hq f A h; exact hq _ _ _ h
  | region is more => intro Q Q' hq f A h; exact ⟨nrun_mono (hq _) _ h.1, fun x hx => nrun_mono (hq _) _ (h.2 x hx)⟩
  | seq a b iha ihb =>
    intro Q Q' hq f A h
    refine iha (fun e f A he => ?_) h
    cases e with
    | normal => exact ihb hq he
    | exit id => exact hq _ _ _ he
    | ret => exact hq _ _ _ he
  | cond c a b iha ihb =>
    intro Q Q' hq f A h
    simp only [nwp] at h ⊢
    split at h
    · exact iha hq h
    · exact ihb hq h
    · exact h
  | block id c ih =>
    intro Q Q' hq f A h
    refine ih (fun e f A he => ?_) h
    cases e with
    | normal => exact hq _ _ _ he
    | exit id' =>
      simp only [blockP] at he ⊢
      split
      · rename_i h'; rw [if_pos h'] at he; exact hq _ _ _ he
      · rename_i h'; rw [if_neg h'] at he; exact hq _ _ _ he
    | ret => exact hq _ _ _ he
  | loop c ih =>
    intro Q Q' hq f A h
    obtain ⟨n, h⟩ := h
    refine ⟨n, ?_⟩
    induction n generalizing f A with
    | zero => exact h
    | succ n ihn =>
      refine ih (fun e f A he => ?_) h
      cases e with
      | normal => exact ihn he
      | exit id => exact hq _ _ _ he
      | ret => exact hq _ _ _ he
  | exit id => intro Q Q' hq f A h; exact hq _ _ _ h
  | ret => intro Q Q' hq f A h; exact hq _ _ _ h
theorem nloop_more {P : Program} {c : NC} {Q : Post} : ∀ {n k : Nat}, n ≤ k → ∀ {f : Fr} {A : Heap}, nloop (nwp P c) Q n f A → nloop (nwp P c) Q k f A
  | 0, k, _, f, A, h => h.elim
  | n + 1, 0, hk, f, A, h => by omega
  | n + 1, k + 1, hk, f, A, h => nwp_mono c (fun e f A he => by
      cases e with
      | normal => exact nloop_more (Nat.le_of_succ_le_succ hk) he
      | exit id => exact he
      | ret => exact he) h
/-- A loop, by what holds at the head of each round, and a number that falls. -/
theorem nwp_loop {P : Program} {c : NC} {Q : Post} (I : Nat → Fr → Heap → Prop) {f : Fr} {A : Heap} {n : Nat} (h0 : I n f A) (round : ∀ n f A, I n f A → nwp P c (thenP (fun f' A' => ∃ m, m < n ∧ I m f' A') Q) f A) : nwp P (.loop c) Q f A := by
  refine ⟨n + 1, ?_⟩
  have key : ∀ n f A, I n f A → nloop (nwp P c) Q (n + 1) f A := by
    intro n
    induction n using Nat.strongRecOn with
    | _ n ih =>
      intro f A h
      refine nwp_mono c (fun e f A he => ?_) (round n f A h)
      cases e with
      | normal =>
        obtain ⟨m, hm, hI⟩ := he
        exact nloop_more hm (ih m hm f A hI)
      | exit id => exact he
      | ret => exact he
  exact key n f A h0
theorem nwp_seq {P : Program} {a b : NC} {Q : Post} {f : Fr} {A : Heap} (h : ∀ K : Fr → Heap → Prop, (∀ f A, nwp P b Q f A → K f A) → nwp P a (thenP K Q) f A) : nwp P (.seq a b) Q f A := h _ fun _ _ h => h
theorem nwp_region {P : Program} {is : List NI} {Q : Post} {f : Fr} {A : Heap} (h : nrun P (Q .normal) is f A) : nwp P (.region is []) Q f A := ⟨h, fun x hx => by cases hx⟩
theorem nwp_block {P : Program} {id : Nat} {c : NC} {Q : Post} {f : Fr} {A : Heap} (h : nwp P c (blockP id Q) f A) : nwp P (.block id c) Q f A := h
theorem nwp_true {P : Program} {c : Opd} {a b : NC} {Q : Post} {f : Fr} {A : Heap} (hc : evalOpd f c = .bool true) (h : nwp P a Q f A) : nwp P (.cond c a b) Q f A := by simp only [nwp, hc]; exact h
theorem nwp_false {P : Program} {c : Opd} {a b : NC} {Q : Post} {f : Fr} {A : Heap} (hc : evalOpd f c = .bool false) (h : nwp P b Q f A) : nwp P (.cond c a b) Q f A := by simp only [nwp, hc]; exact h
theorem nwp_cond {P : Program} {c : Opd} {a b : NC} {Q : Post} {f : Fr} {A : Heap} {x : Bool} (hc : evalOpd f c = .bool x) (h1 : x = true → nwp P a Q f A) (h2 : x = false → nwp P b Q f A) : nwp P (.cond c a b) Q f A := by
  cases x
  · exact nwp_false hc (h2 rfl)
  · exact nwp_true hc (h1 rfl)
theorem NPure.call {P : Program} {f : FuncId} {args : List AV} {v : AV} (h : NPure P f args v) {A : Heap} {K : AV → Heap → Prop} (hk : K v A) : NCalls P f args A K :=
  (h A).mono fun v' A' ⟨h1, h2⟩ => by subst h1; subst h2; exact hk
theorem NCalls.go {P : Program} {f : FuncId} {args : List AV} {A : Heap} {K K' : AV → Heap → Prop} (h : NCalls P f args A K) (hk : ∀ v A', K v A' → K' v A') : NCalls P f args A K' := h.mono hk
/-- A function that leaves all blocks alone. -/
theorem NPure.of_body {P : Program} {f : FuncId} {nf : NFn} (hc : compFn P f = some nf) {args : List AV} (hl : args.length ≤ nf.slots) {v : AV}
    (h : ∀ A, nwp P nf.body (retP nf.results fun v' A' => v' = v ∧ A' = A) (fr0 args) A) : NPure P f args v := fun A => .of_body hc hl (h A)
@[simp] theorem Heap.set_same (A : Heap) (b : Nat) (x : Blk) : (A.set b x) b = some x := by simp [Heap.set]
theorem Heap.set_other (A : Heap) {b c : Nat} (x : Blk) (h : c ≠ b) : (A.set b x) c = A c := by simp [Heap.set, h]
theorem Heap.set_set (A : Heap) (b : Nat) (x y : Blk) : (A.set b x).set b y = A.set b y := by
  funext c
  unfold Heap.set
  split <;> rfl
theorem Heap.ne_of {A : Heap} {b c : Nat} {x : Blk} (h : A b = some x) (h' : A c = none) : c ≠ b := by
  intro e
  subst e
  rw [h] at h'
  cases h'
theorem Fr.set_none (f : Fr) (v : AV) : f.set none v = f := rfl
theorem Fr.set_get (f : Fr) (d : Nat) (v : AV) (t : Nat) : (f.set (some d) v) t = if t = d then v else f t := rfl
theorem evalOpd_tmp (f : Fr) (t : Nat) : evalOpd f (.tmp t) = f t := rfl
theorem evalOpd_const (f : Fr) (v : AV) : evalOpd f (.const v) = v := rfl
theorem fr0_zero (v : AV) (l : List AV) : fr0 (v :: l) 0 = v := rfl
theorem fr0_succ (v : AV) (l : List AV) (n : Nat) : fr0 (v :: l) (n + 1) = fr0 l n := rfl
theorem one_bool (b : Bool) : (AV.bool b).one = true := rfl
theorem one_int (k : IntKind) (n : Int) : (AV.int k n).one = true := rfl
theorem one_str (s : List UInt8) : (AV.str s).one = true := rfl
theorem one_nilptr : AV.nilptr.one = true := rfl
theorem one_ptr (b o : Nat) : (AV.ptr b o).one = true := rfl
theorem one_iptr (b : List AV) (o : Nat) : (AV.iptr b o).one = true := rfl
theorem one_nilslice : AV.nilslice.one = true := rfl
theorem one_slice (e b o l : Nat) (c : Cap) : (AV.slice e b o l c).one = true := rfl
theorem one_islice (e : Nat) (b : List AV) (x : Bool) : (AV.islice e b x).one = true := rfl
theorem one_nilmap : AV.nilmap.one = true := rfl
theorem one_map (b : Nat) : (AV.map b).one = true := rfl
theorem one_nilfunc : AV.nilfunc.one = true := rfl
theorem one_func (f : FuncId) (a b : List AV) : (AV.func f a b).one = true := rfl
theorem one_iface (t : TypeId) (v : AV) : (AV.iface t v).one = true := rfl
theorem cells_agg (cs : List AV) : (AV.agg cs).cells = cs := rfl
theorem cells_int (k : IntKind) (n : Int) : (AV.int k n).cells = [.int k n] := rfl
theorem cells_bool (b : Bool) : (AV.bool b).cells = [.bool b] := rfl
theorem cells_str (s : List UInt8) : (AV.str s).cells = [.str s] := rfl
theorem cells_nilslice : AV.nilslice.cells = [.nilslice] := rfl
theorem cells_slice (e b o l : Nat) (c : Cap) : (AV.slice e b o l c).cells = [.slice e b o l c] := rfl
theorem cells_islice (e : Nat) (b : List AV) (x : Bool) : (AV.islice e b x).cells = [.islice e b x] := rfl
theorem cells_ptr (b o : Nat) : (AV.ptr b o).cells = [.ptr b o] := rfl
theorem cells_iptr (b : List AV) (o : Nat) : (AV.iptr b o).cells = [.iptr b o] := rfl
theorem cells_nilptr : AV.nilptr.cells = [.nilptr] := rfl
theorem cells_map (b : Nat) : (AV.map b).cells = [.map b] := rfl
theorem cells_func (f : FuncId) (a b : List AV) : (AV.func f a b).cells = [.func f a b] := rfl
theorem cells_nilfunc : AV.nilfunc.cells = [.nilfunc] := rfl
theorem cells_nilmap : AV.nilmap.cells = [.nilmap] := rfl
theorem cells_iface (t : TypeId) (v : AV) : (AV.iface t v).cells = [.iface t v] := rfl
theorem load_iptr (A : Heap) (agg : Option Nat) (cs : List AV) (off : Nat) : loadAV A agg (.iptr cs off) = takeAV agg cs off := rfl
theorem take_none (cs : List AV) (off : Nat) : takeAV none cs off = cs[off]? := rfl
theorem take_some (n : Nat) (cs : List AV) (off : Nat) : takeAV (some n) cs off = if off + n ≤ cs.length then some (.agg ((cs.drop off).take n)) else none := rfl
def ifSome (o : Option AV) (K : AV → Prop) : Prop :=
  match o with
  | some v => K v
  | none => False
theorem ifSome_some (v : AV) (K : AV → Prop) : ifSome (some v) K = K v := rfl
theorem ifSome_intro {o : Option AV} {v : AV} {K : AV → Prop} (h : o = some v) (hk : K v) : ifSome o K := by rw [h]; exact hk
def ifBool (v : AV) (K : Bool → Prop) : Prop :=
  match v with
  | .bool b => K b
  | _ => False
def ifInt (v : AV) (K : Int → Prop) : Prop :=
  match v with
  | .int _ n => K n
  | _ => False
theorem ifInt_int (k : IntKind) (n : Int) (K : Int → Prop) : ifInt (.int k n) K = K n := rfl
def ifCells (A : Heap) (b : Nat) (K : List AV → Prop) : Prop :=
  match A b with
  | some (.cells cs) => K cs
  | _ => False
def asRef : AV → Option AV
  | .ptr b o => some (.ptr b o)
  | .iptr cs o => some (.iptr cs o)
  | .func f a b => some (.func f a b)
  | _ => none
theorem asRef_ptr (b o : Nat) : asRef (.ptr b o) = some (.ptr b o) := rfl
theorem asRef_iptr (cs : List AV) (o : Nat) : asRef (.iptr cs o) = some (.iptr cs o) := rfl
theorem asRef_func (f : FuncId) (a b : List AV) : asRef (.func f a b) = some (.func f a b) := rfl
def unAV (op : UnOp) (x : AV) : Option AV := match op, x with
    | .neg, .int k n => some (.int k (k.wrap (0 - n)))
    | .xor, .int k n => some (.int k (k.wrap (BitVec.ofInt k.bits (if k.signed then -1 else k.max) ^^^ BitVec.ofInt k.bits n).toNat))
    | .not, .bool b => some (.bool (!b))
    | _, _ => none
theorem unAV_not (b : Bool) : unAV .not (.bool b) = some (.bool (!b)) := rfl
theorem unAV_neg (k : IntKind) (n : Int) : unAV .neg (.int k n) = some (.int k (k.wrap (0 - n))) := rfl
def convAV (k : IntKind) : AV → Option AV
  | .int _ n => some (.int k (k.wrap n))
  | _ => none
theorem convAV_int (k k' : IntKind) (n : Int) : convAV k (.int k' n) = some (.int k (k.wrap n)) := rfl
def strAV : AV → Option AV
  | .str s => some (.str s)
  | _ => none
theorem strAV_str (s : List UInt8) : strAV (.str s) = some (.str s) := rfl
def fieldAV (off : Nat) : AV → Option AV
  | .ptr b o => some (.ptr b (o + off))
  | .iptr cs o => some (.iptr cs (o + off))
  | _ => none
theorem fieldAV_ptr (off b o : Nat) : fieldAV off (.ptr b o) = some (.ptr b (o + off)) := rfl
theorem fieldAV_iptr (off : Nat) (cs : List AV) (o : Nat) : fieldAV off (.iptr cs o) = some (.iptr cs (o + off)) := rfl
def partAV (agg : Option Nat) (off : Nat) : AV → Option AV
  | .agg cs => takeAV agg cs off
  | _ => none
theorem partAV_agg (agg : Option Nat) (off : Nat) (cs : List AV) : partAV agg off (.agg cs) = takeAV agg cs off := rfl
def idxStr (x : AV) (n : Int) : Option AV := match x with
  | .str s => if 0 ≤ n then (s[n.toNat]?).map fun b => .int .u8 b.toNat else none
  | _ => none
theorem idxStr_str (s : List UInt8) (n : Int) : idxStr (.str s) n = if 0 ≤ n then (s[n.toNat]?).map fun b => .int .u8 b.toNat else none := rfl
def idxArr (agg : Option Nat) (esz len : Nat) (x : AV) (n : Int) : Option AV := match x with
  | .agg cs => if 0 ≤ n ∧ n < len then takeAV agg cs (n.toNat * esz) else none
  | _ => none
theorem idxArr_agg (agg : Option Nat) (esz len : Nat) (cs : List AV) (n : Int) : idxArr agg esz len (.agg cs) n = if 0 ≤ n ∧ n < len then takeAV agg cs (n.toNat * esz) else none := rfl
def tupAV (i : Nat) : AV → Option AV
  | .tuple vs => vs[i]?
  | _ => none
theorem tupAV_tuple (i : Nat) (vs : List AV) : tupAV i (.tuple vs) = vs[i]? := rfl
def maxAV (x y : AV) : Option AV := match x, y with
    | .int k a, .int k' b => if k = k' then some (.int k (if a < b then b else a)) else none
    | _, _ => none
theorem maxAV_int (k : IntKind) (a b : Int) : maxAV (.int k a) (.int k b) = some (.int k (if a < b then b else a)) := by simp [maxAV]
def minAV (x y : AV) : Option AV := match x, y with
    | .int k a, .int k' b => if k = k' then some (.int k (if b < a then b else a)) else none
    | _, _ => none
theorem minAV_int (k : IntKind) (a b : Int) : minAV (.int k a) (.int k b) = some (.int k (if b < a then b else a)) := by simp [minAV]
def storeN (A : Heap) (K : Heap → Prop) (n : Nat) (x : AV) (vs : List AV) : Prop := match x with
  | .ptr b off => ifCells A b fun cs => off + n ≤ cs.length ∧ K (A.set b (.cells (over cs off vs)))
  | _ => False
theorem storeN_ptr (A : Heap) (K : Heap → Prop) (n b off : Nat) (vs : List AV) : storeN A K n (.ptr b off) vs = ifCells A b fun cs => off + n ≤ cs.length ∧ K (A.set b (.cells (over cs off vs))) := rfl
def callN (P : Program) (A : Heap) (K : AV → Heap → Prop) (args : List AV) : AV → Prop
  | .func f first caps => NCalls P f (first ++ args ++ caps) A K
  | _ => False
theorem callN_func (P : Program) (A : Heap) (K : AV → Heap → Prop) (args : List AV) (f : FuncId) (first caps : List AV) : callN P A K args (.func f first caps) = NCalls P f (first ++ args ++ caps) A K := rfl
def sliceN (A : Heap) (K : AV → Heap → Prop) (e l : Nat) (o : Option (List AV)) : Prop := match o with
  | some cs => ∀ b, A b = none → K (.slice e b 0 l (.eq l)) (A.set b (.cells cs))
  | none => False
theorem sliceN_some (A : Heap) (K : AV → Heap → Prop) (e l : Nat) (cs : List AV) : sliceN A K e l (some cs) = ∀ b, A b = none → K (.slice e b 0 l (.eq l)) (A.set b (.cells cs)) := rfl
def makeSliceN (A : Heap) (K : AV → Heap → Prop) (esz bytes : Nat) (z : List AV) (l c : AV) : Prop := match l, c with
    | .int .i64 l, .int .i64 c => 0 ≤ l ∧ l ≤ c ∧ c * bytes ≤ 140737488355328 ∧ c ≤ 4611686018427387904 ∧
      ∀ b, A b = none → K (.slice esz b 0 l.toNat (.eq c.toNat)) (A.set b (.cells (List.replicate c.toNat z).flatten))
    | _, _ => False
theorem makeSliceN_int (A : Heap) (K : AV → Heap → Prop) (esz bytes : Nat) (z : List AV) (l c : Int) : makeSliceN A K esz bytes z (.int .i64 l) (.int .i64 c) = (0 ≤ l ∧ l ≤ c ∧ c * bytes ≤ 140737488355328 ∧ c ≤ 4611686018427387904 ∧
      ∀ b, A b = none → K (.slice esz b 0 l.toNat (.eq c.toNat)) (A.set b (.cells (List.replicate c.toNat z).flatten))) := rfl
theorem guarded_none (f : Fr) (a b : Prop) : guarded f none a b = a := rfl
/-- What hangs on a value; 'no' where the value was not made. -/
def ifGuard (v : AV) (K : Bool → Prop) (no : Prop) : Prop :=
  match v with
  | .bool b => K b
  | .tuple [] => no
  | _ => False
theorem ifGuard_bool (b : Bool) (K : Bool → Prop) (no : Prop) : ifGuard (.bool b) K no = ifBool (.bool b) K := rfl
theorem qop_load (A : Heap) (σ : Opd → AV) (agg : Option Nat) (x : Opd) : qop A σ (.load agg x) = loadAV A agg (σ x) := rfl
theorem qop_len (A : Heap) (σ : Opd → AV) (k : LenK) (x : Opd) : qop A σ (.len k x) = (lenAV A k (σ x)).map fun (n : Nat) => AV.int .i64 n := rfl
theorem qop_lookup (A : Heap) (σ : Opd → AV) (str ok : Bool) (z : AV) (x k : Opd) : qop A σ (.lookup str z ok x k) = if keyOk str (σ k) = false then none else (mapFind A (σ k) (σ x)).map (lookRes z ok) := rfl
theorem gval_bool (b w : Bool) : gval (.bool b) w = some (decide (b = w)) := rfl
theorem gval_undef (w : Bool) : gval (.tuple []) w = some false := rfl
theorem ifGuard_undef (K : Bool → Prop) (no : Prop) : ifGuard (.tuple []) K no = no := rfl
theorem guarded_some (f : Fr) (s : Nat) (w : Bool) (a b : Prop) : guarded f (some (s, w)) a b = ifGuard (f s) (fun x => if x = w then a else b) b := by
  unfold guarded ifGuard gval
  simp only
  cases f s with
  | bool x =>
    simp only
    by_cases h : x = w
    · simp [h]
    · simp [h]
  | tuple vs => cases vs <;> rfl
  | _ => rfl
theorem nrun_nil (P : Program) (Q : Fr → Heap → Prop) (f : Fr) (A : Heap) : nrun P Q [] f A = Q f A := rfl
theorem nrun_plain (P : Program) (Q : Fr → Heap → Prop) (i : Nat) (d : Option Nat) (op : NOp) (is : List NI) (f : Fr) (A : Heap) : nrun P Q (⟨i, d, none, op, []⟩ :: is) f A = cop P (evalOpd f) A (fun v A' => nrun P Q is (f.set d v) A') op := by
  simp only [nrun, guarded_none, reAll, true_and]
theorem nrun_guard (P : Program) (Q : Fr → Heap → Prop) (i s : Nat) (w : Bool) (d : Option Nat) (op : NOp) (is : List NI) (f : Fr) (A : Heap) : nrun P Q (⟨i, d, some (s, w), op, []⟩ :: is) f A = ifGuard (f s) (fun x => if x = w then cop P (evalOpd f) A (fun v A' => nrun P Q is (f.set d v) A') op else nrun P Q is (f.set d .undef) A) (nrun P Q is (f.set d .undef) A) := by
  simp only [nrun, guarded_some, reAll, true_and]
theorem nrun_plain_re (P : Program) (Q : Fr → Heap → Prop) (i : Nat) (d : Option Nat) (op : NOp) (r : Option Nat × Option (Nat × Bool) × NOp) (re : List (Option Nat × Option (Nat × Bool) × NOp)) (is : List NI) (f : Fr) (A : Heap) : nrun P Q (⟨i, d, none, op, r :: re⟩ :: is) f A = cop P (evalOpd f) A (fun v A' => reAll A' (f.set d v) (r :: re) ∧ nrun P Q is (f.set d v) A') op := by
  simp only [nrun, guarded_none]
theorem nrun_guard_re (P : Program) (Q : Fr → Heap → Prop) (i s : Nat) (w : Bool) (d : Option Nat) (op : NOp) (r : Option Nat × Option (Nat × Bool) × NOp) (re : List (Option Nat × Option (Nat × Bool) × NOp)) (is : List NI) (f : Fr) (A : Heap) : nrun P Q (⟨i, d, some (s, w), op, r :: re⟩ :: is) f A = ifGuard (f s) (fun x => if x = w then cop P (evalOpd f) A (fun v A' => reAll A' (f.set d v) (r :: re) ∧ nrun P Q is (f.set d v) A') op else reAll A (f.set d .undef) (r :: re) ∧ nrun P Q is (f.set d .undef) A) (reAll A (f.set d .undef) (r :: re) ∧ nrun P Q is (f.set d .undef) A) := by
  simp only [nrun, guarded_some]
section
variable (P : Program) (σ : Opd → AV) (A : Heap) (K : AV → Heap → Prop)
theorem cop_move (x : Opd) : cop P σ A K (.move x) = ifSome (some (σ x)) (K · A) := rfl
theorem cop_pick (c a b : Opd) : cop P σ A K (.pick c a b) = ifBool (σ c) fun t => ifSome (some (if t then σ a else σ b)) (K · A) := by
  simp only [cop, qop, ifBool]; cases σ c <;> rfl
theorem cop_zero (cs : List AV) : cop P σ A K (.zero cs) = ∀ b, A b = none → K (.ptr b 0) (A.set b (.cells cs)) := rfl
theorem cop_box (x : Opd) : cop P σ A K (.box x) = ((σ x).cells.all AV.one = true ∧ ∀ b, A b = none → K (.ptr b 0) (A.set b (.cells (σ x).cells))) := rfl
theorem cop_build (z : List AV) (ps : List (Nat × Nat × Opd)) : cop P σ A K (.build z ps) = ifSome ((fillAV z (ps.map fun (o, n, x) => (o, n, σ x))).map .agg) (K · A) := rfl
theorem cop_buildSlice (e l : Nat) (z : List AV) (ps : List (Nat × Nat × Opd)) : cop P σ A K (.buildSlice e l z ps) = sliceN A K e l (fillAV z (ps.map fun (o, n, x) => (o, n, σ x))) := by
  simp only [cop, sliceN]; cases fillAV z (ps.map fun (o, n, x) => (o, n, σ x)) <;> rfl
theorem cop_load (agg : Option Nat) (x : Opd) : cop P σ A K (.load agg x) = ifSome (loadAV A agg (σ x)) (K · A) := rfl
theorem cop_store (n : Nat) (x v : Opd) : cop P σ A K (.store n x v) = ((σ v).cells.length = n ∧ (σ v).cells.all AV.one = true ∧ storeN A (K .undef) n (σ x) (σ v).cells) := by
  simp only [cop, storeN, ifCells]; cases σ x <;> simp only
  rename_i b off
  cases A b with
  | none => rfl
  | some x => cases x <;> rfl
theorem cop_nilCheck (x : Opd) : cop P σ A K (.nilCheck x) = ifSome (asRef (σ x)) (K · A) := by simp only [cop, qop]; cases σ x <;> rfl
theorem cop_bin (op : BinOp) (k : Option EqK) (x y : Opd) : cop P σ A K (.bin op k x y) = ifSome (binAV op k (σ x) (σ y)) (K · A) := rfl
theorem cop_un (op : UnOp) (x : Opd) : cop P σ A K (.un op x) = ifSome (unAV op (σ x)) (K · A) := rfl
theorem cop_convInt (k : IntKind) (x : Opd) : cop P σ A K (.convInt k x) = ifSome (convAV k (σ x)) (K · A) := by simp only [cop, qop]; cases σ x <;> rfl
theorem cop_convSame (x : Opd) : cop P σ A K (.convSame x) = ifSome (strAV (σ x)) (K · A) := by simp only [cop, qop]; cases σ x <;> rfl
theorem cop_fieldAddr (off : Nat) (x : Opd) : cop P σ A K (.fieldAddr off x) = ifSome (fieldAV off (σ x)) (K · A) := by simp only [cop, qop]; cases σ x <;> rfl
theorem cop_field (agg : Option Nat) (off : Nat) (x : Opd) : cop P σ A K (.field agg off x) = ifSome (partAV agg off (σ x)) (K · A) := by simp only [cop, qop]; cases σ x <;> rfl
theorem cop_indexAddr (esz : Nat) (arr : Option Nat) (x i : Opd) : cop P σ A K (.indexAddr esz arr x i) = ifInt (σ i) fun n => ifSome (indexAddrAV esz arr (σ x) n) (K · A) := by simp only [cop, qop, ifInt]; cases σ i <;> rfl
theorem cop_indexStr (x i : Opd) : cop P σ A K (.indexStr x i) = ifInt (σ i) fun n => ifSome (idxStr (σ x) n) (K · A) := by simp only [cop, qop, ifInt]; cases σ i <;> cases σ x <;> rfl
theorem cop_indexArr (agg : Option Nat) (esz len : Nat) (x i : Opd) : cop P σ A K (.indexArr agg esz len x i) = ifInt (σ i) fun n => ifSome (idxArr agg esz len (σ x) n) (K · A) := by simp only [cop, qop, ifInt]; cases σ i <;> cases σ x <;> rfl
theorem cop_slice (esz : Option Nat) (x : Opd) (lo hi mx : Option Opd) : cop P σ A K (.slice esz x lo hi mx) = ifSome (sliceAV esz (lo.map σ) (hi.map σ) (mx.map σ) (σ x)) (K · A) := rfl
theorem cop_lookup (str : Bool) (z : AV) (ok : Bool) (x k : Opd) : cop P σ A K (.lookup str z ok x k) = ifSome (if keyOk str (σ k) = false then none else (mapFind A (σ k) (σ x)).map (lookRes z ok)) (K · A) := rfl
theorem cop_mapUpdate (str : Bool) (m k v : Opd) : cop P σ A K (.mapUpdate str m k v) = (keyOk str (σ k) = true ∧ mapUpd A (K .undef) (σ k) (σ v) (σ m)) := rfl
theorem cop_makeMap : cop P σ A K .makeMap = ∀ b, A b = none → K (.map b) (A.set b (.map [] 0)) := rfl
theorem cop_makeSlice (e b : Nat) (z : List AV) (l c : Opd) : cop P σ A K (.makeSlice e b z l c) = makeSliceN A K e b z (σ l) (σ c) := rfl
theorem cop_makeFunc (f : FuncId) (a c : List Opd) : cop P σ A K (.makeFunc f a c) = ifSome (some (.func f (a.map σ) (c.map σ))) (K · A) := rfl
theorem cop_makeIface (t : TypeId) (x : Opd) : cop P σ A K (.makeIface t x) = ifSome (some (.iface t (σ x))) (K · A) := rfl
theorem cop_extract (x : Opd) (i : Nat) : cop P σ A K (.extract x i) = ifSome (tupAV i (σ x)) (K · A) := by simp only [cop, qop]; cases σ x <;> rfl
theorem cop_len (k : LenK) (x : Opd) : cop P σ A K (.len k x) = ifSome ((lenAV A k (σ x)).map fun (n : Nat) => AV.int .i64 n) (K · A) := rfl
theorem cop_append (str : Bool) (e b : Nat) (s x : Opd) : cop P σ A K (.append str e b s x) = appendN A K str e b (σ s) (σ x) := rfl
theorem cop_max (x y : Opd) : cop P σ A K (.max x y) = ifSome (maxAV (σ x) (σ y)) (K · A) := rfl
theorem cop_min (x y : Opd) : cop P σ A K (.min x y) = ifSome (minAV (σ x) (σ y)) (K · A) := rfl
theorem cop_call (f : Opd) (args : List Opd) : cop P σ A K (.call f args) = callN P A K (args.map σ) (σ f) := by simp only [cop]; cases σ f <;> rfl
end
theorem len_str (A : Heap) (s : List UInt8) : lenAV A .str (.str s) = some s.length := rfl
theorem len_nil (A : Heap) : lenAV A .slice .nilslice = some 0 := rfl
theorem len_slice (A : Heap) (e b o n : Nat) (c : Cap) : lenAV A .slice (.slice e b o n c) = some n := rfl
theorem len_islice (A : Heap) (e : Nat) (es : List AV) (x : Bool) : lenAV A .slice (.islice e es x) = some es.length := rfl
section
variable (ek : Option EqK) (k : IntKind) (a b : Int) (s t : List UInt8)
theorem bin_add : binAV .add ek (.int k a) (.int k b) = some (.int k (k.wrap (a + b))) := by simp [binAV, binInt]
theorem bin_sub : binAV .sub ek (.int k a) (.int k b) = some (.int k (k.wrap (a - b))) := by simp [binAV, binInt]
theorem bin_mul : binAV .mul ek (.int k a) (.int k b) = some (.int k (k.wrap (a * b))) := by simp [binAV, binInt]
theorem bin_eql : binAV .eql ek (.int k a) (.int k b) = some (.bool (decide (a = b))) := by simp [binAV, binInt]
theorem bin_neq : binAV .neq ek (.int k a) (.int k b) = some (.bool (!decide (a = b))) := by simp [binAV, binInt]
theorem bin_lss : binAV .lss ek (.int k a) (.int k b) = some (.bool (decide (a < b))) := by simp [binAV, binInt]
theorem bin_leq : binAV .leq ek (.int k a) (.int k b) = some (.bool (decide (a ≤ b))) := by simp [binAV, binInt]
theorem bin_gtr : binAV .gtr ek (.int k a) (.int k b) = some (.bool (decide (b < a))) := by simp [binAV, binInt]
theorem bin_geq : binAV .geq ek (.int k a) (.int k b) = some (.bool (decide (b ≤ a))) := by simp [binAV, binInt]
theorem bin_seql : binAV .eql ek (.str s) (.str t) = some (.bool (decide (s = t))) := by simp [binAV, binStr]
theorem bin_sneq : binAV .neq ek (.str s) (.str t) = some (.bool (!decide (s = t))) := by simp [binAV, binStr]
theorem bin_beql (x y : Bool) : binAV .eql (some .bool) (.bool x) (.bool y) = some (.bool (x == y)) := by simp [binAV, eqAV]
theorem bin_bneq (x y : Bool) : binAV .neq (some .bool) (.bool x) (.bool y) = some (.bool (!(x == y))) := by simp [binAV, eqAV]
theorem bin_struct_eql (fs : List (Nat × EqK0)) (xs ys : List AV) : binAV .eql (some (.struct fs)) (.agg xs) (.agg ys) = (eqFields xs ys fs).map .bool := by simp [binAV, eqAV]
theorem bin_struct_neq (fs : List (Nat × EqK0)) (xs ys : List AV) : binAV .neq (some (.struct fs)) (.agg xs) (.agg ys) = (eqFields xs ys fs).map fun r => .bool (!r) := by simp [binAV, eqAV]
end
/-- (So that what follows is left alone, be the value new or not.) -/
def mark {α : Type} (a : α) : α := a
theorem mark_eq {α : Type} (a : α) : mark a = a := Eq.symm (Eq.trans (Eq.symm (by simp only)) (Eq.refl a))
@[congr] theorem ifSome_congr {o o' : Option AV} {K : AV → Prop} (h : mark o = o') : ifSome o K = ifSome o' K := by simp only [mark] at *; subst_vars; rfl --h]
@[congr] theorem ifGuard_congr {o o' : AV} {K : Bool → Prop} {no : Prop} (h : mark o = o') : ifGuard o K no = ifGuard o' K no := by simp only [mark] at *; subst_vars; rfl
@[congr] theorem ifBool_congr {o o' : AV} {K : Bool → Prop} (h : mark o = o') : ifBool o K = ifBool o' K := by simp only [mark] at *; subst_vars; rfl --h]
@[congr] theorem ifInt_congr {o o' : AV} {K : Int → Prop} (h : mark o = o') : ifInt o K = ifInt o' K := by simp only [mark] at *; subst_vars; rfl --h]
@[congr] theorem ifCells_congr {A A' : Heap} {b b' : Nat} {K : List AV → Prop} (h : mark b = b') (hA : A = A') : ifCells A b K = ifCells A' b' K := by simp only [mark] at *; subst_vars; rfl --h, hA]
@[congr] theorem storeN_congr {A : Heap} {K : Heap → Prop} {n : Nat} {x x' : AV} {vs vs' : List AV} (h : mark x = x') (h' : vs = vs') : storeN A K n x vs = storeN A K n x' vs' := by simp only [mark] at *; subst_vars; rfl --h, h']
@[congr] theorem callN_congr {P : Program} {A : Heap} {K : AV → Heap → Prop} {args args' : List AV} {x x' : AV} (h : mark x = x') (h' : args = args') : callN P A K args x = callN P A K args' x' := by simp only [mark] at *; subst_vars; rfl --h, h']
@[congr] theorem NCalls_congr {P : Program} {f : FuncId} {A : Heap} {K : AV → Heap → Prop} {args args' : List AV} (h' : mark args = args') : NCalls P f args A K = NCalls P f args' A K := by simp only [mark] at *; subst_vars; rfl --h']
@[congr] theorem sliceN_congr {A : Heap} {K : AV → Heap → Prop} {e l : Nat} {o o' : Option (List AV)} (h : mark o = o') : sliceN A K e l o = sliceN A K e l o' := by simp only [mark] at *; subst_vars; rfl --h]
@[congr] theorem makeSliceN_congr {A : Heap} {K : AV → Heap → Prop} {e b : Nat} {z : List AV} {l c l' c' : AV} (h : mark l = l') (h' : c = c') : makeSliceN A K e b z l c = makeSliceN A K e b z l' c' := by simp only [mark] at *; subst_vars; rfl --h, h']
@[congr] theorem appendN_congr {A : Heap} {K : AV → Heap → Prop} {st : Bool} {e b : Nat} {s x s' x' : AV} (h : mark s = s') (h' : x = x') : appendN A K st e b s x = appendN A K st e b s' x' := by simp only [mark] at *; subst_vars; rfl --h, h']
@[congr] theorem mapUpd_congr {A : Heap} {K : Heap → Prop} {k v m k' v' m' : AV} (h : mark k = k') (h' : v = v') (h'' : m = m') : mapUpd A K k v m = mapUpd A K k' v' m' := by simp only [mark] at *; subst_vars; rfl --h, h', h'']
attribute [go_sem] gval_bool gval_undef reAll qop_load qop_len qop_lookup
attribute [go_sem ↓] ifGuard_bool ifGuard_undef evalOpd_tmp evalOpd_const Fr.set_none Fr.set_get nrun_nil nrun_plain nrun_guard nrun_plain_re nrun_guard_re cop_move cop_pick cop_zero cop_box cop_build cop_buildSlice cop_load cop_store cop_nilCheck cop_bin cop_un cop_convInt cop_convSame cop_fieldAddr cop_field cop_indexAddr cop_indexStr cop_indexArr cop_slice cop_lookup cop_mapUpdate cop_makeMap cop_makeSlice cop_makeFunc cop_makeIface cop_extract cop_len cop_append cop_max cop_min cop_call reAll
attribute [go_sem] mark_eq reOne load_iptr take_none take_some fillAV over fr0_zero fr0_succ AV.undef ifSome_some ifInt_int asRef_ptr asRef_iptr asRef_func unAV_not unAV_neg convAV_int strAV_str fieldAV_ptr fieldAV_iptr partAV_agg idxStr_str idxArr_agg tupAV_tuple maxAV_int minAV_int storeN_ptr callN_func sliceN_some makeSliceN_int one_bool one_int one_str one_nilptr one_ptr one_iptr one_nilslice one_slice one_islice one_nilmap one_map one_nilfunc one_func one_iface cells_agg cells_int cells_bool cells_str cells_nilslice cells_slice cells_islice cells_ptr cells_iptr cells_nilptr cells_map cells_func cells_nilfunc cells_nilmap cells_iface len_str len_nil len_slice len_islice bin_add bin_sub bin_mul bin_eql bin_neq bin_lss bin_leq bin_gtr bin_geq bin_seql bin_sneq bin_beql bin_bneq bin_struct_eql bin_struct_neq eqFields eq0
attribute [go_sem] List.all_cons List.all_nil Bool.and_true Bool.true_and true_and and_true List.length_cons List.length_nil List.take_succ_cons List.take_zero List.drop_succ_cons List.drop_zero List.getElem?_cons_zero List.getElem?_cons_succ List.map_cons List.map_nil List.append_nil List.nil_append List.cons_append if_true if_false Option.map_some Option.map_none Nat.zero_add Nat.add_zero
end Go.NL

set_option linter.unusedVariables false

namespace Go.NL
section
variable (P : Program) (Q : Post) (f : Fr) (A : Heap)
theorem w_skip : nwp P .skip Q f A = Q .normal f A := rfl
theorem w_region (is : List NI) : nwp P (.region is []) Q f A = nrun P (Q .normal) is f A := by simp [nwp]
theorem w_seq (a b : NC) : nwp P (.seq a b) Q f A = nwp P a (thenP (nwp P b Q) Q) f A := rfl
theorem w_cond (c : Opd) (a b : NC) : nwp P (.cond c a b) Q f A = ifBool (evalOpd f c) fun x => if x = true then nwp P a Q f A else nwp P b Q f A := by
  simp only [nwp, ifBool]
  cases evalOpd f c <;> try rfl
  rename_i b
  cases b <;> rfl
theorem w_block (id : Nat) (c : NC) : nwp P (.block id c) Q f A = nwp P c (blockP id Q) f A := rfl
theorem w_exit (id : Nat) : nwp P (.exit id) Q f A = Q (.exit id) f A := rfl
theorem w_ret : nwp P .ret Q f A = Q .ret f A := rfl
end
structure Heap.le (A A' : Heap) : Prop where
  get : ∀ c y, A c = some y → A' c = some y
theorem Heap.le.refl (A : Heap) : A.le A := ⟨fun _ _ h => h⟩
theorem Heap.le.trans {A B C : Heap} (h : A.le B) (h' : B.le C) : A.le C := ⟨fun c y hc => h'.get c y (h.get c y hc)⟩
theorem Heap.le.set {A A' : Heap} {b : Nat} {x : Blk} (h : A.le A') (hb : A' b = none) : A.le (A'.set b x) := ⟨by
  intro c y hy
  have h1 := h.get c y hy
  have hne : c ≠ b := by
    intro e
    subst e
    rw [hb] at h1
    cases h1
  rw [Heap.set_other _ _ hne]
  exact h1⟩
theorem Heap.le.set' {A A' : Heap} {b : Nat} {x : Blk} (h : A.le A') (hb : A b = none) : A.le (A'.set b x) := ⟨by
  intro c y hy
  have h1 := h.get c y hy
  have hne : c ≠ b := by
    intro e
    subst e
    rw [hb] at hy
    cases hy
  rw [Heap.set_other _ _ hne]
  exact h1⟩
theorem Heap.le.none {A A' : Heap} {b : Nat} (h : A.le A') (hb : A' b = none) : A b = none := by
  cases hA : A b with
  | none => rfl
  | some x => rw [h.get b x hA] at hb; cases hb
/-- What must hold where a function returns that leaves all blocks alone. -/
def pureP (rs : List NRes) (v : AV) (A0 : Heap) : Post
  | .normal, f, A | .ret, f, A => resAV f A rs = some v ∧ A0.le A
  | _, _, _ => False
section
variable (rs : List NRes) (v : AV) (A0 : Heap) (f : Fr) (A : Heap)
theorem pureP_normal : pureP rs v A0 .normal f A = (resAV f A rs = some v ∧ A0.le A) := rfl
theorem pureP_ret : pureP rs v A0 .ret f A = (resAV f A rs = some v ∧ A0.le A) := rfl
end
theorem NPure.walk {P : Program} {f : FuncId} {nf : NFn} (hc : compFn P f = some nf) {args : List AV} (hl : args.length ≤ nf.slots) {v : AV}
    (h : ∀ A, nwp P nf.body (pureP nf.results v A) (fr0 args) A) : NPure P f args v :=
  NPure.of_body hc hl fun A => nwp_mono _ (fun e f A' he => by
    cases e with
    | normal => exact ⟨v, he.1, A, v, .sub he.2.get, rfl, rfl⟩
    | exit id => exact he.elim
    | ret => exact ⟨v, he.1, A, v, .sub he.2.get, rfl, rfl⟩) (h A)
/-- What must hold where a function returns: K of what it tells. -/
def callP (rs : List NRes) (K : AV → Heap → Prop) : Post
  | .normal, f, A | .ret, f, A => ifSome (resAV f A rs) fun v => K v A
  | _, _, _ => False
section
variable (rs : List NRes) (K : AV → Heap → Prop) (f : Fr) (A : Heap)
theorem callP_normal : callP rs K .normal f A = ifSome (resAV f A rs) fun v => K v A := rfl
theorem callP_ret : callP rs K .ret f A = ifSome (resAV f A rs) fun v => K v A := rfl
end
theorem callP_ret' {rs : List NRes} {K : AV → Heap → Prop} {f : Fr} {A : Heap} (h : ifSome (resAV f A rs) fun v => K v A) : retP rs K .ret f A := by
  cases hv : resAV f A rs with
  | none => rw [hv] at h; exact h.elim
  | some v => rw [hv] at h; exact ⟨v, hv, A, v, .refl _ _, h⟩
theorem NCalls.walk {P : Program} {f : FuncId} {nf : NFn} (hc : compFn P f = some nf) {args : List AV} (hl : args.length ≤ nf.slots) {A : Heap} {K : AV → Heap → Prop}
    (h : nwp P nf.body (callP nf.results K) (fr0 args) A) : NCalls P f args A K :=
  .of_body hc hl (nwp_mono _ (fun e f A' he => by
    cases e with
    | normal => exact callP_ret' he
    | exit id => exact he.elim
    | ret => exact callP_ret' he) h)
section
variable (f : Fr) (A : Heap) (t : Nat)
theorem resAV_one : resAV f A [.slot t] = some (f t) := rfl
theorem resAV_nil : resAV f A [] = some (.tuple []) := rfl
theorem resAV_two (u : Nat) : resAV f A [.slot t, .slot u] = some (.tuple [f t, f u]) := rfl
theorem resAV_one_c (a : Option Nat) : resAV f A [.cell t a] = loadAV A a (f t) := by
  simp only [resAV, List.mapM_cons, List.mapM_nil, resOne]
  cases loadAV A a (f t) <;> rfl
theorem resAV_cs (a : Option Nat) (u : Nat) : resAV f A [.cell t a, .slot u] = (loadAV A a (f t)).map fun v => .tuple [v, f u] := by
  simp only [resAV, List.mapM_cons, List.mapM_nil, resOne]
  cases loadAV A a (f t) <;> rfl
theorem resAV_sc (a : Option Nat) (u : Nat) : resAV f A [.slot u, .cell t a] = (loadAV A a (f t)).map fun v => .tuple [f u, v] := by
  simp only [resAV, List.mapM_cons, List.mapM_nil, resOne]
  cases loadAV A a (f t) <;> rfl
theorem thenP_normal (K : Fr → Heap → Prop) (Q : Post) : thenP K Q .normal f A = K f A := rfl
theorem thenP_ret (K : Fr → Heap → Prop) (Q : Post) : thenP K Q .ret f A = Q .ret f A := rfl
theorem thenP_exit (K : Fr → Heap → Prop) (Q : Post) : thenP K Q (.exit t) f A = Q (.exit t) f A := rfl
theorem blockP_normal (Q : Post) : blockP t Q .normal f A = Q .normal f A := rfl
theorem blockP_ret (Q : Post) : blockP t Q .ret f A = Q .ret f A := rfl
theorem blockP_exit (u : Nat) (Q : Post) : blockP t Q (.exit u) f A = if u = t then Q .normal f A else Q (.exit u) f A := rfl
end
theorem idx_arr_ptr (esz n b off : Nat) (i : Int) : indexAddrAV esz (some n) (.ptr b off) i = if 0 ≤ i ∧ i < n then some (.ptr b (off + i.toNat * esz)) else none := rfl
theorem idx_arr_iptr (esz n off : Nat) (cs : List AV) (i : Int) : indexAddrAV esz (some n) (.iptr cs off) i = if 0 ≤ i ∧ i < n then some (.iptr cs (off + i.toNat * esz)) else none := rfl
theorem ifBool_true (K : Bool → Prop) : ifBool (.bool true) K = K true := rfl
theorem ifBool_false (K : Bool → Prop) : ifBool (.bool false) K = K false := rfl
theorem ifBool_cases {b : Bool} {K : Bool → Prop} (h1 : b = true → K true) (h2 : b = false → K false) : ifBool (.bool b) K := by
  cases b
  · exact h2 rfl
  · exact h1 rfl
theorem le_refl' (A : Heap) : A.le A = True := eq_true (.refl A)
theorem le_set_true {A0 A : Heap} {b : Nat} {x : Blk} (h : A b = none) (h' : A0.le A) : A0.le (A.set b x) = True := eq_true (h'.set h)
theorem le_set_true' {A0 A : Heap} {b : Nat} {x : Blk} (h : A0 b = none) (h' : A0.le A) : A0.le (A.set b x) = True := eq_true (h'.set' h)
theorem Heap.get_set (A : Heap) (b c : Nat) (x : Blk) : (A.set b x) c = if c = b then some x else A c := rfl
theorem Heap.set_none (A : Heap) (b c : Nat) (x : Blk) : ((A.set b x) c = none) = (c ≠ b ∧ b ≠ c ∧ A c = none) := by
  unfold Heap.set
  by_cases h : c = b
  · simp [h]
  · simp [h, Ne.symm h]
def cellsB (K : List AV → Prop) : Option Blk → Prop
  | some (.cells cs) => K cs
  | _ => False
theorem ifCells_blk (A : Heap) (b : Nat) (K : List AV → Prop) : ifCells A b K = cellsB K (A b) := by
  unfold ifCells cellsB
  rfl
theorem cellsB_some (K : List AV → Prop) (cs : List AV) : cellsB K (some (.cells cs)) = K cs := rfl
def loadB (agg : Option Nat) (off : Nat) : Option Blk → Option AV
  | some (.cells cs) => takeAV agg cs off
  | _ => none
theorem load_blk (A : Heap) (agg : Option Nat) (b off : Nat) : loadAV A agg (.ptr b off) = loadB agg off (A b) := by
  unfold loadAV loadB
  rfl
theorem loadB_some (agg : Option Nat) (off : Nat) (cs : List AV) : loadB agg off (some (.cells cs)) = takeAV agg cs off := rfl
def findB (k : AV) : Option Blk → Option (Option (Nat × AV))
  | some (.map es _) => findE k es 0
  | _ => none
theorem mapFind_blk (A : Heap) (k : AV) (b : Nat) : mapFind A k (.map b) = findB k (A b) := by
  unfold mapFind findB
  rfl
theorem mapFind_nil (A : Heap) (k : AV) : mapFind A k .nilmap = some none := rfl
def updB (A : Heap) (b : Nat) (K : Heap → Prop) (k v : AV) : Option Blk → Prop
  | some (.map es ck) => match findE k es 0 with
    | some (some (i, _)) => K (A.set b (.map (es.modify i fun e => (k, v, e.2.2)) ck))
    | some none => K (A.set b (.map (es ++ [(k, v, ck)]) (ck + 1)))
    | none => False
  | _ => False
theorem mapUpd_blk (A : Heap) (K : Heap → Prop) (k v : AV) (b : Nat) : mapUpd A K k v (.map b) = updB A b K k v (A b) := by
  unfold mapUpd updB
  rfl
@[congr] theorem cellsB_congr {K : List AV → Prop} {o o' : Option Blk} (h : mark o = o') : cellsB K o = cellsB K o' := by simp only [mark] at h; rw [h]
@[congr] theorem updB_congr {A : Heap} {b : Nat} {K : Heap → Prop} {k v k' v' : AV} {o o' : Option Blk} (h : mark o = o') (hk : k = k') (hv : v = v') : updB A b K k v o = updB A b K k' v' o' := by simp only [mark] at h; rw [h, hk, hv]
/-- A loop that counts. -/
theorem nwp_range {P : Program} {c : NC} {Q : Post} (N : Nat) (I : Nat → Fr → Heap → Prop) {f : Fr} {A : Heap} (h0 : I 0 f A) (round : ∀ i f A, I i f A → nwp P c (thenP (fun f' A' => i < N ∧ I (i + 1) f' A') Q) f A) : nwp P (.loop c) Q f A := by
  refine nwp_loop (fun m f A => ∃ i, m = N - i ∧ I i f A) (n := N) ⟨0, rfl, h0⟩ ?_
  rintro n f A ⟨i, rfl, hI⟩
  refine nwp_mono _ (fun e f' A' he => ?_) (round i f A hI)
  cases e with
  | normal => exact ⟨N - (i + 1), by have := he.1; omega, i + 1, rfl, he.2⟩
  | exit id => exact he
  | ret => exact he
attribute [go_sem ↓] w_skip w_region w_seq w_cond w_block w_exit w_ret pureP_normal pureP_ret callP_normal callP_ret thenP_normal thenP_ret thenP_exit blockP_normal blockP_ret blockP_exit
attribute [go_sem ↓] Heap.set_none ifBool_true ifBool_false ifCells_blk mapUpd_blk
attribute [go_sem] le_refl' le_set_true le_set_true' Heap.get_set cellsB_some load_blk loadB_some mapFind_blk mapFind_nil ne_eq not_false_eq_true not_true_eq_false
attribute [go_sem] idx_arr_ptr idx_arr_iptr and_self resAV_one_c resAV_cs resAV_sc resAV_one resAV_nil resAV_two Option.some.injEq decide_eq_true_eq
end Go.NL

set_option linter.unusedVariables false
namespace Go.NL
structure Atom where
  kind : Int
  n : Int
  s : List UInt8
  deriving DecidableEq
/-- A part of a program; na, nt, nl: is the list nil, if it is empty? -/
inductive Core where
  | mk (kind x n : Int) (s : List UInt8) (na : Bool) (a : List Atom) (nt : Bool) (tags : List Int) (nl : Bool) (l : List Core)
def Core.kind : Core → Int | .mk k _ _ _ _ _ _ _ _ _ => k
def Core.x : Core → Int | .mk _ x _ _ _ _ _ _ _ _ => x
def Core.n : Core → Int | .mk _ _ n _ _ _ _ _ _ _ => n
def Core.s : Core → List UInt8 | .mk _ _ _ s _ _ _ _ _ _ => s
def Core.a : Core → List Atom | .mk _ _ _ _ _ a _ _ _ _ => a
def Core.tags : Core → List Int | .mk _ _ _ _ _ _ _ t _ _ => t
def Core.l : Core → List Core | .mk _ _ _ _ _ _ _ _ _ l => l
/-- A list that never changes. -/
def encSl (nil : Bool) (esz : Nat) (es : List AV) : AV := if nil = true ∧ es = [] then .nilslice else .islice esz es false
def encInt (n : Int) : AV := .int .i64 n
def Atom.enc (a : Atom) : AV := .agg [.int .i64 a.kind, .int .i64 a.n, .str a.s]
mutual
def Core.enc : Core → AV
  | .mk k x n s na a nt t nl l => .agg [.int .i64 k, .int .i64 x, .int .i64 n, .str s, encSl na 3 (a.map Atom.enc), encSl nt 1 (t.map encInt), encSl nl 7 (Core.encs l)]
def Core.encs : List Core → List AV
  | [] => []
  | c :: cs => c.enc :: Core.encs cs
end
theorem Core.encs_eq : ∀ l : List Core, Core.encs l = l.map Core.enc
  | [] => rfl
  | c :: cs => by rw [Core.encs, Core.encs_eq cs]; rfl
@[go_sem] theorem lenAV_encSl (A : Heap) (b : Bool) (e : Nat) (es : List AV) : lenAV A .slice (encSl b e es) = some es.length := by
  unfold encSl
  split
  · rename_i h; rw [h.2]; rfl
  · rfl
theorem indexAddr_encSl (b : Bool) (e : Nat) (es : List AV) (i : Nat) (v : AV) (h : es[i]? = some v) : indexAddrAV e none (encSl b e es) (i : Int) = some (.iptr v.cells 0) := by
  unfold encSl
  rw [if_neg (by rintro ⟨_, rfl⟩; simp at h)]
  simp [indexAddrAV, h]
theorem srcAV_encSl (A : Heap) (b : Bool) (e : Nat) (es : List AV) : srcAV A false e (encSl b e es) = some (es.length, es.flatMap AV.cells) := by
  unfold encSl
  split
  · rename_i h; rw [h.2]; rfl
  · simp [srcAV]
theorem oneSl (b : Bool) (e : Nat) (es : List AV) : (encSl b e es).one = true := by
  unfold encSl
  split <;> rfl
attribute [go_sem] oneSl
theorem Atom.enc_cells (a : Atom) : a.enc.cells = [.int .i64 a.kind, .int .i64 a.n, .str a.s] := rfl
theorem Core.enc_cells : ∀ c : Core, c.enc.cells.length = 7
  | .mk .. => rfl
mutual
/-- How many parts there are. -/
def Core.size : Core → Nat
  | .mk _ _ _ _ _ _ _ _ _ l => 1 + Core.sizes l
def Core.sizes : List Core → Nat
  | [] => 0
  | c :: cs => c.size + Core.sizes cs
end
mutual
/-- How many functions. -/
def Core.funs : Core → Nat
  | .mk k _ _ _ _ _ _ _ _ l => (if k = 7 then 1 else 0) + Core.funsL l
def Core.funsL : List Core → Nat
  | [] => 0
  | c :: cs => c.funs + Core.funsL cs
end
mutual
/-- Has a CoreRec too many? -/
def Core.wide : Core → Bool
  | .mk k _ _ _ _ _ _ _ _ l => (decide (k = 8) && decide (1024 < (l.length : Int) - 1)) || Core.wideL l
def Core.wideL : List Core → Bool
  | [] => false
  | c :: cs => c.wide || Core.wideL cs
end
end Go.NL

set_option linter.unusedVariables false

namespace Go.NL
theorem i64w {n : Int} (h1 : -9223372036854775808 ≤ n) (h2 : n ≤ 9223372036854775807) : IntKind.i64.wrap n = n := by
  simp only [IntKind.wrap, IntKind.bits, IntKind.signed]
  simp
  omega
theorem encs_length : ∀ l : List Core, (Core.encs l).length = l.length
  | [] => rfl
  | c :: l => by simp [Core.encs, encs_length l]
theorem Core.size_pos : ∀ c : Core, 1 ≤ c.size
  | .mk .. => by simp only [Core.size]; omega
theorem Core.size_mem {l : List Core} {c : Core} (h : c ∈ l) : c.size ≤ Core.sizes l := by
  induction l with
  | nil => cases h
  | cons x l ih =>
    simp only [Core.sizes]
    rcases List.mem_cons.1 h with rfl | h
    · omega
    · have := ih h; omega
theorem Core.take_enc : ∀ c : Core, takeAV (some 7) c.enc.cells 0 = some c.enc
  | .mk .. => rfl
theorem Atom.take_enc : ∀ c : Atom, takeAV (some 3) c.enc.cells 0 = some c.enc
  | .mk .. => rfl
theorem Core.one_enc : ∀ c : Core, c.enc.cells.all AV.one = true
  | .mk .. => by simp only [Core.enc, cells_agg, List.all_cons, List.all_nil, oneSl, one_int, one_str, Bool.and_self]
theorem Atom.one_enc : ∀ c : Atom, c.enc.cells.all AV.one = true
  | .mk .. => rfl
theorem Atom.len_enc : ∀ c : Atom, c.enc.cells.length = 3
  | .mk .. => rfl
attribute [go_sem high] Core.take_enc Atom.take_enc
attribute [go_sem] Core.one_enc Atom.one_enc Atom.len_enc Core.enc_cells Heap.set_set
end Go.NL
