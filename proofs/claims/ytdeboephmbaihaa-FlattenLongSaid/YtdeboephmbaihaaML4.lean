/- core: Unbound: what it tells. -/
import Derived.Test.YtdeboephmbaihaaML3
import Derived.Test.YtdeboephmbaihaaML2
import Derived.Test.YtdeboephmbaihaaXAM
/- core: Unbound: what it tells. -/
set_option linter.unusedVariables false
set_option linter.unusedSimpArgs false
set_option maxRecDepth 10000
namespace Go.NL
open Go.Proofs

/-- Variables, none twice, no more than so many. -/
structure KeysOk (n : Nat) (o : List (Int × Bool)) : Prop where
  nd : (o.map (·.1)).Nodup
  rg : ∀ x ∈ o.map (·.1), 0 ≤ x ∧ x ≤ 1048575
  ln : o.length ≤ n

theorem mput_keys {V : Type} (k : Int) (v : V) : ∀ m : List (Int × V), (∀ x, x ∈ (mput m k v).map (·.1) → x = k ∨ x ∈ m.map (·.1)) ∧ ((m.map (·.1)).Nodup → ((mput m k v).map (·.1)).Nodup) ∧ (mput m k v).length ≤ m.length + 1
  | [] => by simp [mput]
  | (k', v') :: m => by
    obtain ⟨h1, h2, h3⟩ := mput_keys k v m
    simp only [mput]
    split
    · rename_i h
      subst h
      refine ⟨fun x hx => .inr ?_, fun h => h, by simp⟩
      exact hx
    · rename_i h
      refine ⟨fun x hx => ?_, fun hn => ?_, by simp only [List.length_cons]; omega⟩
      · simp only [List.map_cons, List.mem_cons] at hx ⊢
        rcases hx with hx | hx
        · exact .inr (.inl hx)
        · rcases h1 x hx with h | h
          · exact .inl h
          · exact .inr (.inr h)
      · simp only [List.map_cons, List.nodup_cons] at hn ⊢
        refine ⟨fun hk => ?_, h2 hn.2⟩
        rcases h1 _ hk with h' | h'
        · exact h h'
        · exact hn.1 h'
theorem KeysOk.put {n : Nat} {o : List (Int × Bool)} (h : KeysOk n o) {k : Int} (h0 : 0 ≤ k) (h1 : k ≤ 1048575) (v : Bool) : KeysOk (n + 1) (mput o k v) := by
  obtain ⟨q1, q2, q3⟩ := mput_keys k v o
  refine ⟨q2 h.nd, fun x hx => ?_, by have := h.ln; omega⟩
  rcases q1 x hx with rfl | hx
  · exact ⟨h0, h1⟩
  · exact h.rg x hx
theorem KeysOk.le {n m : Nat} {o : List (Int × Bool)} (h : KeysOk n o) (hnm : n ≤ m) : KeysOk m o := ⟨h.nd, h.rg, Nat.le_trans h.ln hnm⟩
theorem KeysOk.nil (n : Nat) : KeysOk n [] := ⟨.nil, by simp, by simp⟩

mutual
/-- How many atoms. -/
def Core.atoms : Core → Nat
  | .mk _ _ _ _ _ a _ _ _ l => a.length + Core.atomss l
def Core.atomss : List Core → Nat
  | [] => 0
  | c :: cs => c.atoms + Core.atomss cs
end
mutual
/-- Are variables variables? -/
def Core.vars : Core → Bool
  | .mk _ _ _ _ _ a _ _ _ l => a.all (fun a => !decide (a.kind = 1) || isVar a.n) && Core.varss l
def Core.varss : List Core → Bool
  | [] => true
  | c :: cs => c.vars && Core.varss cs
end

theorem sees_ok (b : List (Int × Int)) : ∀ (a : List Atom) (n : Nat) (o : List (Int × Bool)), KeysOk n o → a.all (fun a => !decide (a.kind = 1) || isVar a.n) = true → KeysOk (n + a.length) (a.foldl (sees b) o)
  | [], n, o, h, _ => h
  | x :: a, n, o, h, ha => by
    simp only [List.all_cons, Bool.and_eq_true] at ha
    have := sees_ok b a (n + 1) (sees b o x) (by
      unfold sees
      split
      · rename_i hx
        have h1 := ha.1
        simp only [hx.1, decide_true, Bool.not_true, Bool.false_or, isVar, Bool.and_eq_true, decide_eq_true_eq] at h1
        exact h.put h1.1 h1.2 true
      · exact h.le (Nat.le_succ _)) ha.2
    simp only [List.foldl_cons, List.length_cons]
    exact this.le (by omega)

mutual
theorem Core.unb_ok : ∀ (c : Core) (n : Nat) (o : List (Int × Bool)) (b : List (Int × Int)), KeysOk n o → c.vars = true → KeysOk (n + c.atoms) (c.unb o b).1
  | .mk k x m s na a nt t nl l, n, o, b, h, hv => by
    simp only [Core.vars, Bool.and_eq_true] at hv
    rw [Core.unb]
    simp only [Core.atoms]
    exact (Core.unbs_ok l (lateK k) x 0 _ _ _ (sees_ok b a n o h hv.1) hv.2).le (by omega)
theorem Core.unbs_ok : ∀ (l : List Core) (late : Bool) (x : Int) (i : Nat) (n : Nat) (o : List (Int × Bool)) (b : List (Int × Int)), KeysOk n o → Core.varss l = true → KeysOk (n + Core.atomss l) (Core.unbs late x i l o b).1
  | [], late, x, i, n, o, b, h, _ => by simpa [Core.unbs, Core.atomss] using h
  | c :: cs, late, x, i, n, o, b, h, hv => by
    simp only [Core.varss, Bool.and_eq_true] at hv
    simp only [Core.unbs, Core.atomss]
    exact (Core.unbs_ok cs late x (i + 1) _ _ _ (Core.unb_ok c n o _ h hv.1) hv.2).le (by omega)
end

/-- The variables that a part uses where they are not bound, rising. -/
def Core.free (c : Core) : List Int := ((c.unb [] []).1.map (·.1)).mergeSort fun x y => decide (x ≤ y)

theorem Heap.keep {A : Heap} {b c : Nat} {x y : Blk} (hc : A c = some y) (hb : A b = none) : (A.set b x) c = some y := by
  rw [Heap.set_other _ _ (Heap.ne_of hc hb).symm]
  exact hc

theorem Keys_run {A : Heap} {mb : Nat} {K : AV → Heap → Prop} (hK : ∀ b, A b = none → K (.func 64 [] [.ptr b 0]) (A.set b (.cells [.map mb]))) : NCalls Try.prog F_maps_Keys_map_intbool_int_bool [.map mb] A K := by
  refine NCalls.walk c_maps_Keys_map_intbool_int_bool (Nat.le_of_ble_eq_true rfl) ?_
  simp only [n_maps_Keys_map_intbool_int_bool, go_sem, Nat.reduceEqDiff, Nat.reduceAdd, Nat.reduceSub, Nat.reduceLeDiff, Nat.reduceLT, Nat.reduceMul, Int.reduceEq, Int.reduceLT, Int.reduceLE, Int.reduceNeg, Int.reduceToNat, Int.reduceAdd, Int.reduceSub, Int.cast_ofNat_Int, Int.cast_ofNat_Int, reduceCtorEq, ↓reduceIte, Bool.false_eq_true, decide_true, decide_false, eq_self, Bool.not_true, Bool.not_false]
  intro b hb
  exact hK b hb

set_option maxHeartbeats 1000000 in
theorem Unbound_body (c : Core) (hg : c.good big = true) (hv : c.vars = true) (hlen : c.atoms ≤ big) {A0 : Heap} {Q : Post} (hQ : ∀ f A, A0.le A → OutI A0 A (f 2) c.free → Q .ret f A) : nwp Try.prog n_core_Unbound.body Q (fr0 [c.enc]) A0 := by
  have hbig : big = 1099511627776 := rfl
  have hte := Core.take_enc c
  have hone := Core.one_enc c
  have hrun := @Unbound1_spec c.size c (Nat.le_refl _) hg
  have hok := Core.unb_ok c 0 [] [] (.nil _) hv
  simp only [n_core_Unbound]
  refine nwp_then (fun f A => ∃ b, A0.le A ∧ f 1 = .ptr b 0 ∧ A b = some (.cells c.enc.cells)) ?_ ?_
  · simp only [n_core_Unbound_r0, go_sem, Nat.reduceEqDiff, Nat.reduceAdd, Nat.reduceSub, Nat.reduceLeDiff, Nat.reduceLT, Nat.reduceMul, Int.reduceEq, Int.reduceLT, Int.reduceLE, Int.reduceNeg, Int.reduceToNat, Int.reduceAdd, Int.reduceSub, Int.cast_ofNat_Int, Int.cast_ofNat_Int, reduceCtorEq, ↓reduceIte, Bool.false_eq_true, decide_true, decide_false, eq_self, Bool.not_true, Bool.not_false]
    intro b hb
    exact Here.mk ⟨b, (Heap.le.refl _).set hb, rfl, by simp⟩
  rintro f A ⟨b, hle, h1, hb⟩
  refine nwp_then (fun f A => ∃ bo mo, A0.le A ∧ f 1 = .ptr b 0 ∧ A b = some (.cells c.enc.cells) ∧ f 3 = .ptr bo 0 ∧ A bo = some (.cells [.map mo]) ∧ A mo = some (mapB AV.bool []) ∧ A0 mo = none) ?_ ?_
  · simp only [n_core_Unbound_r1, go_sem, Nat.reduceEqDiff, Nat.reduceAdd, Nat.reduceSub, Nat.reduceLeDiff, Nat.reduceLT, Nat.reduceMul, Int.reduceEq, Int.reduceLT, Int.reduceLE, Int.reduceNeg, Int.reduceToNat, Int.reduceAdd, Int.reduceSub, Int.cast_ofNat_Int, Int.cast_ofNat_Int, reduceCtorEq, ↓reduceIte, Bool.false_eq_true, decide_true, decide_false, eq_self, Bool.not_true, Bool.not_false]
    rintro mo hmo bo ⟨ne, _, hbo⟩
    have hbo' : (A.set mo (.map [] 0)) bo = none := by rw [Heap.set_other _ _ ne]; exact hbo
    exact Here.mk ⟨bo, mo, (hle.set hmo).set hbo', h1, Heap.keep (Heap.keep hb hmo) hbo', rfl, Heap.set_same _ _ _, Heap.keep (Heap.set_same _ _ _) hbo', hle.none hmo⟩
  rintro f A ⟨bo, mo, hle, h1, hb, h3, hbo, hmo, hmo0⟩
  refine nwp_then (fun f A => ∃ bb mb, A0.le A ∧ f 1 = .ptr b 0 ∧ A b = some (.cells c.enc.cells) ∧ f 3 = .ptr bo 0 ∧ A bo = some (.cells [.map mo]) ∧ A mo = some (mapB AV.bool []) ∧ f 4 = .ptr bb 0 ∧ A bb = some (.cells [.map mb]) ∧ A mb = some (mapB (AV.int .i64) []) ∧ A0 mb = none ∧ mb ≠ mo) ?_ ?_
  · simp only [n_core_Unbound_r2, go_sem, Nat.reduceEqDiff, Nat.reduceAdd, Nat.reduceSub, Nat.reduceLeDiff, Nat.reduceLT, Nat.reduceMul, Int.reduceEq, Int.reduceLT, Int.reduceLE, Int.reduceNeg, Int.reduceToNat, Int.reduceAdd, Int.reduceSub, Int.cast_ofNat_Int, Int.cast_ofNat_Int, reduceCtorEq, ↓reduceIte, Bool.false_eq_true, decide_true, decide_false, eq_self, Bool.not_true, Bool.not_false]
    rintro mb hmb bb ⟨ne, _, hbb⟩
    have hbb' : (A.set mb (.map [] 0)) bb = none := by rw [Heap.set_other _ _ ne]; exact hbb
    exact Here.mk ⟨bb, mb, (hle.set hmb).set hbb', h1, Heap.keep (Heap.keep hb hmb) hbb', h3, Heap.keep (Heap.keep hbo hmb) hbb', Heap.keep (Heap.keep hmo hmb) hbb', rfl, Heap.set_same _ _ _, Heap.keep (Heap.set_same _ _ _) hbb', hle.none hmb, Heap.ne_of hmo hmb⟩
  clear hle h1 hb h3 hbo hmo
  rintro f A ⟨bb, mb, hle, h1, hb, h3, hbo, hmo, h4, hbb, hmb, hmb0, hne⟩
  refine nwp_then (fun f A => ∃ bg, UnbJ A0 mb mo [] [] A ∧ f 1 = .ptr b 0 ∧ A b = some (.cells c.enc.cells) ∧ f 3 = .ptr bo 0 ∧ A bo = some (.cells [.map mo]) ∧ f 4 = .ptr bb 0 ∧ A bb = some (.cells [.map mb]) ∧ f 5 = .ptr bg 0 ∧ A bg = some (.cells [.nilfunc]) ∧ A0 bg = none ∧ bo ≠ bg ∧ bb ≠ bg ∧ b ≠ bg) ?_ ?_
  · simp only [n_core_Unbound_r3, go_sem, Nat.reduceEqDiff, Nat.reduceAdd, Nat.reduceSub, Nat.reduceLeDiff, Nat.reduceLT, Nat.reduceMul, Int.reduceEq, Int.reduceLT, Int.reduceLE, Int.reduceNeg, Int.reduceToNat, Int.reduceAdd, Int.reduceSub, Int.cast_ofNat_Int, Int.cast_ofNat_Int, reduceCtorEq, ↓reduceIte, Bool.false_eq_true, decide_true, decide_false, eq_self, Bool.not_true, Bool.not_false]
    intro bg hbg
    exact Here.mk ⟨bg, ⟨hle.set hbg, hmb0, hmo0, Heap.keep hmb hbg, Heap.keep hmo hbg, hne⟩, h1, Heap.keep hb hbg, h3, Heap.keep hbo hbg, h4, Heap.keep hbb hbg, rfl, Heap.set_same _ _ _, hle.none hbg, (Heap.ne_of hbo hbg).symm, (Heap.ne_of hbb hbg).symm, (Heap.ne_of hb hbg).symm⟩
  clear hle h1 hb h3 hbo hmo h4 hbb hmb
  rintro f A ⟨bg, hJ, h1, hb, h3, hbo, h4, hbb, h5, hbg, hbg0, ne1, ne2, ne3⟩
  refine nwp_then (fun f A => ∃ B, A0.le B ∧ UnbJ B mb mo [] [] A ∧ f 1 = .ptr b 0 ∧ B b = some (.cells c.enc.cells) ∧ f 3 = .ptr bo 0 ∧ B bo = some (.cells [.map mo]) ∧ B bb = some (.cells [.map mb]) ∧ f 5 = .ptr bg 0 ∧ B bg = some (.cells [.func F_core_Unbound_1 [] [.ptr bb 0, .ptr bo 0, .ptr bg 0]])) ?_ ?_
  · simp only [n_core_Unbound_r4, h3, h4, h5, hbg, go_sem, Nat.reduceEqDiff, Nat.reduceAdd, Nat.reduceSub, Nat.reduceLeDiff, Nat.reduceLT, Nat.reduceMul, Int.reduceEq, Int.reduceLT, Int.reduceLE, Int.reduceNeg, Int.reduceToNat, Int.reduceAdd, Int.reduceSub, Int.cast_ofNat_Int, Int.cast_ofNat_Int, reduceCtorEq, ↓reduceIte, Bool.false_eq_true, decide_true, decide_false, eq_self, Bool.not_true, Bool.not_false]
    have n1 : mb ≠ bg := fun e => by subst e; rw [hJ.hb] at hbg; cases hbg
    have n2 : mo ≠ bg := fun e => by subst e; rw [hJ.ho] at hbg; cases hbg
    have hJ' : UnbJ A0 mb mo [] [] (A.set bg (.cells [.func F_core_Unbound_1 [] [.ptr bb 0, .ptr bo 0, .ptr bg 0]])) := ⟨hJ.le.set' hbg0, hJ.nb, hJ.no, by rw [Heap.set_other _ _ n1]; exact hJ.hb, by rw [Heap.set_other _ _ n2]; exact hJ.ho, hJ.ne⟩
    obtain ⟨B, hB, hAB, hBc⟩ := hJ'.rebase
    exact Here.mk ⟨B, hAB, hB, h1, hBc _ _ (by rw [Heap.set_other _ _ ne3]; exact hb), h3, hBc _ _ (by rw [Heap.set_other _ _ ne1]; exact hbo), hBc _ _ (by rw [Heap.set_other _ _ ne2]; exact hbb), h5, hBc _ _ (Heap.set_same _ _ _)⟩
  clear hJ h1 hb h3 hbo h4 hbb h5 hbg
  rintro f A ⟨B, hAB, hJ, h1, hb, h3, hbo, hbb, h5, hbg⟩
  refine nwp_then (fun f A => UnbJ B mb mo (c.unb [] []).1 (c.unb [] []).2 A ∧ f 3 = .ptr bo 0) ?_ ?_
  · have hbA := hJ.le.get _ _ hb
    have hbgA := hJ.le.get _ _ hbg
    simp only [n_core_Unbound_r5, h1, h5, hbA, hbgA, hte, go_sem, Nat.reduceEqDiff, Nat.reduceAdd, Nat.reduceSub, Nat.reduceLeDiff, Nat.reduceLT, Nat.reduceMul, Int.reduceEq, Int.reduceLT, Int.reduceLE, Int.reduceNeg, Int.reduceToNat, Int.reduceAdd, Int.reduceSub, Int.cast_ofNat_Int, Int.cast_ofNat_Int, reduceCtorEq, ↓reduceIte, Bool.false_eq_true, decide_true, decide_false, eq_self, Bool.not_true, Bool.not_false]
    refine hrun hbb hbo hbg hJ fun A' hJ' => ?_
    try simp only [go_sem, Nat.reduceEqDiff, Nat.reduceAdd, Nat.reduceSub, Nat.reduceLeDiff, Nat.reduceLT, Nat.reduceMul, Int.reduceEq, Int.reduceLT, Int.reduceLE, Int.reduceNeg, Int.reduceToNat, Int.reduceAdd, Int.reduceSub, Int.cast_ofNat_Int, Int.cast_ofNat_Int, reduceCtorEq, ↓reduceIte, Bool.false_eq_true, decide_true, decide_false, eq_self, Bool.not_true, Bool.not_false]
    exact Here.mk ⟨hJ', h3⟩
  clear hJ h1 h3 h5 hrun
  rintro f A ⟨hJ, h3⟩
  refine nwp_then (fun f A => A0.le A ∧ OutI A0 A (f 2) c.free) ?_ ?_
  · have hboA := hJ.le.get _ _ hbo
    simp only [n_core_Unbound_r6, h3, hboA, go_sem, Nat.reduceEqDiff, Nat.reduceAdd, Nat.reduceSub, Nat.reduceLeDiff, Nat.reduceLT, Nat.reduceMul, Int.reduceEq, Int.reduceLT, Int.reduceLE, Int.reduceNeg, Int.reduceToNat, Int.reduceAdd, Int.reduceSub, Int.cast_ofNat_Int, Int.cast_ofNat_Int, reduceCtorEq, ↓reduceIte, Bool.false_eq_true, decide_true, decide_false, eq_self, Bool.not_true, Bool.not_false]
    refine Keys_run fun bx hbx => ?_
    try simp only [go_sem, Nat.reduceEqDiff, Nat.reduceAdd, Nat.reduceSub, Nat.reduceLeDiff, Nat.reduceLT, Nat.reduceMul, Int.reduceEq, Int.reduceLT, Int.reduceLE, Int.reduceNeg, Int.reduceToNat, Int.reduceAdd, Int.reduceSub, Int.cast_ofNat_Int, Int.cast_ofNat_Int, reduceCtorEq, ↓reduceIte, Bool.false_eq_true, decide_true, decide_false, eq_self, Bool.not_true, Bool.not_false]
    have hle' : A0.le (A.set bx (.cells [.map mo])) := (hAB.trans hJ.le).set hbx
    refine sorted_keys AV.bool (c.unb [] []).1 ⟨hok.nd, fun p hp => ?_⟩ (by have := hok.ln; omega) (Heap.set_same _ _ _) (Heap.keep hJ.ho hbx) (fun he => ?_) fun he b2 hb2 => ?_
    · have := hok.rg p.1 (List.mem_map_of_mem hp)
      omega
    · try simp only [go_sem, Nat.reduceEqDiff, Nat.reduceAdd, Nat.reduceSub, Nat.reduceLeDiff, Nat.reduceLT, Nat.reduceMul, Int.reduceEq, Int.reduceLT, Int.reduceLE, Int.reduceNeg, Int.reduceToNat, Int.reduceAdd, Int.reduceSub, Int.cast_ofNat_Int, Int.cast_ofNat_Int, reduceCtorEq, ↓reduceIte, Bool.false_eq_true, decide_true, decide_false, eq_self, Bool.not_true, Bool.not_false]
      refine Here.mk ⟨hle', ?_⟩
      show OutI A0 _ .nilslice _
      have h0 : c.free = [] := by simp [Core.free, he]
      rw [h0]
      exact .nil _ _
    · try simp only [go_sem, Nat.reduceEqDiff, Nat.reduceAdd, Nat.reduceSub, Nat.reduceLeDiff, Nat.reduceLT, Nat.reduceMul, Int.reduceEq, Int.reduceLT, Int.reduceLE, Int.reduceNeg, Int.reduceToNat, Int.reduceAdd, Int.reduceSub, Int.cast_ofNat_Int, Int.cast_ofNat_Int, reduceCtorEq, ↓reduceIte, Bool.false_eq_true, decide_true, decide_false, eq_self, Bool.not_true, Bool.not_false]
      refine Here.mk ⟨hle'.set hb2, ?_⟩
      refine .inr ⟨b2, ?_, Heap.set_same _ _ _, hle'.none hb2, ?_⟩
      · show AV.slice _ _ _ _ _ = _
        simp [Core.free]
      · intro h0
        have := congrArg List.length h0
        simp [Core.free] at this
        exact he this
  rintro f A ⟨hle, ho⟩
  exact hQ _ _ hle ho

theorem Unbound_run (c : Core) (hg : c.good big = true) (hv : c.vars = true) (hlen : c.atoms ≤ big) {A0 : Heap} {K : AV → Heap → Prop} (hK : OutK A0 c.free K) : NCalls Try.prog F_core_Unbound [c.enc] A0 K := by
  refine NCalls.walk c_core_Unbound (Nat.le_of_ble_eq_true rfl) ?_
  refine Unbound_body c hg hv hlen fun f A hle ho => ?_
  simp only [n_core_Unbound, go_sem, Nat.reduceEqDiff, Nat.reduceAdd, Nat.reduceSub, Nat.reduceLeDiff, Nat.reduceLT, Nat.reduceMul, Int.reduceEq, Int.reduceLT, Int.reduceLE, Int.reduceNeg, Int.reduceToNat, Int.reduceAdd, Int.reduceSub, Int.cast_ofNat_Int, Int.cast_ofNat_Int, reduceCtorEq, ↓reduceIte, Bool.false_eq_true, decide_true, decide_false, eq_self, Bool.not_true, Bool.not_false]
  exact hK _ _ hle ho

theorem Unbound_spec (c : Core) (hg : c.good big = true) (hv : c.vars = true) (hlen : c.atoms ≤ big) : NPure Try.prog F_core_Unbound [c.enc] (encSl true 1 (c.free.map encInt)) :=
  NPure.of_body c_core_Unbound (Nat.le_of_ble_eq_true rfl) fun A0 => Unbound_body c hg hv hlen fun f A hle ho => ret_out rfl ho hle

end Go.NL

/- core: Check. -/
set_option linter.unusedVariables false
set_option linter.unusedSimpArgs false
set_option maxRecDepth 10000
namespace Go.NL
open Go.Proofs

/-- What is small enough to be walked. -/
structure Core.Fine (c : Core) : Prop where
  sm : c.small big = true
  gd : c.may = true → c.good big = true
  vr : c.may = true → c.vars = true
  od : c.order.length ≤ big
  at_ : c.atoms ≤ big

/-- Why a part is no program. -/
def Core.check (c : Core) : Int := if c.may = false then 2 else if c.order.length ≠ c.bound.length then 7 else if 0 < c.free.length then 6 else 0

set_option maxHeartbeats 1000000 in
theorem coreCheck_spec (c : Core) (hf : c.Fine) : NPure Try.prog F_core_Check [c.enc] (.int .i64 c.check) := by
  have hbig : big = 1099511627776 := rfl
  refine NPure.of_body c_core_Check (Nat.le_of_ble_eq_true rfl) fun A0 => ?_
  have hte := Core.take_enc c
  have hone := Core.one_enc c
  have hmay := may_spec c.size c (Nat.le_refl _) hf.sm
  simp only [n_core_Check]
  refine nwp_then (fun f A => ∃ b, A0.le A ∧ f 1 = .ptr b 0 ∧ A b = some (.cells c.enc.cells)) ?_ ?_
  · simp only [n_core_Check_r0, go_sem, Nat.reduceEqDiff, Nat.reduceAdd, Nat.reduceSub, Nat.reduceLeDiff, Nat.reduceLT, Nat.reduceMul, Int.reduceEq, Int.reduceLT, Int.reduceLE, Int.reduceNeg, Int.reduceToNat, Int.reduceAdd, Int.reduceSub, Int.cast_ofNat_Int, Int.cast_ofNat_Int, reduceCtorEq, ↓reduceIte, Bool.false_eq_true, decide_true, decide_false, eq_self, Bool.not_true, Bool.not_false]
    intro b hb
    exact Here.mk ⟨b, (Heap.le.refl _).set hb, rfl, Heap.set_same _ _ _⟩
  rintro f A ⟨b, hle, h1, hb⟩
  refine nwp_cut (fun f A => A0.le A ∧ c.check = 0) ?_ ?_
  · refine nwp_block ?_
    refine nwp_then (fun f A => A0.le A ∧ f 1 = .ptr b 0 ∧ A b = some (.cells c.enc.cells) ∧ f 3 = .bool (!c.may)) ?_ ?_
    · simp only [n_core_Check_r1, h1, hb, hte, go_sem, Nat.reduceEqDiff, Nat.reduceAdd, Nat.reduceSub, Nat.reduceLeDiff, Nat.reduceLT, Nat.reduceMul, Int.reduceEq, Int.reduceLT, Int.reduceLE, Int.reduceNeg, Int.reduceToNat, Int.reduceAdd, Int.reduceSub, Int.cast_ofNat_Int, Int.cast_ofNat_Int, reduceCtorEq, ↓reduceIte, Bool.false_eq_true, decide_true, decide_false, eq_self, Bool.not_true, Bool.not_false]
      refine hmay.call ?_
      try simp only [go_sem, Nat.reduceEqDiff, Nat.reduceAdd, Nat.reduceSub, Nat.reduceLeDiff, Nat.reduceLT, Nat.reduceMul, Int.reduceEq, Int.reduceLT, Int.reduceLE, Int.reduceNeg, Int.reduceToNat, Int.reduceAdd, Int.reduceSub, Int.cast_ofNat_Int, Int.cast_ofNat_Int, reduceCtorEq, ↓reduceIte, Bool.false_eq_true, decide_true, decide_false, eq_self, Bool.not_true, Bool.not_false]
      exact Here.mk ⟨hle, h1, hb, rfl⟩
    clear hle h1 hb
    rintro f A ⟨hle, h1, hb, h3⟩
    refine nwp_test _ h3 (fun hm => ?_) fun hm => ?_
    · have hm' : c.may = false := by simpa using hm
      simp only [n_core_Check_r2, go_sem, Nat.reduceEqDiff, Nat.reduceAdd, Nat.reduceSub, Nat.reduceLeDiff, Nat.reduceLT, Nat.reduceMul, Int.reduceEq, Int.reduceLT, Int.reduceLE, Int.reduceNeg, Int.reduceToNat, Int.reduceAdd, Int.reduceSub, Int.cast_ofNat_Int, Int.cast_ofNat_Int, reduceCtorEq, ↓reduceIte, Bool.false_eq_true, decide_true, decide_false, eq_self, Bool.not_true, Bool.not_false]
      exact ret_same (by rw [resAV_one, Core.check, if_pos hm']; rfl) hle
    have hm' : c.may = true := by simpa using hm
    refine nwp_then (fun f A => A0.le A ∧ f 1 = .ptr b 0 ∧ A b = some (.cells c.enc.cells) ∧ f 7 = .bool (decide (c.order.length ≠ c.bound.length))) ?_ ?_
    · simp only [n_core_Check_r3, h1, hb, hte, go_sem, Nat.reduceEqDiff, Nat.reduceAdd, Nat.reduceSub, Nat.reduceLeDiff, Nat.reduceLT, Nat.reduceMul, Int.reduceEq, Int.reduceLT, Int.reduceLE, Int.reduceNeg, Int.reduceToNat, Int.reduceAdd, Int.reduceSub, Int.cast_ofNat_Int, Int.cast_ofNat_Int, reduceCtorEq, ↓reduceIte, Bool.false_eq_true, decide_true, decide_false, eq_self, Bool.not_true, Bool.not_false]
      refine Order_run c (hf.gd hm') hf.od fun v A1 hle1 ho1 => ?_
      have hb1 := hle1.get _ _ hb
      have hl1 := ho1.len
      simp only [h1, hb1, hte, hl1, go_sem, Nat.reduceEqDiff, Nat.reduceAdd, Nat.reduceSub, Nat.reduceLeDiff, Nat.reduceLT, Nat.reduceMul, Int.reduceEq, Int.reduceLT, Int.reduceLE, Int.reduceNeg, Int.reduceToNat, Int.reduceAdd, Int.reduceSub, Int.cast_ofNat_Int, Int.cast_ofNat_Int, reduceCtorEq, ↓reduceIte, Bool.false_eq_true, decide_true, decide_false, eq_self, Bool.not_true, Bool.not_false]
      refine Bound_run c hf.sm hf.gd hf.od fun v2 A2 hle2 hl2 => ?_
      have hb2 := hle2.get _ _ hb1
      simp only [hl1, hl2, go_sem, Nat.reduceEqDiff, Nat.reduceAdd, Nat.reduceSub, Nat.reduceLeDiff, Nat.reduceLT, Nat.reduceMul, Int.reduceEq, Int.reduceLT, Int.reduceLE, Int.reduceNeg, Int.reduceToNat, Int.reduceAdd, Int.reduceSub, Int.cast_ofNat_Int, Int.cast_ofNat_Int, reduceCtorEq, ↓reduceIte, Bool.false_eq_true, decide_true, decide_false, eq_self, Bool.not_true, Bool.not_false]
      refine Here.mk ⟨(hle.trans hle1).trans hle2, h1, hb2, ?_⟩
      show AV.bool _ = AV.bool _
      by_cases hh : c.order.length = c.bound.length
      · simp [hh]
      · have : ¬ ((c.order.length : Int) = c.bound.length) := by omega
        simp [hh, this]
    clear hle h1 hb h3
    rintro f A ⟨hle, h1, hb, h7⟩
    refine nwp_test _ h7 (fun hq => ?_) fun hq => ?_
    · have hq' : c.order.length ≠ c.bound.length := by simpa using hq
      simp only [n_core_Check_r4, go_sem, Nat.reduceEqDiff, Nat.reduceAdd, Nat.reduceSub, Nat.reduceLeDiff, Nat.reduceLT, Nat.reduceMul, Int.reduceEq, Int.reduceLT, Int.reduceLE, Int.reduceNeg, Int.reduceToNat, Int.reduceAdd, Int.reduceSub, Int.cast_ofNat_Int, Int.cast_ofNat_Int, reduceCtorEq, ↓reduceIte, Bool.false_eq_true, decide_true, decide_false, eq_self, Bool.not_true, Bool.not_false]
      exact ret_same (by rw [resAV_one, Core.check, if_neg (by simp [hm']), if_pos hq']; rfl) hle
    have hq' : ¬ c.order.length ≠ c.bound.length := by simpa using hq
    refine nwp_then (fun f A => A0.le A ∧ f 1 = .ptr b 0 ∧ A b = some (.cells c.enc.cells) ∧ f 15 = .bool (decide (0 < c.free.length))) ?_ ?_
    · simp only [n_core_Check_r5, h1, hb, hte, go_sem, Nat.reduceEqDiff, Nat.reduceAdd, Nat.reduceSub, Nat.reduceLeDiff, Nat.reduceLT, Nat.reduceMul, Int.reduceEq, Int.reduceLT, Int.reduceLE, Int.reduceNeg, Int.reduceToNat, Int.reduceAdd, Int.reduceSub, Int.cast_ofNat_Int, Int.cast_ofNat_Int, reduceCtorEq, ↓reduceIte, Bool.false_eq_true, decide_true, decide_false, eq_self, Bool.not_true, Bool.not_false]
      refine Unbound_run c (hf.gd hm') (hf.vr hm') hf.at_ fun v A1 hle1 ho1 => ?_
      have hl1 := ho1.len
      simp only [hl1, go_sem, Nat.reduceEqDiff, Nat.reduceAdd, Nat.reduceSub, Nat.reduceLeDiff, Nat.reduceLT, Nat.reduceMul, Int.reduceEq, Int.reduceLT, Int.reduceLE, Int.reduceNeg, Int.reduceToNat, Int.reduceAdd, Int.reduceSub, Int.cast_ofNat_Int, Int.cast_ofNat_Int, reduceCtorEq, ↓reduceIte, Bool.false_eq_true, decide_true, decide_false, eq_self, Bool.not_true, Bool.not_false]
      refine Here.mk ⟨hle.trans hle1, h1, hle1.get _ _ hb, ?_⟩
      show AV.bool _ = AV.bool _
      congr 1
      simp
    clear hle h1 hb h7
    rintro f A ⟨hle, h1, hb, h7⟩
    refine nwp_test _ h7 (fun hr => ?_) fun hr => ?_
    · have hr' : 0 < c.free.length := by simpa using hr
      simp only [n_core_Check_r6, go_sem, Nat.reduceEqDiff, Nat.reduceAdd, Nat.reduceSub, Nat.reduceLeDiff, Nat.reduceLT, Nat.reduceMul, Int.reduceEq, Int.reduceLT, Int.reduceLE, Int.reduceNeg, Int.reduceToNat, Int.reduceAdd, Int.reduceSub, Int.cast_ofNat_Int, Int.cast_ofNat_Int, reduceCtorEq, ↓reduceIte, Bool.false_eq_true, decide_true, decide_false, eq_self, Bool.not_true, Bool.not_false]
      exact ret_same (by rw [resAV_one, Core.check, if_neg (by simp [hm']), if_neg hq', if_pos hr']; rfl) hle
    · have hr' : ¬ 0 < c.free.length := by simpa using hr
      exact ⟨hle, by rw [Core.check, if_neg (by simp [hm']), if_neg hq', if_neg hr']⟩
  rintro f A ⟨hle, hch⟩
  simp only [n_core_Check_r7, go_sem, Nat.reduceEqDiff, Nat.reduceAdd, Nat.reduceSub, Nat.reduceLeDiff, Nat.reduceLT, Nat.reduceMul, Int.reduceEq, Int.reduceLT, Int.reduceLE, Int.reduceNeg, Int.reduceToNat, Int.reduceAdd, Int.reduceSub, Int.cast_ofNat_Int, Int.cast_ofNat_Int, reduceCtorEq, ↓reduceIte, Bool.false_eq_true, decide_true, decide_false, eq_self, Bool.not_true, Bool.not_false]
  exact ret_same (by rw [resAV_one, hch]; rfl) hle

end Go.NL

/- Lists that grow; numbers that are read. -/
set_option linter.unusedVariables false
set_option linter.unusedSimpArgs false
set_option maxRecDepth 10000
namespace Go.NL
open Go.Proofs

/-- A list of values in a block of the run's own, that A0 does not know; nil, if there are none. -/
def OutL (e : Nat) (A0 A : Heap) (v : AV) (es : List AV) : Prop :=
  (v = .nilslice ∧ es = []) ∨ ∃ b, v = .slice e b 0 es.length (.ge es.length) ∧ A b = some (.cells (es.flatMap AV.cells)) ∧ A0 b = none ∧ es ≠ []

theorem OutL.nil (e : Nat) (A0 A : Heap) : OutL e A0 A .nilslice [] := .inl ⟨rfl, rfl⟩
theorem flat_len {e : Nat} : ∀ {es : List AV}, (∀ x ∈ es, x.cells.length = e) → (es.flatMap AV.cells).length = es.length * e
  | [], _ => by simp
  | x :: es, h => by
    rw [List.flatMap_cons, List.length_append, h x (List.mem_cons_self ..), flat_len fun y hy => h y (List.mem_cons_of_mem _ hy), List.length_cons, Nat.succ_mul, Nat.add_comm]
theorem OutL.fresh {e : Nat} {A0 A : Heap} {v : AV} {es : List AV} (h : OutL e A0 A v es) {b : Nat} {x : Blk} (hb : A b = none) : OutL e A0 (A.set b x) v es := by
  rcases h with h | ⟨b', h, h', h0, h1⟩
  · exact .inl h
  · exact .inr ⟨b', h, by rw [Heap.set_other _ _ (Heap.ne_of h' hb).symm]; exact h', h0, h1⟩
theorem OutL.other {e : Nat} {A0 A : Heap} {v : AV} {es : List AV} (h : OutL e A0 A v es) {b : Nat} {x : Blk} (hb : ∀ e b' o n k, v = .slice e b' o n k → b' ≠ b) : OutL e A0 (A.set b x) v es := by
  rcases h with h | ⟨b', h, h', h0, h1⟩
  · exact .inl h
  · exact .inr ⟨b', h, by rw [Heap.set_other _ _ (hb _ _ _ _ _ h)]; exact h', h0, h1⟩
theorem OutL.lower {e : Nat} {A0 B A : Heap} {v : AV} {es : List AV} (h : OutL e B A v es) (hle : A0.le B) : OutL e A0 A v es := by
  rcases h with h | ⟨b', h, h', h0, h1⟩
  · exact .inl h
  · exact .inr ⟨b', h, h', hle.none h0, h1⟩
theorem OutL.len {e : Nat} {A0 A : Heap} {v : AV} {es : List AV} (h : OutL e A0 A v es) : ∀ B, lenAV B .slice v = some es.length := by
  rcases h with ⟨rfl, rfl⟩ | ⟨b, rfl, _⟩ <;> intro B <;> rfl
theorem OutL.one {e : Nat} {A0 A : Heap} {v : AV} {es : List AV} (h : OutL e A0 A v es) : v.one = true ∧ v.cells = [v] := by
  rcases h with ⟨rfl, _⟩ | ⟨b, rfl, _⟩ <;> exact ⟨rfl, rfl⟩
/-- What is known of old is no list's block. -/
theorem OutL.old {e : Nat} {A0 A : Heap} {v : AV} {es : List AV} (h : OutL e A0 A v es) {b : Nat} {x : Blk} (hb : A0 b = some x) : ∀ e' b' o n k, v = .slice e' b' o n k → b' ≠ b := by
  intro e' b' o n k hv heq
  subst heq
  rcases h with ⟨h, _⟩ | ⟨b', h, h', h0, h1⟩
  · rw [h] at hv; cases hv
  · rw [h] at hv
    cases hv
    rw [h0] at hb
    cases hb

/-- append: values behind values. -/
theorem append_vals2 {e by_ : Nat} {A0 A : Heap} {v x : AV} {es ms : List AV} {K : AV → Heap → Prop} (hv : OutL e A0 A v es) (hle : A0.le A) (hx : srcAV A false e x = some (ms.length, ms.flatMap AV.cells)) (hes : ∀ x ∈ es, x.cells.length = e) (hlen : es.length + ms.length ≤ big) (hby : by_ ≤ 128)
    (hK : ∀ v' A', OutL e A0 A' v' (es ++ ms) → A0.le A' → (∀ c y, A c = some y → (∀ e o n k, v ≠ .slice e c o n k) → A' c = some y) → (∀ e b o n k, v' = .slice e b o n k → v' = v ∨ A b = none) → K v' A') : appendN A K false e by_ v x := by
  have hbig : big = 1099511627776 := rfl
  have hroom : ∀ n, n ≤ big → roomOk n by_ := by
    intro n hn
    have h1 : n * by_ ≤ n * 128 := Nat.mul_le_mul_left _ hby
    exact ⟨by omega, by omega⟩
  have hfl := flat_len hes
  simp only [appendN, hx]
  rcases hv with ⟨rfl, rfl⟩ | ⟨b, rfl, hb, h0, hne0⟩
  · simp only
    split
    · rename_i hm
      have hm : ms = [] := List.eq_nil_of_length_eq_zero hm
      subst hm
      exact hK _ _ (.inl ⟨rfl, rfl⟩) hle (fun _ _ h _ => h) fun _ _ _ _ _ _ => .inl rfl
    · rename_i hm
      simp only [List.length_nil, Nat.zero_add] at hlen
      refine ⟨hroom _ hlen, fun b hb => hK _ _ (.inr ⟨b, rfl, by simp, hle.none hb, by rintro rfl; exact hm rfl⟩) (hle.set hb) (fun c y hc _ => ?_) fun _ _ _ _ _ h => ?_⟩
      · rw [Heap.set_other _ _ (Heap.ne_of hc hb).symm]
        exact hc
      · cases h; exact .inr hb
  · simp only [hb, hfl, true_and]
    refine ⟨by omega, ?_⟩
    split
    · rename_i hm
      have hm : ms = [] := List.eq_nil_of_length_eq_zero hm
      subst hm
      refine hK _ _ ?_ hle (fun _ _ h _ => h) fun _ _ _ _ _ _ => .inl rfl
      rw [List.append_nil]
      exact .inr ⟨b, rfl, hb, h0, hne0⟩
    · rename_i hm
      rw [if_neg (by simp only [Cap.low]; omega)]
      refine ⟨hroom _ hlen, fun b' hb' => ?_⟩
      have hbb : b' ≠ b := Heap.ne_of hb hb'
      have hd : (A.del b) b' = none := by simp [Heap.del, hbb, hb']
      have hle' : A0.le (A.del b) := ⟨fun c y hc => by
        have hne : c ≠ b := fun e => by subst e; rw [h0] at hc; cases hc
        simp [Heap.del, hne, hle.get c y hc]⟩
      refine hK _ _ (.inr ⟨b', by simp, ?_, hle.none hb', by simp [hne0]⟩) (hle'.set hd) (fun c y hc hne => ?_) fun _ _ _ _ _ h => ?_
      · rw [Heap.set_same, List.drop_zero, List.take_of_length_le (by rw [hfl]; exact Nat.le_refl _), List.flatMap_append]
      · have h1 : c ≠ b := fun e => hne _ _ _ _ (by rw [e])
        have h2 : c ≠ b' := fun e => by subst e; rw [hb'] at hc; cases hc
        rw [Heap.set_other _ _ h2]
        simp [Heap.del, h1, hc]
      · cases h; exact .inr hb'

theorem append_vals {e by_ : Nat} {A0 A : Heap} {v x : AV} {es ms : List AV} {K : AV → Heap → Prop} (hv : OutL e A0 A v es) (hle : A0.le A) (hx : srcAV A false e x = some (ms.length, ms.flatMap AV.cells)) (hes : ∀ x ∈ es, x.cells.length = e) (hlen : es.length + ms.length ≤ big) (hby : by_ ≤ 128)
    (hK : ∀ v' A', OutL e A0 A' v' (es ++ ms) → A0.le A' → (∀ c y, A c = some y → (∀ e o n k, v ≠ .slice e c o n k) → A' c = some y) → K v' A') : appendN A K false e by_ v x := append_vals2 hv hle hx hes hlen hby fun v' A' h1 h2 h3 _ => hK v' A' h1 h2 h3

/-- One value's block, where it is a list. -/
theorem src_val {e : Nat} (A : Heap) (b : Nat) (x : AV) (cs : List AV) (hx : x.cells = cs) (he : cs.length = e) : srcAV (A.set b (.cells cs)) false e (.slice e b 0 1 (.eq 1)) = some ([x].length, [x].flatMap AV.cells) := by
  subst hx
  simp only [srcAV, Heap.set_same, and_self, if_true]
  rw [if_pos (by omega)]
  simp [he]
  rw [List.take_of_length_le (by omega)]

/-- The list that is told is taken as never changing, where it is the whole of what is told. -/
theorem ret_vals {rs : List NRes} {e : Nat} {A0 : Heap} {f : Fr} {A : Heap} {u : AV} {es : List AV} (h : resAV f A rs = some u) (ho : OutL e A0 A u es) (hes : ∀ x ∈ es, x.cells.length = e) (hle : A0.le A) : retP rs (fun v' A' => v' = encSl true e es ∧ A' = A0) .ret f A := by
  rcases ho with ⟨rfl, rfl⟩ | ⟨b, rfl, hb, h0, hl0⟩
  · exact ret_same h hle
  · refine ⟨_, h, A0, _, ?_, rfl, rfl⟩
    have hw := Wk.frz (A := A) (v := .slice e b 0 es.length (.ge es.length)) e es hb hes
    have he : (AV.slice e b 0 es.length (.ge es.length)).frz b e es = encSl true e es := by
      simp [AV.frz, AV.frz1, AV.frz0, encSl, hl0]
    rw [he] at hw
    refine hw.trans (.sub fun c y hc => ?_)
    have hne : c ≠ b := fun e => by subst e; rw [h0] at hc; cases hc
    simp [Heap.del, hne, hle.get c y hc]

/-- Numbers that may be read as long as A0's blocks stand. -/
def IntsAt (A0 : Heap) (v : AV) (l : List Int) : Prop := (∃ nl, v = encSl nl 1 (l.map encInt)) ∨ ∃ b c, v = .slice 1 b 0 l.length c ∧ A0 b = some (.cells (ints l))
theorem IntsAt.len {A0 : Heap} {v : AV} {l : List Int} (h : IntsAt A0 v l) : ∀ B, lenAV B .slice v = some l.length := by
  intro B
  rcases h with ⟨nl, rfl⟩ | ⟨b, c, rfl, _⟩
  · rw [lenAV_encSl, List.length_map]
  · rfl
theorem IntsAt.read {A0 A : Heap} {v : AV} {l : List Int} (h : IntsAt A0 v l) (hle : A0.le A) (i : Nat) (hi : i < l.length) : ∃ p, indexAddrAV 1 none v (i : Int) = some p ∧ loadAV A none p = some (.int .i64 l[i]) := by
  rcases h with ⟨nl, rfl⟩ | ⟨b, c, rfl, hb⟩
  · exact ⟨_, indexAddr_encSl nl 1 (l.map encInt) i (encInt l[i]) (by rw [List.getElem?_map, List.getElem?_eq_getElem hi]; rfl), rfl⟩
  · refine ⟨.ptr b (0 + i * 1), ?_, ?_⟩
    · simp only [indexAddrAV, true_and]
      rw [if_pos (by omega)]
      simp
    · have := hle.get _ _ hb
      have hi' : i < (ints l).length := by simp [ints]; exact hi
      simp only [loadAV, this]
      simp [takeAV, ints, List.getElem?_eq_getElem hi]
theorem IntsAt.le {A0 B : Heap} {v : AV} {l : List Int} (h : IntsAt A0 v l) (hle : A0.le B) : IntsAt B v l := by
  rcases h with h | ⟨b, c, h, hb⟩
  · exact .inl h
  · exact .inr ⟨b, c, h, hle.get _ _ hb⟩
theorem OutI.at {A0 A : Heap} {v : AV} {l : List Int} (h : OutI A0 A v l) : IntsAt A v l := by
  rcases h with ⟨rfl, rfl⟩ | ⟨b, rfl, hb, _⟩
  · exact .inl ⟨true, rfl⟩
  · exact .inr ⟨b, _, rfl, hb⟩
theorem IntsAt.enc (A0 : Heap) (nl : Bool) (l : List Int) : IntsAt A0 (encSl nl 1 (l.map encInt)) l := .inl ⟨nl, rfl⟩

end Go.NL

/- slices.Clone at numbers; flatten: frame.new, frame.atoms. -/
set_option linter.unusedVariables false
set_option linter.unusedSimpArgs false
set_option maxRecDepth 10000
namespace Go.NL
open Go.Proofs

/-- Where a frame is. -/
structure FrameAt (bf mt : Nat) (to : List (Int × Int)) (next : Int) (A : Heap) : Prop where
  f : A bf = some (.cells [.map mt, .int .i64 next])
  m : A mt = some (mapB (AV.int .i64) to)

theorem new_run {A : Heap} {bf mt : Nat} {to : List (Int × Int)} {next v : Int} (h : FrameAt bf mt to next A) {K : AV → Heap → Prop}
    (hK : K (.int .i64 (IntKind.i64.wrap (IntKind.i64.wrap (next + 1) - 1))) ((A.set mt (mapB (AV.int .i64) (mput to v next))).set bf (.cells [.map mt, .int .i64 (IntKind.i64.wrap (next + 1))]))) :
    NCalls Try.prog F_flatten_frame_new [.ptr bf 0, .int .i64 v] A K := by
  have hne : bf ≠ mt := fun e => by subst e; have := h.f; rw [h.m] at this; cases this
  refine NCalls.walk c_flatten_frame_new (Nat.le_of_ble_eq_true rfl) ?_
  have hf := h.f
  have hm := h.m
  have hf2 : (A.set mt (mapB (AV.int .i64) (mput to v next))) bf = some (.cells [.map mt, .int .i64 next]) := by rw [Heap.set_other _ _ hne]; exact hf
  simp only [n_flatten_frame_new, hf, hm, go_sem, Nat.reduceEqDiff, Nat.reduceAdd, Nat.reduceSub, Nat.reduceLeDiff, Nat.reduceLT, Nat.reduceMul, Int.reduceEq, Int.reduceLT, Int.reduceLE, Int.reduceNeg, Int.reduceToNat, Int.reduceAdd, Int.reduceSub, Int.cast_ofNat_Int, Int.cast_ofNat_Int, reduceCtorEq, ↓reduceIte, Bool.false_eq_true, decide_true, decide_false, eq_self, Bool.not_true, Bool.not_false]
  simp only [hf2, hne, hne.symm, hf, hm, go_sem, Nat.reduceEqDiff, Nat.reduceAdd, Nat.reduceSub, Nat.reduceLeDiff, Nat.reduceLT, Nat.reduceMul, Int.reduceEq, Int.reduceLT, Int.reduceLE, Int.reduceNeg, Int.reduceToNat, Int.reduceAdd, Int.reduceSub, Int.cast_ofNat_Int, Int.cast_ofNat_Int, reduceCtorEq, ↓reduceIte, Bool.false_eq_true, decide_true, decide_false, eq_self, Bool.not_true, Bool.not_false]
  exact hK

/-- A copy of numbers: what it is. -/
def Copied (A A' : Heap) (w : AV) (l : List Int) : Prop := (OutI A A' w l ∧ l ≠ []) ∨ l = [] ∧ ∃ b, w = .slice 1 b 0 0 (.eq 0) ∧ A' b = some (.cells []) ∧ A b = none

theorem ret_frz {rs : List NRes} {e b : Nat} {cap : Cap} {A0 : Heap} {f : Fr} {A : Heap} {es : List AV} (h : resAV f A rs = some (.slice e b 0 es.length cap)) (hb : A b = some (.cells (es.flatMap AV.cells))) (h0 : A0 b = none) (hes : ∀ x ∈ es, x.cells.length = e) (hle : A0.le A) :
    retP rs (fun v' A' => v' = .islice e es false ∧ A' = A0) .ret f A := by
  refine ⟨_, h, A0, _, ?_, rfl, rfl⟩
  have hw := Wk.frz (A := A) (v := .slice e b 0 es.length cap) e es hb hes
  have he : (AV.slice e b 0 es.length cap).frz b e es = .islice e es false := by simp [AV.frz, AV.frz1, AV.frz0]
  rw [he] at hw
  refine hw.trans (.sub fun c y hc => ?_)
  have hne : c ≠ b := fun e => by subst e; rw [h0] at hc; cases hc
  simp [Heap.del, hne, hle.get c y hc]

theorem Clone_some {A0 : Heap} {v : AV} {l : List Int} (hl : l.length ≤ big) (he : binAV .eql (some .slice) v .nilslice = some (.bool false)) (hsrc : ∀ A, A0.le A → srcAV A false 1 v = some (l.length, ints l)) {Q : Post} (hQ : ∀ f A, A0.le A → Copied A0 A (f 2) l → Q .ret f A) : nwp Try.prog n_slices_Clone__int_int.body Q (fr0 [v]) A0 := by
  have hbig : big = 1099511627776 := rfl
  simp only [n_slices_Clone__int_int]
  refine nwp_then (fun f A => f 0 = v ∧ A = A0) ?_ ?_
  · simp only [n_slices_Clone__int_int_r0, go_sem, Nat.reduceEqDiff, Nat.reduceAdd, Nat.reduceSub, Nat.reduceLeDiff, Nat.reduceLT, Nat.reduceMul, Int.reduceEq, Int.reduceLT, Int.reduceLE, Int.reduceNeg, Int.reduceToNat, Int.reduceAdd, Int.reduceSub, Int.cast_ofNat_Int, Int.cast_ofNat_Int, reduceCtorEq, ↓reduceIte, Bool.false_eq_true, decide_true, decide_false, eq_self, Bool.not_true, Bool.not_false]
    exact Here.mk ⟨rfl, rfl⟩
  rintro f A ⟨h0, rfl⟩
  refine nwp_cut (fun f A' => f 0 = v ∧ A' = A) ?_ ?_
  · refine nwp_then (fun f A' => f 0 = v ∧ A' = A ∧ f 4 = .bool false) ?_ ?_
    · simp only [n_slices_Clone__int_int_r1, h0, he, go_sem, Nat.reduceEqDiff, Nat.reduceAdd, Nat.reduceSub, Nat.reduceLeDiff, Nat.reduceLT, Nat.reduceMul, Int.reduceEq, Int.reduceLT, Int.reduceLE, Int.reduceNeg, Int.reduceToNat, Int.reduceAdd, Int.reduceSub, Int.cast_ofNat_Int, Int.cast_ofNat_Int, reduceCtorEq, ↓reduceIte, Bool.false_eq_true, decide_true, decide_false, eq_self, Bool.not_true, Bool.not_false]
      exact Here.mk ⟨h0, rfl, rfl⟩
    rintro f A ⟨h0, rfl, h4⟩
    exact nwp_false h4 ⟨h0, rfl⟩
  rintro f A' ⟨h0, rfl⟩
  refine nwp_then (fun f A => A'.le A ∧ Copied A' A (f 2) l) ?_ fun f A ⟨h1, h2⟩ => hQ f A h1 h2
  simp only [n_slices_Clone__int_int_r3, h0, go_sem, Nat.reduceEqDiff, Nat.reduceAdd, Nat.reduceSub, Nat.reduceLeDiff, Nat.reduceLT, Nat.reduceMul, Int.reduceEq, Int.reduceLT, Int.reduceLE, Int.reduceNeg, Int.reduceToNat, Int.reduceAdd, Int.reduceSub, Int.cast_ofNat_Int, Int.cast_ofNat_Int, reduceCtorEq, ↓reduceIte, Bool.false_eq_true, decide_true, decide_false, eq_self, Bool.not_true, Bool.not_false]
  intro b hb
  have hle : A'.le (A'.set b (.cells [])) := (Heap.le.refl _).set hb
  simp only [appendN, hsrc _ hle, Heap.set_same, true_and]
  refine ⟨by simp, ?_⟩
  split
  · rename_i hm
    refine Here.mk ⟨hle, .inr ⟨List.eq_nil_of_length_eq_zero hm, b, ?_, by simp, hb⟩⟩
    rfl
  · rename_i hm
    rw [if_neg (by simp only [Cap.low]; omega)]
    refine ⟨⟨by omega, by omega⟩, by omega, fun b' hb' => ?_⟩
    refine Here.mk ⟨hle.set hb', .inl ⟨.inr ⟨b', ?_, ?_, hle.none hb', fun h => hm (by rw [h]; rfl)⟩, fun h => hm (by rw [h]; rfl)⟩⟩
    · show AV.slice _ _ _ _ _ = _
      rw [Nat.zero_add]
    · simp

theorem Clone_spec (nl : Bool) (l : List Int) (hl : l.length ≤ big) : NPure Try.prog F_slices_Clone__int_int [encSl nl 1 (l.map encInt)] (encSl nl 1 (l.map encInt)) := by
  refine NPure.of_body c_slices_Clone__int_int (Nat.le_of_ble_eq_true rfl) fun A0 => ?_
  by_cases h : nl = true ∧ l = []
  · obtain ⟨rfl, rfl⟩ := h
    have he : encSl true 1 ([].map encInt) = .nilslice := rfl
    have hb : binAV .eql (some .slice) .nilslice .nilslice = some (.bool true) := rfl
    rw [he]
    simp only [n_slices_Clone__int_int, hb, go_sem, Nat.reduceEqDiff, Nat.reduceAdd, Nat.reduceSub, Nat.reduceLeDiff, Nat.reduceLT, Nat.reduceMul, Int.reduceEq, Int.reduceLT, Int.reduceLE, Int.reduceNeg, Int.reduceToNat, Int.reduceAdd, Int.reduceSub, Int.cast_ofNat_Int, Int.cast_ofNat_Int, reduceCtorEq, ↓reduceIte, Bool.false_eq_true, decide_true, decide_false, eq_self, Bool.not_true, Bool.not_false]
    exact ret_same rfl (Heap.le.refl _)
  · have he : encSl nl 1 (l.map encInt) = .islice 1 (l.map encInt) false := by
      unfold encSl
      rw [if_neg]
      rintro ⟨h1, h2⟩
      exact h ⟨h1, List.map_eq_nil_iff.1 h2⟩
    have hb : binAV .eql (some .slice) (.islice 1 (l.map encInt) false) .nilslice = some (.bool false) := rfl
    have hsrc : ∀ A, A0.le A → srcAV A false 1 (.islice 1 (l.map encInt) false) = some (l.length, ints l) := by
      intro A _
      have := src_encI A nl l
      rwa [he] at this
    rw [he]
    refine Clone_some hl hb hsrc fun f A hle hc => ?_
    rw [← he]
    rw [he]
    rcases hc with ⟨hc, hne⟩ | ⟨rfl, b, h2, hb, h0⟩
    · have := ret_out (rs := [.slot 2]) (A0 := A0) (f := f) rfl hc hle
      rw [encSl, if_neg (fun h => hne (List.map_eq_nil_iff.1 h.2))] at this
      exact this
    · exact ret_frz (es := []) (cap := .eq 0) (by show some (f 2) = _; rw [h2]; rfl) hb h0 (fun x hx => by cases hx) hle

theorem Clone_run {A0 A : Heap} {v : AV} {l : List Int} (ho : OutI A0 A v l) (hl : l.length ≤ big) {K : AV → Heap → Prop} (hK : OutK A l K) : NCalls Try.prog F_slices_Clone__int_int [v] A K := by
  refine NCalls.walk c_slices_Clone__int_int (Nat.le_of_ble_eq_true rfl) ?_
  rcases ho with ⟨rfl, rfl⟩ | ⟨b, rfl, hb, h0, hne⟩
  · have hb : binAV .eql (some .slice) .nilslice .nilslice = some (.bool true) := rfl
    simp only [n_slices_Clone__int_int, hb, go_sem, Nat.reduceEqDiff, Nat.reduceAdd, Nat.reduceSub, Nat.reduceLeDiff, Nat.reduceLT, Nat.reduceMul, Int.reduceEq, Int.reduceLT, Int.reduceLE, Int.reduceNeg, Int.reduceToNat, Int.reduceAdd, Int.reduceSub, Int.cast_ofNat_Int, Int.cast_ofNat_Int, reduceCtorEq, ↓reduceIte, Bool.false_eq_true, decide_true, decide_false, eq_self, Bool.not_true, Bool.not_false]
    exact hK _ _ (Heap.le.refl _) (.nil _ _)
  · refine Clone_some hl rfl (fun A' hle => ?_) fun f A' hle hc => ?_
    · exact src_out (A0 := A0) (.inr ⟨b, rfl, hle.get _ _ hb, h0, hne⟩)
    · simp only [n_slices_Clone__int_int, go_sem, Nat.reduceEqDiff, Nat.reduceAdd, Nat.reduceSub, Nat.reduceLeDiff, Nat.reduceLT, Nat.reduceMul, Int.reduceEq, Int.reduceLT, Int.reduceLE, Int.reduceNeg, Int.reduceToNat, Int.reduceAdd, Int.reduceSub, Int.cast_ofNat_Int, Int.cast_ofNat_Int, reduceCtorEq, ↓reduceIte, Bool.false_eq_true, decide_true, decide_false, eq_self, Bool.not_true, Bool.not_false]
      rcases hc with ⟨hc, _⟩ | ⟨rfl, _⟩
      · exact hK _ _ hle hc
      · exact absurd rfl hne

def look (to : List (Int × Int)) (v : Int) : Int := (mget to v).getD 0
/-- The atom of a variable in a frame. -/
def atomOf (to : List (Int × Int)) (v : Int) : Atom := ⟨1, look to v, []⟩

set_option maxHeartbeats 1000000 in
theorem frameAtoms_run {A0 : Heap} {bf mt : Nat} {to : List (Int × Int)} {next : Int} (h : FrameAt bf mt to next A0) {v : AV} {l : List Int} (hv : IntsAt A0 v l) (hl : l.length ≤ big) :
    NCalls Try.prog F_flatten_frame_atoms [.ptr bf 0, v] A0 fun v' A' => v' = encSl true 3 ((l.map (atomOf to)).map Atom.enc) ∧ A' = A0 := by
  have hbig : big = 1099511627776 := rfl
  refine NCalls.of_body c_flatten_frame_atoms (Nat.le_of_ble_eq_true rfl) ?_
  simp only [n_flatten_frame_atoms]
  refine nwp_then (fun f A => A = A0 ∧ f 0 = .ptr bf 0 ∧ f 1 = v) ?_ ?_
  · simp only [n_flatten_frame_atoms_r0, go_sem, Nat.reduceEqDiff, Nat.reduceAdd, Nat.reduceSub, Nat.reduceLeDiff, Nat.reduceLT, Nat.reduceMul, Int.reduceEq, Int.reduceLT, Int.reduceLE, Int.reduceNeg, Int.reduceToNat, Int.reduceAdd, Int.reduceSub, Int.cast_ofNat_Int, Int.cast_ofNat_Int, reduceCtorEq, ↓reduceIte, Bool.false_eq_true, decide_true, decide_false, eq_self, Bool.not_true, Bool.not_false]
    exact Here.mk ⟨rfl, rfl, rfl⟩
  rintro f A ⟨rfl, h0, h1⟩
  refine nwp_then (fun f A' => A' = A ∧ f 0 = .ptr bf 0 ∧ f 1 = v ∧ f 5 = .nilslice) ?_ ?_
  · simp only [n_flatten_frame_atoms_r1, go_sem, Nat.reduceEqDiff, Nat.reduceAdd, Nat.reduceSub, Nat.reduceLeDiff, Nat.reduceLT, Nat.reduceMul, Int.reduceEq, Int.reduceLT, Int.reduceLE, Int.reduceNeg, Int.reduceToNat, Int.reduceAdd, Int.reduceSub, Int.cast_ofNat_Int, Int.cast_ofNat_Int, reduceCtorEq, ↓reduceIte, Bool.false_eq_true, decide_true, decide_false, eq_self, Bool.not_true, Bool.not_false]
    exact Here.mk ⟨rfl, h0, h1, rfl⟩
  clear h0 h1
  rintro f A ⟨rfl, h0, h1, h5⟩
  refine nwp_cut (fun f A' => A.le A' ∧ OutL 3 A A' (f 5) ((l.map (atomOf to)).map Atom.enc)) ?_ ?_
  · refine nwp_then (fun f A' => A' = A ∧ f 0 = .ptr bf 0 ∧ f 8 = v ∧ f 5 = .nilslice ∧ f 9 = .int .i64 l.length ∧ f 10 = .int .i64 0) ?_ ?_
    · simp only [n_flatten_frame_atoms_r2, h1, hv.len, go_sem, Nat.reduceEqDiff, Nat.reduceAdd, Nat.reduceSub, Nat.reduceLeDiff, Nat.reduceLT, Nat.reduceMul, Int.reduceEq, Int.reduceLT, Int.reduceLE, Int.reduceNeg, Int.reduceToNat, Int.reduceAdd, Int.reduceSub, Int.cast_ofNat_Int, Int.cast_ofNat_Int, reduceCtorEq, ↓reduceIte, Bool.false_eq_true, decide_true, decide_false, eq_self, Bool.not_true, Bool.not_false]
      exact Here.mk ⟨rfl, h0, rfl, h5, rfl, rfl⟩
    clear h0 h1 h5
    rintro f A ⟨rfl, h0, h8, h5, h9, h10⟩
    refine nwp_for (ti := 10) (tn := 9) (tt := 11) (tw := 24) (id := 0) (id2 := 1) l.length (by omega) (fun i f A' => A.le A' ∧ f 0 = .ptr bf 0 ∧ f 8 = v ∧ OutL 3 A A' (f 5) (((l.map (atomOf to)).map Atom.enc).take i)) (by decide) ?_ h10 h9 ⟨.refl _, h0, h8, by rw [h5]; exact .nil _ _ _⟩ ?_ ?_
    · rintro i f A d v hd ⟨q1, q2, q3, q4⟩
      rcases hd with rfl | rfl | rfl
      all_goals exact ⟨q1, q2, q3, q4⟩
    · rintro i f A1 hi ⟨hle, h0, h8, ho⟩ h10 h9
      obtain ⟨p, hp, hpl⟩ := hv.read hle i hi
      have htk : ((l.map (atomOf to)).map Atom.enc).take (i + 1) = ((l.map (atomOf to)).map Atom.enc).take i ++ [(atomOf to l[i]).enc] := by
        rw [List.take_add_one, List.getElem?_map, List.getElem?_map, List.getElem?_eq_getElem hi]
        rfl
      rw [htk]
      have htl : (((l.map (atomOf to)).map Atom.enc).take i).length ≤ i := by simp; omega
      have hte : ∀ x ∈ ((l.map (atomOf to)).map Atom.enc).take i, x.cells.length = 3 := by
        intro x hx
        obtain ⟨a, _, rfl⟩ := List.mem_map.1 (List.mem_of_mem_take hx)
        rfl
      generalize ((l.map (atomOf to)).map Atom.enc).take i = pre at ho htl hte ⊢
      generalize l[i] = y at hpl ⊢
      refine nwp_then (fun f A1 => A.le A1 ∧ f 0 = .ptr bf 0 ∧ f 8 = v ∧ OutL 3 A A1 (f 5) pre ∧ f 9 = .int .i64 l.length ∧ f 10 = .int .i64 i ∧ f 7 = .int .i64 y) ?_ ?_
      · simp only [n_flatten_frame_atoms_r4, h8, h10, hp, hpl, go_sem, Nat.reduceEqDiff, Nat.reduceAdd, Nat.reduceSub, Nat.reduceLeDiff, Nat.reduceLT, Nat.reduceMul, Int.reduceEq, Int.reduceLT, Int.reduceLE, Int.reduceNeg, Int.reduceToNat, Int.reduceAdd, Int.reduceSub, Int.cast_ofNat_Int, Int.cast_ofNat_Int, reduceCtorEq, ↓reduceIte, Bool.false_eq_true, decide_true, decide_false, eq_self, Bool.not_true, Bool.not_false]
        exact Here.mk ⟨hle, h0, h8, ho, h9, h10, rfl⟩
      clear hle h0 h8 ho h9 h10 hp hpl
      rintro f A1 ⟨hle, h0, h8, ho, h9, h10, h7⟩
      refine nwp_last (fun f A1 => A.le A1 ∧ f 0 = .ptr bf 0 ∧ f 8 = v ∧ OutL 3 A A1 (f 5) (pre ++ [(atomOf to y).enc]) ∧ f 9 = .int .i64 l.length ∧ f 10 = .int .i64 i) ?_ fun f A ⟨q1, q2, q3, q4, q5, q6⟩ => ⟨⟨q1, q2, q3, q4⟩, q6, q5⟩
      have hf := hle.get _ _ h.f
      have hm := hle.get _ _ h.m
      simp only [n_flatten_frame_atoms_r5, h0, h7, hf, hm, go_sem, Nat.reduceEqDiff, Nat.reduceAdd, Nat.reduceSub, Nat.reduceLeDiff, Nat.reduceLT, Nat.reduceMul, Int.reduceEq, Int.reduceLT, Int.reduceLE, Int.reduceNeg, Int.reduceToNat, Int.reduceAdd, Int.reduceSub, Int.cast_ofNat_Int, Int.cast_ofNat_Int, reduceCtorEq, ↓reduceIte, Bool.false_eq_true, decide_true, decide_false, eq_self, Bool.not_true, Bool.not_false]
      intro b hb
      refine append_vals (ms := [(atomOf to y).enc]) (ho.fresh hb) (hle.set hb) (src_val A1 b _ _ rfl rfl) hte (by simp only [List.length_singleton]; omega) (by omega) fun v' A' ho' hle' _ => ?_
      try simp only [go_sem, Nat.reduceEqDiff, Nat.reduceAdd, Nat.reduceSub, Nat.reduceLeDiff, Nat.reduceLT, Nat.reduceMul, Int.reduceEq, Int.reduceLT, Int.reduceLE, Int.reduceNeg, Int.reduceToNat, Int.reduceAdd, Int.reduceSub, Int.cast_ofNat_Int, Int.cast_ofNat_Int, reduceCtorEq, ↓reduceIte, Bool.false_eq_true, decide_true, decide_false, eq_self, Bool.not_true, Bool.not_false]
      exact Here.mk ⟨hle', h0, h8, ho', h9, h10⟩
    · rintro f A' ⟨q1, q2, q3, q4⟩
      rw [List.take_of_length_le (by simp)] at q4
      exact ⟨q1, q4⟩
  clear h0 h1 h5
  rintro f A' ⟨hle, ho⟩
  refine nwp_then (fun f A' => A.le A' ∧ OutL 3 A A' (f 4) ((l.map (atomOf to)).map Atom.enc)) ?_ ?_
  · simp only [n_flatten_frame_atoms_r8, go_sem, Nat.reduceEqDiff, Nat.reduceAdd, Nat.reduceSub, Nat.reduceLeDiff, Nat.reduceLT, Nat.reduceMul, Int.reduceEq, Int.reduceLT, Int.reduceLE, Int.reduceNeg, Int.reduceToNat, Int.reduceAdd, Int.reduceSub, Int.cast_ofNat_Int, Int.cast_ofNat_Int, reduceCtorEq, ↓reduceIte, Bool.false_eq_true, decide_true, decide_false, eq_self, Bool.not_true, Bool.not_false]
    exact Here.mk ⟨hle, ho⟩
  clear hle ho
  rintro f A' ⟨hle, ho⟩
  refine ret_vals rfl ho (fun x hx => ?_) hle
  obtain ⟨a, _, rfl⟩ := List.mem_map.1 hx
  rfl

end Go.NL

/- flatten: what the maker makes; where it stands. -/
set_option linter.unusedVariables false
set_option linter.unusedSimpArgs false
set_option maxRecDepth 10000
namespace Go.NL
open Go.Proofs

/-- A function that is made: how many it has captured, its part. -/
abbrev FlatF := Int × Core
def FlatF.enc (p : FlatF) : AV := .agg (.int .i64 p.1 :: p.2.enc.cells)
def Core.zero : Core := .mk 0 0 0 [] true [] true [] true []

structure MS where
  funs : List FlatF
  to : List (Int × Int)
  next : Int

def newF (s : List (Int × Int) × Int) (v : Int) : List (Int × Int) × Int := (mput s.1 v s.2, IntKind.i64.wrap (s.2 + 1))

def funW (rec : Core → MS → Core × MS) (c : Core) (cap : List Int) (funs : List FlatF) : List FlatF :=
  (rec (c.l.headD Core.zero) ⟨funs ++ [((cap.length : Int), Core.zero)], (cap.foldl newF (mput [] c.x 0, 1)).1, (cap.foldl newF (mput [] c.x 0, 1)).2⟩).2.funs.modify funs.length
    (fun p => (p.1, (rec (c.l.headD Core.zero) ⟨funs ++ [((cap.length : Int), Core.zero)], (cap.foldl newF (mput [] c.x 0, 1)).1, (cap.foldl newF (mput [] c.x 0, 1)).2⟩).1))

def convA (to : List (Int × Int)) (a : Atom) : Atom := if a.kind = 1 then ⟨a.kind, look to a.n, a.s⟩ else a

/-- The parts of a part. -/
def partsW (rec : Core → MS → Core × MS) (late : Bool) (x : Int) : Nat → List Core → Int → List Core → MS → Int × List Core × MS
  | _, [], X, L, s => (X, L, s)
  | i, c :: cs, X, L, s =>
    if late = true ∧ i = 1 then
      partsW rec late x (i + 1) cs (IntKind.i64.wrap (IntKind.i64.wrap (s.next + 1) - 1)) (L ++ [(rec c ⟨s.funs, (newF (s.to, s.next) x).1, (newF (s.to, s.next) x).2⟩).1]) (rec c ⟨s.funs, (newF (s.to, s.next) x).1, (newF (s.to, s.next) x).2⟩).2
    else partsW rec late x (i + 1) cs X (L ++ [(rec c s).1]) (rec c s).2

def groupNames (xs : List Core) : List (Int × Bool) := xs.foldl (fun m x => mput m x.n true) []
def groupAll1 (names : List (Int × Bool)) (all : List (Int × Bool)) (v : Int) : List (Int × Bool) := if (mget names v).getD false = false then mput all v true else all
def groupAll (names : List (Int × Bool)) (xs : List Core) : List (Int × Bool) := xs.foldl (fun all x => x.free.foldl (groupAll1 names) all) []
def groupShared (xs : List Core) : List Int := ((groupAll (groupNames xs) xs).map (·.1)).mergeSort fun x y => decide (x ≤ y)
def groupFuns (rec : Core → MS → Core × MS) (cap : List Int) (xs : List Core) (tf : List Int × List FlatF) : List Int × List FlatF := xs.foldl (fun tf x => (tf.1 ++ [(tf.2.length : Int)], funW rec x cap tf.2)) tf

def groupW (rec : Core → MS → Core × MS) (l : List Core) (s : MS) : Core × MS :=
  let xs := l.take (l.length - 1)
  let cap := groupShared xs ++ xs.map Core.n
  let fr := xs.foldl (fun fr x => newF fr x.n) (s.to, s.next)
  let tf := groupFuns rec cap xs ([], s.funs)
  let r := rec (l.getD (l.length - 1) Core.zero) ⟨tf.2, fr.1, fr.2⟩
  (.mk 14 s.next 0 [] true ((groupShared xs).map (atomOf s.to)) true tf.1 true [r.1], r.2)

/-- What maker.part tells, and what it leaves. -/
def partW : Nat → Core → MS → Core × MS
  | 0, _, s => (Core.zero, s)
  | N + 1, .mk k x n str na a nt t nl l, s =>
    if k = 7 then (.mk 13 0 s.funs.length [] true ((Core.mk k x n str na a nt t nl l).free.map (atomOf s.to)) true [] true [], ⟨funW (partW N) (.mk k x n str na a nt t nl l) (Core.mk k x n str na a nt t nl l).free s.funs, s.to, s.next⟩)
    else if k = 8 then groupW (partW N) l s
    else (.mk k (partsW (partW N) (lateK k) x 0 l 0 [] s).1 n str true (a.map (convA s.to)) nt t true (partsW (partW N) (lateK k) x 0 l 0 [] s).2.1, (partsW (partW N) (lateK k) x 0 l 0 [] s).2.2)

theorem FlatF.len (p : FlatF) : p.enc.cells.length = 8 := by
  obtain ⟨n, c⟩ := p
  cases c
  rfl

def encF (funs : List FlatF) : List AV := funs.map FlatF.enc
theorem encF_len (funs : List FlatF) : (encF funs).length = funs.length := by simp [encF]
theorem encF_cells (funs : List FlatF) : ∀ x ∈ encF funs, x.cells.length = 8 := by
  intro x hx
  obtain ⟨p, _, rfl⟩ := List.mem_map.1 hx
  exact p.len

/-- Where a maker stands. -/
structure MakJ (A0 : Heap) (bm : Nat) (funs : List FlatF) (A : Heap) : Prop where
  le : A0.le A
  nm : A0 bm = none
  v : ∃ v, A bm = some (.cells [v]) ∧ OutL 8 A0 A v (encF funs)

/-- Blocks that are no maker's: they bear strings in early places, or numbers alone. -/
def Mine (cs : List AV) : Prop := (∃ s, cs[2]? = some (.str s) ∨ cs[3]? = some (.str s)) ∨ ∃ l, l ≠ [] ∧ cs = ints l

theorem encF_shape {f : FlatF} {fs : List FlatF} : ∃ a b c d s r, (encF (f :: fs)).flatMap AV.cells = .int .i64 a :: .int .i64 b :: .int .i64 c :: .int .i64 d :: .str s :: r := by
  obtain ⟨n, k, x, m, s, na, a, nt, t, nl, l⟩ := f
  exact ⟨_, _, _, _, _, _, rfl⟩
theorem encF_mine {funs : List FlatF} (hne : encF funs ≠ []) : ¬ Mine ((encF funs).flatMap AV.cells) := by
  cases funs with
  | nil => exact absurd rfl hne
  | cons f fs =>
    obtain ⟨a, b, c, d, s, r, h⟩ := @encF_shape f fs
    rw [h]
    rintro (⟨s, h | h⟩ | ⟨l, _, h⟩)
    · simp at h
    · simp at h
    · have h4 := congrArg (fun cs => cs[4]?) h
      simp only [List.getElem?_cons_succ, List.getElem?_cons_zero, ints, List.getElem?_map] at h4
      cases hq : l[4]? with
      | none => rw [hq] at h4; cases h4
      | some q => rw [hq] at h4; cases h4
theorem mine_one {v : AV} (h : ∀ k n, v ≠ .int k n) : ¬ Mine [v] := by
  rintro (⟨s, h' | h'⟩ | ⟨l, hl, h'⟩)
  · simp at h'
  · simp at h'
  · cases l with
    | nil => exact hl rfl
    | cons x l =>
      simp only [ints, List.map_cons, List.cons.injEq] at h'
      exact h _ _ h'.1
theorem mine_two {m : Nat} {y : AV} : ¬ Mine [.map m, y] := by
  rintro (⟨s, h' | h'⟩ | ⟨l, hl, h'⟩)
  · simp at h'
  · simp at h'
  · cases l with
    | nil => exact hl rfl
    | cons x l =>
      simp only [ints, List.map_cons, List.cons.injEq] at h'
      cases h'.1
theorem OutL.noint {e : Nat} {A0 A : Heap} {v : AV} {es : List AV} (h : OutL e A0 A v es) : ∀ k n, v ≠ .int k n := by
  rcases h with ⟨rfl, _⟩ | ⟨b, rfl, _⟩ <;> intro k n h <;> cases h

theorem MakJ.fresh {A0 : Heap} {bm : Nat} {funs : List FlatF} {A : Heap} (h : MakJ A0 bm funs A) {c : Nat} {x : Blk} (hc : A c = none) : MakJ A0 bm funs (A.set c x) := by
  obtain ⟨v, h1, h2⟩ := h.v
  exact ⟨h.le.set hc, h.nm, v, Heap.keep h1 hc, h2.fresh hc⟩
theorem MakJ.base {A0 B : Heap} {bm : Nat} {funs : List FlatF} {A : Heap} (h : MakJ B bm funs A) (hle : A0.le B) : MakJ A0 bm funs A := by
  obtain ⟨v, h1, h2⟩ := h.v
  exact ⟨hle.trans h.le, hle.none h.nm, v, h1, h2.lower hle⟩
/-- A block that is no maker's is written. -/
theorem MakJ.other {A0 : Heap} {bm : Nat} {funs : List FlatF} {A : Heap} (h : MakJ A0 bm funs A) {c : Nat} {x y : Blk} (hc : A c = some x) (hx : ∀ cs, x = .cells cs → Mine cs ∨ ∃ m y, cs = [.map m, y]) (h0 : A0 c = none) : MakJ A0 bm funs (A.set c y) := by
  obtain ⟨v, h1, h2⟩ := h.v
  have hne : bm ≠ c := fun e => by
    subst e
    rw [h1] at hc
    cases hc
    rcases hx _ rfl with h | ⟨m, y, h⟩
    · exact mine_one h2.noint h
    · cases h
  refine ⟨h.le.set' h0, h.nm, v, by rw [Heap.set_other _ _ hne]; exact h1, h2.other fun e b' o n k hv he => ?_⟩
  subst he
  rcases h2 with ⟨h, _⟩ | ⟨b, h, hb, _, hne⟩
  · rw [h] at hv; cases hv
  · rw [h] at hv
    cases hv
    rw [hb] at hc
    cases hc
    rcases hx _ rfl with h | ⟨m, y, h⟩
    · exact encF_mine hne h
    · cases funs with
      | nil => exact hne rfl
      | cons f fs =>
        obtain ⟨a, b, c, d, s, r, h'⟩ := @encF_shape f fs
        rw [h'] at h
        cases h

theorem MakJ.rebase {A0 : Heap} {bm : Nat} {funs : List FlatF} {A : Heap} (h : MakJ A0 bm funs A) : ∃ B : Heap, MakJ B bm funs A ∧ A0.le B ∧ (∀ c cs, A c = some (.cells cs) → Mine cs → B c = some (.cells cs)) ∧
    (∀ c m y, A c = some (.cells [.map m, y]) → B c = some (.cells [.map m, y])) ∧ (∀ c es k, A c = some (.map es k) → B c = some (.map es k)) := by
  obtain ⟨v, h1, h2⟩ := h.v
  have key : ∀ c y, A c = some y → (∀ cs, y = .cells cs → Mine cs ∨ ∃ m y, cs = [.map m, y]) → (if c = bm then none else butOut A v c) = some y := by
    intro c y hc hy
    have hne : c ≠ bm := fun e => by
      subst e
      rw [h1] at hc
      cases hc
      rcases hy _ rfl with h | ⟨m, y, h⟩
      · exact mine_one h2.noint h
      · cases h
    rw [if_neg hne]
    unfold butOut
    rcases h2 with ⟨rfl, _⟩ | ⟨b, rfl, hb, _, hne2⟩
    · exact hc
    · simp only
      rw [if_neg]
      · exact hc
      · intro e
        subst e
        rw [hb] at hc
        cases hc
        rcases hy _ rfl with h | ⟨m, y, h⟩
        · exact encF_mine hne2 h
        · cases funs with
          | nil => exact hne2 rfl
          | cons f fs =>
            obtain ⟨a, b, c, d, s, r, h'⟩ := @encF_shape f fs
            rw [h'] at h
            cases h
  refine ⟨fun c => if c = bm then none else butOut A v c, ⟨⟨fun c y hc => ?_⟩, by simp, v, h1, ?_⟩, ⟨fun c y hc => ?_⟩, fun c cs hc hm => key c _ hc fun cs' h => ?_, fun c m y hc => key c _ hc fun cs' h => ?_, fun c es k hc => key c _ hc fun cs' h => ?_⟩
  · split at hc
    · cases hc
    · unfold butOut at hc
      split at hc
      · split at hc
        · cases hc
        · exact hc
      · exact hc
  · rcases h2 with h | ⟨b, rfl, hb, _, hne2⟩
    · exact .inl h
    · refine .inr ⟨b, rfl, hb, ?_, hne2⟩
      simp only [butOut, if_true]
      split <;> rfl
  · have hne : c ≠ bm := fun e => by subst e; rw [h.nm] at hc; cases hc
    rw [if_neg hne]
    unfold butOut
    rcases h2 with ⟨rfl, _⟩ | ⟨b, rfl, hb, h0, hne2⟩
    · exact h.le.get c y hc
    · simp only
      rw [if_neg (fun e => by subst e; rw [h0] at hc; cases hc)]
      exact h.le.get c y hc
  · cases h; exact .inl hm
  · cases h; exact .inr ⟨m, y, rfl⟩
  · cases h

end Go.NL

/- flatten: where the maker and a frame stand; laws of what is made. -/
set_option linter.unusedVariables false
set_option linter.unusedSimpArgs false
set_option maxRecDepth 10000
namespace Go.NL
open Go.Proofs

/-- Where a maker and a frame stand. -/
structure PartJ (A0 : Heap) (bm bf mt : Nat) (s : MS) (A : Heap) : Prop where
  mj : MakJ A0 bm s.funs A
  fr : FrameAt bf mt s.to s.next A
  nf : A0 bf = none
  nt : A0 mt = none

theorem FrameAt.ne {bf mt : Nat} {to : List (Int × Int)} {next : Int} {A : Heap} (h : FrameAt bf mt to next A) : bf ≠ mt := fun e => by
  subst e; have := h.f; rw [h.m] at this; cases this
theorem FrameAt.fresh {bf mt : Nat} {to : List (Int × Int)} {next : Int} {A : Heap} (h : FrameAt bf mt to next A) {c : Nat} {x : Blk} (hc : A c = none) : FrameAt bf mt to next (A.set c x) := ⟨Heap.keep h.f hc, Heap.keep h.m hc⟩

theorem PartJ.fresh {A0 : Heap} {bm bf mt : Nat} {s : MS} {A : Heap} (h : PartJ A0 bm bf mt s A) {c : Nat} {x : Blk} (hc : A c = none) : PartJ A0 bm bf mt s (A.set c x) := ⟨h.mj.fresh hc, h.fr.fresh hc, h.nf, h.nt⟩
theorem PartJ.base {A0 B : Heap} {bm bf mt : Nat} {s : MS} {A : Heap} (h : PartJ B bm bf mt s A) (hle : A0.le B) : PartJ A0 bm bf mt s A := ⟨h.mj.base hle, h.fr, hle.none h.nf, hle.none h.nt⟩
/-- A block that is no maker's and no frame's is written. -/
theorem PartJ.other {A0 : Heap} {bm bf mt : Nat} {s : MS} {A : Heap} (h : PartJ A0 bm bf mt s A) {c : Nat} {cs : List AV} {y : Blk} (hc : A c = some (.cells cs)) (hm : Mine cs) (h0 : A0 c = none) : PartJ A0 bm bf mt s (A.set c y) := by
  have h1 : bf ≠ c := fun e => by
    subst e
    rw [h.fr.f] at hc
    cases hc
    exact mine_two hm
  have h2 : mt ≠ c := fun e => by
    subst e
    rw [h.fr.m] at hc
    cases hc
  exact ⟨h.mj.other hc (fun cs' e => by cases e; exact .inl hm) h0, ⟨by rw [Heap.set_other _ _ h1]; exact h.fr.f, by rw [Heap.set_other _ _ h2]; exact h.fr.m⟩, h.nf, h.nt⟩
theorem PartJ.new {A0 : Heap} {bm bf mt : Nat} {s : MS} {A : Heap} (h : PartJ A0 bm bf mt s A) (v : Int) : PartJ A0 bm bf mt ⟨s.funs, (newF (s.to, s.next) v).1, (newF (s.to, s.next) v).2⟩
    ((A.set mt (mapB (AV.int .i64) (mput s.to v s.next))).set bf (.cells [.map mt, .int .i64 (IntKind.i64.wrap (s.next + 1))])) := by
  have hne := h.fr.ne
  have q1 := h.mj.other (y := mapB (AV.int .i64) (mput s.to v s.next)) h.fr.m (fun cs e => by cases e) h.nt
  have hbf : (A.set mt (mapB (AV.int .i64) (mput s.to v s.next))) bf = some (.cells [.map mt, .int .i64 s.next]) := by rw [Heap.set_other _ _ hne]; exact h.fr.f
  have q2 := q1.other (y := .cells [.map mt, .int .i64 (IntKind.i64.wrap (s.next + 1))]) hbf (fun cs e => by cases e; exact .inr ⟨_, _, rfl⟩) h.nf
  exact ⟨q2, ⟨Heap.set_same _ _ _, by rw [Heap.set_other _ _ hne.symm]; exact Heap.set_same _ _ _⟩, h.nf, h.nt⟩
theorem PartJ.rebase {A0 : Heap} {bm bf mt : Nat} {s : MS} {A : Heap} (h : PartJ A0 bm bf mt s A) : ∃ B : Heap, PartJ B bm bf mt s A ∧ A0.le B ∧ ∀ c cs, A c = some (.cells cs) → Mine cs → B c = some (.cells cs) := by
  obtain ⟨B, hB, hle, hk, hk2, hk3⟩ := h.mj.rebase
  refine ⟨fun c => if c = bf ∨ c = mt then none else B c, ⟨?_, h.fr, by simp, by simp⟩, ⟨fun c y hc => ?_⟩, fun c cs hc hm => ?_⟩
  · exact hB.base ⟨fun c y hc => by
      split at hc
      · cases hc
      · exact hc⟩
  · have h1 : c ≠ bf := fun e => by subst e; rw [h.nf] at hc; cases hc
    have h2 : c ≠ mt := fun e => by subst e; rw [h.nt] at hc; cases hc
    simp [h1, h2, hle.get c y hc]
  · have h1 : c ≠ bf := fun e => by
      subst e
      rw [h.fr.f] at hc
      cases hc
      exact mine_two hm
    have h2 : c ≠ mt := fun e => by
      subst e
      rw [h.fr.m] at hc
      cases hc
    simp [h1, h2, hk c cs hc hm]

/-- A function's part is put in its place. -/
theorem over_fun (c : Core) : ∀ (funs : List FlatF) (i : Nat), i < funs.length → over ((encF funs).flatMap AV.cells) (i * 8 + 1) c.enc.cells = (encF (funs.modify i fun p => (p.1, c))).flatMap AV.cells
  | [], i, h => by simp at h
  | (n, d) :: funs, 0, _ => by
    have hd := Core.enc_cells d
    have hc := Core.enc_cells c
    have h1 : (encF ((n, d) :: funs)).flatMap AV.cells = .int .i64 n :: (d.enc.cells ++ (encF funs).flatMap AV.cells) := rfl
    have h2 : (encF (((n, d) :: funs).modify 0 fun p => (p.1, c))).flatMap AV.cells = .int .i64 n :: (c.enc.cells ++ (encF funs).flatMap AV.cells) := rfl
    rw [h1, h2]
    generalize c.enc.cells = cc at hc
    generalize d.enc.cells = dd at hd
    generalize (encF funs).flatMap AV.cells = r
    simp only [over, Nat.zero_mul, Nat.zero_add, List.take_succ_cons, List.take_zero, hc]
    rw [show 1 + 7 = 7 + 1 from rfl, List.drop_succ_cons, ← hd, List.drop_left]
    rfl
  | p :: funs, i + 1, h => by
    have ih := over_fun c funs i (by simpa using h)
    have hp := p.len
    have hc := Core.enc_cells c
    simp only [over, encF, List.map_cons, List.flatMap_cons, List.modify_succ_cons, hc] at ih ⊢
    rw [← ih, show (i + 1) * 8 + 1 = p.enc.cells.length + (i * 8 + 1) by omega, List.take_length_add_append, Nat.add_assoc, List.drop_length_add_append]
    simp only [List.append_assoc]

end Go.NL

/- flatten: how many functions are made. -/
set_option linter.unusedVariables false
set_option linter.unusedSimpArgs false
set_option maxRecDepth 10000
namespace Go.NL
open Go.Proofs

mutual
/-- Functions have their part; so have those of a CoreRec. -/
def Core.ready : Core → Bool
  | .mk k _ _ _ _ _ _ _ _ l => (!decide (k = 7) || !l.isEmpty) && (!decide (k = 8) || (!l.isEmpty && (l.take (l.length - 1)).all fun x => !x.l.isEmpty)) && Core.readys l
def Core.readys : List Core → Bool
  | [] => true
  | c :: cs => c.ready && Core.readys cs
end
theorem Core.readys_mem {l : List Core} (h : Core.readys l = true) : ∀ c ∈ l, c.ready = true := by
  induction l with
  | nil => intro c hc; cases hc
  | cons x l ih =>
    simp only [Core.readys, Bool.and_eq_true] at h
    intro c hc
    rcases List.mem_cons.1 hc with rfl | hc
    · exact h.1
    · exact ih h.2 c hc
theorem Core.varss_mem {l : List Core} (h : Core.varss l = true) : ∀ c ∈ l, c.vars = true := by
  induction l with
  | nil => intro c hc; cases hc
  | cons x l ih =>
    simp only [Core.varss, Bool.and_eq_true] at h
    intro c hc
    rcases List.mem_cons.1 hc with rfl | hc
    · exact h.1
    · exact ih h.2 c hc
theorem Core.atomss_mem {l : List Core} : ∀ c ∈ l, c.atoms ≤ Core.atomss l := by
  induction l with
  | nil => intro c hc; cases hc
  | cons x l ih =>
    intro c hc
    simp only [Core.atomss]
    rcases List.mem_cons.1 hc with rfl | hc
    · omega
    · have := ih c hc; omega

/-- What the maker may be given. -/
structure Core.Ok (c : Core) : Prop where
  rd : c.ready = true
  gd : c.good big = true
  vr : c.vars = true
  at_ : c.atoms ≤ big
  sz : c.atoms + c.size ≤ big

theorem Core.Ok.sub {c x : Core} (h : c.Ok) (hx : x ∈ c.l) : x.Ok := by
  obtain ⟨k, a1, a2, a3, a4, a5, a6, a7, a8, l⟩ := c
  obtain ⟨h1, h2, h3, h4, h5⟩ := h
  simp only [Core.l] at hx
  simp only [Core.ready, Bool.and_eq_true] at h1
  simp only [Core.good, Bool.and_eq_true] at h2
  simp only [Core.vars, Bool.and_eq_true] at h3
  simp only [Core.atoms] at h4 h5
  simp only [Core.size] at h5
  exact ⟨Core.readys_mem h1.2 x hx, Core.goods_mem h2.2 x hx, Core.varss_mem h3.2 x hx, by have := Core.atomss_mem x hx; omega, by have := Core.atomss_mem x hx; have := Core.size_mem hx; omega⟩
theorem Core.Ok.fn {c : Core} (h : c.Ok) (hk : c.kind = 7) : c.l ≠ [] := by
  obtain ⟨k, a1, a2, a3, a4, a5, a6, a7, a8, l⟩ := c
  simp only [Core.kind] at hk
  subst hk
  have h1 := h.rd
  simp only [Core.ready, Bool.and_eq_true] at h1
  intro hl
  simp only [Core.l] at hl
  subst hl
  simp at h1
theorem Core.Ok.rec1 {c : Core} (h : c.Ok) (hk : c.kind = 8) : c.l ≠ [] ∧ ∀ x ∈ c.l.take (c.l.length - 1), x.l ≠ [] := by
  obtain ⟨k, a1, a2, a3, a4, a5, a6, a7, a8, l⟩ := c
  simp only [Core.kind] at hk
  subst hk
  have h1 := h.rd
  simp only [Core.ready, Bool.and_eq_true] at h1
  have h2 := h1.1.2
  simp only [decide_true, Bool.not_true, Bool.false_or, Bool.and_eq_true, List.all_eq_true] at h2
  refine ⟨fun hl => ?_, fun x hx hl => ?_⟩
  · have h3 : l = [] := hl
    rw [h3] at h2
    simp at h2
  · have := h2.2 x hx
    rw [hl] at this
    simp at this

theorem head_size {c : Core} (h : c.l ≠ []) : 1 + (c.l.headD Core.zero).size ≤ c.size := by
  obtain ⟨k, a1, a2, a3, a4, a5, a6, a7, a8, l⟩ := c
  simp only [Core.l] at h ⊢
  cases l with
  | nil => exact absurd rfl h
  | cons x l => simp only [List.headD_cons, Core.size, Core.sizes]; omega
theorem head_mem {c : Core} (h : c.l ≠ []) : c.l.headD Core.zero ∈ c.l := by
  cases hl : c.l with
  | nil => exact absurd hl h
  | cons x l => simp

/-- A part makes so many functions at most. -/
def Grows (rec : Core → MS → Core × MS) (c : Core) : Prop := ∀ s : MS, s.funs.length ≤ (rec c s).2.funs.length ∧ (rec c s).2.funs.length ≤ s.funs.length + c.size

theorem parts_len {rec : Core → MS → Core × MS} {late : Bool} {x : Int} : ∀ (cs : List Core) (i : Nat) (X : Int) (L : List Core) (s : MS), (∀ c ∈ cs, Grows rec c) →
    s.funs.length ≤ (partsW rec late x i cs X L s).2.2.funs.length ∧ (partsW rec late x i cs X L s).2.2.funs.length ≤ s.funs.length + Core.sizes cs
  | [], i, X, L, s, _ => by simp [partsW, Core.sizes]
  | c :: cs, i, X, L, s, h => by
    have h0 := h c (List.mem_cons_self ..)
    have h1 := fun c' hc' => h c' (List.mem_cons_of_mem _ hc')
    simp only [partsW, Core.sizes]
    split
    · have q := h0 ⟨s.funs, (newF (s.to, s.next) x).1, (newF (s.to, s.next) x).2⟩
      have r := @parts_len rec late x cs (i + 1) (IntKind.i64.wrap (IntKind.i64.wrap (s.next + 1) - 1)) (L ++ [(rec c ⟨s.funs, (newF (s.to, s.next) x).1, (newF (s.to, s.next) x).2⟩).1]) (rec c ⟨s.funs, (newF (s.to, s.next) x).1, (newF (s.to, s.next) x).2⟩).2 h1
      simp only at q
      omega
    · have q := h0 s
      have r := @parts_len rec late x cs (i + 1) X (L ++ [(rec c s).1]) (rec c s).2 h1
      omega
theorem funW_len {rec : Core → MS → Core × MS} {c : Core} (hc : c.l ≠ []) (h : Grows rec (c.l.headD Core.zero)) (cap : List Int) (funs : List FlatF) : funs.length + 1 ≤ (funW rec c cap funs).length ∧ (funW rec c cap funs).length ≤ funs.length + c.size := by
  have hs := head_size hc
  have q := h ⟨funs ++ [((cap.length : Int), Core.zero)], (cap.foldl newF (mput [] c.x 0, 1)).1, (cap.foldl newF (mput [] c.x 0, 1)).2⟩
  simp only [List.length_append, List.length_singleton] at q
  simp only [funW, List.length_modify]
  omega
theorem groupFuns_len {rec : Core → MS → Core × MS} {cap : List Int} : ∀ (xs : List Core) (tf : List Int × List FlatF), (∀ x ∈ xs, x.l ≠ []) → (∀ x ∈ xs, Grows rec (x.l.headD Core.zero)) →
    tf.2.length ≤ (groupFuns rec cap xs tf).2.length ∧ (groupFuns rec cap xs tf).2.length ≤ tf.2.length + Core.sizes xs ∧ (groupFuns rec cap xs tf).1.length = tf.1.length + xs.length
  | [], tf, _, _ => by simp [groupFuns, Core.sizes]
  | x :: xs, tf, h1, h2 => by
    have q := funW_len (h1 x (List.mem_cons_self ..)) (h2 x (List.mem_cons_self ..)) cap tf.2
    have r := @groupFuns_len rec cap xs (tf.1 ++ [(tf.2.length : Int)], funW rec x cap tf.2) (fun c hc => h1 c (List.mem_cons_of_mem _ hc)) (fun c hc => h2 c (List.mem_cons_of_mem _ hc))
    simp only [groupFuns, List.foldl_cons, Core.sizes, List.length_cons, List.length_append, List.length_nil] at r ⊢
    omega
theorem sizes_take : ∀ (l : List Core) (h : l ≠ []), Core.sizes (l.take (l.length - 1)) + (l.getD (l.length - 1) Core.zero).size = Core.sizes l
  | [], h => absurd rfl h
  | [c], _ => by simp [Core.sizes]
  | c :: d :: l, _ => by
    have := sizes_take (d :: l) (by simp)
    simp only [List.length_cons, Nat.add_sub_cancel, List.take_succ_cons, Core.sizes, List.getD_cons_succ] at this ⊢
    omega
theorem getD_mem : ∀ (l : List Core) (h : l ≠ []), l.getD (l.length - 1) Core.zero ∈ l := by
  intro l h
  have : l.length - 1 < l.length := by have := List.length_pos_iff.2 h; omega
  rw [List.getD_eq_getElem?_getD, List.getElem?_eq_getElem this]
  exact List.getElem_mem this

theorem partW_len : ∀ (N : Nat) (c : Core), c.size ≤ N → c.Ok → Grows (partW N) c := by
  intro N
  induction N with
  | zero => intro c hc; cases c; simp [Core.size] at hc
  | succ N ih =>
    intro c hc hok s
    have hfn := hok.fn
    have hrc := hok.rec1
    have hsub := fun x hx => @Core.Ok.sub c x hok hx
    have hhs := @head_size c
    have hhm := @head_mem c
    obtain ⟨k, x, n, str, na, a, nt, t, nl, l⟩ := c
    have hl : Core.sizes l ≤ N := by simp only [Core.size] at hc; omega
    simp only [Core.kind, Core.l] at hfn hrc hsub hhs hhm
    have hin : ∀ x ∈ l, Grows (partW N) x := fun x hx => ih x (Nat.le_trans (Core.size_mem hx) hl) (hsub x hx)
    simp only [partW]
    split
    · rename_i hk
      have q := funW_len (rec := partW N) (c := .mk k x n str na a nt t nl l) (hfn hk) (hin _ (hhm (hfn hk))) (Core.mk k x n str na a nt t nl l).free s.funs
      simp only
      omega
    · split
      · rename_i hk
        obtain ⟨h1, h2⟩ := hrc hk
        have hx : ∀ x ∈ l.take (l.length - 1), Grows (partW N) (x.l.headD Core.zero) := fun x hx => by
          have hx' := List.mem_of_mem_take hx
          have hne := h2 x hx
          have := head_size hne
          exact ih _ (by have := Core.size_mem hx'; omega) ((hsub x hx').sub (head_mem hne))
        have q := groupFuns_len (rec := partW N) (cap := groupShared (l.take (l.length - 1)) ++ (l.take (l.length - 1)).map Core.n) (l.take (l.length - 1)) ([], s.funs) h2 hx
        have st := sizes_take l h1
        have r := hin _ (getD_mem l h1) ⟨(groupFuns (partW N) (groupShared (l.take (l.length - 1)) ++ (l.take (l.length - 1)).map Core.n) (l.take (l.length - 1)) ([], s.funs)).2,
          ((l.take (l.length - 1)).foldl (fun fr x => newF fr x.n) (s.to, s.next)).1, ((l.take (l.length - 1)).foldl (fun fr x => newF fr x.n) (s.to, s.next)).2⟩
        simp only at q r
        simp only [groupW, Core.size]
        omega
      · have q := parts_len (rec := partW N) (late := lateK k) (x := x) l 0 0 [] s hin
        simp only [Core.size]
        omega

end Go.NL

/- flatten: maker.fun. -/
set_option linter.unusedVariables false
set_option linter.unusedSimpArgs false
set_option maxRecDepth 10000
namespace Go.NL
open Go.Proofs

/-- maker.part does what it must, at a part. -/
def PartOk (N : Nat) (c : Core) : Prop := ∀ {A0 A : Heap} {bm bf mt : Nat} {s : MS} {K : AV → Heap → Prop}, PartJ A0 bm bf mt s A → s.funs.length + c.size ≤ big → (∀ A', PartJ A0 bm bf mt (partW N c s).2 A' → K (partW N c s).1.enc A') →
  NCalls Try.prog F_flatten_maker_part [.ptr bm 0, c.enc, .ptr bf 0] A K

theorem MakJ.push {A0 : Heap} {bm : Nat} {funs : List FlatF} {A : Heap} (h : MakJ A0 bm funs A) {v x : AV} {p : FlatF} (hv : A bm = some (.cells [v])) (hx : srcAV A false 8 x = some ([p.enc].length, [p.enc].flatMap AV.cells)) (hlen : funs.length + 1 ≤ big) {K : AV → Heap → Prop}
    (hK : ∀ v' A', A' bm = some (.cells [v]) → v'.cells = [v'] → v'.one = true → MakJ A0 bm (funs ++ [p]) (A'.set bm (.cells [v'])) → K v' A') : appendN A K false 8 120 v x := by
  obtain ⟨v0, h1, h2⟩ := h.v
  rw [hv] at h1
  cases h1
  have hno : ∀ e o n k, v ≠ .slice e bm o n k := by
    intro e o n k he
    rcases h2 with ⟨h, _⟩ | ⟨b, h, hb, _, hne⟩
    · rw [h] at he; cases he
    · rw [h] at he
      cases he
      rw [hb] at hv
      cases funs with
      | nil => exact hne rfl
      | cons f fs =>
        obtain ⟨a, b, c, d, s, r, h'⟩ := @encF_shape f fs
        rw [h'] at hv
        cases hv
  refine append_vals h2 h.le hx (encF_cells funs) (by rw [encF_len]; exact hlen) (by omega) fun v' A' ho hle hfr => ?_
  have he : encF funs ++ [p.enc] = encF (funs ++ [p]) := by simp [encF]
  rw [he] at ho
  have hbm := hfr bm _ hv hno
  refine hK v' A' hbm ho.one.2 ho.one.1 ⟨hle.set' h.nm, h.nm, v', Heap.set_same _ _ _, ho.other fun e b' o n k hv' he' => ?_⟩
  subst he'
  rcases ho with ⟨h, _⟩ | ⟨b, h, hb, h0, hne⟩
  · rw [h] at hv'; cases hv'
  · rw [h] at hv'
    cases hv'
    rw [hb] at hbm
    cases hfs : funs ++ [p] with
    | nil => simp at hfs
    | cons f fs =>
      rw [hfs] at hbm
      obtain ⟨a, b, c, d, s, r, h'⟩ := @encF_shape f fs
      rw [h'] at hbm
      cases hbm

theorem Core.mine (c : Core) : Mine c.enc.cells := by
  obtain ⟨k, x, n, s, na, a, nt, t, nl, l⟩ := c
  exact .inl ⟨s, .inr rfl⟩

theorem zero_cells (n : Nat) : (FlatF.enc ((n : Int), Core.zero)).cells = [.int .i64 n, .int .i64 0, .int .i64 0, .int .i64 0, .str [], .nilslice, .nilslice, .nilslice] := rfl

set_option maxHeartbeats 2000000 in
theorem fun_run {N : Nat} {c : Core} (hne : c.l ≠ []) (hp : PartOk N (c.l.headD Core.zero)) (hg : Grows (partW N) (c.l.headD Core.zero)) {A0 A : Heap} {bm : Nat} {funs : List FlatF} {v : AV} {cap : List Int} {K : AV → Heap → Prop} (hJ : MakJ A0 bm funs A) (hv : IntsAt A0 v cap) (hcap : cap.length ≤ big) (hlen : funs.length + c.size ≤ big)
    (hK : ∀ A', MakJ A0 bm (funW (partW N) c cap funs) A' → K (.int .i64 funs.length) A') : NCalls Try.prog F_flatten_maker_fun [.ptr bm 0, c.enc, v] A K := by
  have hbig : big = 1099511627776 := rfl
  have hhs := head_size hne
  have hmine := c.mine
  have hone := c.one_enc
  simp only [funW] at hK
  obtain ⟨k, x, n, s, na, a, nt, t, nl, l⟩ := c
  cases l with
  | nil => exact absurd rfl hne
  | cons y ls =>
  simp only [Core.l, List.headD_cons, Core.x] at hp hg hhs hK
  generalize (Core.mk k x n s na a nt t nl (y :: ls)).size = sz at hhs hlen
  simp only [Core.enc, encsL, AV.cells] at hmine hone ⊢
  have hl0 : indexAddrAV 7 none (encSl nl 7 ((y :: ls).map Core.enc)) 0 = some (.iptr y.enc.cells 0) := indexAddr_encSl nl 7 ((y :: ls).map Core.enc) 0 y.enc rfl
  have hty := Core.take_enc y
  generalize encSl nl 7 ((y :: ls).map Core.enc) = lv at hmine hone hl0 ⊢
  refine NCalls.walk c_flatten_maker_fun (Nat.le_of_ble_eq_true rfl) ?_
  simp only [n_flatten_maker_fun]
  refine nwp_then (fun f A => ∃ B b4, A0.le B ∧ MakJ B bm funs A ∧ f 0 = .ptr bm 0 ∧ f 2 = v ∧ f 4 = .ptr b4 0 ∧ B b4 = some (.cells [.int .i64 k, .int .i64 x, .int .i64 n, .str s, encSl na 3 (a.map Atom.enc), encSl nt 1 (t.map encInt), lv])) ?_ ?_
  · simp only [n_flatten_maker_fun_r0, hone, go_sem, Nat.reduceEqDiff, Nat.reduceAdd, Nat.reduceSub, Nat.reduceLeDiff, Nat.reduceLT, Nat.reduceMul, Int.reduceEq, Int.reduceLT, Int.reduceLE, Int.reduceNeg, Int.reduceToNat, Int.reduceAdd, Int.reduceSub, Int.cast_ofNat_Int, Int.cast_ofNat_Int, reduceCtorEq, ↓reduceIte, Bool.false_eq_true, decide_true, decide_false, eq_self, Bool.not_true, Bool.not_false]
    intro b hb
    obtain ⟨B, hB, hle, hk, _⟩ := (hJ.fresh (x := .cells [.int .i64 k, .int .i64 x, .int .i64 n, .str s, encSl na 3 (a.map Atom.enc), encSl nt 1 (t.map encInt), lv]) hb).rebase
    exact Here.mk ⟨B, b, hle, hB, rfl, rfl, rfl, hk _ _ (Heap.set_same _ _ _) hmine⟩
  clear hJ hone
  rintro f A ⟨B, b4, hAB, hJ, h0, h2, h4, hb4⟩
  replace hv := hv.le hAB
  refine nwp_then (fun f A => MakJ B bm funs A ∧ f 0 = .ptr bm 0 ∧ f 2 = v ∧ f 4 = .ptr b4 0 ∧ f 7 = .int .i64 funs.length) ?_ ?_
  · obtain ⟨u, hu, ho⟩ := hJ.v
    have hol := ho.len
    rw [encF_len] at hol
    simp only [n_flatten_maker_fun_r1, h0, hu, hol, go_sem, Nat.reduceEqDiff, Nat.reduceAdd, Nat.reduceSub, Nat.reduceLeDiff, Nat.reduceLT, Nat.reduceMul, Int.reduceEq, Int.reduceLT, Int.reduceLE, Int.reduceNeg, Int.reduceToNat, Int.reduceAdd, Int.reduceSub, Int.cast_ofNat_Int, Int.cast_ofNat_Int, reduceCtorEq, ↓reduceIte, Bool.false_eq_true, decide_true, decide_false, eq_self, Bool.not_true, Bool.not_false]
    exact Here.mk ⟨hJ, h0, h2, h4, rfl⟩
  clear hJ h0 h2 h4
  rintro f A ⟨hJ, h0, h2, h4, h7⟩
  refine nwp_then (fun f A => MakJ B bm (funs ++ [((cap.length : Int), Core.zero)]) A ∧ f 0 = .ptr bm 0 ∧ f 2 = v ∧ f 4 = .ptr b4 0 ∧ f 7 = .int .i64 funs.length) ?_ ?_
  · obtain ⟨u, hu, ho⟩ := hJ.v
    simp only [n_flatten_maker_fun_r2, h0, h2, hu, hv.len, go_sem, Nat.reduceEqDiff, Nat.reduceAdd, Nat.reduceSub, Nat.reduceLeDiff, Nat.reduceLT, Nat.reduceMul, Int.reduceEq, Int.reduceLT, Int.reduceLE, Int.reduceNeg, Int.reduceToNat, Int.reduceAdd, Int.reduceSub, Int.cast_ofNat_Int, Int.cast_ofNat_Int, reduceCtorEq, ↓reduceIte, Bool.false_eq_true, decide_true, decide_false, eq_self, Bool.not_true, Bool.not_false]
    intro b hb
    refine (hJ.fresh hb).push (p := ((cap.length : Int), Core.zero)) (Heap.keep hu hb) (src_val A b _ _ (zero_cells _) rfl) (by omega) fun v' A' hbm hc1 ho1 hJ' => ?_
    simp only [hbm, hc1, ho1, go_sem, Nat.reduceEqDiff, Nat.reduceAdd, Nat.reduceSub, Nat.reduceLeDiff, Nat.reduceLT, Nat.reduceMul, Int.reduceEq, Int.reduceLT, Int.reduceLE, Int.reduceNeg, Int.reduceToNat, Int.reduceAdd, Int.reduceSub, Int.cast_ofNat_Int, Int.cast_ofNat_Int, reduceCtorEq, ↓reduceIte, Bool.false_eq_true, decide_true, decide_false, eq_self, Bool.not_true, Bool.not_false]
    exact Here.mk ⟨hJ', h0, h2, h4, h7⟩
  clear hJ h0 h2 h4 h7
  rintro f A ⟨hJ, h0, h2, h4, h7⟩
  generalize hF1 : funs ++ [((cap.length : Int), Core.zero)] = funs1 at hJ hK
  have hF1l : funs1.length = funs.length + 1 := by rw [← hF1]; simp
  refine nwp_then (fun f A => ∃ bf mt, PartJ B bm bf mt ⟨funs1, mput [] x 0, 1⟩ A ∧ f 0 = .ptr bm 0 ∧ f 2 = v ∧ f 4 = .ptr b4 0 ∧ f 7 = .int .i64 funs.length ∧ f 8 = .ptr bf 0) ?_ ?_
  · have hb4A := hJ.le.get _ _ hb4
    simp only [n_flatten_maker_fun_r3, h4, hb4A, go_sem, Nat.reduceEqDiff, Nat.reduceAdd, Nat.reduceSub, Nat.reduceLeDiff, Nat.reduceLT, Nat.reduceMul, Int.reduceEq, Int.reduceLT, Int.reduceLE, Int.reduceNeg, Int.reduceToNat, Int.reduceAdd, Int.reduceSub, Int.cast_ofNat_Int, Int.cast_ofNat_Int, reduceCtorEq, ↓reduceIte, Bool.false_eq_true, decide_true, decide_false, eq_self, Bool.not_true, Bool.not_false]
    intro mt hmt
    have hne4 := (Heap.ne_of hb4A hmt).symm
    have hm0 : Blk.map [] 0 = mapB (AV.int .i64) ([] : List (Int × Int)) := rfl
    simp only [hne4, hm0, go_sem, Nat.reduceEqDiff, Nat.reduceAdd, Nat.reduceSub, Nat.reduceLeDiff, Nat.reduceLT, Nat.reduceMul, Int.reduceEq, Int.reduceLT, Int.reduceLE, Int.reduceNeg, Int.reduceToNat, Int.reduceAdd, Int.reduceSub, Int.cast_ofNat_Int, Int.cast_ofNat_Int, reduceCtorEq, ↓reduceIte, Bool.false_eq_true, decide_true, decide_false, eq_self, Bool.not_true, Bool.not_false]
    intro bf hbf
    refine Here.mk ⟨bf, mt, ?_, h0, h2, h4, h7, rfl⟩
    have hq1 := hJ.fresh (x := mapB (AV.int .i64) (mput [] x 0)) hmt
    have hbf' : (A.set mt (mapB (AV.int .i64) (mput [] x 0))) bf = none := by
      rw [Heap.set_other _ _ hbf.1]
      exact hbf.2.2.2.2
    exact ⟨hq1.fresh hbf', ⟨Heap.set_same _ _ _, Heap.keep (Heap.set_same _ _ _) hbf'⟩, hq1.le.none hbf', hJ.le.none hmt⟩
  clear hJ h0 h2 h4 h7
  rintro f A ⟨bf, mt, hJ, h0, h2, h4, h7, h8⟩
  refine nwp_cut (fun f A => PartJ B bm bf mt ⟨funs1, (cap.foldl newF (mput [] x 0, 1)).1, (cap.foldl newF (mput [] x 0, 1)).2⟩ A ∧ f 0 = .ptr bm 0 ∧ f 4 = .ptr b4 0 ∧ f 7 = .int .i64 funs.length ∧ f 8 = .ptr bf 0) ?_ ?_
  · refine nwp_then (fun f A => PartJ B bm bf mt ⟨funs1, mput [] x 0, 1⟩ A ∧ f 0 = .ptr bm 0 ∧ f 4 = .ptr b4 0 ∧ f 7 = .int .i64 funs.length ∧ f 8 = .ptr bf 0 ∧ f 35 = v ∧ f 36 = .int .i64 cap.length ∧ f 37 = .int .i64 0) ?_ ?_
    · simp only [n_flatten_maker_fun_r4, h2, hv.len, go_sem, Nat.reduceEqDiff, Nat.reduceAdd, Nat.reduceSub, Nat.reduceLeDiff, Nat.reduceLT, Nat.reduceMul, Int.reduceEq, Int.reduceLT, Int.reduceLE, Int.reduceNeg, Int.reduceToNat, Int.reduceAdd, Int.reduceSub, Int.cast_ofNat_Int, Int.cast_ofNat_Int, reduceCtorEq, ↓reduceIte, Bool.false_eq_true, decide_true, decide_false, eq_self, Bool.not_true, Bool.not_false]
      exact Here.mk ⟨hJ, h0, h4, h7, h8, rfl, rfl, rfl⟩
    clear hJ h0 h2 h4 h7 h8
    rintro f A ⟨hJ, h0, h4, h7, h8, h35, h36, h37⟩
    refine nwp_for (ti := 37) (tn := 36) (tt := 38) (tw := 44) (id := 0) (id2 := 1) cap.length (by omega) (fun i f A => PartJ B bm bf mt ⟨funs1, ((cap.take i).foldl newF (mput [] x 0, 1)).1, ((cap.take i).foldl newF (mput [] x 0, 1)).2⟩ A ∧ f 0 = .ptr bm 0 ∧ f 4 = .ptr b4 0 ∧ f 7 = .int .i64 funs.length ∧ f 8 = .ptr bf 0 ∧ f 35 = v) (by decide) ?_ h37 h36 ⟨hJ, h0, h4, h7, h8, h35⟩ ?_ ?_
    · rintro i f A d v hd ⟨q1, q2, q3, q4, q5, q6⟩
      rcases hd with rfl | rfl | rfl
      all_goals exact ⟨q1, q2, q3, q4, q5, q6⟩
    · rintro i f A hi ⟨hJ, h0, h4, h7, h8, h35⟩ h37 h36
      obtain ⟨p, hp1, hp2⟩ := hv.read hJ.mj.le i hi
      rw [foldl_take _ _ _ _ hi]
      generalize (cap.take i).foldl newF (mput [] x 0, 1) = fr at hJ ⊢
      generalize cap[i] = z at hp2 ⊢
      refine nwp_then (fun f A => PartJ B bm bf mt ⟨funs1, fr.1, fr.2⟩ A ∧ f 0 = .ptr bm 0 ∧ f 4 = .ptr b4 0 ∧ f 7 = .int .i64 funs.length ∧ f 8 = .ptr bf 0 ∧ f 35 = v ∧ f 36 = .int .i64 cap.length ∧ f 37 = .int .i64 i ∧ f 10 = .int .i64 z) ?_ ?_
      · simp only [n_flatten_maker_fun_r6, h35, h37, hp1, hp2, go_sem, Nat.reduceEqDiff, Nat.reduceAdd, Nat.reduceSub, Nat.reduceLeDiff, Nat.reduceLT, Nat.reduceMul, Int.reduceEq, Int.reduceLT, Int.reduceLE, Int.reduceNeg, Int.reduceToNat, Int.reduceAdd, Int.reduceSub, Int.cast_ofNat_Int, Int.cast_ofNat_Int, reduceCtorEq, ↓reduceIte, Bool.false_eq_true, decide_true, decide_false, eq_self, Bool.not_true, Bool.not_false]
        exact Here.mk ⟨hJ, h0, h4, h7, h8, h35, h36, h37, rfl⟩
      clear hJ h0 h4 h7 h8 h35 h36 h37 hp1 hp2
      rintro f A ⟨hJ, h0, h4, h7, h8, h35, h36, h37, h10⟩
      refine nwp_last (fun f A => PartJ B bm bf mt ⟨funs1, (newF fr z).1, (newF fr z).2⟩ A ∧ f 0 = .ptr bm 0 ∧ f 4 = .ptr b4 0 ∧ f 7 = .int .i64 funs.length ∧ f 8 = .ptr bf 0 ∧ f 35 = v ∧ f 36 = .int .i64 cap.length ∧ f 37 = .int .i64 i) ?_ fun f A ⟨q1, q2, q3, q4, q5, q6, q7, q8⟩ => ⟨⟨q1, q2, q3, q4, q5, q6⟩, q8, q7⟩
      simp only [n_flatten_maker_fun_r7, h8, h10, go_sem, Nat.reduceEqDiff, Nat.reduceAdd, Nat.reduceSub, Nat.reduceLeDiff, Nat.reduceLT, Nat.reduceMul, Int.reduceEq, Int.reduceLT, Int.reduceLE, Int.reduceNeg, Int.reduceToNat, Int.reduceAdd, Int.reduceSub, Int.cast_ofNat_Int, Int.cast_ofNat_Int, reduceCtorEq, ↓reduceIte, Bool.false_eq_true, decide_true, decide_false, eq_self, Bool.not_true, Bool.not_false]
      refine new_run hJ.fr ?_
      try simp only [go_sem, Nat.reduceEqDiff, Nat.reduceAdd, Nat.reduceSub, Nat.reduceLeDiff, Nat.reduceLT, Nat.reduceMul, Int.reduceEq, Int.reduceLT, Int.reduceLE, Int.reduceNeg, Int.reduceToNat, Int.reduceAdd, Int.reduceSub, Int.cast_ofNat_Int, Int.cast_ofNat_Int, reduceCtorEq, ↓reduceIte, Bool.false_eq_true, decide_true, decide_false, eq_self, Bool.not_true, Bool.not_false]
      exact Here.mk ⟨hJ.new z, h0, h4, h7, h8, h35, h36, h37⟩
    · rintro f A ⟨q1, q2, q3, q4, q5, q6⟩
      rw [List.take_of_length_le (Nat.le_refl _)] at q1
      exact ⟨q1, q2, q3, q4, q5⟩
  clear hJ h0 h2 h4 h7 h8
  generalize cap.foldl newF (mput [] x 0, 1) = fr at hK
  obtain ⟨to1, next1⟩ := fr
  simp only at hK
  rintro f A ⟨hJ, h0, h4, h7, h8⟩
  simp only at hJ
  have hgl := hg ⟨funs1, to1, next1⟩
  have hpp := @hp
  simp only [hF1l] at hgl
  refine nwp_then (fun f A => ∃ b11, MakJ B bm (partW N y ⟨funs1, to1, next1⟩).2.funs A ∧ f 0 = .ptr bm 0 ∧ f 7 = .int .i64 funs.length ∧ f 11 = .ptr b11 0 ∧ A b11 = some (.cells (partW N y ⟨funs1, to1, next1⟩).1.enc.cells)) ?_ ?_
  · have hb4A := hJ.mj.le.get _ _ hb4
    simp only [n_flatten_maker_fun_r10, h0, h4, h8, hb4A, hl0, hty, go_sem, Nat.reduceEqDiff, Nat.reduceAdd, Nat.reduceSub, Nat.reduceLeDiff, Nat.reduceLT, Nat.reduceMul, Int.reduceEq, Int.reduceLT, Int.reduceLE, Int.reduceNeg, Int.reduceToNat, Int.reduceAdd, Int.reduceSub, Int.cast_ofNat_Int, Int.cast_ofNat_Int, reduceCtorEq, ↓reduceIte, Bool.false_eq_true, decide_true, decide_false, eq_self, Bool.not_true, Bool.not_false]
    refine hpp hJ (by simp only [hF1l]; omega) fun A' hJ' => ?_
    simp only [go_sem, Nat.reduceEqDiff, Nat.reduceAdd, Nat.reduceSub, Nat.reduceLeDiff, Nat.reduceLT, Nat.reduceMul, Int.reduceEq, Int.reduceLT, Int.reduceLE, Int.reduceNeg, Int.reduceToNat, Int.reduceAdd, Int.reduceSub, Int.cast_ofNat_Int, Int.cast_ofNat_Int, reduceCtorEq, ↓reduceIte, Bool.false_eq_true, decide_true, decide_false, eq_self, Bool.not_true, Bool.not_false]
    intro b11 hb11
    exact Here.mk ⟨b11, hJ'.mj.fresh hb11, h0, h7, rfl, Heap.set_same _ _ _⟩
  clear hJ h0 h4 h7 h8 hp hpp
  generalize partW N y ⟨funs1, to1, next1⟩ = r at hK hgl
  rintro f A ⟨b11, hJ, h0, h7, h11, hb11⟩
  refine nwp_then (fun f A => MakJ B bm (r.2.funs.modify funs.length fun p => (p.1, r.1)) A ∧ f 7 = .int .i64 funs.length) ?_ ?_
  · obtain ⟨u, hu, ho⟩ := hJ.v
    have htr := Core.take_enc r.1
    have hov := over_fun r.1 r.2.funs funs.length (by omega)
    have hfl := flat_len (encF_cells r.2.funs)
    have hel := encF_len r.2.funs
    have hem : (encF (r.2.funs.modify funs.length fun p => (p.1, r.1))).length = (encF r.2.funs).length := by simp [encF]
    rcases ho with ⟨rfl, hnil⟩ | ⟨b, rfl, hb, hB0, hnn⟩
    · rw [hnil] at hel
      simp only [List.length_nil] at hel
      omega
    · have hix : indexAddrAV 8 none (.slice 8 b 0 (encF r.2.funs).length (.ge (encF r.2.funs).length)) (funs.length : Int) = some (.ptr b (funs.length * 8)) := by
        simp only [indexAddrAV, true_and]
        rw [if_pos (by omega)]
        simp
      have hnb : bm ≠ b := fun e => by
        subst e
        rw [hu] at hb
        cases hf : r.2.funs with
        | nil => rw [hf] at hnn; exact hnn rfl
        | cons f fs =>
          rw [hf] at hb
          obtain ⟨a, b, c, d, s, r, h'⟩ := @encF_shape f fs
          rw [h'] at hb
          cases hb
      simp only [n_flatten_maker_fun_r11, h0, h7, h11, hu, hb, hb11, htr, hix, hfl, go_sem, Nat.reduceEqDiff, Nat.reduceAdd, Nat.reduceSub, Nat.reduceLeDiff, Nat.reduceLT, Nat.reduceMul, Int.reduceEq, Int.reduceLT, Int.reduceLE, Int.reduceNeg, Int.reduceToNat, Int.reduceAdd, Int.reduceSub, Int.cast_ofNat_Int, Int.cast_ofNat_Int, reduceCtorEq, ↓reduceIte, Bool.false_eq_true, decide_true, decide_false, eq_self, Bool.not_true, Bool.not_false]
      simp only [over, Core.enc_cells] at hov
      refine ⟨by omega, ?_⟩
      rw [hov]
      refine Here.mk ⟨⟨hJ.le.set' hB0, hJ.nm, _, by rw [Heap.set_other _ _ hnb]; exact hu, .inr ⟨b, by rw [hem], Heap.set_same _ _ _, hB0, fun h => ?_⟩⟩, h7⟩
      rw [h] at hem
      simp only [List.length_nil] at hem
      omega
  clear hJ h0 h7 h11 hb11
  rintro f A ⟨hJ, h7⟩
  simp only [n_flatten_maker_fun_r12, h7, go_sem, Nat.reduceEqDiff, Nat.reduceAdd, Nat.reduceSub, Nat.reduceLeDiff, Nat.reduceLT, Nat.reduceMul, Int.reduceEq, Int.reduceLT, Int.reduceLE, Int.reduceNeg, Int.reduceToNat, Int.reduceAdd, Int.reduceSub, Int.cast_ofNat_Int, Int.cast_ofNat_Int, reduceCtorEq, ↓reduceIte, Bool.false_eq_true, decide_true, decide_false, eq_self, Bool.not_true, Bool.not_false]
  exact hK _ (hJ.base hAB)

end Go.NL

/- flatten: what stands beside a maker; what a part is when it is told. -/
set_option linter.unusedVariables false
set_option linter.unusedSimpArgs false
set_option maxRecDepth 10000
namespace Go.NL
open Go.Proofs

/-- A region that may be done in two orders, then the rest. -/
theorem nwp_then2 {P : Program} {r r' : List NI} {b : NC} {Q : Post} {f : Fr} {A : Heap} (I : Fr → Heap → Prop) (h1 : nrun P (Here I) r f A) (h1' : nrun P (Here I) r' f A) (h2 : ∀ f A, I f A → nwp P b Q f A) : nwp P (.seq (.region r [r']) b) Q f A :=
  nwp_cut I ⟨h1, fun x hx => by cases List.mem_singleton.1 hx; exact h1'⟩ h2

theorem MakJ.move {A0 : Heap} {bm : Nat} {funs : List FlatF} {A A' : Heap} (h : MakJ A0 bm funs A) (hle : A0.le A') (hk : ∀ c y, A c = some y → (∀ cs, y = .cells cs → ¬ Mine cs) → A' c = some y) : MakJ A0 bm funs A' := by
  obtain ⟨v, h1, h2⟩ := h.v
  refine ⟨hle, h.nm, v, hk bm _ h1 fun cs e => by cases e; exact mine_one h2.noint, ?_⟩
  rcases h2 with h2 | ⟨b, h2, hb, h0, hne⟩
  · exact .inl h2
  · exact .inr ⟨b, h2, hk b _ hb fun cs e => by cases e; exact encF_mine hne, h0, hne⟩
theorem PartJ.move {A0 : Heap} {bm bf mt : Nat} {s : MS} {A A' : Heap} (h : PartJ A0 bm bf mt s A) (hle : A0.le A') (hk : ∀ c y, A c = some y → (∀ cs, y = .cells cs → ¬ Mine cs) → A' c = some y) : PartJ A0 bm bf mt s A' :=
  ⟨h.mj.move hle hk, ⟨hk bf _ h.fr.f fun cs e => by cases e; exact mine_two, hk mt _ h.fr.m fun cs e => by cases e⟩, h.nf, h.nt⟩

theorem atoms_mine {l : List Atom} (h : l.map Atom.enc ≠ []) : Mine ((l.map Atom.enc).flatMap AV.cells) := by
  cases l with
  | nil => exact absurd rfl h
  | cons a l => exact .inl ⟨a.s, .inl rfl⟩
theorem cores_mine {l : List Core} (h : l.map Core.enc ≠ []) : Mine ((l.map Core.enc).flatMap AV.cells) := by
  cases l with
  | nil => exact absurd rfl h
  | cons c l =>
    obtain ⟨k, x, n, s, na, a, nt, t, nl, l'⟩ := c
    exact .inl ⟨s, .inr rfl⟩
theorem atoms_cells (l : List Atom) : ∀ x ∈ l.map Atom.enc, x.cells.length = 3 := by
  intro x hx
  obtain ⟨a, _, rfl⟩ := List.mem_map.1 hx
  rfl
theorem cores_cells (l : List Core) : ∀ x ∈ l.map Core.enc, x.cells.length = 7 := by
  intro x hx
  obtain ⟨a, _, rfl⟩ := List.mem_map.1 hx
  exact a.enc_cells

/-- What is kept where a list grew: all that is not mine, if the list's block was mine. -/
theorem grown_keep {e : Nat} {A0 A A' : Heap} {v : AV} {es : List AV} (ho : OutL e A0 A v es) (hm : es ≠ [] → Mine (es.flatMap AV.cells)) (hfr : ∀ c y, A c = some y → (∀ e o n k, v ≠ .slice e c o n k) → A' c = some y) : ∀ c y, A c = some y → (∀ cs, y = .cells cs → ¬ Mine cs) → A' c = some y := by
  intro c y hc hy
  refine hfr c y hc fun e' o n k hv => ?_
  rcases ho with ⟨h, _⟩ | ⟨b, h, hb, h0, hne⟩
  · rw [h] at hv; cases hv
  · rw [h] at hv
    cases hv
    rw [hb] at hc
    cases hc
    exact hy _ rfl (hm hne)

theorem frz0_enc (b e e' : Nat) (es es' : List AV) (nl : Bool) : (encSl nl e es).frz0 b e' es' = encSl nl e es := by
  unfold encSl
  split <;> rfl

/-- A part that is told: its lists are taken as never changing. -/
theorem wk_core {A0 A : Heap} {k x n : Int} {s : List UInt8} {vA vL : AV} {as_ : List Atom} {nt : Bool} {t : List Int} {ls : List Core} (hA : OutL 3 A0 A vA (as_.map Atom.enc)) (hL : OutL 7 A0 A vL (ls.map Core.enc)) (hle : A0.le A) :
    Wk A (.agg [.int .i64 k, .int .i64 x, .int .i64 n, .str s, vA, encSl nt 1 (t.map encInt), vL]) A0 (Core.mk k x n s true as_ nt t true ls).enc := by
  simp only [Core.enc, encsL]
  -- the atoms
  have h1 : ∃ A', Wk A (.agg [.int .i64 k, .int .i64 x, .int .i64 n, .str s, vA, encSl nt 1 (t.map encInt), vL]) A' (.agg [.int .i64 k, .int .i64 x, .int .i64 n, .str s, encSl true 3 (as_.map Atom.enc), encSl nt 1 (t.map encInt), vL]) ∧ A0.le A' ∧ OutL 7 A0 A' vL (ls.map Core.enc) := by
    rcases hA with ⟨rfl, hn⟩ | ⟨b, rfl, hb, h0, hne⟩
    · rw [hn]
      exact ⟨A, .refl _ _, hle, hL⟩
    · refine ⟨A.del b, ?_, ⟨fun c y hc => ?_⟩, ?_⟩
      · have hw := Wk.frz (A := A) (v := .agg [.int .i64 k, .int .i64 x, .int .i64 n, .str s, .slice 3 b 0 (as_.map Atom.enc).length (.ge (as_.map Atom.enc).length), encSl nt 1 (t.map encInt), vL]) 3 (as_.map Atom.enc) hb (atoms_cells as_)
        have hv : vL.frz0 b 3 (as_.map Atom.enc) = vL := by
          rcases hL with ⟨rfl, _⟩ | ⟨b', rfl, _⟩
          · rfl
          · simp [AV.frz0]
        have he : encSl true 3 (as_.map Atom.enc) = .islice 3 (as_.map Atom.enc) false := by
          unfold encSl
          rw [if_neg (fun h => hne h.2)]
        rw [he]
        simp only [AV.frz, AV.frz1, List.map_cons, List.map_nil, frz0_enc, hv] at hw
        simpa [AV.frz0] using hw
      · have hne' : c ≠ b := fun e => by subst e; rw [h0] at hc; cases hc
        simp [Heap.del, hne', hle.get c y hc]
      · rcases hL with h | ⟨b', h, hb', h0', hne'⟩
        · exact .inl h
        · refine .inr ⟨b', h, ?_, h0', hne'⟩
          have hbb : b' ≠ b := fun e => by
            subst e
            rw [hb'] at hb
            cases ls with
            | nil => exact hne' rfl
            | cons c l =>
              cases as_ with
              | nil => exact hne rfl
              | cons a as_ =>
                obtain ⟨k, x, n, s, na, a', nt, t, nl, l'⟩ := c
                injection hb with hb
                injection hb with hb
                simp [Core.enc, Atom.enc, AV.cells] at hb
          simp [Heap.del, hbb, hb']
  obtain ⟨A', w1, hle', hL'⟩ := h1
  refine w1.trans ?_
  rcases hL' with ⟨rfl, hn⟩ | ⟨b, rfl, hb, h0, hne⟩
  · rw [hn]
    exact .sub hle'.get
  · have hw := Wk.frz (A := A') (v := .agg [.int .i64 k, .int .i64 x, .int .i64 n, .str s, encSl true 3 (as_.map Atom.enc), encSl nt 1 (t.map encInt), .slice 7 b 0 (ls.map Core.enc).length (.ge (ls.map Core.enc).length)]) 7 (ls.map Core.enc) hb (cores_cells ls)
    have he : encSl true 7 (ls.map Core.enc) = .islice 7 (ls.map Core.enc) false := by
      unfold encSl
      rw [if_neg (fun h => hne h.2)]
    rw [he]
    simp only [AV.frz, AV.frz1, List.map_cons, List.map_nil, frz0_enc] at hw
    refine Wk.trans (by simpa [AV.frz0] using hw) (.sub fun c y hc => ?_)
    have hne' : c ≠ b := fun e => by subst e; rw [h0] at hc; cases hc
    simp [Heap.del, hne', hle'.get c y hc]

end Go.NL

/- flatten: maker.part, but for groups. -/
set_option linter.unusedVariables false
set_option linter.unusedSimpArgs false
set_option maxRecDepth 10000
namespace Go.NL
open Go.Proofs

/-- maker.group does what it must, at a part. -/
def GroupOk (N : Nat) (c : Core) : Prop := ∀ {A0 A : Heap} {bm bf mt : Nat} {s : MS} {K : AV → Heap → Prop}, PartJ A0 bm bf mt s A → s.funs.length + c.size ≤ big → (∀ A', PartJ A0 bm bf mt (groupW (partW N) c.l s).2 A' → K (groupW (partW N) c.l s).1.enc A') →
  NCalls Try.prog F_flatten_maker_group [.ptr bm 0, c.enc, .ptr bf 0] A K

def zero7 : List AV := [.int .i64 0, .int .i64 0, .int .i64 0, .str [], .nilslice, .nilslice, .nilslice]
theorem zero7_mine : Mine zero7 := .inl ⟨[], .inr rfl⟩

/-- The slots that stay. -/
def PartS (bm bf b4 b6 : Nat) (f : Fr) : Prop := f 0 = .ptr bm 0 ∧ f 2 = .ptr bf 0 ∧ f 4 = .ptr b4 0 ∧ f 6 = .ptr b6 0

/-- Where the part that is made stands. -/
structure OutJ (B : Heap) (b8 : Nat) (k X n : Int) (s : List UInt8) (vT : AV) (as_ : List Atom) (ls : List Core) (A : Heap) : Prop where
  nb : B b8 = none
  h : ∃ vA vL, A b8 = some (.cells [.int .i64 k, .int .i64 X, .int .i64 n, .str s, vA, vT, vL]) ∧ OutL 3 B A vA (as_.map Atom.enc) ∧ OutL 7 B A vL (ls.map Core.enc)

theorem out_mine {k X n : Int} {s : List UInt8} {vA vT vL : AV} : Mine [.int .i64 k, .int .i64 X, .int .i64 n, .str s, vA, vT, vL] := .inl ⟨s, .inr rfl⟩

theorem OutJ.fresh {B : Heap} {b8 : Nat} {k X n : Int} {s : List UInt8} {vT : AV} {as_ : List Atom} {ls : List Core} {A : Heap} (h : OutJ B b8 k X n s vT as_ ls A) {c : Nat} {x : Blk} (hc : A c = none) : OutJ B b8 k X n s vT as_ ls (A.set c x) := by
  obtain ⟨nb, vA, vL, h1, h2, h3⟩ := h
  exact ⟨nb, vA, vL, Heap.keep h1 hc, h2.fresh hc, h3.fresh hc⟩
/-- It stays where all that is mine stays. -/
theorem OutJ.keep {B : Heap} {b8 : Nat} {k X n : Int} {s : List UInt8} {vT : AV} {as_ : List Atom} {ls : List Core} {A A' : Heap} (h : OutJ B b8 k X n s vT as_ ls A) (hk : ∀ c cs, A c = some (.cells cs) → Mine cs → A' c = some (.cells cs)) : OutJ B b8 k X n s vT as_ ls A' := by
  obtain ⟨nb, vA, vL, h1, h2, h3⟩ := h
  refine ⟨nb, vA, vL, hk _ _ h1 out_mine, ?_, ?_⟩
  · rcases h2 with h | ⟨b, h, hb, h0, hne⟩
    · exact .inl h
    · exact .inr ⟨b, h, hk _ _ hb (atoms_mine hne), h0, hne⟩
  · rcases h3 with h | ⟨b, h, hb, h0, hne⟩
    · exact .inl h
    · exact .inr ⟨b, h, hk _ _ hb (cores_mine hne), h0, hne⟩

/-- An atom is put behind. -/
theorem OutJ.pushA {B : Heap} {bm bf mt b8 : Nat} {k X n : Int} {s : List UInt8} {vT : AV} {as_ : List Atom} {ls : List Core} {st : MS} {A : Heap} (hJ : PartJ B bm bf mt st A) {vA vL x : AV} {a : Atom} (nb : B b8 = none)
    (h8 : A b8 = some (.cells [.int .i64 k, .int .i64 X, .int .i64 n, .str s, vA, vT, vL])) (hA : OutL 3 B A vA (as_.map Atom.enc)) (hL : OutL 7 B A vL (ls.map Core.enc)) (hx : srcAV A false 3 x = some ([a.enc].length, [a.enc].flatMap AV.cells)) (hlen : as_.length + 1 ≤ big) {K : AV → Heap → Prop}
    (hK : ∀ v' A', A' b8 = some (.cells [.int .i64 k, .int .i64 X, .int .i64 n, .str s, vA, vT, vL]) → v'.cells = [v'] → v'.one = true → PartJ B bm bf mt st (A'.set b8 (.cells [.int .i64 k, .int .i64 X, .int .i64 n, .str s, v', vT, vL])) →
      OutJ B b8 k X n s vT (as_ ++ [a]) ls (A'.set b8 (.cells [.int .i64 k, .int .i64 X, .int .i64 n, .str s, v', vT, vL])) → K v' A') : appendN A K false 3 32 vA x := by
  refine append_vals hA hJ.mj.le hx (atoms_cells as_) (by simpa using hlen) (by omega) fun v' A' ho hle hfr => ?_
  have he : as_.map Atom.enc ++ [a.enc] = (as_ ++ [a]).map Atom.enc := by simp
  rw [he] at ho
  have hkp := grown_keep hA atoms_mine hfr
  have hn8 : ∀ e o n k, vA ≠ .slice e b8 o n k := by
    intro e o n' k' hv
    rcases hA with ⟨h, _⟩ | ⟨b, h, hb, _, hne⟩
    · rw [h] at hv; cases hv
    · rw [h] at hv
      cases hv
      rw [h8] at hb
      cases as_ with
      | nil => exact hne rfl
      | cons a as_ => injection hb with hb; injection hb with hb; simp [Atom.enc, AV.cells] at hb
  have h8' := hfr b8 _ h8 hn8
  have hJ' := (hJ.move hle hkp).other (y := .cells [.int .i64 k, .int .i64 X, .int .i64 n, .str s, v', vT, vL]) h8' out_mine nb
  refine hK v' A' h8' ho.one.2 ho.one.1 hJ' ⟨nb, v', vL, Heap.set_same _ _ _, ho.other fun e b' o n' k' hv he => ?_, ?_⟩
  · subst he
    rcases ho with ⟨h, _⟩ | ⟨b, h, hb, _, hne⟩
    · rw [h] at hv; cases hv
    · rw [h] at hv
      cases hv
      rw [h8'] at hb
      injection hb with hb; injection hb with hb
      cases hq : as_ ++ [a] with
      | nil => simp at hq
      | cons z zs => rw [hq] at hb; simp [Atom.enc, AV.cells] at hb
  · rcases hL with h | ⟨b, h, hb, h0, hne⟩
    · exact .inl h
    · have hb8 : b ≠ b8 := fun e => by
        subst e
        rw [h8] at hb
        injection hb with hb; injection hb with hb
        cases ls with
        | nil => exact hne rfl
        | cons c l =>
          obtain ⟨k, x, n, s, na, a', nt, t, nl, l'⟩ := c
          have := congrArg (fun cs => cs[6]?) hb
          simp [Core.enc, AV.cells] at this
          rcases h with rfl
          unfold encSl at this
          split at this <;> cases this
      refine .inr ⟨b, h, ?_, h0, hne⟩
      rw [Heap.set_other _ _ hb8]
      refine hfr b _ hb fun e o n' k' hv => ?_
      rcases hA with ⟨h', _⟩ | ⟨b', h', hb', _, hne'⟩
      · rw [h'] at hv; cases hv
      · rw [h'] at hv
        cases hv
        rw [hb] at hb'
        injection hb' with hb'; injection hb' with hb'
        cases ls with
        | nil => exact hne rfl
        | cons c l =>
          cases as_ with
          | nil => exact hne' rfl
          | cons a as_ =>
            obtain ⟨k, x, n, s, na, a', nt, t, nl, l'⟩ := c
            simp [Core.enc, Atom.enc, AV.cells] at hb'

/-- A part is put behind. -/
theorem OutJ.pushL {B : Heap} {bm bf mt b8 : Nat} {k X n : Int} {s : List UInt8} {vT : AV} {as_ : List Atom} {ls : List Core} {st : MS} {A : Heap} (hJ : PartJ B bm bf mt st A) {vA vL x : AV} {c : Core} (nb : B b8 = none)
    (h8 : A b8 = some (.cells [.int .i64 k, .int .i64 X, .int .i64 n, .str s, vA, vT, vL])) (hA : OutL 3 B A vA (as_.map Atom.enc)) (hL : OutL 7 B A vL (ls.map Core.enc)) (hx : srcAV A false 7 x = some ([c.enc].length, [c.enc].flatMap AV.cells)) (hlen : ls.length + 1 ≤ big) {K : AV → Heap → Prop}
    (hK : ∀ v' A', A' b8 = some (.cells [.int .i64 k, .int .i64 X, .int .i64 n, .str s, vA, vT, vL]) → v'.cells = [v'] → v'.one = true → PartJ B bm bf mt st (A'.set b8 (.cells [.int .i64 k, .int .i64 X, .int .i64 n, .str s, vA, vT, v'])) →
      OutJ B b8 k X n s vT as_ (ls ++ [c]) (A'.set b8 (.cells [.int .i64 k, .int .i64 X, .int .i64 n, .str s, vA, vT, v'])) → K v' A') : appendN A K false 7 112 vL x := by
  refine append_vals2 hL hJ.mj.le hx (cores_cells ls) (by simpa using hlen) (by omega) fun v' A' ho hle hfr hnew => ?_
  have he : ls.map Core.enc ++ [c.enc] = (ls ++ [c]).map Core.enc := by simp
  rw [he] at ho
  have hkp := grown_keep hL cores_mine hfr
  -- a list of parts is not the part that is made
  have hne8 : ∀ (l : List Core) (v : AV), (∃ e b o n k, v = .slice e b o n k) ∨ v = .nilslice → l.map Core.enc ≠ [] → some (Blk.cells [.int .i64 k, .int .i64 X, .int .i64 n, .str s, vA, vT, v]) = some (Blk.cells ((l.map Core.enc).flatMap AV.cells)) → v = .nilslice := by
    intro l v hv hne hb
    injection hb with hb
    injection hb with hb
    cases l with
    | nil => exact absurd rfl hne
    | cons c l =>
      obtain ⟨k, x, n, s, na, a', nt, t, nl, l'⟩ := c
      have := congrArg (fun cs => cs[6]?) hb
      simp [Core.enc, AV.cells] at this
      rcases hv with ⟨e, b, o, n, k, rfl⟩ | h
      · unfold encSl at this
        split at this <;> cases this
      · exact h
  have hsv : ∀ {es : List AV} {C : Heap} {v : AV}, OutL 7 B C v es → (∃ e b o n k, v = .slice e b o n k) ∨ v = .nilslice := by
    intro es C v h
    rcases h with ⟨rfl, _⟩ | ⟨b, rfl, _⟩
    · exact .inr rfl
    · exact .inl ⟨_, _, _, _, _, rfl⟩
  have hn8 : ∀ e o n k, vL ≠ .slice e b8 o n k := by
    intro e o n' k' hv
    have hv' := hsv hL
    rcases hL with ⟨h, _⟩ | ⟨b, h, hb, _, hne⟩
    · rw [h] at hv; cases hv
    · rw [h] at hv
      cases hv
      rw [h8] at hb
      have := hne8 ls _ hv' hne hb
      rw [h] at this
      cases this
  have h8' := hfr b8 _ h8 hn8
  have hJ' := (hJ.move hle hkp).other (y := .cells [.int .i64 k, .int .i64 X, .int .i64 n, .str s, vA, vT, v']) h8' out_mine nb
  refine hK v' A' h8' ho.one.2 ho.one.1 hJ' ⟨nb, vA, v', Heap.set_same _ _ _, ?_, ho.other fun e b' o n' k' hv he => ?_⟩
  · rcases hA with h | ⟨b, h, hb, h0, hne⟩
    · exact .inl h
    · have hb8 : b ≠ b8 := fun e => by
        subst e
        rw [h8] at hb
        injection hb with hb; injection hb with hb
        cases as_ with
        | nil => exact hne rfl
        | cons a as_ => simp [Atom.enc, AV.cells] at hb
      refine .inr ⟨b, h, ?_, h0, hne⟩
      rw [Heap.set_other _ _ hb8]
      refine hfr b _ hb fun e o n' k' hv => ?_
      rcases hL with ⟨h', _⟩ | ⟨b', h', hb', _, hne'⟩
      · rw [h'] at hv; cases hv
      · rw [h'] at hv
        cases hv
        rw [hb] at hb'
        injection hb' with hb'; injection hb' with hb'
        cases ls with
        | nil => exact hne' rfl
        | cons c l =>
          cases as_ with
          | nil => exact hne rfl
          | cons a as_ =>
            obtain ⟨k, x, n, s, na, a', nt, t, nl, l'⟩ := c
            simp [Core.enc, Atom.enc, AV.cells] at hb'
  · subst he
    rcases hnew _ _ _ _ _ hv with h | h
    · exact hn8 _ _ _ _ (h.symm.trans hv)
    · rw [h8] at h; cases h

end Go.NL

/- flatten: maker.part, but for groups: the walk. -/
set_option linter.unusedVariables false
set_option linter.unusedSimpArgs false
set_option maxRecDepth 10000
namespace Go.NL
open Go.Proofs

theorem encSl_cells (nl : Bool) (e : Nat) (es : List AV) : (encSl nl e es).cells = [encSl nl e es] := by
  unfold encSl
  split <;> rfl

theorem part_ret {B : Heap} {bm bf mt : Nat} {st : MS} {A : Heap} (hJ : PartJ B bm bf mt st A) {k x n : Int} {s : List UInt8} {vA vL : AV} {as_ : List Atom} {nt : Bool} {t : List Int} {ls : List Core} (hA : OutL 3 B A vA (as_.map Atom.enc)) (hL : OutL 7 B A vL (ls.map Core.enc)) :
    ∃ A', Wk A (.agg [.int .i64 k, .int .i64 x, .int .i64 n, .str s, vA, encSl nt 1 (t.map encInt), vL]) A' (Core.mk k x n s true as_ nt t true ls).enc ∧ PartJ B bm bf mt st A' := by
  -- all but the two lists' blocks
  have key : ∀ c y, A c = some y → (∀ e o n k, vA ≠ .slice e c o n k) → (∀ e o n k, vL ≠ .slice e c o n k) → butOut (butOut A vA) vL c = some y := by
    intro c y hc h1 h2
    unfold butOut
    split
    · rename_i e b o n k
      rw [if_neg (fun he => h2 e o n k (by rw [he]))]
      split
      · rename_i e' b' o' n' k'
        rw [if_neg (fun he => h1 e' o' n' k' (by rw [he]))]
        exact hc
      · exact hc
    · split
      · rename_i e' b' o' n' k'
        rw [if_neg (fun he => h1 e' o' n' k' (by rw [he]))]
        exact hc
      · exact hc
  have hsub : (butOut (butOut A vA) vL).le A := ⟨fun c y hc => by
    unfold butOut at hc
    split at hc
    · split at hc
      · cases hc
      · split at hc
        · split at hc
          · cases hc
          · exact hc
        · exact hc
    · split at hc
      · split at hc
        · cases hc
        · exact hc
      · exact hc⟩
  have hA' : OutL 3 (butOut (butOut A vA) vL) A vA (as_.map Atom.enc) := by
    rcases hA with h | ⟨b, h, hb, h0, hne⟩
    · exact .inl h
    · refine .inr ⟨b, h, hb, ?_, hne⟩
      subst h
      unfold butOut
      split
      · split <;> simp
      · simp
  have hL' : OutL 7 (butOut (butOut A vA) vL) A vL (ls.map Core.enc) := by
    rcases hL with h | ⟨b, h, hb, h0, hne⟩
    · exact .inl h
    · refine .inr ⟨b, h, hb, ?_, hne⟩
      subst h
      simp [butOut]
  have nA : ∀ c y, A c = some y → (B c = some y ∨ ∀ cs, y = .cells cs → ¬ Mine cs) → (∀ e o n k, vA ≠ .slice e c o n k) ∧ (∀ e o n k, vL ≠ .slice e c o n k) := by
    intro c y hc hy
    refine ⟨fun e o n k hv => ?_, fun e o n k hv => ?_⟩
    · rcases hA with ⟨h, _⟩ | ⟨b, h, hb, h0, hne⟩
      · rw [h] at hv; cases hv
      · rw [h] at hv
        cases hv
        rcases hy with hy | hy
        · rw [h0] at hy; cases hy
        · rw [hb] at hc; cases hc
          exact hy _ rfl (atoms_mine hne)
    · rcases hL with ⟨h, _⟩ | ⟨b, h, hb, h0, hne⟩
      · rw [h] at hv; cases hv
      · rw [h] at hv
        cases hv
        rcases hy with hy | hy
        · rw [h0] at hy; cases hy
        · rw [hb] at hc; cases hc
          exact hy _ rfl (cores_mine hne)
  refine ⟨butOut (butOut A vA) vL, wk_core hA' hL' hsub, hJ.move ⟨fun c y hc => ?_⟩ fun c y hc hy => ?_⟩
  · obtain ⟨q1, q2⟩ := nA c y (hJ.mj.le.get c y hc) (.inl hc)
    exact key c y (hJ.mj.le.get c y hc) q1 q2
  · obtain ⟨q1, q2⟩ := nA c y hc (.inr hy)
    exact key c y hc q1 q2

theorem ret_now {rs : List NRes} {K : AV → Heap → Prop} {f : Fr} {A : Heap} {v : AV} (h : resAV f A rs = some v) (hk : K v A) : retP rs K .ret f A := ⟨v, h, A, v, .refl _ _, hk⟩

theorem out_ne {B : Heap} {b8 : Nat} {k X n : Int} {s : List UInt8} {vT : AV} {as_ : List Atom} {ls : List Core} {A : Heap} {vA vL : AV} (h8 : A b8 = some (.cells [.int .i64 k, .int .i64 X, .int .i64 n, .str s, vA, vT, vL])) (hA : OutL 3 B A vA (as_.map Atom.enc)) (hL : OutL 7 B A vL (ls.map Core.enc)) :
    (∀ e b o n k, vA = .slice e b o n k → b ≠ b8) ∧ (∀ e b o n k, vL = .slice e b o n k → b ≠ b8) := by
  refine ⟨fun e b o n' k' hv he => ?_, fun e b o n' k' hv he => ?_⟩
  · subst he
    rcases hA with ⟨h, _⟩ | ⟨b, h, hb, _, hne⟩
    · rw [h] at hv; cases hv
    · rw [h] at hv
      cases hv
      rw [h8] at hb
      cases as_ with
      | nil => exact hne rfl
      | cons a as_ => injection hb with hb; injection hb with hb; simp [Atom.enc, AV.cells] at hb
  · subst he
    rcases hL with ⟨h, _⟩ | ⟨b, h, hb, _, hne⟩
    · rw [h] at hv; cases hv
    · rw [h] at hv
      cases hv
      rw [h8] at hb
      injection hb with hb
      injection hb with hb
      cases ls with
      | nil => exact hne rfl
      | cons c l =>
        obtain ⟨k, x, n, s, na, a', nt, t, nl, l'⟩ := c
        have := congrArg (fun cs => cs[6]?) hb
        simp [Core.enc, AV.cells] at this
        rw [h] at this
        unfold encSl at this
        split at this <;> cases this

/-- Another X. -/
theorem OutJ.setX {B : Heap} {bm bf mt b8 : Nat} {k X n : Int} {s : List UInt8} {vT : AV} {as_ : List Atom} {ls : List Core} {st : MS} {A : Heap} (hJ : PartJ B bm bf mt st A) {vA vL : AV} (nb : B b8 = none)
    (h8 : A b8 = some (.cells [.int .i64 k, .int .i64 X, .int .i64 n, .str s, vA, vT, vL])) (hA : OutL 3 B A vA (as_.map Atom.enc)) (hL : OutL 7 B A vL (ls.map Core.enc)) (X' : Int) :
    PartJ B bm bf mt st (A.set b8 (.cells [.int .i64 k, .int .i64 X', .int .i64 n, .str s, vA, vT, vL])) ∧ OutJ B b8 k X' n s vT as_ ls (A.set b8 (.cells [.int .i64 k, .int .i64 X', .int .i64 n, .str s, vA, vT, vL])) := by
  obtain ⟨n1, n2⟩ := out_ne h8 hA hL
  exact ⟨hJ.other h8 out_mine nb, nb, vA, vL, Heap.set_same _ _ _, hA.other n1, hL.other n2⟩

/-- What is mine stays where a frame takes a variable. -/
theorem new_keep {bf mt : Nat} {to : List (Int × Int)} {next : Int} {A : Heap} (h : FrameAt bf mt to next A) {y z : Blk} : ∀ c cs, A c = some (.cells cs) → Mine cs → ((A.set mt y).set bf z) c = some (.cells cs) := by
  intro c cs hc hm
  have h1 : c ≠ bf := fun e => by subst e; rw [h.f] at hc; cases hc; exact mine_two hm
  have h2 : c ≠ mt := fun e => by subst e; rw [h.m] at hc; cases hc
  rw [Heap.set_other _ _ h1, Heap.set_other _ _ h2]
  exact hc

set_option maxHeartbeats 2000000 in
theorem part_run (N : Nat) (c : Core) (hok : c.Ok) (hin : ∀ x ∈ c.l, PartOk N x ∧ Grows (partW N) x) (hgrp : c.kind = 8 → GroupOk N c) : PartOk (N + 1) c := by
  intro A0 A bm bf mt s K hJ hlen hK
  have hbig : big = 1099511627776 := rfl
  have hub := Unbound_spec c hok.gd hok.vr hok.at_
  have hfn := hok.fn
  have hhm := @head_mem c
  have hfree := Core.unb_ok c 0 [] [] (.nil _) hok.vr
  have hfl : c.free.length ≤ big := by
    have h1 := hfree.ln
    have h2 := hok.at_
    simp only [Core.free, List.length_mergeSort, List.length_map]
    omega
  have hfun := fun (hne : c.l ≠ []) => @fun_run N c hne (hin _ (hhm hne)).1 (hin _ (hhm hne)).2
  have hsz := c.enc_cells
  obtain ⟨k, x, n, str, na, a, nt, t, nl, l⟩ := c
  have hgd := hok.gd
  simp only [Core.good, Bool.and_eq_true] at hgd
  obtain ⟨⟨⟨⟨_, ga⟩, gt⟩, gl⟩, _⟩ := hgd
  replace ga := of_decide_eq_true ga
  replace gt := of_decide_eq_true gt
  replace gl := of_decide_eq_true gl
  have hsl : Core.sizes l < (Core.mk k x n str na a nt t nl l).size := by simp only [Core.size]; omega
  simp only [Core.kind, Core.l] at hfn hin hgrp hfun
  rw [partW] at hK
  generalize hfr : (Core.mk k x n str na a nt t nl l).free = fr at hub hfl hK
  refine NCalls.of_body c_flatten_maker_part (Nat.le_of_ble_eq_true rfl) ?_
  have hCm := (Core.mk k x n str na a nt t nl l).mine
  have hCe : (Core.mk k x n str na a nt t nl l).enc.cells = [.int .i64 k, .int .i64 x, .int .i64 n, .str str, encSl na 3 (a.map Atom.enc), encSl nt 1 (t.map encInt), encSl nl 7 (l.map Core.enc)] := by simp only [Core.enc, encsL, AV.cells]
  have hCt := (Core.mk k x n str na a nt t nl l).take_enc
  have hC1 := (Core.mk k x n str na a nt t nl l).one_enc
  rw [hCe] at hCm hCt hC1
  generalize hc0 : (Core.mk k x n str na a nt t nl l) = c0 at *
  simp only [n_flatten_maker_part]
  refine nwp_then (fun f A => ∃ B b4 b6, A0.le B ∧ PartJ B bm bf mt s A ∧ PartS bm bf b4 b6 f ∧ B b4 = some (.cells c0.enc.cells) ∧ B b6 = some (.cells zero7) ∧ A0 b6 = none) ?_ ?_
  · simp only [n_flatten_maker_part_r0, go_sem, Nat.reduceEqDiff, Nat.reduceAdd, Nat.reduceSub, Nat.reduceLeDiff, Nat.reduceLT, Nat.reduceMul, Int.reduceEq, Int.reduceLT, Int.reduceLE, Int.reduceNeg, Int.reduceToNat, Int.reduceAdd, Int.reduceSub, Int.cast_ofNat_Int, Int.cast_ofNat_Int, reduceCtorEq, ↓reduceIte, Bool.false_eq_true, decide_true, decide_false, eq_self, Bool.not_true, Bool.not_false]
    rintro b4 hb4 b6 ⟨hne, _, hb6⟩
    have hb6' : (A.set b4 (.cells c0.enc.cells)) b6 = none := by rw [Heap.set_other _ _ hne]; exact hb6
    obtain ⟨B, hB, hle, hk⟩ := ((hJ.fresh (x := .cells c0.enc.cells) hb4).fresh (x := .cells zero7) hb6').rebase
    exact Here.mk ⟨B, b4, b6, hle, hB, ⟨rfl, rfl, rfl, rfl⟩, hk _ _ (Heap.keep (Heap.set_same _ _ _) hb6') (by rw [hCe]; exact hCm), hk _ _ (Heap.set_same _ _ _) zero7_mine, hJ.mj.le.none hb6⟩
  clear hJ
  rintro f A ⟨B, b4, b6, hAB, hJ, hS, hb4, hb6, hb60⟩
  rw [hCe] at hb4
  -- functions, groups
  refine nwp_cut (fun f A => k ≠ 7 ∧ k ≠ 8 ∧ PartJ B bm bf mt s A ∧ PartS bm bf b4 b6 f) ?_ ?_
  · refine nwp_then (fun f A => PartJ B bm bf mt s A ∧ PartS bm bf b4 b6 f ∧ f 14 = .int .i64 k) ?_ ?_
    · obtain ⟨h0, h2, h4, h6⟩ := hS
      have hb4A := hJ.mj.le.get _ _ hb4
      simp only [n_flatten_maker_part_r1, h4, hb4A, go_sem, Nat.reduceEqDiff, Nat.reduceAdd, Nat.reduceSub, Nat.reduceLeDiff, Nat.reduceLT, Nat.reduceMul, Int.reduceEq, Int.reduceLT, Int.reduceLE, Int.reduceNeg, Int.reduceToNat, Int.reduceAdd, Int.reduceSub, Int.cast_ofNat_Int, Int.cast_ofNat_Int, reduceCtorEq, ↓reduceIte, Bool.false_eq_true, decide_true, decide_false, eq_self, Bool.not_true, Bool.not_false]
      exact Here.mk ⟨hJ, ⟨h0, h2, h4, h6⟩, rfl⟩
    clear hJ hS
    rintro f A ⟨hJ, hS, h14⟩
    refine nwp_block ?_
    refine nwp_then (fun f A => PartJ B bm bf mt s A ∧ PartS bm bf b4 b6 f ∧ f 14 = .int .i64 k ∧ f 15 = .bool (decide (k = 7))) ?_ ?_
    · simp only [n_flatten_maker_part_r2, h14, go_sem, Nat.reduceEqDiff, Nat.reduceAdd, Nat.reduceSub, Nat.reduceLeDiff, Nat.reduceLT, Nat.reduceMul, Int.reduceEq, Int.reduceLT, Int.reduceLE, Int.reduceNeg, Int.reduceToNat, Int.reduceAdd, Int.reduceSub, Int.cast_ofNat_Int, Int.cast_ofNat_Int, reduceCtorEq, ↓reduceIte, Bool.false_eq_true, decide_true, decide_false, eq_self, Bool.not_true, Bool.not_false]
      exact Here.mk ⟨hJ, hS, h14, rfl⟩
    clear hJ hS h14
    rintro f A ⟨hJ, hS, h14, h15⟩
    refine nwp_test _ h15 (fun hk => ?_) fun hk => ?_
    · have hk7 : k = 7 := of_decide_eq_true hk
      rw [if_pos hk7] at hK
      refine nwp_then (fun f A => PartJ B bm bf mt s A ∧ PartS bm bf b4 b6 f ∧ f 7 = encSl true 1 (fr.map encInt)) ?_ ?_
      · obtain ⟨h0, h2, h4, h6⟩ := hS
        have hb4A := hJ.mj.le.get _ _ hb4
        simp only [n_flatten_maker_part_r3, h4, hb4A, hCt, go_sem, Nat.reduceEqDiff, Nat.reduceAdd, Nat.reduceSub, Nat.reduceLeDiff, Nat.reduceLT, Nat.reduceMul, Int.reduceEq, Int.reduceLT, Int.reduceLE, Int.reduceNeg, Int.reduceToNat, Int.reduceAdd, Int.reduceSub, Int.cast_ofNat_Int, Int.cast_ofNat_Int, reduceCtorEq, ↓reduceIte, Bool.false_eq_true, decide_true, decide_false, eq_self, Bool.not_true, Bool.not_false]
        refine hub.call ?_
        try simp only [go_sem, Nat.reduceEqDiff, Nat.reduceAdd, Nat.reduceSub, Nat.reduceLeDiff, Nat.reduceLT, Nat.reduceMul, Int.reduceEq, Int.reduceLT, Int.reduceLE, Int.reduceNeg, Int.reduceToNat, Int.reduceAdd, Int.reduceSub, Int.cast_ofNat_Int, Int.cast_ofNat_Int, reduceCtorEq, ↓reduceIte, Bool.false_eq_true, decide_true, decide_false, eq_self, Bool.not_true, Bool.not_false]
        exact Here.mk ⟨hJ, ⟨h0, h2, h4, h6⟩, rfl⟩
      clear hJ hS h14 h15
      rintro f A ⟨hJ, hS, h7⟩
      refine nwp_then (fun f A => PartJ A0 bm bf mt ⟨funW (partW N) c0 fr s.funs, s.to, s.next⟩ A ∧ f 6 = .ptr b6 0 ∧ A b6 = some (.cells (Core.mk 13 0 s.funs.length [] true (fr.map (atomOf s.to)) true [] true []).enc.cells)) ?_ ?_
      · obtain ⟨h0, h2, h4, h6⟩ := hS
        have hb4A := hJ.mj.le.get _ _ hb4
        obtain ⟨B', hMJ, hBB, hkc, hkm, hkp⟩ := hJ.mj.rebase
        simp only [n_flatten_maker_part_r4, h0, h2, h4, h7, hb4A, hCt, go_sem, Nat.reduceEqDiff, Nat.reduceAdd, Nat.reduceSub, Nat.reduceLeDiff, Nat.reduceLT, Nat.reduceMul, Int.reduceEq, Int.reduceLT, Int.reduceLE, Int.reduceNeg, Int.reduceToNat, Int.reduceAdd, Int.reduceSub, Int.cast_ofNat_Int, Int.cast_ofNat_Int, reduceCtorEq, ↓reduceIte, Bool.false_eq_true, decide_true, decide_false, eq_self, Bool.not_true, Bool.not_false]
        refine hfun (hfn hk7) hMJ (IntsAt.enc _ _ _) hfl hlen fun A' hM' => ?_
        have hF' : FrameAt bf mt s.to s.next A' := ⟨hM'.le.get _ _ (hkm _ _ _ hJ.fr.f), hM'.le.get _ _ (hkp _ _ _ hJ.fr.m)⟩
        have hb6A' := hM'.le.get _ _ (hBB.get _ _ hb6)
        simp only [h2, h7, go_sem, Nat.reduceEqDiff, Nat.reduceAdd, Nat.reduceSub, Nat.reduceLeDiff, Nat.reduceLT, Nat.reduceMul, Int.reduceEq, Int.reduceLT, Int.reduceLE, Int.reduceNeg, Int.reduceToNat, Int.reduceAdd, Int.reduceSub, Int.cast_ofNat_Int, Int.cast_ofNat_Int, reduceCtorEq, ↓reduceIte, Bool.false_eq_true, decide_true, decide_false, eq_self, Bool.not_true, Bool.not_false]
        refine (frameAtoms_run hF' (IntsAt.enc _ true fr) hfl).go ?_
        rintro v A'' ⟨rfl, rfl⟩
        simp only [zero7] at hb6A'
        simp only [h6, hb6A', encSl_cells, go_sem, Nat.reduceEqDiff, Nat.reduceAdd, Nat.reduceSub, Nat.reduceLeDiff, Nat.reduceLT, Nat.reduceMul, Int.reduceEq, Int.reduceLT, Int.reduceLE, Int.reduceNeg, Int.reduceToNat, Int.reduceAdd, Int.reduceSub, Int.cast_ofNat_Int, Int.cast_ofNat_Int, reduceCtorEq, ↓reduceIte, Bool.false_eq_true, decide_true, decide_false, eq_self, Bool.not_true, Bool.not_false]
        have hPJ : PartJ A0 bm bf mt ⟨funW (partW N) c0 fr s.funs, s.to, s.next⟩ A'' := ⟨hM'.base (hAB.trans hBB), hF', hAB.none hJ.nf, hAB.none hJ.nt⟩
        exact Here.mk ⟨hPJ.other hb6A' zero7_mine hb60, h6, Heap.set_same _ _ _⟩
      clear hJ hS h7
      rintro f A ⟨hJ, h6, hb⟩
      exact ret_now (by simp only [resAV_one_c, h6, hb, load_blk, loadB_some, Core.take_enc]) (hK _ hJ)
    have hk7 : k ≠ 7 := of_decide_eq_false hk
    rw [if_neg hk7] at hK
    refine nwp_then (fun f A => PartJ B bm bf mt s A ∧ PartS bm bf b4 b6 f ∧ f 27 = .bool (decide (k = 8))) ?_ ?_
    · simp only [n_flatten_maker_part_r5, h14, go_sem, Nat.reduceEqDiff, Nat.reduceAdd, Nat.reduceSub, Nat.reduceLeDiff, Nat.reduceLT, Nat.reduceMul, Int.reduceEq, Int.reduceLT, Int.reduceLE, Int.reduceNeg, Int.reduceToNat, Int.reduceAdd, Int.reduceSub, Int.cast_ofNat_Int, Int.cast_ofNat_Int, reduceCtorEq, ↓reduceIte, Bool.false_eq_true, decide_true, decide_false, eq_self, Bool.not_true, Bool.not_false]
      exact Here.mk ⟨hJ, hS, rfl⟩
    clear hJ hS h14 h15
    rintro f A ⟨hJ, hS, h27⟩
    refine nwp_test _ h27 (fun hk => ?_) fun hk => ?_
    · have hk8 : k = 8 := of_decide_eq_true hk
      rw [if_pos hk8] at hK
      have hcl : c0.l = l := by rw [← hc0]; rfl
      refine nwp_then (fun f A => PartJ A0 bm bf mt (groupW (partW N) l s).2 A ∧ f 6 = .ptr b6 0 ∧ A b6 = some (.cells (groupW (partW N) l s).1.enc.cells)) ?_ ?_
      · obtain ⟨h0, h2, h4, h6⟩ := hS
        have hb4A := hJ.mj.le.get _ _ hb4
        obtain ⟨B', hPJ, hBB, hkc⟩ := hJ.rebase
        have hb6B' := hkc _ _ (hJ.mj.le.get _ _ hb6) zero7_mine
        simp only [n_flatten_maker_part_r6, h0, h2, h4, hb4A, hCt, go_sem, Nat.reduceEqDiff, Nat.reduceAdd, Nat.reduceSub, Nat.reduceLeDiff, Nat.reduceLT, Nat.reduceMul, Int.reduceEq, Int.reduceLT, Int.reduceLE, Int.reduceNeg, Int.reduceToNat, Int.reduceAdd, Int.reduceSub, Int.cast_ofNat_Int, Int.cast_ofNat_Int, reduceCtorEq, ↓reduceIte, Bool.false_eq_true, decide_true, decide_false, eq_self, Bool.not_true, Bool.not_false]
        refine hgrp hk8 hPJ hlen fun A' hJ' => ?_
        rw [hcl] at hJ' ⊢
        have hb6A' := hJ'.mj.le.get _ _ hb6B'
        simp only [zero7] at hb6A'
        simp only [h6, hb6A', go_sem, Nat.reduceEqDiff, Nat.reduceAdd, Nat.reduceSub, Nat.reduceLeDiff, Nat.reduceLT, Nat.reduceMul, Int.reduceEq, Int.reduceLT, Int.reduceLE, Int.reduceNeg, Int.reduceToNat, Int.reduceAdd, Int.reduceSub, Int.cast_ofNat_Int, Int.cast_ofNat_Int, reduceCtorEq, ↓reduceIte, Bool.false_eq_true, decide_true, decide_false, eq_self, Bool.not_true, Bool.not_false]
        have hJ2 := (hJ'.base (hAB.trans hBB)).other (y := .cells (groupW (partW N) l s).1.enc.cells) hb6A' zero7_mine hb60
        refine Here.mk ⟨?_, h6, ?_⟩
        · simpa [over, Core.enc_cells] using hJ2
        · simp [Core.enc_cells]
      clear hJ hS h27
      rintro f A ⟨hJ, h6, hb⟩
      exact ret_now (by simp only [resAV_one_c, h6, hb, load_blk, loadB_some, Core.take_enc]) (hK _ hJ)
    · exact ⟨hk7, of_decide_eq_false hk, hJ, hS⟩
  clear hJ hS hub hfun hgrp hfn
  rintro f A ⟨hk7, hk8, hJ, hS⟩
  rw [if_neg hk7, if_neg hk8] at hK
  have hcl := Clone_spec nt t gt
  generalize hvT : encSl nt 1 (t.map encInt) = vT at hcl hb4 hCt hCm hC1
  have hvT1 : vT.one = true ∧ vT.cells = [vT] := by rw [← hvT]; exact ⟨oneSl _ _ _, encSl_cells _ _ _⟩
  refine nwp_then2 (fun f A => ∃ b8, PartJ B bm bf mt s A ∧ PartS bm bf b4 b6 f ∧ f 8 = .ptr b8 0 ∧ OutJ B b8 k 0 n str vT [] [] A) ?_ ?_ ?_
  · obtain ⟨h0, h2, h4, h6⟩ := hS
    have hb4A := hJ.mj.le.get _ _ hb4
    simp only [n_flatten_maker_part_r7, h4, hb4A, go_sem, Nat.reduceEqDiff, Nat.reduceAdd, Nat.reduceSub, Nat.reduceLeDiff, Nat.reduceLT, Nat.reduceMul, Int.reduceEq, Int.reduceLT, Int.reduceLE, Int.reduceNeg, Int.reduceToNat, Int.reduceAdd, Int.reduceSub, Int.cast_ofNat_Int, Int.cast_ofNat_Int, reduceCtorEq, ↓reduceIte, Bool.false_eq_true, decide_true, decide_false, eq_self, Bool.not_true, Bool.not_false]
    refine hcl.call ?_
    simp only [h4, hb4A, hvT1, go_sem, Nat.reduceEqDiff, Nat.reduceAdd, Nat.reduceSub, Nat.reduceLeDiff, Nat.reduceLT, Nat.reduceMul, Int.reduceEq, Int.reduceLT, Int.reduceLE, Int.reduceNeg, Int.reduceToNat, Int.reduceAdd, Int.reduceSub, Int.cast_ofNat_Int, Int.cast_ofNat_Int, reduceCtorEq, ↓reduceIte, Bool.false_eq_true, decide_true, decide_false, eq_self, Bool.not_true, Bool.not_false]
    intro b8 hb8
    have hne := (Heap.ne_of hb4A hb8).symm
    simp only [hne, hvT1, go_sem, Nat.reduceEqDiff, Nat.reduceAdd, Nat.reduceSub, Nat.reduceLeDiff, Nat.reduceLT, Nat.reduceMul, Int.reduceEq, Int.reduceLT, Int.reduceLE, Int.reduceNeg, Int.reduceToNat, Int.reduceAdd, Int.reduceSub, Int.cast_ofNat_Int, Int.cast_ofNat_Int, reduceCtorEq, ↓reduceIte, Bool.false_eq_true, decide_true, decide_false, eq_self, Bool.not_true, Bool.not_false]
    exact Here.mk ⟨b8, hJ.fresh hb8, ⟨h0, h2, h4, h6⟩, rfl, hJ.mj.le.none hb8, .nilslice, .nilslice, Heap.set_same _ _ _, .nil _ _ _, .nil _ _ _⟩
  · obtain ⟨h0, h2, h4, h6⟩ := hS
    have hb4A := hJ.mj.le.get _ _ hb4
    simp only [n_flatten_maker_part_r7_0, h4, hb4A, go_sem, Nat.reduceEqDiff, Nat.reduceAdd, Nat.reduceSub, Nat.reduceLeDiff, Nat.reduceLT, Nat.reduceMul, Int.reduceEq, Int.reduceLT, Int.reduceLE, Int.reduceNeg, Int.reduceToNat, Int.reduceAdd, Int.reduceSub, Int.cast_ofNat_Int, Int.cast_ofNat_Int, reduceCtorEq, ↓reduceIte, Bool.false_eq_true, decide_true, decide_false, eq_self, Bool.not_true, Bool.not_false]
    intro b8 hb8
    have hne := (Heap.ne_of hb4A hb8).symm
    simp only [hne, hb4A, go_sem, Nat.reduceEqDiff, Nat.reduceAdd, Nat.reduceSub, Nat.reduceLeDiff, Nat.reduceLT, Nat.reduceMul, Int.reduceEq, Int.reduceLT, Int.reduceLE, Int.reduceNeg, Int.reduceToNat, Int.reduceAdd, Int.reduceSub, Int.cast_ofNat_Int, Int.cast_ofNat_Int, reduceCtorEq, ↓reduceIte, Bool.false_eq_true, decide_true, decide_false, eq_self, Bool.not_true, Bool.not_false]
    refine hcl.call ?_
    simp only [hne, hb4A, hvT1, go_sem, Nat.reduceEqDiff, Nat.reduceAdd, Nat.reduceSub, Nat.reduceLeDiff, Nat.reduceLT, Nat.reduceMul, Int.reduceEq, Int.reduceLT, Int.reduceLE, Int.reduceNeg, Int.reduceToNat, Int.reduceAdd, Int.reduceSub, Int.cast_ofNat_Int, Int.cast_ofNat_Int, reduceCtorEq, ↓reduceIte, Bool.false_eq_true, decide_true, decide_false, eq_self, Bool.not_true, Bool.not_false]
    exact Here.mk ⟨b8, hJ.fresh hb8, ⟨h0, h2, h4, h6⟩, rfl, hJ.mj.le.none hb8, .nilslice, .nilslice, Heap.set_same _ _ _, .nil _ _ _, .nil _ _ _⟩
  clear hJ hS hcl
  rintro f A ⟨b8, hJ, hS, h8, hO⟩
  -- the atoms
  refine nwp_cut (fun f A => PartJ B bm bf mt s A ∧ PartS bm bf b4 b6 f ∧ f 8 = .ptr b8 0 ∧ OutJ B b8 k 0 n str vT (a.map (convA s.to)) [] A) ?_ ?_
  · refine nwp_then (fun f A => PartJ B bm bf mt s A ∧ PartS bm bf b4 b6 f ∧ f 8 = .ptr b8 0 ∧ OutJ B b8 k 0 n str vT [] [] A ∧ f 44 = encSl na 3 (a.map Atom.enc) ∧ f 45 = .int .i64 a.length ∧ f 46 = .int .i64 0) ?_ ?_
    · obtain ⟨h0, h2, h4, h6⟩ := hS
      have hb4A := hJ.mj.le.get _ _ hb4
      simp only [n_flatten_maker_part_r8, h4, hb4A, lenAV_encSl, List.length_map, go_sem, Nat.reduceEqDiff, Nat.reduceAdd, Nat.reduceSub, Nat.reduceLeDiff, Nat.reduceLT, Nat.reduceMul, Int.reduceEq, Int.reduceLT, Int.reduceLE, Int.reduceNeg, Int.reduceToNat, Int.reduceAdd, Int.reduceSub, Int.cast_ofNat_Int, Int.cast_ofNat_Int, reduceCtorEq, ↓reduceIte, Bool.false_eq_true, decide_true, decide_false, eq_self, Bool.not_true, Bool.not_false]
      exact Here.mk ⟨hJ, ⟨h0, h2, h4, h6⟩, h8, hO, rfl, rfl, rfl⟩
    clear hJ hS h8 hO
    rintro f A ⟨hJ, hS, h8, hO, h44, h45, h46⟩
    refine nwp_for (ti := 46) (tn := 45) (tt := 47) (tw := 67) (id := 1) (id2 := 2) a.length (by omega) (fun i f A => PartJ B bm bf mt s A ∧ PartS bm bf b4 b6 f ∧ f 8 = .ptr b8 0 ∧ OutJ B b8 k 0 n str vT ((a.map (convA s.to)).take i) [] A ∧ f 44 = encSl na 3 (a.map Atom.enc)) (by decide) ?_ h46 h45 ⟨hJ, hS, h8, hO, h44⟩ ?_ ?_
    · rintro i f A d v hd ⟨q1, q2, q3, q4, q5⟩
      rcases hd with rfl | rfl | rfl
      all_goals exact ⟨q1, q2, q3, q4, q5⟩
    · rintro i f A hi ⟨hJ, hS, h8, hO, h44⟩ h46 h45
      have hix := indexAddr_encSl na 3 (a.map Atom.enc) i a[i].enc (by rw [List.getElem?_map, List.getElem?_eq_getElem hi]; rfl)
      rw [take_succ_map _ _ _ hi]
      have htl : ((a.map (convA s.to)).take i).length ≤ i := by simp; omega
      generalize (a.map (convA s.to)).take i = pre at hO htl ⊢
      generalize a[i] = y at hix ⊢
      obtain ⟨yk, yn, ys⟩ := y
      simp only [Atom.enc, AV.cells] at hix
      refine nwp_then (fun f A => ∃ b10 A1, A = A1.set b10 (.cells [.int .i64 yk, .int .i64 yn, .str ys]) ∧ A1 b10 = none ∧ PartJ B bm bf mt s A1 ∧ PartS bm bf b4 b6 f ∧ f 8 = .ptr b8 0 ∧ OutJ B b8 k 0 n str vT pre [] A1 ∧ f 44 = encSl na 3 (a.map Atom.enc) ∧ f 45 = .int .i64 a.length ∧ f 46 = .int .i64 i ∧ f 10 = .ptr b10 0) ?_ ?_
      · simp only [n_flatten_maker_part_r10, h44, h46, hix, go_sem, Nat.reduceEqDiff, Nat.reduceAdd, Nat.reduceSub, Nat.reduceLeDiff, Nat.reduceLT, Nat.reduceMul, Int.reduceEq, Int.reduceLT, Int.reduceLE, Int.reduceNeg, Int.reduceToNat, Int.reduceAdd, Int.reduceSub, Int.cast_ofNat_Int, Int.cast_ofNat_Int, reduceCtorEq, ↓reduceIte, Bool.false_eq_true, decide_true, decide_false, eq_self, Bool.not_true, Bool.not_false]
        intro b10 hb10
        exact Here.mk ⟨b10, A, rfl, hb10, hJ, hS, h8, hO, h44, h45, h46, rfl⟩
      clear hJ hS h8 hO h44 h45 h46
      rintro f A ⟨b10, A1, rfl, hb10, hJ, hS, h8, hO, h44, h45, h46, h10⟩
      refine nwp_cut (fun f A => A = A1.set b10 (.cells (convA s.to ⟨yk, yn, ys⟩).enc.cells) ∧ PartS bm bf b4 b6 f ∧ f 8 = .ptr b8 0 ∧ f 44 = encSl na 3 (a.map Atom.enc) ∧ f 45 = .int .i64 a.length ∧ f 46 = .int .i64 i ∧ f 10 = .ptr b10 0) ?_ ?_
      · refine nwp_then (fun f A => A = A1.set b10 (.cells [.int .i64 yk, .int .i64 yn, .str ys]) ∧ PartS bm bf b4 b6 f ∧ f 8 = .ptr b8 0 ∧ f 44 = encSl na 3 (a.map Atom.enc) ∧ f 45 = .int .i64 a.length ∧ f 46 = .int .i64 i ∧ f 10 = .ptr b10 0 ∧ f 52 = .bool (decide (yk = 1))) ?_ ?_
        · simp only [n_flatten_maker_part_r11, h10, Heap.set_same, go_sem, Nat.reduceEqDiff, Nat.reduceAdd, Nat.reduceSub, Nat.reduceLeDiff, Nat.reduceLT, Nat.reduceMul, Int.reduceEq, Int.reduceLT, Int.reduceLE, Int.reduceNeg, Int.reduceToNat, Int.reduceAdd, Int.reduceSub, Int.cast_ofNat_Int, Int.cast_ofNat_Int, reduceCtorEq, ↓reduceIte, Bool.false_eq_true, decide_true, decide_false, eq_self, Bool.not_true, Bool.not_false]
          exact Here.mk ⟨rfl, hS, h8, h44, h45, h46, h10, rfl⟩
        clear hS h8 h44 h45 h46 h10
        rintro f A ⟨rfl, hS, h8, h44, h45, h46, h10, h52⟩
        refine nwp_test _ h52 (fun hc => ?_) fun hc => ?_
        · have hy : yk = 1 := of_decide_eq_true hc
          refine nwp_last (fun f A => A = A1.set b10 (.cells (convA s.to ⟨yk, yn, ys⟩).enc.cells) ∧ PartS bm bf b4 b6 f ∧ f 8 = .ptr b8 0 ∧ f 44 = encSl na 3 (a.map Atom.enc) ∧ f 45 = .int .i64 a.length ∧ f 46 = .int .i64 i ∧ f 10 = .ptr b10 0) ?_ fun f A h => h
          have he : convA s.to ⟨yk, yn, ys⟩ = ⟨yk, (mget s.to yn).getD 0, ys⟩ := if_pos hy
          rw [he]
          obtain ⟨h0, h2, h4, h6⟩ := hS
          have hfA := Heap.keep (x := .cells [.int .i64 yk, .int .i64 yn, .str ys]) hJ.fr.f hb10
          have hmA := Heap.keep (x := .cells [.int .i64 yk, .int .i64 yn, .str ys]) hJ.fr.m hb10
          have hsA := Heap.set_same A1 b10 (.cells [.int .i64 yk, .int .i64 yn, .str ys])
          simp only [n_flatten_maker_part_r12, h2, h10]
          generalize hA2 : A1.set b10 (.cells [.int .i64 yk, .int .i64 yn, .str ys]) = A2 at hfA hmA hsA
          simp only [h2, h10, hfA, hmA, hsA, go_sem, Nat.reduceEqDiff, Nat.reduceAdd, Nat.reduceSub, Nat.reduceLeDiff, Nat.reduceLT, Nat.reduceMul, Int.reduceEq, Int.reduceLT, Int.reduceLE, Int.reduceNeg, Int.reduceToNat, Int.reduceAdd, Int.reduceSub, Int.cast_ofNat_Int, Int.cast_ofNat_Int, reduceCtorEq, ↓reduceIte, Bool.false_eq_true, decide_true, decide_false, eq_self, Bool.not_true, Bool.not_false]
          exact Here.mk ⟨by rw [← hA2, Heap.set_set]; rfl, ⟨h0, h2, h4, h6⟩, h8, h44, h45, h46, h10⟩
        · have hy : yk ≠ 1 := of_decide_eq_false hc
          have he : convA s.to ⟨yk, yn, ys⟩ = ⟨yk, yn, ys⟩ := if_neg hy
          rw [he]
          exact ⟨rfl, hS, h8, h44, h45, h46, h10⟩
      clear hS h8 h44 h45 h46 h10
      rintro f A ⟨rfl, hS, h8, h44, h45, h46, h10⟩
      generalize convA s.to ⟨yk, yn, ys⟩ = y
      refine nwp_last (fun f A => PartJ B bm bf mt s A ∧ PartS bm bf b4 b6 f ∧ f 8 = .ptr b8 0 ∧ OutJ B b8 k 0 n str vT (pre ++ [y]) [] A ∧ f 44 = encSl na 3 (a.map Atom.enc) ∧ f 45 = .int .i64 a.length ∧ f 46 = .int .i64 i) ?_ fun f A ⟨q1, q2, q3, q4, q5, q6, q7⟩ => ⟨⟨q1, q2, q3, q4, q5⟩, q7, q6⟩
      have hJ1 := hJ.fresh (x := .cells y.enc.cells) hb10
      obtain ⟨nb, vA, vL, q8, qA, qL⟩ := hO.fresh (x := .cells y.enc.cells) hb10
      have hsA := Heap.set_same A1 b10 (.cells y.enc.cells)
      generalize A1.set b10 (.cells y.enc.cells) = A2 at hJ1 q8 qA qL hsA
      obtain ⟨yk, yn, ys⟩ := y
      simp only [Atom.enc, AV.cells] at hsA
      simp only [n_flatten_maker_part_r13, h8, h10, q8, hsA, go_sem, Nat.reduceEqDiff, Nat.reduceAdd, Nat.reduceSub, Nat.reduceLeDiff, Nat.reduceLT, Nat.reduceMul, Int.reduceEq, Int.reduceLT, Int.reduceLE, Int.reduceNeg, Int.reduceToNat, Int.reduceAdd, Int.reduceSub, Int.cast_ofNat_Int, Int.cast_ofNat_Int, reduceCtorEq, ↓reduceIte, Bool.false_eq_true, decide_true, decide_false, eq_self, Bool.not_true, Bool.not_false]
      intro b hb
      refine OutJ.pushA (a := ⟨yk, yn, ys⟩) (hJ1.fresh hb) nb (Heap.keep q8 hb) (qA.fresh hb) (qL.fresh hb) (src_val _ _ _ _ rfl rfl) (by omega) fun v' A' h8' hc1 ho1 hJ' hO' => ?_
      simp only [h8, h8', hc1, ho1, go_sem, Nat.reduceEqDiff, Nat.reduceAdd, Nat.reduceSub, Nat.reduceLeDiff, Nat.reduceLT, Nat.reduceMul, Int.reduceEq, Int.reduceLT, Int.reduceLE, Int.reduceNeg, Int.reduceToNat, Int.reduceAdd, Int.reduceSub, Int.cast_ofNat_Int, Int.cast_ofNat_Int, reduceCtorEq, ↓reduceIte, Bool.false_eq_true, decide_true, decide_false, eq_self, Bool.not_true, Bool.not_false]
      exact Here.mk ⟨hJ', hS, h8, hO', h44, h45, h46⟩
    · rintro f A ⟨q1, q2, q3, q4, q5⟩
      rw [List.take_of_length_le (by simp)] at q4
      exact ⟨q1, q2, q3, q4⟩
  clear hJ hS h8 hO
  generalize a.map (convA s.to) = as_ at hK
  rintro f A ⟨hJ, hS, h8, hO⟩
  -- the parts
  refine nwp_cut (fun f A => ∃ st X ls, partsW (partW N) (lateK k) x 0 l 0 [] s = (X, ls, st) ∧ PartJ B bm bf mt st A ∧ PartS bm bf b4 b6 f ∧ f 8 = .ptr b8 0 ∧ OutJ B b8 k X n str vT as_ ls A) ?_ ?_
  · refine nwp_then (fun f A => PartJ B bm bf mt s A ∧ PartS bm bf b4 b6 f ∧ f 8 = .ptr b8 0 ∧ OutJ B b8 k 0 n str vT as_ [] A ∧ f 69 = encSl nl 7 (l.map Core.enc) ∧ f 70 = .int .i64 l.length ∧ f 71 = .int .i64 0) ?_ ?_
    · obtain ⟨h0, h2, h4, h6⟩ := hS
      have hb4A := hJ.mj.le.get _ _ hb4
      simp only [n_flatten_maker_part_r16, h4, hb4A, lenAV_encSl, List.length_map, go_sem, Nat.reduceEqDiff, Nat.reduceAdd, Nat.reduceSub, Nat.reduceLeDiff, Nat.reduceLT, Nat.reduceMul, Int.reduceEq, Int.reduceLT, Int.reduceLE, Int.reduceNeg, Int.reduceToNat, Int.reduceAdd, Int.reduceSub, Int.cast_ofNat_Int, Int.cast_ofNat_Int, reduceCtorEq, ↓reduceIte, Bool.false_eq_true, decide_true, decide_false, eq_self, Bool.not_true, Bool.not_false]
      exact Here.mk ⟨hJ, ⟨h0, h2, h4, h6⟩, h8, hO, rfl, rfl, rfl⟩
    clear hJ hS h8 hO
    rintro f A ⟨hJ, hS, h8, hO, h69, h70, h71⟩
    refine nwp_for (ti := 71) (tn := 70) (tt := 72) (tw := 102) (id := 3) (id2 := 4) l.length (by omega)
      (fun i f A => ∃ st X ls, partsW (partW N) (lateK k) x 0 l 0 [] s = partsW (partW N) (lateK k) x i (l.drop i) X ls st ∧ ls.length = i ∧ st.funs.length + Core.sizes (l.drop i) ≤ s.funs.length + Core.sizes l ∧
        PartJ B bm bf mt st A ∧ PartS bm bf b4 b6 f ∧ f 8 = .ptr b8 0 ∧ OutJ B b8 k X n str vT as_ ls A ∧ f 69 = encSl nl 7 (l.map Core.enc)) (by decide) ?_ h71 h70 ⟨s, 0, [], rfl, rfl, Nat.le_refl _, hJ, hS, h8, hO, h69⟩ ?_ ?_
    · rintro i f A d v hd ⟨st, X, ls, p1, p2, p3, q1, q2, q3, q4, q5⟩
      rcases hd with rfl | rfl | rfl
      all_goals exact ⟨st, X, ls, p1, p2, p3, q1, q2, q3, q4, q5⟩
    · rintro i f A hi ⟨st, X, ls, p1, p2, p3, hJ, hS, h8, hO, h69⟩ h71 h70
      rw [List.drop_eq_getElem_cons hi] at p1 p3
      have hix := indexAddr_encSl nl 7 (l.map Core.enc) i l[i].enc (by rw [List.getElem?_map, List.getElem?_eq_getElem hi]; rfl)
      have hte := Core.take_enc l[i]
      have hym := Core.mine l[i]
      obtain ⟨hrec, hgr⟩ := hin l[i] (List.getElem_mem hi)
      generalize l[i] = y at hix hte hym hrec hgr p1 p3
      simp only [Core.sizes] at p3
      simp only [partsW] at p1
      generalize hd : decide (lateK k = true ∧ i = 1) = d
      refine nwp_then (fun f A => ∃ b12, PartJ B bm bf mt st A ∧ PartS bm bf b4 b6 f ∧ f 8 = .ptr b8 0 ∧ OutJ B b8 k X n str vT as_ ls A ∧ f 69 = encSl nl 7 (l.map Core.enc) ∧ f 70 = .int .i64 l.length ∧ f 71 = .int .i64 i ∧ f 11 = .int .i64 i ∧ f 12 = .ptr b12 0 ∧ A b12 = some (.cells y.enc.cells) ∧ b12 ≠ b8) ?_ ?_
      · simp only [n_flatten_maker_part_r18, h69, h71, hix, hte, go_sem, Nat.reduceEqDiff, Nat.reduceAdd, Nat.reduceSub, Nat.reduceLeDiff, Nat.reduceLT, Nat.reduceMul, Int.reduceEq, Int.reduceLT, Int.reduceLE, Int.reduceNeg, Int.reduceToNat, Int.reduceAdd, Int.reduceSub, Int.cast_ofNat_Int, Int.cast_ofNat_Int, reduceCtorEq, ↓reduceIte, Bool.false_eq_true, decide_true, decide_false, eq_self, Bool.not_true, Bool.not_false]
        intro b12 hb12
        obtain ⟨nb, vA, vL, q8, qA, qL⟩ := hO
        exact Here.mk ⟨b12, hJ.fresh hb12, hS, h8, ⟨nb, vA, vL, Heap.keep q8 hb12, qA.fresh hb12, qL.fresh hb12⟩, h69, h70, h71, rfl, rfl, by simp [Core.enc_cells], Heap.ne_of q8 hb12⟩
      clear hJ hS h8 hO h69 h70 h71
      rintro f A ⟨b12, hJ, hS, h8, hO, h69, h70, h71, h11, h12, hb12, hn12⟩
      -- a variable of its own
      refine nwp_cut (fun f A => ∃ st1 X1, st1.funs = st.funs ∧ (if lateK k = true ∧ i = 1 then (IntKind.i64.wrap (IntKind.i64.wrap (st.next + 1) - 1), (⟨st.funs, (newF (st.to, st.next) x).1, (newF (st.to, st.next) x).2⟩ : MS)) else (X, st)) = (X1, st1) ∧
        PartJ B bm bf mt st1 A ∧ PartS bm bf b4 b6 f ∧ f 8 = .ptr b8 0 ∧ OutJ B b8 k X1 n str vT as_ ls A ∧ f 69 = encSl nl 7 (l.map Core.enc) ∧ f 70 = .int .i64 l.length ∧ f 71 = .int .i64 i ∧ f 12 = .ptr b12 0 ∧ A b12 = some (.cells y.enc.cells)) ?_ ?_
      · refine nwp_then (fun f A => PartJ B bm bf mt st A ∧ PartS bm bf b4 b6 f ∧ f 8 = .ptr b8 0 ∧ OutJ B b8 k X n str vT as_ ls A ∧ f 69 = encSl nl 7 (l.map Core.enc) ∧ f 70 = .int .i64 l.length ∧ f 71 = .int .i64 i ∧ f 12 = .ptr b12 0 ∧ A b12 = some (.cells y.enc.cells) ∧ f 87 = .bool d) ?_ ?_
        · obtain ⟨h0, h2, h4, h6⟩ := hS
          have hb4A := hJ.mj.le.get _ _ hb4
          simp only [n_flatten_maker_part_r19, h4, h11, hb4A, go_sem, Nat.reduceEqDiff, Nat.reduceAdd, Nat.reduceSub, Nat.reduceLeDiff, Nat.reduceLT, Nat.reduceMul, Int.reduceEq, Int.reduceLT, Int.reduceLE, Int.reduceNeg, Int.reduceToNat, Int.reduceAdd, Int.reduceSub, Int.cast_ofNat_Int, Int.cast_ofNat_Int, reduceCtorEq, ↓reduceIte, Bool.false_eq_true, decide_true, decide_false, eq_self, Bool.not_true, Bool.not_false]
          refine ifBool_cases (fun hg => ?_) fun hg => ?_
          · simp only [hg, h4, hb4A, go_sem, Nat.reduceEqDiff, Nat.reduceAdd, Nat.reduceSub, Nat.reduceLeDiff, Nat.reduceLT, Nat.reduceMul, Int.reduceEq, Int.reduceLT, Int.reduceLE, Int.reduceNeg, Int.reduceToNat, Int.reduceAdd, Int.reduceSub, Int.cast_ofNat_Int, Int.cast_ofNat_Int, reduceCtorEq, ↓reduceIte, Bool.false_eq_true, decide_true, decide_false, eq_self, Bool.not_true, Bool.not_false]
            refine ifBool_cases (fun hg2 => ?_) fun hg2 => ?_
            all_goals
              simp only [hg, hg2, h4, hb4A, go_sem, Nat.reduceEqDiff, Nat.reduceAdd, Nat.reduceSub, Nat.reduceLeDiff, Nat.reduceLT, Nat.reduceMul, Int.reduceEq, Int.reduceLT, Int.reduceLE, Int.reduceNeg, Int.reduceToNat, Int.reduceAdd, Int.reduceSub, Int.cast_ofNat_Int, Int.cast_ofNat_Int, reduceCtorEq, ↓reduceIte, Bool.false_eq_true, decide_true, decide_false, eq_self, Bool.not_true, Bool.not_false]
              refine Here.mk ⟨hJ, ⟨h0, h2, h4, h6⟩, h8, hO, h69, h70, h71, h12, hb12, ?_⟩
              show AV.bool _ = AV.bool _
              have hi1 : i = 1 := by
                have := of_decide_eq_true hg
                omega
              rw [← hd]
              simp_all [lateK]
          · simp only [hg, h4, hb4A, go_sem, Nat.reduceEqDiff, Nat.reduceAdd, Nat.reduceSub, Nat.reduceLeDiff, Nat.reduceLT, Nat.reduceMul, Int.reduceEq, Int.reduceLT, Int.reduceLE, Int.reduceNeg, Int.reduceToNat, Int.reduceAdd, Int.reduceSub, Int.cast_ofNat_Int, Int.cast_ofNat_Int, reduceCtorEq, ↓reduceIte, Bool.false_eq_true, decide_true, decide_false, eq_self, Bool.not_true, Bool.not_false]
            refine Here.mk ⟨hJ, ⟨h0, h2, h4, h6⟩, h8, hO, h69, h70, h71, h12, hb12, ?_⟩
            show AV.bool _ = AV.bool _
            have hi1 : ¬ i = 1 := by
              have := of_decide_eq_false hg
              omega
            rw [← hd]
            simp [hi1]
        clear hJ hS h8 hO h69 h70 h71 h11 h12 hb12
        rintro f A ⟨hJ, hS, h8, hO, h69, h70, h71, h12, hb12, h87⟩
        refine nwp_test _ h87 (fun hc => ?_) fun hc => ?_
        · rw [hc] at hd
          have hcc := of_decide_eq_true hd
          rw [if_pos hcc]
          refine nwp_last (fun f A => PartJ B bm bf mt ⟨st.funs, (newF (st.to, st.next) x).1, (newF (st.to, st.next) x).2⟩ A ∧ PartS bm bf b4 b6 f ∧ f 8 = .ptr b8 0 ∧ OutJ B b8 k (IntKind.i64.wrap (IntKind.i64.wrap (st.next + 1) - 1)) n str vT as_ ls A ∧ f 69 = encSl nl 7 (l.map Core.enc) ∧ f 70 = .int .i64 l.length ∧ f 71 = .int .i64 i ∧ f 12 = .ptr b12 0 ∧ A b12 = some (.cells y.enc.cells)) ?_
            fun f A ⟨q1, q2, q3, q4, q5, q6, q7, q8, q9⟩ => ⟨⟨st.funs, (newF (st.to, st.next) x).1, (newF (st.to, st.next) x).2⟩, _, rfl, rfl, q1, q2, q3, q4, q5, q6, q7, q8, q9⟩
          obtain ⟨h0, h2, h4, h6⟩ := hS
          have hb4A := hJ.mj.le.get _ _ hb4
          have hkeep := @new_keep bf mt st.to st.next A hJ.fr (mapB (AV.int .i64) (mput st.to x st.next)) (.cells [.map mt, .int .i64 (IntKind.i64.wrap (st.next + 1))])
          have hJn := hJ.new x
          obtain ⟨nb, vA, vL, q8, qA, qL⟩ := hO.keep hkeep
          have hb12' := hkeep _ _ hb12 hym
          simp only [n_flatten_maker_part_r20, h2, h4, hb4A, go_sem, Nat.reduceEqDiff, Nat.reduceAdd, Nat.reduceSub, Nat.reduceLeDiff, Nat.reduceLT, Nat.reduceMul, Int.reduceEq, Int.reduceLT, Int.reduceLE, Int.reduceNeg, Int.reduceToNat, Int.reduceAdd, Int.reduceSub, Int.cast_ofNat_Int, Int.cast_ofNat_Int, reduceCtorEq, ↓reduceIte, Bool.false_eq_true, decide_true, decide_false, eq_self, Bool.not_true, Bool.not_false]
          refine new_run hJ.fr ?_
          generalize (A.set mt (mapB (AV.int .i64) (mput st.to x st.next))).set bf (.cells [.map mt, .int .i64 (IntKind.i64.wrap (st.next + 1))]) = A2 at hJn q8 qA qL hb12'
          simp only [h8, q8, go_sem, Nat.reduceEqDiff, Nat.reduceAdd, Nat.reduceSub, Nat.reduceLeDiff, Nat.reduceLT, Nat.reduceMul, Int.reduceEq, Int.reduceLT, Int.reduceLE, Int.reduceNeg, Int.reduceToNat, Int.reduceAdd, Int.reduceSub, Int.cast_ofNat_Int, Int.cast_ofNat_Int, reduceCtorEq, ↓reduceIte, Bool.false_eq_true, decide_true, decide_false, eq_self, Bool.not_true, Bool.not_false]
          obtain ⟨r1, r2⟩ := OutJ.setX hJn nb q8 qA qL (IntKind.i64.wrap (IntKind.i64.wrap (st.next + 1) - 1))
          exact Here.mk ⟨r1, ⟨h0, h2, h4, h6⟩, h8, r2, h69, h70, h71, h12, by rw [Heap.set_other _ _ hn12]; exact hb12'⟩
        · rw [hc] at hd
          have hcc := of_decide_eq_false hd
          rw [if_neg hcc]
          exact ⟨st, X, rfl, rfl, hJ, hS, h8, hO, h69, h70, h71, h12, hb12⟩
      clear hJ hS h8 hO h69 h70 h71 h11 h12 hb12
      rintro f A ⟨st1, X1, hfs, hX1, hJ, hS, h8, hO, h69, h70, h71, h12, hb12⟩
      have p1' : partsW (partW N) (lateK k) x 0 l 0 [] s = partsW (partW N) (lateK k) x (i + 1) (l.drop (i + 1)) X1 (ls ++ [(partW N y st1).1]) (partW N y st1).2 := by
        rw [p1]
        split at hX1
        · rename_i hcc
          rw [if_pos hcc]
          injection hX1 with e1 e2
          rw [← e1, ← e2]
        · rename_i hcc
          rw [if_neg hcc]
          injection hX1 with e1 e2
          rw [← e1, ← e2]
      have hgs := hgr st1
      rw [hfs] at hgs
      clear p1 hX1
      refine nwp_last (fun f A => PartJ B bm bf mt (partW N y st1).2 A ∧ PartS bm bf b4 b6 f ∧ f 8 = .ptr b8 0 ∧ OutJ B b8 k X1 n str vT as_ (ls ++ [(partW N y st1).1]) A ∧ f 69 = encSl nl 7 (l.map Core.enc) ∧ f 70 = .int .i64 l.length ∧ f 71 = .int .i64 i) ?_
        fun f A ⟨q1, q2, q3, q4, q5, q6, q7⟩ => ⟨⟨(partW N y st1).2, X1, _, p1', by simp [p2], by omega, q1, q2, q3, q4, q5⟩, q7, q6⟩
      obtain ⟨h0, h2, h4, h6⟩ := hS
      obtain ⟨B', hPJ, hBB, hkc⟩ := hJ.rebase
      have hcells := (partW N y st1).1.enc_cells
      have hones := (partW N y st1).1.one_enc
      obtain ⟨nb, vA, vL, q8, qA, qL⟩ := hO
      simp only [n_flatten_maker_part_r21, h0, h2, h8, h12, q8, hb12, hte, go_sem, Nat.reduceEqDiff, Nat.reduceAdd, Nat.reduceSub, Nat.reduceLeDiff, Nat.reduceLT, Nat.reduceMul, Int.reduceEq, Int.reduceLT, Int.reduceLE, Int.reduceNeg, Int.reduceToNat, Int.reduceAdd, Int.reduceSub, Int.cast_ofNat_Int, Int.cast_ofNat_Int, reduceCtorEq, ↓reduceIte, Bool.false_eq_true, decide_true, decide_false, eq_self, Bool.not_true, Bool.not_false]
      refine hrec hPJ (by rw [hfs]; omega) fun A' hJ' => ?_
      obtain ⟨nb', vA', vL', q8', qA', qL'⟩ := OutJ.keep (A' := A') ⟨nb, vA, vL, q8, qA, qL⟩ (fun c cs hc hm => hJ'.mj.le.get _ _ (hkc c cs hc hm))
      have hsame : A' b8 = A b8 := by rw [q8]; exact hJ'.mj.le.get _ _ (hkc _ _ q8 out_mine)
      have hJ2 := hJ'.base hBB
      rw [hsame, q8] at q8'
      injection q8' with q8'
      injection q8' with q8'
      simp only [List.cons.injEq, true_and, and_true] at q8'
      obtain ⟨e1, e2⟩ := q8'
      subst e1 e2
      have q8A' : A' b8 = some (.cells [.int .i64 k, .int .i64 X1, .int .i64 n, .str str, vA, vT, vL]) := hsame.trans q8
      simp only [h8, q8A', go_sem, Nat.reduceEqDiff, Nat.reduceAdd, Nat.reduceSub, Nat.reduceLeDiff, Nat.reduceLT, Nat.reduceMul, Int.reduceEq, Int.reduceLT, Int.reduceLE, Int.reduceNeg, Int.reduceToNat, Int.reduceAdd, Int.reduceSub, Int.cast_ofNat_Int, Int.cast_ofNat_Int, reduceCtorEq, ↓reduceIte, Bool.false_eq_true, decide_true, decide_false, eq_self, Bool.not_true, Bool.not_false]
      intro b hb
      have hne := (Heap.ne_of q8A' hb).symm
      refine ⟨by simp only [hne, go_sem, Nat.reduceEqDiff, Nat.reduceAdd, Nat.reduceSub, Nat.reduceLeDiff, Nat.reduceLT, Nat.reduceMul, Int.reduceEq, Int.reduceLT, Int.reduceLE, Int.reduceNeg, Int.reduceToNat, Int.reduceAdd, Int.reduceSub, Int.cast_ofNat_Int, Int.cast_ofNat_Int, reduceCtorEq, ↓reduceIte, Bool.false_eq_true, decide_true, decide_false, eq_self, Bool.not_true, Bool.not_false], ?_⟩
      have hsz' : ls.length + 1 ≤ big := by omega
      refine OutJ.pushL (c := (partW N y st1).1) (hJ2.fresh hb) nb (Heap.keep q8A' hb) (qA'.fresh hb) (qL'.fresh hb) (src_val _ _ _ _ rfl hcells) hsz' fun v' A2 h8' hc1 ho1 hJ3 hO3 => ?_
      simp only [h8', hc1, ho1, go_sem, Nat.reduceEqDiff, Nat.reduceAdd, Nat.reduceSub, Nat.reduceLeDiff, Nat.reduceLT, Nat.reduceMul, Int.reduceEq, Int.reduceLT, Int.reduceLE, Int.reduceNeg, Int.reduceToNat, Int.reduceAdd, Int.reduceSub, Int.cast_ofNat_Int, Int.cast_ofNat_Int, reduceCtorEq, ↓reduceIte, Bool.false_eq_true, decide_true, decide_false, eq_self, Bool.not_true, Bool.not_false]
      exact Here.mk ⟨hJ3, ⟨h0, h2, h4, h6⟩, h8, hO3, h69, h70, h71⟩
    · rintro f A ⟨st, X, ls, p1, p2, p3, q1, q2, q3, q4, q5⟩
      rw [List.drop_eq_nil_of_le (Nat.le_refl _)] at p1
      exact ⟨st, X, ls, p1, q1, q2, q3, q4⟩
  clear hJ hS h8 hO
  rintro f A ⟨st, X, ls, hp, hJ, hS, h8, hO⟩
  rw [hp] at hK
  simp only at hK
  obtain ⟨nb, vA, vL, q8, qA, qL⟩ := hO
  refine nwp_then (fun f A => PartJ A0 bm bf mt st A ∧ f 6 = .ptr b6 0 ∧ A b6 = some (.cells [.int .i64 k, .int .i64 X, .int .i64 n, .str str, vA, vT, vL]) ∧ OutL 3 A0 A vA (as_.map Atom.enc) ∧ OutL 7 A0 A vL (ls.map Core.enc)) ?_ ?_
  · obtain ⟨h0, h2, h4, h6⟩ := hS
    have hb6A := hJ.mj.le.get _ _ hb6
    have hvA := qA.one
    have hvL := qL.one
    simp only [zero7] at hb6A
    simp only [n_flatten_maker_part_r24, h6, h8, q8, hb6A, hvA, hvL, hvT1, go_sem, Nat.reduceEqDiff, Nat.reduceAdd, Nat.reduceSub, Nat.reduceLeDiff, Nat.reduceLT, Nat.reduceMul, Int.reduceEq, Int.reduceLT, Int.reduceLE, Int.reduceNeg, Int.reduceToNat, Int.reduceAdd, Int.reduceSub, Int.cast_ofNat_Int, Int.cast_ofNat_Int, reduceCtorEq, ↓reduceIte, Bool.false_eq_true, decide_true, decide_false, eq_self, Bool.not_true, Bool.not_false]
    refine Here.mk ⟨(hJ.base hAB).other hb6A zero7_mine hb60, h6, Heap.set_same _ _ _, (qA.lower hAB).other (qA.old hb6), (qL.lower hAB).other (qL.old hb6)⟩
  clear hJ hS h8 q8 qA qL
  rintro f A ⟨hJ, h6, hb, qA, qL⟩
  obtain ⟨A', hw, hJ'⟩ := @part_ret A0 bm bf mt st A hJ k X n str vA vL as_ nt t ls qA qL
  rw [hvT] at hw
  exact ⟨_, by simp only [resAV_one_c, h6, hb, load_blk, loadB_some]; rfl, A', _, hw, hK _ hJ'⟩

end Go.NL

/- flatten: maker.group: what its functions share. -/
set_option linter.unusedVariables false
set_option linter.unusedSimpArgs false
set_option maxRecDepth 10000
namespace Go.NL
open Go.Proofs

theorem free_range {c : Core} (hv : c.vars = true) : (∀ x ∈ c.free, 0 ≤ x ∧ x ≤ 1048575) ∧ c.free.length ≤ c.atoms := by
  have h := Core.unb_ok c 0 [] [] (.nil _) hv
  refine ⟨fun x hx => ?_, ?_⟩
  · simp only [Core.free, List.mem_mergeSort] at hx
    exact h.rg x hx
  · have := h.ln
    simp only [Core.free, List.length_mergeSort, List.length_map]
    omega
theorem groupAll1_ok (names : List (Int × Bool)) : ∀ (l : List Int) (n : Nat) (all : List (Int × Bool)), KeysOk n all → (∀ x ∈ l, 0 ≤ x ∧ x ≤ 1048575) → KeysOk (n + l.length) (l.foldl (groupAll1 names) all)
  | [], n, all, h, _ => h
  | x :: l, n, all, h, hl => by
    have hx := hl x (List.mem_cons_self ..)
    have := groupAll1_ok names l (n + 1) (groupAll1 names all x) (by
      unfold groupAll1
      split
      · exact h.put hx.1 hx.2 true
      · exact h.le (Nat.le_succ _)) fun y hy => hl y (List.mem_cons_of_mem _ hy)
    simp only [List.foldl_cons, List.length_cons]
    exact this.le (by omega)
theorem groupAll_ok (names : List (Int × Bool)) : ∀ (xs : List Core) (n : Nat) (all : List (Int × Bool)), KeysOk n all → (∀ x ∈ xs, x.vars = true) → KeysOk (n + Core.atomss xs) (xs.foldl (fun all x => x.free.foldl (groupAll1 names) all) all)
  | [], n, all, h, _ => h
  | x :: xs, n, all, h, hx => by
    obtain ⟨h1, h2⟩ := free_range (hx x (List.mem_cons_self ..))
    have := groupAll_ok names xs (n + x.free.length) _ (groupAll1_ok names x.free n all h h1) fun y hy => hx y (List.mem_cons_of_mem _ hy)
    simp only [List.foldl_cons, Core.atomss]
    exact this.le (by omega)

/-- A map that is no frame's is written. -/
theorem PartJ.otherMap {A0 : Heap} {bm bf mt : Nat} {s : MS} {A : Heap} (h : PartJ A0 bm bf mt s A) {c : Nat} {V : Type} {enc : V → AV} {m : List (Int × V)} {y : Blk} (hc : A c = some (mapB enc m)) (hne : c ≠ mt) (h0 : A0 c = none) : PartJ A0 bm bf mt s (A.set c y) := by
  have h1 : bf ≠ c := fun e => by
    subst e
    rw [h.fr.f] at hc
    cases hc
  exact ⟨h.mj.other hc (fun cs' e => by cases e) h0, ⟨by rw [Heap.set_other _ _ h1]; exact h.fr.f, by rw [Heap.set_other _ _ hne.symm]; exact h.fr.m⟩, h.nf, h.nt⟩

set_option maxHeartbeats 2000000 in
theorem group_shared {c : Core} (hok : c.Ok) {m : Nat} (hm : c.l.length = m + 1) {A0 A : Heap} {bm bf mt : Nat} {s : MS} (hJ : PartJ A0 bm bf mt s A) {rest : NC} {Q : Post}
    (hQ : ∀ f A B b4 b6 v, A0.le B → PartJ B bm bf mt s A → PartS bm bf b4 b6 f → B b4 = some (.cells c.enc.cells) → B b6 = some (.cells zero7) → A0 b6 = none → f 7 = .int .i64 m → f 16 = v → OutI B A v (groupShared (c.l.take m)) → nwp Try.prog rest Q f A) :
    nwp Try.prog (.seq (.region n_flatten_maker_group_r0 []) (.seq (.region n_flatten_maker_group_r1 []) (.seq (.region n_flatten_maker_group_r2 []) (.seq (.seq (.region n_flatten_maker_group_r3 []) (.block 0 (.loop n_flatten_maker_group_l8))) (.seq (.region n_flatten_maker_group_r9 []) (.seq (.seq (.region n_flatten_maker_group_r10 []) (.block 2 (.loop n_flatten_maker_group_l21))) (.seq (.region n_flatten_maker_group_r22 []) rest))))))) Q (fr0 [.ptr bm 0, c.enc, .ptr bf 0]) A := by
  have hbig : big = 1099511627776 := rfl
  have hsub := fun x hx => @Core.Ok.sub c x hok hx
  have hCm := c.mine
  have hCt := c.take_enc
  have hC1 := c.one_enc
  have hat := hok.at_
  have hgd := hok.gd
  obtain ⟨k, x, n, str, na, a, nt, t, nl, l⟩ := c
  simp only [Core.l] at hm hsub hQ
  simp only [Core.atoms] at hat
  simp only [Core.good, Bool.and_eq_true] at hgd
  have gl := of_decide_eq_true hgd.1.2
  have hCe : (Core.mk k x n str na a nt t nl l).enc.cells = [.int .i64 k, .int .i64 x, .int .i64 n, .str str, encSl na 3 (a.map Atom.enc), encSl nt 1 (t.map encInt), encSl nl 7 (l.map Core.enc)] := by simp only [Core.enc, encsL, AV.cells]
  rw [hCe] at hCm hCt hC1 hQ
  generalize hc0 : (Core.mk k x n str na a nt t nl l).enc = c0 at hCe hCt
  have hlne : l.map Core.enc ≠ [] := by intro h; have := congrArg List.length h; simp [hm] at this
  have hsl := slice_encSl nl 7 (l.map Core.enc) m (by simp; omega) hlne
  have hxl : (l.take m).length = m := by simp; omega
  have hxe : (l.map Core.enc).take m = (l.take m).map Core.enc := by rw [List.map_take]
  rw [hxe] at hsl
  have hwl : IntKind.i64.wrap (((m + 1 : Nat) : Int) - 1) = (m : Int) := by rw [i64w (by omega) (by omega)]; omega
  have hxok : ∀ x ∈ l.take m, x.Ok := fun x hx => hsub x (List.mem_of_mem_take hx)
  have hxa : Core.atomss (l.take m) ≤ big := by
    have : ∀ (l : List Core) (m : Nat), Core.atomss (l.take m) ≤ Core.atomss l := by
      intro l
      induction l with
      | nil => intro m; simp
      | cons c l ih =>
        intro m
        cases m with
        | zero => simp [Core.atomss]
        | succ m => simp only [List.take_succ_cons, Core.atomss]; have := ih m; omega
    have := this l m
    omega
  generalize hxs : l.take m = xs at hsl hxl hxok hxa hQ
  -- the boxes
  refine nwp_then (fun f A => ∃ B b4 b6, A0.le B ∧ PartJ B bm bf mt s A ∧ PartS bm bf b4 b6 f ∧ B b4 = some (.cells [.int .i64 k, .int .i64 x, .int .i64 n, .str str, encSl na 3 (a.map Atom.enc), encSl nt 1 (t.map encInt), encSl nl 7 (l.map Core.enc)]) ∧ B b6 = some (.cells zero7) ∧ A0 b6 = none) ?_ ?_
  · simp only [n_flatten_maker_group_r0, hCe, hC1, go_sem, Nat.reduceEqDiff, Nat.reduceAdd, Nat.reduceSub, Nat.reduceLeDiff, Nat.reduceLT, Nat.reduceMul, Int.reduceEq, Int.reduceLT, Int.reduceLE, Int.reduceNeg, Int.reduceToNat, Int.reduceAdd, Int.reduceSub, Int.cast_ofNat_Int, Int.cast_ofNat_Int, reduceCtorEq, ↓reduceIte, Bool.false_eq_true, decide_true, decide_false, eq_self, Bool.not_true, Bool.not_false]
    rintro b4 hb4 b6 ⟨hne, _, hb6⟩
    have hb6' : (A.set b4 (.cells [.int .i64 k, .int .i64 x, .int .i64 n, .str str, encSl na 3 (a.map Atom.enc), encSl nt 1 (t.map encInt), encSl nl 7 (l.map Core.enc)])) b6 = none := by rw [Heap.set_other _ _ hne]; exact hb6
    obtain ⟨B, hB, hle, hk⟩ := ((hJ.fresh (x := .cells [.int .i64 k, .int .i64 x, .int .i64 n, .str str, encSl na 3 (a.map Atom.enc), encSl nt 1 (t.map encInt), encSl nl 7 (l.map Core.enc)]) hb4).fresh (x := .cells zero7) hb6').rebase
    exact Here.mk ⟨B, b4, b6, hle, hB, ⟨rfl, rfl, rfl, rfl⟩, hk _ _ (Heap.keep (Heap.set_same _ _ _) hb6') hCm, hk _ _ (Heap.set_same _ _ _) zero7_mine, hJ.mj.le.none hb6⟩
  clear hJ
  rintro f A ⟨B, b4, b6, hAB, hJ, hS, hb4, hb6, hb60⟩
  refine nwp_then (fun f A => PartJ B bm bf mt s A ∧ PartS bm bf b4 b6 f ∧ f 7 = .int .i64 m) ?_ ?_
  · obtain ⟨h0, h2, h4, h6⟩ := hS
    have hb4A := hJ.mj.le.get _ _ hb4
    simp only [n_flatten_maker_group_r1, h4, hb4A, lenAV_encSl, List.length_map, hm, hwl, go_sem, Nat.reduceEqDiff, Nat.reduceAdd, Nat.reduceSub, Nat.reduceLeDiff, Nat.reduceLT, Nat.reduceMul, Int.reduceEq, Int.reduceLT, Int.reduceLE, Int.reduceNeg, Int.reduceToNat, Int.reduceAdd, Int.reduceSub, Int.cast_ofNat_Int, Int.cast_ofNat_Int, reduceCtorEq, ↓reduceIte, Bool.false_eq_true, decide_true, decide_false, eq_self, Bool.not_true, Bool.not_false]
    exact Here.mk ⟨hJ, ⟨h0, h2, h4, h6⟩, rfl⟩
  clear hJ hS
  rintro f A ⟨hJ, hS, h7⟩
  refine nwp_then (fun f A => ∃ mn, PartJ B bm bf mt s A ∧ PartS bm bf b4 b6 f ∧ f 7 = .int .i64 m ∧ f 8 = .map mn ∧ A mn = some (mapB AV.bool []) ∧ mn ≠ mt ∧ B mn = none) ?_ ?_
  · simp only [n_flatten_maker_group_r2, go_sem, Nat.reduceEqDiff, Nat.reduceAdd, Nat.reduceSub, Nat.reduceLeDiff, Nat.reduceLT, Nat.reduceMul, Int.reduceEq, Int.reduceLT, Int.reduceLE, Int.reduceNeg, Int.reduceToNat, Int.reduceAdd, Int.reduceSub, Int.cast_ofNat_Int, Int.cast_ofNat_Int, reduceCtorEq, ↓reduceIte, Bool.false_eq_true, decide_true, decide_false, eq_self, Bool.not_true, Bool.not_false]
    intro mn hmn
    exact Here.mk ⟨mn, hJ.fresh hmn, hS, h7, rfl, Heap.set_same _ _ _, Heap.ne_of hJ.fr.m hmn, hJ.mj.le.none hmn⟩
  clear hJ hS h7
  rintro f A ⟨mn, hJ, hS, h7, h8, hmn, hne1, hmn0⟩
  -- the names
  refine nwp_cut (fun f A => PartJ B bm bf mt s A ∧ PartS bm bf b4 b6 f ∧ f 7 = .int .i64 m ∧ f 8 = .map mn ∧ A mn = some (mapB AV.bool (groupNames xs))) ?_ ?_
  · refine nwp_then (fun f A => PartJ B bm bf mt s A ∧ PartS bm bf b4 b6 f ∧ f 7 = .int .i64 m ∧ f 8 = .map mn ∧ A mn = some (mapB AV.bool []) ∧ f 31 = encSl false 7 (xs.map Core.enc) ∧ f 32 = .int .i64 m ∧ f 33 = .int .i64 0) ?_ ?_
    · obtain ⟨h0, h2, h4, h6⟩ := hS
      have hb4A := hJ.mj.le.get _ _ hb4
      simp only [n_flatten_maker_group_r3, h4, h7, hb4A, hsl, lenAV_encSl, List.length_map, hxl, go_sem, Nat.reduceEqDiff, Nat.reduceAdd, Nat.reduceSub, Nat.reduceLeDiff, Nat.reduceLT, Nat.reduceMul, Int.reduceEq, Int.reduceLT, Int.reduceLE, Int.reduceNeg, Int.reduceToNat, Int.reduceAdd, Int.reduceSub, Int.cast_ofNat_Int, Int.cast_ofNat_Int, reduceCtorEq, ↓reduceIte, Bool.false_eq_true, decide_true, decide_false, eq_self, Bool.not_true, Bool.not_false]
      exact Here.mk ⟨hJ, ⟨h0, h2, h4, h6⟩, h7, h8, hmn, rfl, rfl, rfl⟩
    clear hJ hS h7 h8 hmn
    rintro f A ⟨hJ, hS, h7, h8, hmn, h31, h32, h33⟩
    refine nwp_for (ti := 33) (tn := 32) (tt := 34) (tw := 40) (id := 0) (id2 := 1) m (by omega) (fun i f A => PartJ B bm bf mt s A ∧ PartS bm bf b4 b6 f ∧ f 7 = .int .i64 m ∧ f 8 = .map mn ∧ A mn = some (mapB AV.bool (groupNames (xs.take i))) ∧ f 31 = encSl false 7 (xs.map Core.enc)) (by decide) ?_ h33 h32 ⟨hJ, hS, h7, h8, hmn, h31⟩ ?_ ?_
    · rintro i f A d v hd ⟨q1, q2, q3, q4, q5, q6⟩
      rcases hd with rfl | rfl | rfl
      all_goals exact ⟨q1, q2, q3, q4, q5, q6⟩
    · rintro i f A hi ⟨hJ, hS, h7, h8, hmn, h31⟩ h33 h32
      rw [← hxl] at hi
      have hix := indexAddr_encSl false 7 (xs.map Core.enc) i xs[i].enc (by rw [List.getElem?_map, List.getElem?_eq_getElem hi]; rfl)
      have hte := Core.take_enc xs[i]
      have hne := Core.n_enc xs[i]
      have hgn : groupNames (xs.take (i + 1)) = mput (groupNames (xs.take i)) xs[i].n true := foldl_take _ _ _ _ hi
      rw [hgn]
      generalize groupNames (xs.take i) = nm at hmn ⊢
      generalize xs[i] = y at hix hte hne ⊢
      refine nwp_then (fun f A => ∃ b10, PartJ B bm bf mt s A ∧ PartS bm bf b4 b6 f ∧ f 7 = .int .i64 m ∧ f 8 = .map mn ∧ A mn = some (mapB AV.bool nm) ∧ f 31 = encSl false 7 (xs.map Core.enc) ∧ f 32 = .int .i64 m ∧ f 33 = .int .i64 i ∧ f 10 = .ptr b10 0 ∧ A b10 = some (.cells y.enc.cells)) ?_ ?_
      · simp only [n_flatten_maker_group_r5, h31, h33, hix, hte, go_sem, Nat.reduceEqDiff, Nat.reduceAdd, Nat.reduceSub, Nat.reduceLeDiff, Nat.reduceLT, Nat.reduceMul, Int.reduceEq, Int.reduceLT, Int.reduceLE, Int.reduceNeg, Int.reduceToNat, Int.reduceAdd, Int.reduceSub, Int.cast_ofNat_Int, Int.cast_ofNat_Int, reduceCtorEq, ↓reduceIte, Bool.false_eq_true, decide_true, decide_false, eq_self, Bool.not_true, Bool.not_false]
        intro b10 hb10
        exact Here.mk ⟨b10, hJ.fresh hb10, hS, h7, h8, Heap.keep hmn hb10, h31, h32, h33, rfl, by simp [Core.enc_cells]⟩
      clear hJ hS h7 h8 hmn h31 h32 h33
      rintro f A ⟨b10, hJ, hS, h7, h8, hmn, h31, h32, h33, h10, hb10⟩
      refine nwp_last (fun f A => PartJ B bm bf mt s A ∧ PartS bm bf b4 b6 f ∧ f 7 = .int .i64 m ∧ f 8 = .map mn ∧ A mn = some (mapB AV.bool (mput nm y.n true)) ∧ f 31 = encSl false 7 (xs.map Core.enc) ∧ f 32 = .int .i64 m ∧ f 33 = .int .i64 i) ?_ fun f A ⟨q1, q2, q3, q4, q5, q6, q7, q8⟩ => ⟨⟨q1, q2, q3, q4, q5, q6⟩, q8, q7⟩
      simp only [n_flatten_maker_group_r6, h8, h10, hb10, hne, hmn, go_sem, Nat.reduceEqDiff, Nat.reduceAdd, Nat.reduceSub, Nat.reduceLeDiff, Nat.reduceLT, Nat.reduceMul, Int.reduceEq, Int.reduceLT, Int.reduceLE, Int.reduceNeg, Int.reduceToNat, Int.reduceAdd, Int.reduceSub, Int.cast_ofNat_Int, Int.cast_ofNat_Int, reduceCtorEq, ↓reduceIte, Bool.false_eq_true, decide_true, decide_false, eq_self, Bool.not_true, Bool.not_false]
      exact Here.mk ⟨hJ.otherMap hmn hne1 hmn0, hS, h7, h8, Heap.set_same _ _ _, h31, h32, h33⟩
    · rintro f A ⟨q1, q2, q3, q4, q5, q6⟩
      rw [List.take_of_length_le (by omega)] at q5
      exact ⟨q1, q2, q3, q4, q5⟩
  clear hJ hS h7 h8 hmn
  rintro f A ⟨hJ, hS, h7, h8, hmn⟩
  refine nwp_then (fun f A => ∃ ma, PartJ B bm bf mt s A ∧ PartS bm bf b4 b6 f ∧ f 7 = .int .i64 m ∧ f 8 = .map mn ∧ A mn = some (mapB AV.bool (groupNames xs)) ∧ f 11 = .map ma ∧ A ma = some (mapB AV.bool []) ∧ ma ≠ mt ∧ ma ≠ mn ∧ B ma = none) ?_ ?_
  · simp only [n_flatten_maker_group_r9, go_sem, Nat.reduceEqDiff, Nat.reduceAdd, Nat.reduceSub, Nat.reduceLeDiff, Nat.reduceLT, Nat.reduceMul, Int.reduceEq, Int.reduceLT, Int.reduceLE, Int.reduceNeg, Int.reduceToNat, Int.reduceAdd, Int.reduceSub, Int.cast_ofNat_Int, Int.cast_ofNat_Int, reduceCtorEq, ↓reduceIte, Bool.false_eq_true, decide_true, decide_false, eq_self, Bool.not_true, Bool.not_false]
    intro ma hma
    exact Here.mk ⟨ma, hJ.fresh hma, hS, h7, h8, Heap.keep hmn hma, rfl, Heap.set_same _ _ _, Heap.ne_of hJ.fr.m hma, Heap.ne_of hmn hma, hJ.mj.le.none hma⟩
  clear hJ hS h7 h8 hmn
  rintro f A ⟨ma, hJ, hS, h7, h8, hmn, h11, hma, hne2, hne3, hma0⟩
  have hsh : groupShared xs = ((groupAll (groupNames xs) xs).map (·.1)).mergeSort (fun x y => decide (x ≤ y)) := rfl
  have hgo := groupAll_ok (groupNames xs) xs 0 [] (.nil _) fun x hx => (hxok x hx).vr
  have hga : xs.foldl (fun all x => x.free.foldl (groupAll1 (groupNames xs)) all) [] = groupAll (groupNames xs) xs := rfl
  rw [hga] at hgo
  rw [hsh] at hQ
  clear hsh
  generalize groupNames xs = nm at hmn hgo hga hQ
  -- what is shared
  refine nwp_cut (fun f A => PartJ B bm bf mt s A ∧ PartS bm bf b4 b6 f ∧ f 7 = .int .i64 m ∧ f 11 = .map ma ∧ A ma = some (mapB AV.bool (groupAll nm xs))) ?_ ?_
  · refine nwp_then (fun f A => PartJ B bm bf mt s A ∧ PartS bm bf b4 b6 f ∧ f 7 = .int .i64 m ∧ f 8 = .map mn ∧ A mn = some (mapB AV.bool nm) ∧ f 11 = .map ma ∧ A ma = some (mapB AV.bool []) ∧ f 45 = encSl false 7 (xs.map Core.enc) ∧ f 46 = .int .i64 m ∧ f 47 = .int .i64 0) ?_ ?_
    · obtain ⟨h0, h2, h4, h6⟩ := hS
      have hb4A := hJ.mj.le.get _ _ hb4
      simp only [n_flatten_maker_group_r10, h4, h7, hb4A, hsl, lenAV_encSl, List.length_map, hxl, go_sem, Nat.reduceEqDiff, Nat.reduceAdd, Nat.reduceSub, Nat.reduceLeDiff, Nat.reduceLT, Nat.reduceMul, Int.reduceEq, Int.reduceLT, Int.reduceLE, Int.reduceNeg, Int.reduceToNat, Int.reduceAdd, Int.reduceSub, Int.cast_ofNat_Int, Int.cast_ofNat_Int, reduceCtorEq, ↓reduceIte, Bool.false_eq_true, decide_true, decide_false, eq_self, Bool.not_true, Bool.not_false]
      exact Here.mk ⟨hJ, ⟨h0, h2, h4, h6⟩, h7, h8, hmn, h11, hma, rfl, rfl, rfl⟩
    clear hJ hS h7 h8 hmn h11 hma
    rintro f A ⟨hJ, hS, h7, h8, hmn, h11, hma, h45, h46, h47⟩
    refine nwp_for (ti := 47) (tn := 46) (tt := 48) (tw := 65) (id := 2) (id2 := 3) m (by omega) (fun i f A => PartJ B bm bf mt s A ∧ PartS bm bf b4 b6 f ∧ f 7 = .int .i64 m ∧ f 8 = .map mn ∧ A mn = some (mapB AV.bool nm) ∧ f 11 = .map ma ∧ A ma = some (mapB AV.bool (groupAll nm (xs.take i))) ∧ f 45 = encSl false 7 (xs.map Core.enc)) (by decide) ?_ h47 h46 ⟨hJ, hS, h7, h8, hmn, h11, hma, h45⟩ ?_ ?_
    · rintro i f A d v hd ⟨q1, q2, q3, q4, q5, q6, q7, q8⟩
      rcases hd with rfl | rfl | rfl
      all_goals exact ⟨q1, q2, q3, q4, q5, q6, q7, q8⟩
    · rintro i f A hi ⟨hJ, hS, h7, h8, hmn, h11, hma, h45⟩ h47 h46
      rw [← hxl] at hi
      have hix := indexAddr_encSl false 7 (xs.map Core.enc) i xs[i].enc (by rw [List.getElem?_map, List.getElem?_eq_getElem hi]; rfl)
      have hte := Core.take_enc xs[i]
      have hyok := hxok xs[i] (List.getElem_mem hi)
      have hub := Unbound_spec xs[i] hyok.gd hyok.vr hyok.at_
      have hfl := (free_range hyok.vr).2
      have hya := hyok.at_
      have hgn : groupAll nm (xs.take (i + 1)) = xs[i].free.foldl (groupAll1 nm) (groupAll nm (xs.take i)) := foldl_take _ _ _ _ hi
      rw [hgn]
      generalize groupAll nm (xs.take i) = al at hma ⊢
      generalize xs[i] = y at hix hte hub hfl hya ⊢
      generalize y.free = fr at hub hfl ⊢
      refine nwp_then (fun f A => ∃ b13, PartJ B bm bf mt s A ∧ PartS bm bf b4 b6 f ∧ f 7 = .int .i64 m ∧ f 8 = .map mn ∧ A mn = some (mapB AV.bool nm) ∧ f 11 = .map ma ∧ A ma = some (mapB AV.bool al) ∧ f 45 = encSl false 7 (xs.map Core.enc) ∧ f 46 = .int .i64 m ∧ f 47 = .int .i64 i ∧ f 13 = .ptr b13 0 ∧ A b13 = some (.cells y.enc.cells)) ?_ ?_
      · simp only [n_flatten_maker_group_r12, h45, h47, hix, hte, go_sem, Nat.reduceEqDiff, Nat.reduceAdd, Nat.reduceSub, Nat.reduceLeDiff, Nat.reduceLT, Nat.reduceMul, Int.reduceEq, Int.reduceLT, Int.reduceLE, Int.reduceNeg, Int.reduceToNat, Int.reduceAdd, Int.reduceSub, Int.cast_ofNat_Int, Int.cast_ofNat_Int, reduceCtorEq, ↓reduceIte, Bool.false_eq_true, decide_true, decide_false, eq_self, Bool.not_true, Bool.not_false]
        intro b13 hb13
        exact Here.mk ⟨b13, hJ.fresh hb13, hS, h7, h8, Heap.keep hmn hb13, h11, Heap.keep hma hb13, h45, h46, h47, rfl, by simp [Core.enc_cells]⟩
      clear hJ hS h7 h8 hmn h11 hma h45 h46 h47
      rintro f A ⟨b13, hJ, hS, h7, h8, hmn, h11, hma, h45, h46, h47, h13, hb13⟩
      refine nwp_then (fun f A => PartJ B bm bf mt s A ∧ PartS bm bf b4 b6 f ∧ f 7 = .int .i64 m ∧ f 8 = .map mn ∧ A mn = some (mapB AV.bool nm) ∧ f 11 = .map ma ∧ A ma = some (mapB AV.bool al) ∧ f 45 = encSl false 7 (xs.map Core.enc) ∧ f 46 = .int .i64 m ∧ f 47 = .int .i64 i ∧ f 52 = encSl true 1 (fr.map encInt) ∧ f 53 = .int .i64 fr.length ∧ f 54 = .int .i64 0) ?_ ?_
      · simp only [n_flatten_maker_group_r13, h13, hb13, hte, go_sem, Nat.reduceEqDiff, Nat.reduceAdd, Nat.reduceSub, Nat.reduceLeDiff, Nat.reduceLT, Nat.reduceMul, Int.reduceEq, Int.reduceLT, Int.reduceLE, Int.reduceNeg, Int.reduceToNat, Int.reduceAdd, Int.reduceSub, Int.cast_ofNat_Int, Int.cast_ofNat_Int, reduceCtorEq, ↓reduceIte, Bool.false_eq_true, decide_true, decide_false, eq_self, Bool.not_true, Bool.not_false]
        refine hub.call ?_
        simp only [lenAV_encSl, List.length_map, go_sem, Nat.reduceEqDiff, Nat.reduceAdd, Nat.reduceSub, Nat.reduceLeDiff, Nat.reduceLT, Nat.reduceMul, Int.reduceEq, Int.reduceLT, Int.reduceLE, Int.reduceNeg, Int.reduceToNat, Int.reduceAdd, Int.reduceSub, Int.cast_ofNat_Int, Int.cast_ofNat_Int, reduceCtorEq, ↓reduceIte, Bool.false_eq_true, decide_true, decide_false, eq_self, Bool.not_true, Bool.not_false]
        exact Here.mk ⟨hJ, hS, h7, h8, hmn, h11, hma, h45, h46, h47, rfl, rfl, rfl⟩
      clear hJ hS h7 h8 hmn h11 hma h45 h46 h47 h13 hb13
      rintro f A ⟨hJ, hS, h7, h8, hmn, h11, hma, h45, h46, h47, h52, h53, h54⟩
      refine nwp_for (ti := 54) (tn := 53) (tt := 55) (tw := 64) (id := 4) (id2 := 5) fr.length (by omega) (fun j f A => PartJ B bm bf mt s A ∧ PartS bm bf b4 b6 f ∧ f 7 = .int .i64 m ∧ f 8 = .map mn ∧ A mn = some (mapB AV.bool nm) ∧ f 11 = .map ma ∧ A ma = some (mapB AV.bool ((fr.take j).foldl (groupAll1 nm) al)) ∧ f 45 = encSl false 7 (xs.map Core.enc) ∧ f 46 = .int .i64 m ∧ f 47 = .int .i64 i ∧ f 52 = encSl true 1 (fr.map encInt)) (by decide) ?_ h54 h53 ⟨hJ, hS, h7, h8, hmn, h11, hma, h45, h46, h47, h52⟩ ?_ ?_
      · rintro j f A d v hd ⟨q1, q2, q3, q4, q5, q6, q7, q8, q9, q10, q11⟩
        rcases hd with rfl | rfl | rfl
        all_goals exact ⟨q1, q2, q3, q4, q5, q6, q7, q8, q9, q10, q11⟩
      · rintro j f A hj ⟨hJ, hS, h7, h8, hmn, h11, hma, h45, h46, h47, h52⟩ h54 h53
        have hix := indexAddr_encSl true 1 (fr.map encInt) j (encInt fr[j]) (by rw [List.getElem?_map, List.getElem?_eq_getElem hj]; rfl)
        rw [foldl_take _ _ _ _ hj]
        generalize (fr.take j).foldl (groupAll1 nm) al = al1 at hma ⊢
        generalize fr[j] = z at hix ⊢
        simp only [encInt, AV.cells] at hix
        refine nwp_then (fun f A => PartJ B bm bf mt s A ∧ PartS bm bf b4 b6 f ∧ f 7 = .int .i64 m ∧ f 8 = .map mn ∧ A mn = some (mapB AV.bool nm) ∧ f 11 = .map ma ∧ A ma = some (mapB AV.bool al1) ∧ f 45 = encSl false 7 (xs.map Core.enc) ∧ f 46 = .int .i64 m ∧ f 47 = .int .i64 i ∧ f 52 = encSl true 1 (fr.map encInt) ∧ f 53 = .int .i64 fr.length ∧ f 54 = .int .i64 j ∧ f 15 = .int .i64 z) ?_ ?_
        · simp only [n_flatten_maker_group_r15, encInt, h52, h54, hix, go_sem, Nat.reduceEqDiff, Nat.reduceAdd, Nat.reduceSub, Nat.reduceLeDiff, Nat.reduceLT, Nat.reduceMul, Int.reduceEq, Int.reduceLT, Int.reduceLE, Int.reduceNeg, Int.reduceToNat, Int.reduceAdd, Int.reduceSub, Int.cast_ofNat_Int, Int.cast_ofNat_Int, reduceCtorEq, ↓reduceIte, Bool.false_eq_true, decide_true, decide_false, eq_self, Bool.not_true, Bool.not_false]
          exact Here.mk ⟨hJ, hS, h7, h8, hmn, h11, hma, h45, h46, h47, h52, h53, h54, rfl⟩
        clear hJ hS h7 h8 hmn h11 hma h45 h46 h47 h52 h53 h54
        rintro f A ⟨hJ, hS, h7, h8, hmn, h11, hma, h45, h46, h47, h52, h53, h54, h15⟩
        refine nwp_then (fun f A => PartJ B bm bf mt s A ∧ PartS bm bf b4 b6 f ∧ f 7 = .int .i64 m ∧ f 8 = .map mn ∧ A mn = some (mapB AV.bool nm) ∧ f 11 = .map ma ∧ A ma = some (mapB AV.bool al1) ∧ f 45 = encSl false 7 (xs.map Core.enc) ∧ f 46 = .int .i64 m ∧ f 47 = .int .i64 i ∧ f 52 = encSl true 1 (fr.map encInt) ∧ f 53 = .int .i64 fr.length ∧ f 54 = .int .i64 j ∧ f 15 = .int .i64 z ∧ f 61 = .bool (!((mget nm z).getD false))) ?_ ?_
        · simp only [n_flatten_maker_group_r16, h8, h15, hmn, go_sem, Nat.reduceEqDiff, Nat.reduceAdd, Nat.reduceSub, Nat.reduceLeDiff, Nat.reduceLT, Nat.reduceMul, Int.reduceEq, Int.reduceLT, Int.reduceLE, Int.reduceNeg, Int.reduceToNat, Int.reduceAdd, Int.reduceSub, Int.cast_ofNat_Int, Int.cast_ofNat_Int, reduceCtorEq, ↓reduceIte, Bool.false_eq_true, decide_true, decide_false, eq_self, Bool.not_true, Bool.not_false]
          exact Here.mk ⟨hJ, hS, h7, h8, hmn, h11, hma, h45, h46, h47, h52, h53, h54, h15, rfl⟩
        clear hJ hS h7 h8 hmn h11 hma h45 h46 h47 h52 h53 h54 h15
        rintro f A ⟨hJ, hS, h7, h8, hmn, h11, hma, h45, h46, h47, h52, h53, h54, h15, h61⟩
        refine nwp_test _ h61 (fun hc => ?_) fun hc => ?_
        · have hcc : (mget nm z).getD false = false := by simpa using hc
          have he : groupAll1 nm al1 z = mput al1 z true := if_pos hcc
          rw [he]
          refine nwp_last (fun f A => PartJ B bm bf mt s A ∧ PartS bm bf b4 b6 f ∧ f 7 = .int .i64 m ∧ f 8 = .map mn ∧ A mn = some (mapB AV.bool nm) ∧ f 11 = .map ma ∧ A ma = some (mapB AV.bool (mput al1 z true)) ∧ f 45 = encSl false 7 (xs.map Core.enc) ∧ f 46 = .int .i64 m ∧ f 47 = .int .i64 i ∧ f 52 = encSl true 1 (fr.map encInt) ∧ f 53 = .int .i64 fr.length ∧ f 54 = .int .i64 j) ?_
            fun f A ⟨q1, q2, q3, q4, q5, q6, q7, q8, q9, q10, q11, q12, q13⟩ => ⟨⟨q1, q2, q3, q4, q5, q6, q7, q8, q9, q10, q11⟩, q13, q12⟩
          simp only [n_flatten_maker_group_r17, h11, h15, hma, go_sem, Nat.reduceEqDiff, Nat.reduceAdd, Nat.reduceSub, Nat.reduceLeDiff, Nat.reduceLT, Nat.reduceMul, Int.reduceEq, Int.reduceLT, Int.reduceLE, Int.reduceNeg, Int.reduceToNat, Int.reduceAdd, Int.reduceSub, Int.cast_ofNat_Int, Int.cast_ofNat_Int, reduceCtorEq, ↓reduceIte, Bool.false_eq_true, decide_true, decide_false, eq_self, Bool.not_true, Bool.not_false]
          exact Here.mk ⟨hJ.otherMap hma hne2 hma0, hS, h7, h8, by rw [Heap.set_other _ _ hne3.symm]; exact hmn, h11, Heap.set_same _ _ _, h45, h46, h47, h52, h53, h54⟩
        · have hcc : ¬ (mget nm z).getD false = false := by simpa using hc
          have he : groupAll1 nm al1 z = al1 := if_neg hcc
          rw [he]
          exact ⟨⟨hJ, hS, h7, h8, hmn, h11, hma, h45, h46, h47, h52⟩, h54, h53⟩
      · rintro f A ⟨q1, q2, q3, q4, q5, q6, q7, q8, q9, q10, q11⟩
        rw [List.take_of_length_le (Nat.le_refl _)] at q7
        exact ⟨⟨q1, q2, q3, q4, q5, q6, q7, q8⟩, q10, q9⟩
    · rintro f A ⟨q1, q2, q3, q4, q5, q6, q7, q8⟩
      rw [List.take_of_length_le (by omega)] at q7
      exact ⟨q1, q2, q3, q6, q7⟩
  clear hJ hS h7 h8 hmn h11 hma
  rintro f A ⟨hJ, hS, h7, h11, hma⟩
  generalize groupAll nm xs = al at hma hgo hQ
  refine nwp_then (fun f A => PartJ B bm bf mt s A ∧ PartS bm bf b4 b6 f ∧ f 7 = .int .i64 m ∧ OutI B A (f 16) ((al.map (·.1)).mergeSort fun x y => decide (x ≤ y))) ?_ ?_
  · simp only [n_flatten_maker_group_r22, h11, go_sem, Nat.reduceEqDiff, Nat.reduceAdd, Nat.reduceSub, Nat.reduceLeDiff, Nat.reduceLT, Nat.reduceMul, Int.reduceEq, Int.reduceLT, Int.reduceLE, Int.reduceNeg, Int.reduceToNat, Int.reduceAdd, Int.reduceSub, Int.cast_ofNat_Int, Int.cast_ofNat_Int, reduceCtorEq, ↓reduceIte, Bool.false_eq_true, decide_true, decide_false, eq_self, Bool.not_true, Bool.not_false]
    refine Keys_run fun bx hbx => ?_
    try simp only [go_sem, Nat.reduceEqDiff, Nat.reduceAdd, Nat.reduceSub, Nat.reduceLeDiff, Nat.reduceLT, Nat.reduceMul, Int.reduceEq, Int.reduceLT, Int.reduceLE, Int.reduceNeg, Int.reduceToNat, Int.reduceAdd, Int.reduceSub, Int.cast_ofNat_Int, Int.cast_ofNat_Int, reduceCtorEq, ↓reduceIte, Bool.false_eq_true, decide_true, decide_false, eq_self, Bool.not_true, Bool.not_false]
    have hJ' := hJ.fresh (x := .cells [.map ma]) hbx
    refine sorted_keys AV.bool al ⟨hgo.nd, fun p hp => ?_⟩ (by have := hgo.ln; omega) (Heap.set_same _ _ _) (Heap.keep hma hbx) (fun he => ?_) fun he b2 hb2 => ?_
    · have := hgo.rg p.1 (List.mem_map_of_mem hp)
      omega
    · try simp only [go_sem, Nat.reduceEqDiff, Nat.reduceAdd, Nat.reduceSub, Nat.reduceLeDiff, Nat.reduceLT, Nat.reduceMul, Int.reduceEq, Int.reduceLT, Int.reduceLE, Int.reduceNeg, Int.reduceToNat, Int.reduceAdd, Int.reduceSub, Int.cast_ofNat_Int, Int.cast_ofNat_Int, reduceCtorEq, ↓reduceIte, Bool.false_eq_true, decide_true, decide_false, eq_self, Bool.not_true, Bool.not_false]
      refine Here.mk ⟨hJ', hS, h7, ?_⟩
      show OutI B _ .nilslice _
      have h0 : (al.map (·.1)).mergeSort (fun x y => decide (x ≤ y)) = [] := by simp [he]
      rw [h0]
      exact .nil _ _
    · try simp only [go_sem, Nat.reduceEqDiff, Nat.reduceAdd, Nat.reduceSub, Nat.reduceLeDiff, Nat.reduceLT, Nat.reduceMul, Int.reduceEq, Int.reduceLT, Int.reduceLE, Int.reduceNeg, Int.reduceToNat, Int.reduceAdd, Int.reduceSub, Int.cast_ofNat_Int, Int.cast_ofNat_Int, reduceCtorEq, ↓reduceIte, Bool.false_eq_true, decide_true, decide_false, eq_self, Bool.not_true, Bool.not_false]
      refine Here.mk ⟨hJ'.fresh hb2, hS, h7, ?_⟩
      refine .inr ⟨b2, ?_, Heap.set_same _ _ _, hJ'.mj.le.none hb2, ?_⟩
      · show AV.slice _ _ _ _ _ = _
        simp
      · intro h0
        have := congrArg List.length h0
        simp at this
        exact he this
  clear hJ hS h7 h11 hma
  rintro f A ⟨hJ, hS, h7, h16⟩
  exact hQ f A B b4 b6 _ hAB hJ hS hb4 hb6 hb60 h7 rfl h16

end Go.NL

/- flatten: maker.group: what its functions have captured. -/
set_option linter.unusedVariables false
set_option linter.unusedSimpArgs false
set_option maxRecDepth 10000
namespace Go.NL
open Go.Proofs

theorem PartJ.mono {B : Heap} {bm bf mt : Nat} {s : MS} {A A' : Heap} (h : PartJ B bm bf mt s A) (hle : A.le A') : PartJ B bm bf mt s A' := h.move (h.mj.le.trans hle) fun c y hc _ => hle.get c y hc
theorem ints_mine {l : List Int} (h : l ≠ []) : Mine (ints l) := .inr ⟨l, h, rfl⟩
theorem OutI.keepm {B A A' : Heap} {v : AV} {l : List Int} (h : OutI B A v l) (hk : ∀ c cs, A c = some (.cells cs) → Mine cs → A' c = some (.cells cs)) : OutI B A' v l := by
  rcases h with h | ⟨b, h, hb, h0, hne⟩
  · exact .inl h
  · exact .inr ⟨b, h, hk _ _ hb (ints_mine hne), h0, hne⟩
theorem OutI.grown {A0 A A' : Heap} {v : AV} {l : List Int} (ho : OutI A0 A v l) (hfr : ∀ c y, A c = some y → (∀ e o n k, v ≠ .slice e c o n k) → A' c = some y) : ∀ c y, A c = some y → (∀ cs, y = .cells cs → ¬ Mine cs) → A' c = some y := by
  intro c y hc hy
  refine hfr c y hc fun e' o n k hv => ?_
  rcases ho with ⟨h, _⟩ | ⟨b, h, hb, h0, hne⟩
  · rw [h] at hv; cases hv
  · rw [h] at hv
    cases hv
    rw [hb] at hc
    cases hc
    exact hy _ rfl (ints_mine hne)
/-- A group's block is no list of numbers. -/
theorem OutI.ne7 {A0 A : Heap} {v : AV} {l : List Int} (ho : OutI A0 A v l) {b : Nat} {x y z : AV} {s : List UInt8} {r : List AV} (hb : A b = some (.cells (x :: y :: z :: .str s :: r))) : ∀ e b' o n k, v = .slice e b' o n k → b' ≠ b := by
  intro e b' o n k hv he
  subst he
  rcases ho with ⟨h, _⟩ | ⟨b', h, h', _, hne⟩
  · rw [h] at hv; cases hv
  · rw [h] at hv
    cases hv
    rw [hb] at h'
    injection h' with h'
    injection h' with h'
    have h4 := congrArg (fun cs => cs[3]?) h'
    simp only [List.getElem?_cons_succ, List.getElem?_cons_zero, ints, List.getElem?_map] at h4
    cases hq : l[3]? with
    | none => rw [hq] at h4; cases h4
    | some q => rw [hq] at h4; cases h4

set_option maxHeartbeats 2000000 in
theorem group_captured {c : Core} {m : Nat} (hm : c.l.length = m + 1) (hml : m ≤ big) {B A : Heap} {bm bf mt b4 b6 : Nat} {s : MS} {sh : List Int} {f : Fr} (hJ : PartJ B bm bf mt s A) (hS : PartS bm bf b4 b6 f) (hb4 : B b4 = some (.cells c.enc.cells)) (h7 : f 7 = .int .i64 m) (h16 : OutI B A (f 16) sh) (hsh : sh.length + m ≤ big) {rest : NC} {Q : Post}
    (hQ : ∀ f A b17, PartJ B bm bf mt ⟨s.funs, ((c.l.take m).foldl (fun fr x => newF fr x.n) (s.to, s.next)).1, ((c.l.take m).foldl (fun fr x => newF fr x.n) (s.to, s.next)).2⟩ A → PartS bm bf b4 b6 f → f 7 = .int .i64 m → f 17 = .ptr b17 0 → B b17 = none →
      A b17 = some (.cells [.int .i64 14, .int .i64 s.next, .int .i64 0, .str [], encSl true 3 ((sh.map (atomOf s.to)).map Atom.enc), .nilslice, .nilslice]) → OutI B A (f 18) (sh ++ (c.l.take m).map Core.n) → nwp Try.prog rest Q f A) :
    nwp Try.prog (.seq (.region n_flatten_maker_group_r23 [n_flatten_maker_group_r23_0]) (.seq (.region n_flatten_maker_group_r24 []) (.seq (.seq (.region n_flatten_maker_group_r25 []) (.block 6 (.loop n_flatten_maker_group_l31))) rest))) Q f A := by
  have hbig : big = 1099511627776 := rfl
  have hCe0 := c.enc_cells
  obtain ⟨k, x, n, str, na, a, nt, t, nl, l⟩ := c
  simp only [Core.l] at hm hQ
  have hCe : (Core.mk k x n str na a nt t nl l).enc.cells = [.int .i64 k, .int .i64 x, .int .i64 n, .str str, encSl na 3 (a.map Atom.enc), encSl nt 1 (t.map encInt), encSl nl 7 (l.map Core.enc)] := by simp only [Core.enc, encsL, AV.cells]
  rw [hCe] at hb4
  have hlne : l.map Core.enc ≠ [] := by intro h; have := congrArg List.length h; simp [hm] at this
  have hsl := slice_encSl nl 7 (l.map Core.enc) m (by simp; omega) hlne
  have hxl : (l.take m).length = m := by simp; omega
  have hxe : (l.map Core.enc).take m = (l.take m).map Core.enc := by rw [List.map_take]
  rw [hxe] at hsl
  generalize l.take m = xs at hsl hxl hQ
  generalize hG : encSl true 3 ((sh.map (atomOf s.to)).map Atom.enc) = G at hQ
  have hG1 : G.one = true ∧ G.cells = [G] := by rw [← hG]; exact ⟨oneSl _ _ _, encSl_cells _ _ _⟩
  refine nwp_then2 (fun f A => ∃ b17, PartJ B bm bf mt s A ∧ PartS bm bf b4 b6 f ∧ f 7 = .int .i64 m ∧ OutI B A (f 16) sh ∧ f 17 = .ptr b17 0 ∧ B b17 = none ∧ A b17 = some (.cells [.int .i64 14, .int .i64 s.next, .int .i64 0, .str [], G, .nilslice, .nilslice])) ?_ ?_ ?_
  · obtain ⟨h0, h2, h4, h6⟩ := hS
    have hfr := hJ.fr
    have hfA := hJ.fr.f
    have hat := h16.at
    generalize hv : f 16 = v at h16 hat
    simp only [n_flatten_maker_group_r23, h2, hv, hfA, go_sem, Nat.reduceEqDiff, Nat.reduceAdd, Nat.reduceSub, Nat.reduceLeDiff, Nat.reduceLT, Nat.reduceMul, Int.reduceEq, Int.reduceLT, Int.reduceLE, Int.reduceNeg, Int.reduceToNat, Int.reduceAdd, Int.reduceSub, Int.cast_ofNat_Int, Int.cast_ofNat_Int, reduceCtorEq, ↓reduceIte, Bool.false_eq_true, decide_true, decide_false, eq_self, Bool.not_true, Bool.not_false]
    refine (frameAtoms_run hfr hat (by omega)).go ?_
    rintro w A' ⟨rfl, rfl⟩
    rw [hG]
    simp only [h2, hfA, hG1, go_sem, Nat.reduceEqDiff, Nat.reduceAdd, Nat.reduceSub, Nat.reduceLeDiff, Nat.reduceLT, Nat.reduceMul, Int.reduceEq, Int.reduceLT, Int.reduceLE, Int.reduceNeg, Int.reduceToNat, Int.reduceAdd, Int.reduceSub, Int.cast_ofNat_Int, Int.cast_ofNat_Int, reduceCtorEq, ↓reduceIte, Bool.false_eq_true, decide_true, decide_false, eq_self, Bool.not_true, Bool.not_false]
    intro b17 hb17
    have hne := (Heap.ne_of hfA hb17).symm
    simp only [hne, go_sem, Nat.reduceEqDiff, Nat.reduceAdd, Nat.reduceSub, Nat.reduceLeDiff, Nat.reduceLT, Nat.reduceMul, Int.reduceEq, Int.reduceLT, Int.reduceLE, Int.reduceNeg, Int.reduceToNat, Int.reduceAdd, Int.reduceSub, Int.cast_ofNat_Int, Int.cast_ofNat_Int, reduceCtorEq, ↓reduceIte, Bool.false_eq_true, decide_true, decide_false, eq_self, Bool.not_true, Bool.not_false]
    exact Here.mk ⟨b17, hJ.fresh hb17, ⟨h0, h2, h4, h6⟩, h7, by show OutI B _ (f 16) sh; rw [hv]; exact h16.fresh hb17, rfl, hJ.mj.le.none hb17, Heap.set_same _ _ _⟩
  · obtain ⟨h0, h2, h4, h6⟩ := hS
    have hfA := hJ.fr.f
    generalize hv : f 16 = v at h16
    simp only [n_flatten_maker_group_r23_0, h2, hv, hfA, go_sem, Nat.reduceEqDiff, Nat.reduceAdd, Nat.reduceSub, Nat.reduceLeDiff, Nat.reduceLT, Nat.reduceMul, Int.reduceEq, Int.reduceLT, Int.reduceLE, Int.reduceNeg, Int.reduceToNat, Int.reduceAdd, Int.reduceSub, Int.cast_ofNat_Int, Int.cast_ofNat_Int, reduceCtorEq, ↓reduceIte, Bool.false_eq_true, decide_true, decide_false, eq_self, Bool.not_true, Bool.not_false]
    intro b17 hb17
    have hne := (Heap.ne_of hfA hb17).symm
    have hJ' := hJ.fresh (x := .cells zero7) hb17
    have ho' := h16.fresh (x := .cells zero7) hb17
    simp only [zero7] at hJ' ho'
    simp only [hne, hfA, go_sem, Nat.reduceEqDiff, Nat.reduceAdd, Nat.reduceSub, Nat.reduceLeDiff, Nat.reduceLT, Nat.reduceMul, Int.reduceEq, Int.reduceLT, Int.reduceLE, Int.reduceNeg, Int.reduceToNat, Int.reduceAdd, Int.reduceSub, Int.cast_ofNat_Int, Int.cast_ofNat_Int, reduceCtorEq, ↓reduceIte, Bool.false_eq_true, decide_true, decide_false, eq_self, Bool.not_true, Bool.not_false]
    refine (frameAtoms_run hJ'.fr ho'.at (by omega)).go ?_
    rintro w A' ⟨rfl, rfl⟩
    rw [hG]
    simp only [h2, hne, hfA, hG1, go_sem, Nat.reduceEqDiff, Nat.reduceAdd, Nat.reduceSub, Nat.reduceLeDiff, Nat.reduceLT, Nat.reduceMul, Int.reduceEq, Int.reduceLT, Int.reduceLE, Int.reduceNeg, Int.reduceToNat, Int.reduceAdd, Int.reduceSub, Int.cast_ofNat_Int, Int.cast_ofNat_Int, reduceCtorEq, ↓reduceIte, Bool.false_eq_true, decide_true, decide_false, eq_self, Bool.not_true, Bool.not_false]
    exact Here.mk ⟨b17, hJ.fresh hb17, ⟨h0, h2, h4, h6⟩, h7, by show OutI B _ (f 16) sh; rw [hv]; exact h16.fresh hb17, rfl, hJ.mj.le.none hb17, Heap.set_same _ _ _⟩
  clear hJ hS h7 h16
  rintro f A ⟨b17, hJ, hS, h7, h16, h17, hb170, hb17⟩
  refine nwp_then (fun f A => PartJ B bm bf mt s A ∧ PartS bm bf b4 b6 f ∧ f 7 = .int .i64 m ∧ OutI B A (f 18) sh ∧ f 17 = .ptr b17 0 ∧ A b17 = some (.cells [.int .i64 14, .int .i64 s.next, .int .i64 0, .str [], G, .nilslice, .nilslice])) ?_ ?_
  · generalize hv : f 16 = v at h16
    simp only [n_flatten_maker_group_r24, hv, go_sem, Nat.reduceEqDiff, Nat.reduceAdd, Nat.reduceSub, Nat.reduceLeDiff, Nat.reduceLT, Nat.reduceMul, Int.reduceEq, Int.reduceLT, Int.reduceLE, Int.reduceNeg, Int.reduceToNat, Int.reduceAdd, Int.reduceSub, Int.cast_ofNat_Int, Int.cast_ofNat_Int, reduceCtorEq, ↓reduceIte, Bool.false_eq_true, decide_true, decide_false, eq_self, Bool.not_true, Bool.not_false]
    refine Clone_run h16 (by omega) fun v2 A' hle ho => ?_
    try simp only [go_sem, Nat.reduceEqDiff, Nat.reduceAdd, Nat.reduceSub, Nat.reduceLeDiff, Nat.reduceLT, Nat.reduceMul, Int.reduceEq, Int.reduceLT, Int.reduceLE, Int.reduceNeg, Int.reduceToNat, Int.reduceAdd, Int.reduceSub, Int.cast_ofNat_Int, Int.cast_ofNat_Int, reduceCtorEq, ↓reduceIte, Bool.false_eq_true, decide_true, decide_false, eq_self, Bool.not_true, Bool.not_false]
    refine Here.mk ⟨hJ.mono hle, hS, h7, ?_, h17, hle.get _ _ hb17⟩
    show OutI B A' v2 sh
    exact ho.base fun b e o n c hv => by
      rcases ho with ⟨h, _⟩ | ⟨b', h, h', h0, _⟩
      · rw [h] at hv; cases hv
      · rw [h] at hv; cases hv
        exact hJ.mj.le.none h0
  clear hJ hS h7 h16 h17 hb17
  rintro f A ⟨hJ, hS, h7, h18, h17, hb17⟩
  refine nwp_cut (fun f A => PartJ B bm bf mt ⟨s.funs, (xs.foldl (fun fr x => newF fr x.n) (s.to, s.next)).1, (xs.foldl (fun fr x => newF fr x.n) (s.to, s.next)).2⟩ A ∧ PartS bm bf b4 b6 f ∧ f 7 = .int .i64 m ∧ OutI B A (f 18) (sh ++ xs.map Core.n) ∧ f 17 = .ptr b17 0 ∧ A b17 = some (.cells [.int .i64 14, .int .i64 s.next, .int .i64 0, .str [], G, .nilslice, .nilslice])) ?_ fun f A ⟨q1, q2, q3, q4, q5, q6⟩ => hQ f A b17 q1 q2 q3 q5 hb170 q6 q4
  refine nwp_then (fun f A => PartJ B bm bf mt s A ∧ PartS bm bf b4 b6 f ∧ f 7 = .int .i64 m ∧ OutI B A (f 18) sh ∧ f 17 = .ptr b17 0 ∧ A b17 = some (.cells [.int .i64 14, .int .i64 s.next, .int .i64 0, .str [], G, .nilslice, .nilslice]) ∧ f 82 = encSl false 7 (xs.map Core.enc) ∧ f 83 = .int .i64 m ∧ f 84 = .int .i64 0) ?_ ?_
  · obtain ⟨h0, h2, h4, h6⟩ := hS
    have hb4A := hJ.mj.le.get _ _ hb4
    simp only [n_flatten_maker_group_r25, h4, h7, hb4A, hsl, lenAV_encSl, List.length_map, hxl, go_sem, Nat.reduceEqDiff, Nat.reduceAdd, Nat.reduceSub, Nat.reduceLeDiff, Nat.reduceLT, Nat.reduceMul, Int.reduceEq, Int.reduceLT, Int.reduceLE, Int.reduceNeg, Int.reduceToNat, Int.reduceAdd, Int.reduceSub, Int.cast_ofNat_Int, Int.cast_ofNat_Int, reduceCtorEq, ↓reduceIte, Bool.false_eq_true, decide_true, decide_false, eq_self, Bool.not_true, Bool.not_false]
    exact Here.mk ⟨hJ, ⟨h0, h2, h4, h6⟩, h7, h18, h17, hb17, rfl, rfl, rfl⟩
  clear hJ hS h7 h18 h17 hb17
  rintro f A ⟨hJ, hS, h7, h18, h17, hb17, h82, h83, h84⟩
  refine nwp_for (ti := 84) (tn := 83) (tt := 85) (tw := 97) (id := 6) (id2 := 7) m (by omega) (fun i f A => PartJ B bm bf mt ⟨s.funs, ((xs.take i).foldl (fun fr x => newF fr x.n) (s.to, s.next)).1, ((xs.take i).foldl (fun fr x => newF fr x.n) (s.to, s.next)).2⟩ A ∧ PartS bm bf b4 b6 f ∧ f 7 = .int .i64 m ∧ OutI B A (f 18) (sh ++ (xs.take i).map Core.n) ∧ f 17 = .ptr b17 0 ∧
    A b17 = some (.cells [.int .i64 14, .int .i64 s.next, .int .i64 0, .str [], G, .nilslice, .nilslice]) ∧ f 82 = encSl false 7 (xs.map Core.enc)) (by decide) ?_ h84 h83 ⟨hJ, hS, h7, by simpa using h18, h17, hb17, h82⟩ ?_ ?_
  · rintro i f A d v hd ⟨q1, q2, q3, q4, q5, q6, q7⟩
    rcases hd with rfl | rfl | rfl
    all_goals exact ⟨q1, q2, q3, q4, q5, q6, q7⟩
  · rintro i f A hi ⟨hJ, hS, h7, h18, h17, hb17, h82⟩ h84 h83
    rw [← hxl] at hi
    have hix := indexAddr_encSl false 7 (xs.map Core.enc) i xs[i].enc (by rw [List.getElem?_map, List.getElem?_eq_getElem hi]; rfl)
    have hte := Core.take_enc xs[i]
    have hne := Core.n_enc xs[i]
    have hym := Core.mine xs[i]
    have htl : (sh ++ (xs.take i).map Core.n).length ≤ sh.length + i := by
      rw [List.length_append, List.length_map, List.length_take]
      omega
    have htn : (xs.take (i + 1)).map Core.n = (xs.take i).map Core.n ++ [xs[i].n] := by rw [List.take_add_one, List.getElem?_eq_getElem hi, List.map_append]; rfl
    rw [foldl_take _ _ _ _ hi, htn, ← List.append_assoc]
    generalize sh ++ (xs.take i).map Core.n = cap at h18 htl ⊢
    generalize (xs.take i).foldl (fun fr x => newF fr x.n) (s.to, s.next) = fr at hJ ⊢
    generalize xs[i] = y at hix hte hne hym ⊢
    refine nwp_then (fun f A => ∃ b20, PartJ B bm bf mt ⟨s.funs, fr.1, fr.2⟩ A ∧ PartS bm bf b4 b6 f ∧ f 7 = .int .i64 m ∧ OutI B A (f 18) cap ∧ f 17 = .ptr b17 0 ∧ A b17 = some (.cells [.int .i64 14, .int .i64 s.next, .int .i64 0, .str [], G, .nilslice, .nilslice]) ∧ f 82 = encSl false 7 (xs.map Core.enc) ∧ f 83 = .int .i64 m ∧ f 84 = .int .i64 i ∧ f 20 = .ptr b20 0 ∧ A b20 = some (.cells y.enc.cells)) ?_ ?_
    · simp only [n_flatten_maker_group_r27, h82, h84, hix, hte, go_sem, Nat.reduceEqDiff, Nat.reduceAdd, Nat.reduceSub, Nat.reduceLeDiff, Nat.reduceLT, Nat.reduceMul, Int.reduceEq, Int.reduceLT, Int.reduceLE, Int.reduceNeg, Int.reduceToNat, Int.reduceAdd, Int.reduceSub, Int.cast_ofNat_Int, Int.cast_ofNat_Int, reduceCtorEq, ↓reduceIte, Bool.false_eq_true, decide_true, decide_false, eq_self, Bool.not_true, Bool.not_false]
      intro b20 hb20
      exact Here.mk ⟨b20, hJ.fresh hb20, hS, h7, h18.fresh hb20, h17, Heap.keep hb17 hb20, h82, h83, h84, rfl, by simp [Core.enc_cells]⟩
    clear hJ hS h7 h18 h17 hb17 h82 h83 h84
    rintro f A ⟨b20, hJ, hS, h7, h18, h17, hb17, h82, h83, h84, h20, hb20⟩
    refine nwp_then (fun f A => PartJ B bm bf mt ⟨s.funs, (newF fr y.n).1, (newF fr y.n).2⟩ A ∧ PartS bm bf b4 b6 f ∧ f 7 = .int .i64 m ∧ OutI B A (f 18) cap ∧ f 17 = .ptr b17 0 ∧ A b17 = some (.cells [.int .i64 14, .int .i64 s.next, .int .i64 0, .str [], G, .nilslice, .nilslice]) ∧ f 82 = encSl false 7 (xs.map Core.enc) ∧ f 83 = .int .i64 m ∧ f 84 = .int .i64 i ∧ f 20 = .ptr b20 0 ∧ A b20 = some (.cells y.enc.cells)) ?_ ?_
    · obtain ⟨h0, h2, h4, h6⟩ := hS
      simp only [n_flatten_maker_group_r28, h2, h20, hb20, hne, go_sem, Nat.reduceEqDiff, Nat.reduceAdd, Nat.reduceSub, Nat.reduceLeDiff, Nat.reduceLT, Nat.reduceMul, Int.reduceEq, Int.reduceLT, Int.reduceLE, Int.reduceNeg, Int.reduceToNat, Int.reduceAdd, Int.reduceSub, Int.cast_ofNat_Int, Int.cast_ofNat_Int, reduceCtorEq, ↓reduceIte, Bool.false_eq_true, decide_true, decide_false, eq_self, Bool.not_true, Bool.not_false]
      refine new_run hJ.fr ?_
      have hkp := @new_keep bf mt fr.1 fr.2 A hJ.fr (mapB (AV.int .i64) (mput fr.1 y.n fr.2)) (.cells [.map mt, .int .i64 (IntKind.i64.wrap (fr.2 + 1))])
      try simp only [go_sem, Nat.reduceEqDiff, Nat.reduceAdd, Nat.reduceSub, Nat.reduceLeDiff, Nat.reduceLT, Nat.reduceMul, Int.reduceEq, Int.reduceLT, Int.reduceLE, Int.reduceNeg, Int.reduceToNat, Int.reduceAdd, Int.reduceSub, Int.cast_ofNat_Int, Int.cast_ofNat_Int, reduceCtorEq, ↓reduceIte, Bool.false_eq_true, decide_true, decide_false, eq_self, Bool.not_true, Bool.not_false]
      exact Here.mk ⟨hJ.new y.n, ⟨h0, h2, h4, h6⟩, h7, h18.keepm hkp, h17, hkp _ _ hb17 out_mine, h82, h83, h84, h20, hkp _ _ hb20 hym⟩
    clear hJ hS h7 h18 h17 hb17 h82 h83 h84 h20 hb20
    rintro f A ⟨hJ, hS, h7, h18, h17, hb17, h82, h83, h84, h20, hb20⟩
    refine nwp_last (fun f A => PartJ B bm bf mt ⟨s.funs, (newF fr y.n).1, (newF fr y.n).2⟩ A ∧ PartS bm bf b4 b6 f ∧ f 7 = .int .i64 m ∧ OutI B A (f 18) (cap ++ [y.n]) ∧ f 17 = .ptr b17 0 ∧ A b17 = some (.cells [.int .i64 14, .int .i64 s.next, .int .i64 0, .str [], G, .nilslice, .nilslice]) ∧ f 82 = encSl false 7 (xs.map Core.enc) ∧ f 83 = .int .i64 m ∧ f 84 = .int .i64 i) ?_
      fun f A ⟨q1, q2, q3, q4, q5, q6, q7, q8, q9⟩ => ⟨⟨q1, q2, q3, q4, q5, q6, q7⟩, q9, q8⟩
    generalize hv : f 18 = v at h18
    simp only [n_flatten_maker_group_r29, h20, hb20, hne, hv, go_sem, Nat.reduceEqDiff, Nat.reduceAdd, Nat.reduceSub, Nat.reduceLeDiff, Nat.reduceLT, Nat.reduceMul, Int.reduceEq, Int.reduceLT, Int.reduceLE, Int.reduceNeg, Int.reduceToNat, Int.reduceAdd, Int.reduceSub, Int.cast_ofNat_Int, Int.cast_ofNat_Int, reduceCtorEq, ↓reduceIte, Bool.false_eq_true, decide_true, decide_false, eq_self, Bool.not_true, Bool.not_false]
    intro b hb
    have h18' := h18.fresh (x := .cells [.int .i64 y.n]) hb
    have hb17' := Heap.keep (x := .cells [.int .i64 y.n]) hb17 hb
    have hJ' := hJ.fresh (x := .cells [.int .i64 y.n]) hb
    refine append_ints (m := [y.n]) h18' hJ'.mj.le (src_one _ _ _) (by simp only [List.length_singleton]; omega) fun v' A' ho hle hfr => ?_
    try simp only [go_sem, Nat.reduceEqDiff, Nat.reduceAdd, Nat.reduceSub, Nat.reduceLeDiff, Nat.reduceLT, Nat.reduceMul, Int.reduceEq, Int.reduceLT, Int.reduceLE, Int.reduceNeg, Int.reduceToNat, Int.reduceAdd, Int.reduceSub, Int.cast_ofNat_Int, Int.cast_ofNat_Int, reduceCtorEq, ↓reduceIte, Bool.false_eq_true, decide_true, decide_false, eq_self, Bool.not_true, Bool.not_false]
    refine Here.mk ⟨hJ'.move hle (h18'.grown hfr), hS, h7, ho, h17, hfr _ _ hb17' fun e o n k he => ?_, h82, h83, h84⟩
    exact h18'.ne7 hb17' _ _ _ _ _ he rfl
  · rintro f A ⟨q1, q2, q3, q4, q5, q6, q7⟩
    rw [List.take_of_length_le (by omega)] at q1 q4
    exact ⟨q1, q2, q3, q4, q5, q6⟩

end Go.NL

/- flatten: maker.group: its functions, its end. -/
set_option linter.unusedVariables false
set_option linter.unusedSimpArgs false
set_option maxRecDepth 10000
namespace Go.NL
open Go.Proofs

/-- A block that is mine may be held fast. -/
theorem PartJ.adopt {B : Heap} {bm bf mt : Nat} {s : MS} {A : Heap} (h : PartJ B bm bf mt s A) {c : Nat} {cs : List AV} (hc : A c = some (.cells cs)) (hm : Mine cs) : ∃ B2 : Heap, B.le B2 ∧ B2 c = some (.cells cs) ∧ PartJ B2 bm bf mt s A ∧ ∀ d, d ≠ c → B2 d = B d := by
  obtain ⟨B', hB', hle', hk⟩ := h.rebase
  have hBc := hk c cs hc hm
  have hn : ∀ d, B' d = none → d ≠ c := fun d hd e => by subst e; rw [hBc] at hd; cases hd
  refine ⟨fun d => if d = c then some (.cells cs) else B d, ⟨fun d y hd => ?_⟩, by simp, ?_, fun d hd => by simp [hd]⟩
  · by_cases e : d = c
    · subst e
      have := h.mj.le.get _ _ hd
      rw [hc] at this
      simp [this]
    · simp [e, hd]
  · have hl2 : (Heap.le (fun d => if d = c then some (.cells cs) else B d) B') := ⟨fun d y hd => by
      by_cases e : d = c
      · simp only [e, if_true] at hd
        rw [e, hBc, hd]
      · simp only [e, if_false] at hd
        exact hle'.get d y hd⟩
    exact hB'.base hl2

theorem OutI.adopt {B : Heap} {bm bf mt : Nat} {s : MS} {A : Heap} (h : PartJ B bm bf mt s A) {v : AV} {l : List Int} (ho : OutI B A v l) {b17 : Nat} {x y z : AV} {str : List UInt8} {r : List AV} (h17 : A b17 = some (.cells (x :: y :: z :: .str str :: r))) (h170 : B b17 = none) :
    ∃ B2 : Heap, B.le B2 ∧ PartJ B2 bm bf mt s A ∧ IntsAt B2 v l ∧ B2 b17 = none := by
  have hne := ho.ne7 h17
  rcases ho with ⟨rfl, rfl⟩ | ⟨b, rfl, hb, h0, hn⟩
  · exact ⟨B, .refl _, h, .inl ⟨true, rfl⟩, h170⟩
  · obtain ⟨B2, q1, q2, q3, q4⟩ := h.adopt hb (ints_mine hn)
    exact ⟨B2, q1, q3, .inr ⟨b, _, rfl, q2⟩, by rw [q4 _ (fun e => hne _ _ _ _ _ rfl e.symm)]; exact h170⟩

theorem sizes_take_le : ∀ (l : List Core) (i : Nat), Core.sizes (l.take i) ≤ Core.sizes l
  | [], i => by simp
  | c :: l, 0 => by simp [Core.sizes]
  | c :: l, i + 1 => by
    have := sizes_take_le l i
    simp only [List.take_succ_cons, Core.sizes]
    omega
theorem sizes_take_succ (l : List Core) (i : Nat) (h : i < l.length) : Core.sizes (l.take i) + l[i].size ≤ Core.sizes l := by
  have := sizes_take_le l (i + 1)
  rw [List.take_add_one, List.getElem?_eq_getElem h] at this
  have h2 : Core.sizes (l.take i ++ [l[i]]) ≤ Core.sizes l := this
  rw [Core.sizes_app] at h2
  simp only [Core.sizes] at h2
  omega

/-- A group that is told. -/
theorem group_ret {B : Heap} {bm bf mt : Nat} {st : MS} {A : Heap} (hJ : PartJ B bm bf mt st A) {nx : Int} {sa : List Atom} {vT : AV} {tg : List Int} {b : Nat} {r : Core} (hT : OutI B A vT tg) (hb : A b = some (.cells r.enc.cells)) (h0 : B b = none) :
    ∃ A', Wk A (.agg [.int .i64 14, .int .i64 nx, .int .i64 0, .str [], encSl true 3 (sa.map Atom.enc), vT, .slice 7 b 0 1 (.eq 1)]) A' (Core.mk 14 nx 0 [] true sa true tg true [r]).enc ∧ PartJ B bm bf mt st A' := by
  have hrm := r.mine
  have hbf : A b = some (.cells (([r].map Core.enc).flatMap AV.cells)) := by simpa using hb
  -- the parts
  have hw1 := Wk.frz (A := A) (v := .agg [.int .i64 14, .int .i64 nx, .int .i64 0, .str [], encSl true 3 (sa.map Atom.enc), vT, .slice 7 b 0 1 (.eq 1)]) 7 ([r].map Core.enc) hbf (cores_cells [r])
  have hv1 : vT.frz0 b 7 ([r].map Core.enc) = vT := by
    rcases hT with ⟨rfl, _⟩ | ⟨b', rfl, _⟩
    · rfl
    · simp [AV.frz0]
  have hL : (AV.slice 7 b 0 1 (.eq 1)).frz0 b 7 ([r].map Core.enc) = encSl true 7 ([r].map Core.enc) := by simp [AV.frz0, encSl]
  have hi : ∀ (k : IntKind) (n : Int), (AV.int k n).frz0 b 7 ([r].map Core.enc) = .int k n := fun _ _ => rfl
  have hs : ∀ (s : List UInt8), (AV.str s).frz0 b 7 ([r].map Core.enc) = .str s := fun _ => rfl
  simp only [AV.frz, AV.frz1, List.map_cons, List.map_nil] at hw1 hL hv1 hi hs
  simp only [frz0_enc, hv1, hL, hi, hs] at hw1
  have hJ1 : PartJ B bm bf mt st (A.del b) := hJ.move ⟨fun c y hc => by
    have hne : c ≠ b := fun e => by subst e; rw [h0] at hc; cases hc
    simp [Heap.del, hne, hJ.mj.le.get c y hc]⟩ fun c y hc hy => by
    have hne : c ≠ b := fun e => by
      subst e
      rw [hb] at hc
      cases hc
      exact hy _ rfl hrm
    simp [Heap.del, hne, hc]
  have he : (Core.mk 14 nx 0 [] true sa true tg true [r]).enc = .agg [.int .i64 14, .int .i64 nx, .int .i64 0, .str [], encSl true 3 (sa.map Atom.enc), encSl true 1 (tg.map encInt), encSl true 7 ([r].map Core.enc)] := by simp only [Core.enc, encsL]
  rw [he]
  simp only [List.map_cons, List.map_nil]
  rcases hT with ⟨rfl, rfl⟩ | ⟨b', rfl, hb', h0', hn⟩
  · exact ⟨A.del b, hw1, hJ1⟩
  · have hbb : b' ≠ b := fun e => by
      subst e
      rw [hb] at hb'
      injection hb' with hb'
      injection hb' with hb'
      obtain ⟨k, x, n, s, na, a', nt, t, nl, l'⟩ := r
      have h4 := congrArg (fun cs => cs[3]?) hb'
      simp only [Core.enc, AV.cells, List.getElem?_cons_succ, List.getElem?_cons_zero, ints, List.getElem?_map] at h4
      cases hq : tg[3]? with
      | none => rw [hq] at h4; cases h4
      | some q => rw [hq] at h4; cases h4
    have hb'' : (A.del b) b' = some (.cells ((tg.map encInt).flatMap AV.cells)) := by rw [flat_ints]; simp [Heap.del, hbb, hb']
    have hw2 := Wk.frz (A := A.del b) (v := .agg [.int .i64 14, .int .i64 nx, .int .i64 0, .str [], encSl true 3 (sa.map Atom.enc), .slice 1 b' 0 tg.length (.ge tg.length), encSl true 7 [r.enc]]) 1 (tg.map encInt) hb'' (by simp [encInt, AV.cells])
    have hT2 : (AV.slice 1 b' 0 tg.length (.ge tg.length)).frz0 b' 1 (tg.map encInt) = encSl true 1 (tg.map encInt) := by simp [AV.frz0, encSl, hn]
    have hi : ∀ (k : IntKind) (n : Int), (AV.int k n).frz0 b' 1 (tg.map encInt) = .int k n := fun _ _ => rfl
    have hs : ∀ (s : List UInt8), (AV.str s).frz0 b' 1 (tg.map encInt) = .str s := fun _ => rfl
    simp only [AV.frz, AV.frz1, List.map_cons, List.map_nil] at hw2
    simp only [frz0_enc, hT2, hi, hs] at hw2
    refine ⟨(A.del b).del b', hw1.trans hw2, hJ1.move ⟨fun c y hc => ?_⟩ fun c y hc hy => ?_⟩
    · have hne : c ≠ b' := fun e => by subst e; rw [h0'] at hc; cases hc
      show ((A.del b).del b') c = some y
      have := hJ1.mj.le.get c y hc
      simp [Heap.del, hne] at this ⊢
      exact this
    · have hne : c ≠ b' := fun e => by
        subst e
        rw [hb''] at hc
        cases hc
        rw [flat_ints] at hy
        exact hy _ rfl (ints_mine hn)
      show ((A.del b).del b') c = some y
      simp [Heap.del, hne] at hc ⊢
      exact hc

end Go.NL

/- flatten: maker.group: the rest of the walk. -/
set_option linter.unusedVariables false
set_option linter.unusedSimpArgs false
set_option maxRecDepth 10000
namespace Go.NL
open Go.Proofs

theorem getD_eq (l : List Core) (m : Nat) (hm : l.length = m + 1) : l[m]? = some (l.getD m Core.zero) := by
  rw [List.getD_eq_getElem?_getD, List.getElem?_eq_getElem (by omega)]
  rfl

set_option maxHeartbeats 2000000 in
theorem group_finish {N : Nat} {c : Core} {m : Nat} (hm : c.l.length = m + 1) (hml : m ≤ big) (hfn : ∀ x ∈ c.l.take m, x.l ≠ [] ∧ PartOk N (x.l.headD Core.zero) ∧ Grows (partW N) (x.l.headD Core.zero)) (hlast : PartOk N (c.l.getD m Core.zero))
    {A0 B A : Heap} {bm bf mt b4 b6 b17 : Nat} {st : MS} {cap : List Int} {nx : Int} {sa : List Atom} {f : Fr} (hAB : A0.le B) (hJ : PartJ B bm bf mt st A) (hS : PartS bm bf b4 b6 f) (hb4 : B b4 = some (.cells c.enc.cells)) (hb6 : B b6 = some (.cells zero7)) (hb60 : A0 b6 = none)
    (h7 : f 7 = .int .i64 m) (h17 : f 17 = .ptr b17 0) (hb170 : B b17 = none) (hb17 : A b17 = some (.cells [.int .i64 14, .int .i64 nx, .int .i64 0, .str [], encSl true 3 (sa.map Atom.enc), .nilslice, .nilslice])) (h18 : OutI B A (f 18) cap) (hcap : cap.length ≤ big)
    (hsz : st.funs.length + Core.sizes (c.l.take m) + (c.l.getD m Core.zero).size ≤ big) {K : AV → Heap → Prop}
    (hK : ∀ A', PartJ A0 bm bf mt (partW N (c.l.getD m Core.zero) ⟨(groupFuns (partW N) cap (c.l.take m) ([], st.funs)).2, st.to, st.next⟩).2 A' →
      K (Core.mk 14 nx 0 [] true sa true (groupFuns (partW N) cap (c.l.take m) ([], st.funs)).1 true [(partW N (c.l.getD m Core.zero) ⟨(groupFuns (partW N) cap (c.l.take m) ([], st.funs)).2, st.to, st.next⟩).1]).enc A') :
    nwp Try.prog (.seq (.seq (.region n_flatten_maker_group_r32 []) (.block 8 (.loop n_flatten_maker_group_l37))) (.seq (.region n_flatten_maker_group_r38 []) (.seq (.region n_flatten_maker_group_r39 []) .ret))) (retP [.cell 6 (some 7)] K) f A := by
  have hbig : big = 1099511627776 := rfl
  obtain ⟨k, x, n, str, na, a, nt, t, nl, l⟩ := c
  simp only [Core.l] at hm hfn hlast hsz hK
  have hCe : (Core.mk k x n str na a nt t nl l).enc.cells = [.int .i64 k, .int .i64 x, .int .i64 n, .str str, encSl na 3 (a.map Atom.enc), encSl nt 1 (t.map encInt), encSl nl 7 (l.map Core.enc)] := by simp only [Core.enc, encsL, AV.cells]
  rw [hCe] at hb4
  have hlne : l.map Core.enc ≠ [] := by intro h; have := congrArg List.length h; simp [hm] at this
  have hsl := slice_encSl nl 7 (l.map Core.enc) m (by simp; omega) hlne
  have hxl : (l.take m).length = m := by simp; omega
  have hxe : (l.map Core.enc).take m = (l.take m).map Core.enc := by rw [List.map_take]
  rw [hxe] at hsl
  have hil := indexAddr_encSl nl 7 (l.map Core.enc) m (l.getD m Core.zero).enc (by rw [List.getElem?_map, getD_eq l m hm]; rfl)
  have htl := Core.take_enc (l.getD m Core.zero)
  generalize l.take m = xs at hsl hxl hfn hsz hK
  generalize l.getD m Core.zero = last at hil htl hlast hsz hK
  generalize hG : encSl true 3 (sa.map Atom.enc) = G at hb17
  have hG1 : G.one = true ∧ G.cells = [G] := by rw [← hG]; exact ⟨oneSl _ _ _, encSl_cells _ _ _⟩
  have hgl := fun i => @groupFuns_len (partW N) cap (xs.take i) ([], st.funs) (fun x hx => (hfn x (List.mem_of_mem_take hx)).1) (fun x hx => (hfn x (List.mem_of_mem_take hx)).2.2)
  -- what is captured is held fast
  obtain ⟨B2, hBB2, hJ2, hat, hb172⟩ := h18.adopt hJ hb17 hb170
  replace hb4 := hBB2.get _ _ hb4
  replace hb6 := hBB2.get _ _ hb6
  replace hAB := hAB.trans hBB2
  clear hJ h18 hBB2 hb170
  generalize hv : f 18 = v at hat
  refine nwp_cut (fun f A => ∃ vT, PartJ B2 bm bf mt ⟨(groupFuns (partW N) cap xs ([], st.funs)).2, st.to, st.next⟩ A ∧ PartS bm bf b4 b6 f ∧ f 7 = .int .i64 m ∧ f 17 = .ptr b17 0 ∧ A b17 = some (.cells [.int .i64 14, .int .i64 nx, .int .i64 0, .str [], G, vT, .nilslice]) ∧ OutI B2 A vT (groupFuns (partW N) cap xs ([], st.funs)).1) ?_ ?_
  · refine nwp_then (fun f A => PartJ B2 bm bf mt st A ∧ PartS bm bf b4 b6 f ∧ f 7 = .int .i64 m ∧ f 17 = .ptr b17 0 ∧ f 18 = v ∧ A b17 = some (.cells [.int .i64 14, .int .i64 nx, .int .i64 0, .str [], G, .nilslice, .nilslice]) ∧ f 101 = encSl false 7 (xs.map Core.enc) ∧ f 102 = .int .i64 m ∧ f 103 = .int .i64 0) ?_ ?_
    · obtain ⟨h0, h2, h4, h6⟩ := hS
      have hb4A := hJ2.mj.le.get _ _ hb4
      simp only [n_flatten_maker_group_r32, h4, h7, hb4A, hsl, lenAV_encSl, List.length_map, hxl, go_sem, Nat.reduceEqDiff, Nat.reduceAdd, Nat.reduceSub, Nat.reduceLeDiff, Nat.reduceLT, Nat.reduceMul, Int.reduceEq, Int.reduceLT, Int.reduceLE, Int.reduceNeg, Int.reduceToNat, Int.reduceAdd, Int.reduceSub, Int.cast_ofNat_Int, Int.cast_ofNat_Int, reduceCtorEq, ↓reduceIte, Bool.false_eq_true, decide_true, decide_false, eq_self, Bool.not_true, Bool.not_false]
      exact Here.mk ⟨hJ2, ⟨h0, h2, h4, h6⟩, h7, h17, hv, hb17, rfl, rfl, rfl⟩
    clear hJ2 hS h7 h17 hv hb17
    rintro f A ⟨hJ, hS, h7, h17, h18, hb17, h101, h102, h103⟩
    refine nwp_for (ti := 103) (tn := 102) (tt := 104) (tw := 116) (id := 8) (id2 := 9) m (by omega) (fun i f A => ∃ vT, PartJ B2 bm bf mt ⟨(groupFuns (partW N) cap (xs.take i) ([], st.funs)).2, st.to, st.next⟩ A ∧ PartS bm bf b4 b6 f ∧ f 7 = .int .i64 m ∧ f 17 = .ptr b17 0 ∧ f 18 = v ∧ A b17 = some (.cells [.int .i64 14, .int .i64 nx, .int .i64 0, .str [], G, vT, .nilslice]) ∧
      OutI B2 A vT (groupFuns (partW N) cap (xs.take i) ([], st.funs)).1 ∧ f 101 = encSl false 7 (xs.map Core.enc)) (by decide) ?_ h103 h102 ⟨.nilslice, hJ, hS, h7, h17, h18, hb17, .nil _ _, h101⟩ ?_ ?_
    · rintro i f A d v hd ⟨vT, q1, q2, q3, q4, q5, q6, q7, q8⟩
      rcases hd with rfl | rfl | rfl
      all_goals exact ⟨vT, q1, q2, q3, q4, q5, q6, q7, q8⟩
    · rintro i f A hi ⟨vT, hJ, hS, h7, h17, h18, hb17, hT, h101⟩ h103 h102
      rw [← hxl] at hi
      have hix := indexAddr_encSl false 7 (xs.map Core.enc) i xs[i].enc (by rw [List.getElem?_map, List.getElem?_eq_getElem hi]; rfl)
      have hte := Core.take_enc xs[i]
      have hym := Core.mine xs[i]
      obtain ⟨hyn, hyp, hyg⟩ := hfn xs[i] (List.getElem_mem hi)
      have hst := sizes_take_succ xs i hi
      have hg := hgl i
      have hgs : groupFuns (partW N) cap (xs.take (i + 1)) ([], st.funs) = ((groupFuns (partW N) cap (xs.take i) ([], st.funs)).1 ++ [((groupFuns (partW N) cap (xs.take i) ([], st.funs)).2.length : Int)], funW (partW N) xs[i] cap (groupFuns (partW N) cap (xs.take i) ([], st.funs)).2) := foldl_take _ _ _ _ hi
      rw [hgs]
      have htk : (xs.take i).length ≤ i := by rw [List.length_take]; omega
      generalize groupFuns (partW N) cap (xs.take i) ([], st.funs) = tf at hJ hT hg ⊢
      obtain ⟨tg, fs⟩ := tf
      simp only [List.length_nil] at hJ hT hg ⊢
      generalize xs[i] = y at hix hte hym hyn hyp hyg hst ⊢
      have hfun := @fun_run N y hyn hyp hyg
      refine nwp_then (fun f A => ∃ b22, PartJ B2 bm bf mt ⟨fs, st.to, st.next⟩ A ∧ PartS bm bf b4 b6 f ∧ f 7 = .int .i64 m ∧ f 17 = .ptr b17 0 ∧ f 18 = v ∧ A b17 = some (.cells [.int .i64 14, .int .i64 nx, .int .i64 0, .str [], G, vT, .nilslice]) ∧ OutI B2 A vT tg ∧ f 101 = encSl false 7 (xs.map Core.enc) ∧ f 102 = .int .i64 m ∧ f 103 = .int .i64 i ∧ f 22 = .ptr b22 0 ∧ A b22 = some (.cells y.enc.cells)) ?_ ?_
      · simp only [n_flatten_maker_group_r34, h101, h103, hix, hte, go_sem, Nat.reduceEqDiff, Nat.reduceAdd, Nat.reduceSub, Nat.reduceLeDiff, Nat.reduceLT, Nat.reduceMul, Int.reduceEq, Int.reduceLT, Int.reduceLE, Int.reduceNeg, Int.reduceToNat, Int.reduceAdd, Int.reduceSub, Int.cast_ofNat_Int, Int.cast_ofNat_Int, reduceCtorEq, ↓reduceIte, Bool.false_eq_true, decide_true, decide_false, eq_self, Bool.not_true, Bool.not_false]
        intro b22 hb22
        exact Here.mk ⟨b22, hJ.fresh hb22, hS, h7, h17, h18, Heap.keep hb17 hb22, hT.fresh hb22, h101, h102, h103, rfl, by simp [Core.enc_cells]⟩
      clear hJ hS h7 h17 h18 hb17 hT h101 h102 h103
      rintro f A ⟨b22, hJ, hS, h7, h17, h18, hb17, hT, h101, h102, h103, h22, hb22⟩
      refine nwp_last (fun f A => ∃ vT, PartJ B2 bm bf mt ⟨funW (partW N) y cap fs, st.to, st.next⟩ A ∧ PartS bm bf b4 b6 f ∧ f 7 = .int .i64 m ∧ f 17 = .ptr b17 0 ∧ f 18 = v ∧ A b17 = some (.cells [.int .i64 14, .int .i64 nx, .int .i64 0, .str [], G, vT, .nilslice]) ∧ OutI B2 A vT (tg ++ [(fs.length : Int)]) ∧ f 101 = encSl false 7 (xs.map Core.enc) ∧ f 102 = .int .i64 m ∧ f 103 = .int .i64 i) ?_
        fun f A ⟨vT, q1, q2, q3, q4, q5, q6, q7, q8, q9, q10⟩ => ⟨⟨vT, q1, q2, q3, q4, q5, q6, q7, q8⟩, q10, q9⟩
      obtain ⟨h0, h2, h4, h6⟩ := hS
      obtain ⟨B', hMJ, hBB, hkc, hkm, hkp⟩ := hJ.mj.rebase
      simp only [n_flatten_maker_group_r35, h0, h17, h18, h22, hb17, hb22, hte, go_sem, Nat.reduceEqDiff, Nat.reduceAdd, Nat.reduceSub, Nat.reduceLeDiff, Nat.reduceLT, Nat.reduceMul, Int.reduceEq, Int.reduceLT, Int.reduceLE, Int.reduceNeg, Int.reduceToNat, Int.reduceAdd, Int.reduceSub, Int.cast_ofNat_Int, Int.cast_ofNat_Int, reduceCtorEq, ↓reduceIte, Bool.false_eq_true, decide_true, decide_false, eq_self, Bool.not_true, Bool.not_false]
      refine hfun hMJ (hat.le hBB) hcap (by simp only; omega) fun A' hM' => ?_
      have hb17A' := hM'.le.get _ _ (hkc _ _ hb17 out_mine)
      have hJ' : PartJ B2 bm bf mt ⟨funW (partW N) y cap fs, st.to, st.next⟩ A' := ⟨hM'.base hBB, ⟨hM'.le.get _ _ (hkm _ _ _ hJ.fr.f), hM'.le.get _ _ (hkp _ _ _ hJ.fr.m)⟩, hJ.nf, hJ.nt⟩
      have hT' : OutI B2 A' vT tg := hT.keepm fun c cs hc hm => hM'.le.get _ _ (hkc c cs hc hm)
      simp only [h17, hb17A', go_sem, Nat.reduceEqDiff, Nat.reduceAdd, Nat.reduceSub, Nat.reduceLeDiff, Nat.reduceLT, Nat.reduceMul, Int.reduceEq, Int.reduceLT, Int.reduceLE, Int.reduceNeg, Int.reduceToNat, Int.reduceAdd, Int.reduceSub, Int.cast_ofNat_Int, Int.cast_ofNat_Int, reduceCtorEq, ↓reduceIte, Bool.false_eq_true, decide_true, decide_false, eq_self, Bool.not_true, Bool.not_false]
      intro b hb
      have hne := (Heap.ne_of hb17A' hb).symm
      refine ⟨by simp only [hne, go_sem, Nat.reduceEqDiff, Nat.reduceAdd, Nat.reduceSub, Nat.reduceLeDiff, Nat.reduceLT, Nat.reduceMul, Int.reduceEq, Int.reduceLT, Int.reduceLE, Int.reduceNeg, Int.reduceToNat, Int.reduceAdd, Int.reduceSub, Int.cast_ofNat_Int, Int.cast_ofNat_Int, reduceCtorEq, ↓reduceIte, Bool.false_eq_true, decide_true, decide_false, eq_self, Bool.not_true, Bool.not_false], ?_⟩
      have hT'' := hT'.fresh (x := .cells [.int .i64 fs.length]) hb
      have hb17'' := Heap.keep (x := .cells [.int .i64 fs.length]) hb17A' hb
      have hJ'' := hJ'.fresh (x := .cells [.int .i64 fs.length]) hb
      refine append_ints (m := [(fs.length : Int)]) hT'' hJ''.mj.le (src_one _ _ _) (by simp only [List.length_singleton]; omega) fun v' A2 ho hle hfr => ?_
      have hb172A := hfr _ _ hb17'' fun e o n k he => hT''.ne7 hb17'' _ _ _ _ _ he rfl
      obtain ⟨ho1, hc1⟩ := ho.one
      simp only [h17, hb172A, hc1, ho1, go_sem, Nat.reduceEqDiff, Nat.reduceAdd, Nat.reduceSub, Nat.reduceLeDiff, Nat.reduceLT, Nat.reduceMul, Int.reduceEq, Int.reduceLT, Int.reduceLE, Int.reduceNeg, Int.reduceToNat, Int.reduceAdd, Int.reduceSub, Int.cast_ofNat_Int, Int.cast_ofNat_Int, reduceCtorEq, ↓reduceIte, Bool.false_eq_true, decide_true, decide_false, eq_self, Bool.not_true, Bool.not_false]
      refine Here.mk ⟨v', (hJ''.move hle (hT''.grown hfr)).other hb172A out_mine hb172, ⟨h0, h2, h4, h6⟩, h7, h17, h18, Heap.set_same _ _ _, ho.other fun e b' o n k hv' => ho.ne7 hb172A _ _ _ _ _ hv', h101, h102, h103⟩
    · rintro f A ⟨vT, q1, q2, q3, q4, q5, q6, q7, q8⟩
      rw [List.take_of_length_le (by omega)] at q1 q7
      exact ⟨vT, q1, q2, q3, q4, q6, q7⟩
  clear hJ2 hS h7 h17 hv hb17
  have hg := hgl m
  rw [List.take_of_length_le (by omega)] at hg
  generalize groupFuns (partW N) cap xs ([], st.funs) = tf at hK hg
  obtain ⟨tg, fs⟩ := tf
  simp only [List.length_nil] at hK hg
  rintro f A ⟨vT, hJ, hS, h7, h17, hb17, hT⟩
  simp only at hJ hT
  refine nwp_then (fun f A => ∃ b, PartJ B2 bm bf mt (partW N last ⟨fs, st.to, st.next⟩).2 A ∧ PartS bm bf b4 b6 f ∧ f 17 = .ptr b17 0 ∧ A b17 = some (.cells [.int .i64 14, .int .i64 nx, .int .i64 0, .str [], G, vT, .slice 7 b 0 1 (.eq 1)]) ∧ OutI B2 A vT tg ∧ A b = some (.cells (partW N last ⟨fs, st.to, st.next⟩).1.enc.cells) ∧ B2 b = none) ?_ ?_
  · obtain ⟨h0, h2, h4, h6⟩ := hS
    have hb4A := hJ.mj.le.get _ _ hb4
    obtain ⟨B', hPJ, hBB, hkc⟩ := hJ.rebase
    have hcells := (partW N last ⟨fs, st.to, st.next⟩).1.enc_cells
    have hones := (partW N last ⟨fs, st.to, st.next⟩).1.one_enc
    simp only [n_flatten_maker_group_r38, h0, h2, h4, h7, hb4A, hil, htl, go_sem, Nat.reduceEqDiff, Nat.reduceAdd, Nat.reduceSub, Nat.reduceLeDiff, Nat.reduceLT, Nat.reduceMul, Int.reduceEq, Int.reduceLT, Int.reduceLE, Int.reduceNeg, Int.reduceToNat, Int.reduceAdd, Int.reduceSub, Int.cast_ofNat_Int, Int.cast_ofNat_Int, reduceCtorEq, ↓reduceIte, Bool.false_eq_true, decide_true, decide_false, eq_self, Bool.not_true, Bool.not_false]
    refine hlast hPJ (by simp only; omega) fun A' hJ' => ?_
    have hb17A' := hJ'.mj.le.get _ _ (hkc _ _ hb17 out_mine)
    have hT' : OutI B2 A' vT tg := hT.keepm fun c cs hc hm => hJ'.mj.le.get _ _ (hkc c cs hc hm)
    have hJ'' := hJ'.base hBB
    simp only [go_sem, Nat.reduceEqDiff, Nat.reduceAdd, Nat.reduceSub, Nat.reduceLeDiff, Nat.reduceLT, Nat.reduceMul, Int.reduceEq, Int.reduceLT, Int.reduceLE, Int.reduceNeg, Int.reduceToNat, Int.reduceAdd, Int.reduceSub, Int.cast_ofNat_Int, Int.cast_ofNat_Int, reduceCtorEq, ↓reduceIte, Bool.false_eq_true, decide_true, decide_false, eq_self, Bool.not_true, Bool.not_false]
    intro b hb
    have hne := (Heap.ne_of hb17A' hb).symm
    simp only [h17, hne, hb17A', go_sem, Nat.reduceEqDiff, Nat.reduceAdd, Nat.reduceSub, Nat.reduceLeDiff, Nat.reduceLT, Nat.reduceMul, Int.reduceEq, Int.reduceLT, Int.reduceLE, Int.reduceNeg, Int.reduceToNat, Int.reduceAdd, Int.reduceSub, Int.cast_ofNat_Int, Int.cast_ofNat_Int, reduceCtorEq, ↓reduceIte, Bool.false_eq_true, decide_true, decide_false, eq_self, Bool.not_true, Bool.not_false]
    have hb17'' := Heap.keep (x := .cells (partW N last ⟨fs, st.to, st.next⟩).1.enc.cells) hb17A' hb
    have hT'' := hT'.fresh (x := .cells (partW N last ⟨fs, st.to, st.next⟩).1.enc.cells) hb
    refine Here.mk ⟨b, (hJ''.fresh hb).other hb17'' out_mine hb172, ⟨h0, h2, h4, h6⟩, h17, Heap.set_same _ _ _, hT''.other fun e b' o n k hv' => hT''.ne7 hb17'' _ _ _ _ _ hv', ?_, hJ''.mj.le.none hb⟩
    rw [Heap.set_other _ _ (Heap.ne_of hb17A' hb)]
    exact Heap.set_same _ _ _
  clear hJ hS h7 h17 hb17 hT hlast
  generalize partW N last ⟨fs, st.to, st.next⟩ = r at hK
  rintro f A ⟨b, hJ, hS, h17, hb17, hT, hb, hb0⟩
  refine nwp_then (fun f A => PartJ A0 bm bf mt r.2 A ∧ f 6 = .ptr b6 0 ∧ A b6 = some (.cells [.int .i64 14, .int .i64 nx, .int .i64 0, .str [], G, vT, .slice 7 b 0 1 (.eq 1)]) ∧ OutI A0 A vT tg ∧ A b = some (.cells r.1.enc.cells) ∧ A0 b = none) ?_ ?_
  · obtain ⟨h0, h2, h4, h6⟩ := hS
    have hb6A := hJ.mj.le.get _ _ hb6
    obtain ⟨hvT, _⟩ := hT.one
    simp only [zero7] at hb6A
    simp only [n_flatten_maker_group_r39, h6, h17, hb17, hb6A, hvT, hG1, go_sem, Nat.reduceEqDiff, Nat.reduceAdd, Nat.reduceSub, Nat.reduceLeDiff, Nat.reduceLT, Nat.reduceMul, Int.reduceEq, Int.reduceLT, Int.reduceLE, Int.reduceNeg, Int.reduceToNat, Int.reduceAdd, Int.reduceSub, Int.cast_ofNat_Int, Int.cast_ofNat_Int, reduceCtorEq, ↓reduceIte, Bool.false_eq_true, decide_true, decide_false, eq_self, Bool.not_true, Bool.not_false]
    have hbb6 : b ≠ b6 := fun e => by subst e; rw [hb6] at hb0; cases hb0
    refine Here.mk ⟨(hJ.base hAB).other hb6A zero7_mine hb60, h6, Heap.set_same _ _ _, ?_, by rw [Heap.set_other _ _ hbb6]; exact hb, hAB.none hb0⟩
    have hT0 : OutI A0 A vT tg := hT.base fun b' e o n c hv' => by
      rcases hT with ⟨h, _⟩ | ⟨b'', h, _, h0, _⟩
      · rw [h] at hv'; cases hv'
      · rw [h] at hv'; cases hv'
        exact hAB.none h0
    exact hT0.other fun e b' o n k hv' => hT.ne7 hb6A _ _ _ _ _ hv'
  clear hJ hS h17 hb17 hT hb hb0
  rintro f A ⟨hJ, h6, hb6A, hT, hb, hb0⟩
  obtain ⟨A', hw, hJ'⟩ := @group_ret A0 bm bf mt r.2 A hJ nx sa vT tg b r.1 hT hb hb0
  rw [hG] at hw
  exact ⟨_, by simp only [resAV_one_c, h6, hb6A, load_blk, loadB_some]; rfl, A', _, hw, hK _ hJ'⟩

end Go.NL

/- flatten: maker.group, maker.part: what they do. -/
set_option linter.unusedVariables false
set_option linter.unusedSimpArgs false
set_option maxRecDepth 10000
namespace Go.NL
open Go.Proofs

set_option maxHeartbeats 1000000 in
theorem group_run (N : Nat) (c : Core) (hok : c.Ok) (hk : c.kind = 8) (hin : ∀ x : Core, x.size < c.size → x.Ok → PartOk N x ∧ Grows (partW N) x) : GroupOk N c := by
  intro A0 A bm bf mt s K hJ hlen hK
  have hbig : big = 1099511627776 := rfl
  obtain ⟨hne, hfn⟩ := hok.rec1 hk
  have hm : c.l.length = (c.l.length - 1) + 1 := by have := List.length_pos_iff.2 hne; omega
  have hsz := sizes_take c.l hne
  have hcs : c.size = 1 + Core.sizes c.l := by cases c; simp [Core.size, Core.l]
  have hca : Core.atomss c.l ≤ c.atoms := by cases c; simp [Core.atoms, Core.l]
  have hll := Core.len_le c.l
  have hq := hok.sz
  have hgl : c.l.length ≤ big := by omega
  have hxv : ∀ x ∈ c.l.take (c.l.length - 1), x.vars = true := fun x hx => (hok.sub (List.mem_of_mem_take hx)).vr
  have hsh : (groupShared (c.l.take (c.l.length - 1))).length ≤ c.atoms := by
    have h1 := (groupAll_ok (groupNames (c.l.take (c.l.length - 1))) (c.l.take (c.l.length - 1)) 0 [] (.nil _) hxv).ln
    have h2 : ∀ (l : List Core) (m : Nat), Core.atomss (l.take m) ≤ Core.atomss l := by
      intro l
      induction l with
      | nil => intro m; simp
      | cons c l ih =>
        intro m
        cases m with
        | zero => simp [Core.atomss]
        | succ m => simp only [List.take_succ_cons, Core.atomss]; have := ih m; omega
    have h3 := h2 c.l (c.l.length - 1)
    simp only [groupShared, List.length_mergeSort, List.length_map, groupAll]
    omega
  have hsub : ∀ x ∈ c.l, x.size < c.size := fun x hx => by have := Core.size_mem hx; omega
  have hfn' : ∀ x ∈ c.l.take (c.l.length - 1), x.l ≠ [] ∧ PartOk N (x.l.headD Core.zero) ∧ Grows (partW N) (x.l.headD Core.zero) := fun x hx => by
    have hx' := List.mem_of_mem_take hx
    have h1 := hfn x hx
    have h2 := head_size h1
    have h3 := hsub x hx'
    exact ⟨h1, hin _ (by omega) ((hok.sub hx').sub (head_mem h1))⟩
  obtain ⟨hlast, _⟩ := hin _ (hsub _ (getD_mem c.l hne)) (hok.sub (getD_mem c.l hne))
  simp only [groupW] at hK
  generalize c.l.length - 1 = m at *
  refine NCalls.of_body c_flatten_maker_group (Nat.le_of_ble_eq_true rfl) ?_
  simp only [n_flatten_maker_group]
  refine group_shared hok hm hJ fun f A B b4 b6 v hAB hJ hS hb4 hb6 hb60 h7 h16 ho => ?_
  refine group_captured hm (by omega) hJ hS hb4 h7 (by rw [h16]; exact ho) (by omega) fun f A b17 hJ hS h7 h17 hb170 hb17 h18 => ?_
  refine group_finish hm (by omega) hfn' hlast hAB hJ hS hb4 hb6 hb60 h7 h17 hb170 hb17 h18 ?_ ?_ hK
  · rw [List.length_append, List.length_map, List.length_take]
    omega
  · simp only
    omega

theorem part_all : ∀ (N : Nat) (c : Core), c.size ≤ N → c.Ok → PartOk N c ∧ Grows (partW N) c := by
  intro N
  induction N with
  | zero => intro c hc; have := c.size_pos; omega
  | succ N ih =>
    intro c hc hok
    have hin : ∀ x : Core, x.size < c.size → x.Ok → PartOk N x ∧ Grows (partW N) x := fun x hx hxo => ih x (by omega) hxo
    have hsub : ∀ x ∈ c.l, x.size < c.size := fun x hx => by
      have := Core.size_mem hx
      have hcs : c.size = 1 + Core.sizes c.l := by cases c; simp [Core.size, Core.l]
      omega
    exact ⟨part_run N c hok (fun x hx => hin x (hsub x hx) (hok.sub hx)) (fun hk => group_run N c hok hk hin), partW_len (N + 1) c hc hok⟩

end Go.NL

set_option linter.unusedVariables false
set_option linter.unusedSimpArgs false
set_option maxRecDepth 10000
namespace Go.NL
open Go.Proofs

theorem many_loop (n : Nat) (hn : n ≤ 1099511627776) (ih : ∀ (c : Core), c.size ≤ n → NPure Try.prog F_flatten_many [c.enc] (.tuple [.int .i64 c.funs, .bool c.wide]))
    (l : List Core) (hl : Core.sizes l ≤ n) (nl : Bool) (Q : Post) (f : Fr) (A : Heap) (c : Nat) (hc : c ≤ 1) (w : Bool) (h26 : f 26 = encSl nl 7 (Core.encs l)) (h27 : f 27 = .int .i64 l.length) (h28 : f 28 = .int .i64 0)
    (h4 : f 4 = .int .i64 c) (h5 : f 5 = .bool w)
    (hQ : ∀ f' A', A.le A' → f' 4 = .int .i64 ((c + Core.funsL l : Nat) : Int) → f' 5 = .bool (w || Core.wideL l) → Q .normal f' A') :
    nwp Try.prog (.block 0 (.loop n_flatten_many_l10)) Q f A := by
  refine nwp_block (nwp_loop (fun m f' A' => A.le A' ∧ ∃ i l', m = l'.length ∧ l = i ++ l' ∧ f' 26 = encSl nl 7 (Core.encs l) ∧ f' 27 = .int .i64 l.length ∧ f' 28 = .int .i64 i.length ∧ f' 4 = .int .i64 ((c + Core.funsL i : Nat) : Int) ∧ f' 5 = .bool (w || Core.wideL i)) ?_ ?_ (n := l.length))
  · exact ⟨.refl _, [], l, rfl, rfl, h26, h27, by simpa using h28, by simpa [Core.funsL] using h4, by simpa [Core.wideL] using h5⟩
  · clear h26 h27 h28 h4 h5
    rintro m f A' ⟨hA, i, l', rfl, rfl, h26, h27, h28, h4, h5⟩
    unfold n_flatten_many_l10
    refine nwp_seq fun K hK => nwp_region ?_
    unfold n_flatten_many_r5
    simp only [h27, h28, go_sem, Nat.reduceEqDiff, Nat.reduceAdd, Nat.reduceSub, Nat.reduceLeDiff, Nat.reduceLT, Nat.reduceMul, Int.reduceEq, Int.reduceLT, Int.reduceLE, Int.reduceNeg, Int.reduceToNat, Int.reduceAdd, Int.reduceSub, Int.cast_ofNat_Int, Int.cast_ofNat_Int, reduceCtorEq, ↓reduceIte, Bool.false_eq_true, decide_true, decide_false, eq_self, Bool.not_true, Bool.not_false]
    refine hK _ _ ?_; clear hK K
    refine nwp_seq fun K hK => ?_
    cases l' with
    | nil =>
      refine nwp_false ?_ ?_
      · simp [evalOpd, Fr.set]
      · simp only [nwp, thenP, blockP, if_true]
        refine hQ _ _ hA ?_ ?_
        · simp [Fr.set, h4]
        · simp [Fr.set, h5]
    | cons x l' =>
      refine nwp_true ?_ (hK _ _ ?_)
      · simp [evalOpd, Fr.set]; omega
      · clear hK K
        refine nwp_seq fun K hK => nwp_block ?_
        refine nwp_seq fun K2 hK2 => nwp_region ?_
        unfold n_flatten_many_r6
        have hix := indexAddr_encSl nl 7 (Core.encs (i ++ x :: l')) i.length x.enc (encs_get (by simp))
        simp only [h26, h27, h28, hix, go_sem, Nat.reduceEqDiff, Nat.reduceAdd, Nat.reduceSub, Nat.reduceLeDiff, Nat.reduceLT, Nat.reduceMul, Int.reduceEq, Int.reduceLT, Int.reduceLE, Int.reduceNeg, Int.reduceToNat, Int.reduceAdd, Int.reduceSub, Int.cast_ofNat_Int, Int.cast_ofNat_Int, reduceCtorEq, ↓reduceIte, Bool.false_eq_true, decide_true, decide_false, eq_self, Bool.not_true, Bool.not_false]
        intro b hb
        refine hK2 _ _ ?_; clear hK2 K2
        refine nwp_seq fun K2 hK2 => nwp_region ?_
        unfold n_flatten_many_r7
        simp only [go_sem, Nat.reduceEqDiff, Nat.reduceAdd, Nat.reduceSub, Nat.reduceLeDiff, Nat.reduceLT, Nat.reduceMul, Int.reduceEq, Int.reduceLT, Int.reduceLE, Int.reduceNeg, Int.reduceToNat, Int.reduceAdd, Int.reduceSub, Int.cast_ofNat_Int, Int.cast_ofNat_Int, reduceCtorEq, ↓reduceIte, Bool.false_eq_true, decide_true, decide_false, eq_self, Bool.not_true, Bool.not_false]
        refine (ih x (by simp only [Core.sizes_app, Core.sizes] at hl; omega)).call ?_
        simp only [go_sem, Nat.reduceEqDiff, Nat.reduceAdd, Nat.reduceSub, Nat.reduceLeDiff, Nat.reduceLT, Nat.reduceMul, Int.reduceEq, Int.reduceLT, Int.reduceLE, Int.reduceNeg, Int.reduceToNat, Int.reduceAdd, Int.reduceSub, Int.cast_ofNat_Int, Int.cast_ofNat_Int, reduceCtorEq, ↓reduceIte, Bool.false_eq_true, decide_true, decide_false, eq_self, Bool.not_true, Bool.not_false]
        refine hK2 _ _ ?_; clear hK2 K2
        refine nwp_region ?_
        unfold n_flatten_many_r8
        simp only [h4, h5, go_sem, Nat.reduceEqDiff, Nat.reduceAdd, Nat.reduceSub, Nat.reduceLeDiff, Nat.reduceLT, Nat.reduceMul, Int.reduceEq, Int.reduceLT, Int.reduceLE, Int.reduceNeg, Int.reduceToNat, Int.reduceAdd, Int.reduceSub, Int.cast_ofNat_Int, Int.cast_ofNat_Int, reduceCtorEq, ↓reduceIte, Bool.false_eq_true, decide_true, decide_false, eq_self, Bool.not_true, Bool.not_false]
        have hfx : x.funs ≤ n := by
          have := x.funs_le
          simp only [Core.sizes_app, Core.sizes] at hl
          omega
        have hfi : Core.funsL i ≤ n := by
          have := Core.funsL_le i
          simp only [Core.sizes_app, Core.sizes] at hl
          omega
        have hli : i.length ≤ n := by
          have := Core.len_le i
          simp only [Core.sizes_app, Core.sizes] at hl
          omega
        have hw1 : IntKind.i64.wrap (↑(c + Core.funsL i) + ↑x.funs) = ((c + Core.funsL (i ++ [x]) : Nat) : Int) := by
          rw [i64w (by omega) (by omega)]
          simp [Core.funsL_app, Core.funsL]
          omega
        have hw2 : IntKind.i64.wrap (↑i.length + 1) = ((i ++ [x]).length : Nat) := by
          rw [i64w (by omega) (by omega)]
          simp
        have hw3 : (w || Core.wideL (i ++ [x])) = ((w || Core.wideL i) || x.wide) := by
          rw [Core.wideL_app, ← Bool.or_assoc]
          simp only [Core.wideL, Bool.or_false]
        refine ifBool_cases (fun hwi => ?_) fun hwi => ?_
        all_goals
          simp only [hwi, go_sem, Nat.reduceEqDiff, Nat.reduceAdd, Nat.reduceSub, Nat.reduceLeDiff, Nat.reduceLT, Nat.reduceMul, Int.reduceEq, Int.reduceLT, Int.reduceLE, Int.reduceNeg, Int.reduceToNat, Int.reduceAdd, Int.reduceSub, Int.cast_ofNat_Int, Int.cast_ofNat_Int, reduceCtorEq, ↓reduceIte, Bool.false_eq_true, decide_true, decide_false, eq_self, Bool.not_true, Bool.not_false]
          refine hK _ _ ?_; clear hK K
          refine nwp_region ?_
          unfold n_flatten_many_r9
          simp only [hw1, h28, hw2, go_sem, Nat.reduceEqDiff, Nat.reduceAdd, Nat.reduceSub, Nat.reduceLeDiff, Nat.reduceLT, Nat.reduceMul, Int.reduceEq, Int.reduceLT, Int.reduceLE, Int.reduceNeg, Int.reduceToNat, Int.reduceAdd, Int.reduceSub, Int.cast_ofNat_Int, Int.cast_ofNat_Int, reduceCtorEq, ↓reduceIte, Bool.false_eq_true, decide_true, decide_false, eq_self, Bool.not_true, Bool.not_false]
          refine ⟨l'.length, Nat.lt_succ_self _, hA.set hb, i ++ [x], l', rfl, by simp, h26, h27, rfl, rfl, ?_⟩
          rw [hw3, hwi]
          simp only [Bool.true_or, Bool.false_or]
          try rfl

theorem many_spec : ∀ (n : Nat) (c : Core), c.size ≤ n → n ≤ 1099511627776 → NPure Try.prog F_flatten_many [c.enc] (.tuple [.int .i64 c.funs, .bool c.wide]) := by
  intro n
  induction n with
  | zero => intro c hc; cases c; simp [Core.size] at hc
  | succ n ih =>
    intro c hc hn
    obtain ⟨k, x, nn, s, na, a, nt, t, nl, l⟩ := c
    have hl : Core.sizes l ≤ n := by simp only [Core.size] at hc; omega
    have hll := Core.len_le l
    have ih' := fun c hc => ih c hc (by omega)
    refine NPure.of_body c_flatten_many (Nat.le_of_ble_eq_true rfl) fun A => ?_
    simp only [n_flatten_many]
    refine nwp_seq fun K hK => nwp_region ?_
    unfold n_flatten_many_r0
    simp only [Core.enc, go_sem, Nat.reduceEqDiff, Nat.reduceAdd, Nat.reduceSub, Nat.reduceLeDiff, Nat.reduceLT, Nat.reduceMul, Int.reduceEq, Int.reduceLT, Int.reduceLE, Int.reduceNeg, Int.reduceToNat, Int.reduceAdd, Int.reduceSub, Int.cast_ofNat_Int, Int.cast_ofNat_Int, reduceCtorEq, ↓reduceIte, Bool.false_eq_true, decide_true, decide_false, eq_self, Bool.not_true, Bool.not_false]
    intro b hb
    refine hK _ _ ?_; clear hK K
    have hwl : IntKind.i64.wrap (↑l.length - 1) = (l.length : Int) - 1 := i64w (by omega) (by omega)
    have fin : ∀ (f : Fr) (A' : Heap) (c : Nat) (w : Bool), c ≤ 1 → f 1 = .ptr b 0 → f 4 = .int .i64 c → f 5 = .bool w → A.le A' → A' b = some (.cells [.int .i64 k, .int .i64 x, .int .i64 nn, .str s, encSl na 3 (a.map Atom.enc), encSl nt 1 (t.map encInt), encSl nl 7 (Core.encs l)]) →
        c = (if k = 7 then 1 else 0) → w = (decide (k = 8) && decide (1024 < (l.length : Int) - 1)) →
        nwp Try.prog (.seq (.seq (.region n_flatten_many_r4 []) (.block 0 (.loop n_flatten_many_l10))) (.seq (.region n_flatten_many_r11 []) .ret)) (retP [.slot 2, .slot 3] fun v' A' => v' = .tuple [.int .i64 (Core.mk k x nn s na a nt t nl l).funs, .bool (Core.mk k x nn s na a nt t nl l).wide] ∧ A' = A) f A' := by
      intro f A' c w hc1 h1 h4 h5 hA hb hcv hwv
      refine nwp_seq fun K hK => nwp_seq fun K2 hK2 => nwp_region ?_
      unfold n_flatten_many_r4
      simp only [h1, hb, encs_length, go_sem, Nat.reduceEqDiff, Nat.reduceAdd, Nat.reduceSub, Nat.reduceLeDiff, Nat.reduceLT, Nat.reduceMul, Int.reduceEq, Int.reduceLT, Int.reduceLE, Int.reduceNeg, Int.reduceToNat, Int.reduceAdd, Int.reduceSub, Int.cast_ofNat_Int, Int.cast_ofNat_Int, reduceCtorEq, ↓reduceIte, Bool.false_eq_true, decide_true, decide_false, eq_self, Bool.not_true, Bool.not_false]
      refine hK2 _ _ ?_; clear hK2 K2
      refine many_loop n (by omega) ih' l hl nl _ _ _ c hc1 w rfl rfl rfl h4 h5 fun f' A'' hA' h4 h5 => ?_
      refine hK _ _ ?_; clear hK K
      refine nwp_seq fun K hK => nwp_region ?_
      unfold n_flatten_many_r11
      simp only [h4, h5, go_sem, Nat.reduceEqDiff, Nat.reduceAdd, Nat.reduceSub, Nat.reduceLeDiff, Nat.reduceLT, Nat.reduceMul, Int.reduceEq, Int.reduceLT, Int.reduceLE, Int.reduceNeg, Int.reduceToNat, Int.reduceAdd, Int.reduceSub, Int.cast_ofNat_Int, Int.cast_ofNat_Int, reduceCtorEq, ↓reduceIte, Bool.false_eq_true, decide_true, decide_false, eq_self, Bool.not_true, Bool.not_false]
      refine hK _ _ ?_; clear hK K
      show retP _ _ .ret _ _
      refine ⟨_, rfl, A, _, .sub (hA.trans hA').get, ?_, rfl⟩
      simp only [Core.funs, Core.wide, hcv, hwv]; rfl
    refine nwp_seq fun K hK => nwp_region ?_
    unfold n_flatten_many_r1
    by_cases hk8 : k = 8
    · subst hk8
      simp only [lenAV_encSl, encs_length, hwl, go_sem, Nat.reduceEqDiff, Nat.reduceAdd, Nat.reduceSub, Nat.reduceLeDiff, Nat.reduceLT, Nat.reduceMul, Int.reduceEq, Int.reduceLT, Int.reduceLE, Int.reduceNeg, Int.reduceToNat, Int.reduceAdd, Int.reduceSub, Int.cast_ofNat_Int, Int.cast_ofNat_Int, reduceCtorEq, ↓reduceIte, Bool.false_eq_true, decide_true, decide_false, eq_self, Bool.not_true, Bool.not_false]
      refine hK _ _ ?_; clear hK K
      refine nwp_seq fun K hK => nwp_seq fun K2 hK2 => nwp_region ?_
      unfold n_flatten_many_r2
      simp only [go_sem, Nat.reduceEqDiff, Nat.reduceAdd, Nat.reduceSub, Nat.reduceLeDiff, Nat.reduceLT, Nat.reduceMul, Int.reduceEq, Int.reduceLT, Int.reduceLE, Int.reduceNeg, Int.reduceToNat, Int.reduceAdd, Int.reduceSub, Int.cast_ofNat_Int, Int.cast_ofNat_Int, reduceCtorEq, ↓reduceIte, Bool.false_eq_true, decide_true, decide_false, eq_self, Bool.not_true, Bool.not_false]
      refine hK2 _ _ ?_; clear hK2 K2
      refine nwp_false rfl ?_
      simp only [nwp, thenP]
      refine hK _ _ (fin _ _ 0 _ (Nat.zero_le _) rfl rfl rfl ((Heap.le.refl _).set hb) (Heap.set_same _ _ _) rfl (by simp))
    · simp only [hk8, go_sem, Nat.reduceEqDiff, Nat.reduceAdd, Nat.reduceSub, Nat.reduceLeDiff, Nat.reduceLT, Nat.reduceMul, Int.reduceEq, Int.reduceLT, Int.reduceLE, Int.reduceNeg, Int.reduceToNat, Int.reduceAdd, Int.reduceSub, Int.cast_ofNat_Int, Int.cast_ofNat_Int, reduceCtorEq, ↓reduceIte, Bool.false_eq_true, decide_true, decide_false, eq_self, Bool.not_true, Bool.not_false]
      refine hK _ _ ?_; clear hK K
      refine nwp_seq fun K hK => nwp_seq fun K2 hK2 => nwp_region ?_
      unfold n_flatten_many_r2
      simp only [go_sem, Nat.reduceEqDiff, Nat.reduceAdd, Nat.reduceSub, Nat.reduceLeDiff, Nat.reduceLT, Nat.reduceMul, Int.reduceEq, Int.reduceLT, Int.reduceLE, Int.reduceNeg, Int.reduceToNat, Int.reduceAdd, Int.reduceSub, Int.cast_ofNat_Int, Int.cast_ofNat_Int, reduceCtorEq, ↓reduceIte, Bool.false_eq_true, decide_true, decide_false, eq_self, Bool.not_true, Bool.not_false]
      refine hK2 _ _ ?_; clear hK2 K2
      by_cases hk7 : k = 7
      · subst hk7
        refine nwp_true rfl ?_
        refine nwp_region ?_
        unfold n_flatten_many_r3
        simp only [go_sem, Nat.reduceEqDiff, Nat.reduceAdd, Nat.reduceSub, Nat.reduceLeDiff, Nat.reduceLT, Nat.reduceMul, Int.reduceEq, Int.reduceLT, Int.reduceLE, Int.reduceNeg, Int.reduceToNat, Int.reduceAdd, Int.reduceSub, Int.cast_ofNat_Int, Int.cast_ofNat_Int, reduceCtorEq, ↓reduceIte, Bool.false_eq_true, decide_true, decide_false, eq_self, Bool.not_true, Bool.not_false]
        refine hK _ _ (fin _ _ 1 _ (Nat.le_refl _) rfl rfl rfl ((Heap.le.refl _).set hb) (Heap.set_same _ _ _) rfl (by simp))
      · refine nwp_false (by simp [evalOpd, Fr.set, hk7]) ?_
        simp only [nwp, thenP]
        refine hK _ _ (fin _ _ 0 _ (Nat.zero_le _) rfl rfl rfl ((Heap.le.refl _).set hb) (Heap.set_same _ _ _) (by simp [hk7]) (by simp [hk8]))

end Go.NL

/- flatten: Convert. -/
set_option linter.unusedVariables false
set_option linter.unusedSimpArgs false
set_option maxRecDepth 10000
namespace Go.NL
open Go.Proofs

/-- A flat program: its functions, its main part. -/
def encFlat (funs : List FlatF) (main : Core) : AV := .agg (encSl true 8 (encF funs) :: main.enc.cells)

/-- What Convert tells: functions, main part, why not. -/
def Core.convert (c : Core) : List FlatF × Core × Int :=
  if c.check ≠ 0 then ([], Core.zero, c.check)
  else if c.wide = true ∨ 16384 < c.funs then ([], Core.zero, 3)
  else ((partW c.size c ⟨[], [], 0⟩).2.funs, (partW c.size c ⟨[], [], 0⟩).1, 0)

def zero8 : List AV := [.nilslice, .int .i64 0, .int .i64 0, .int .i64 0, .str [], .nilslice, .nilslice, .nilslice]

theorem flat_cells (funs : List FlatF) (main : Core) : (encFlat funs main).cells = encSl true 8 (encF funs) :: main.enc.cells := rfl
theorem take8 (v : AV) (main : Core) : takeAV (some 8) (v :: main.enc.cells) 0 = some (.agg (v :: main.enc.cells)) := by
  obtain ⟨k, x, n, s, na, a, nt, t, nl, l⟩ := main
  rfl

/-- A flat program is told. -/
theorem ret_flat {A0 A : Heap} {f : Fr} {b2 : Nat} {v : AV} {funs : List FlatF} {main : Core} {e : Int} (hle : A0.le A) (h2 : f 2 = .ptr b2 0) (h3 : f 3 = .int .i64 e) (hb : A b2 = some (.cells (v :: main.enc.cells))) (hv : OutL 8 A0 A v (encF funs)) :
    retP [.cell 2 (some 8), .slot 3] (fun v' A' => v' = .tuple [encFlat funs main, .int .i64 e] ∧ A' = A0) .ret f A := by
  have hres : resAV f A [.cell 2 (some 8), .slot 3] = some (.tuple [.agg (v :: main.enc.cells), .int .i64 e]) := by
    simp only [resAV, List.mapM_cons, List.mapM_nil, resOne, h2, h3, load_blk, hb, loadB_some, take8]
    rfl
  rcases hv with ⟨rfl, hn⟩ | ⟨b, rfl, hb8, h0, hne⟩
  · refine ⟨_, hres, A0, _, .sub hle.get, ?_, rfl⟩
    rw [encFlat, hn]
    rfl
  · have hw := Wk.frz (A := A) (v := .tuple [.agg (.slice 8 b 0 (encF funs).length (.ge (encF funs).length) :: main.enc.cells), .int .i64 e]) 8 (encF funs) hb8 (encF_cells funs)
    have hm : (main.enc.cells).map (AV.frz0 b 8 (encF funs)) = main.enc.cells := by
      obtain ⟨k, x, n, s, na, a, nt, t, nl, l⟩ := main
      simp only [Core.enc, encsL, AV.cells, List.map_cons, List.map_nil, frz0_enc]
      rfl
    have hv2 : (AV.slice 8 b 0 (encF funs).length (.ge (encF funs).length)).frz0 b 8 (encF funs) = encSl true 8 (encF funs) := by simp [AV.frz0, encSl, hne]
    have he : (AV.int .i64 e).frz1 b 8 (encF funs) = .int .i64 e := rfl
    simp only [AV.frz, List.map_cons, List.map_nil, he] at hw
    simp only [AV.frz1, List.map_cons, hm, hv2] at hw
    refine ⟨_, hres, A0, _, hw.trans (.sub fun c y hc => ?_), rfl, rfl⟩
    have hne' : c ≠ b := fun e => by subst e; rw [h0] at hc; cases hc
    simp [Heap.del, hne', hle.get c y hc]

set_option maxHeartbeats 1000000 in
theorem Convert_spec (c : Core) (hf : c.Fine) (hok : c.check = 0 → c.Ok) (hsz : c.size ≤ big) : NPure Try.prog F_flatten_Convert [c.enc] (.tuple [encFlat c.convert.1 c.convert.2.1, .int .i64 c.convert.2.2]) := by
  have hbig : big = 1099511627776 := rfl
  refine NPure.of_body c_flatten_Convert (Nat.le_of_ble_eq_true rfl) fun A0 => ?_
  have hte := Core.take_enc c
  have hone := Core.one_enc c
  have hch := coreCheck_spec c hf
  have hmany := many_spec c.size c (Nat.le_refl _) (by omega)
  simp only [n_flatten_Convert]
  refine nwp_then (fun f A => ∃ b1 b2, A0.le A ∧ f 1 = .ptr b1 0 ∧ f 2 = .ptr b2 0 ∧ f 3 = .int .i64 0 ∧ A b1 = some (.cells c.enc.cells) ∧ A b2 = some (.cells zero8) ∧ A0 b2 = none ∧ b1 ≠ b2) ?_ ?_
  · simp only [n_flatten_Convert_r0, go_sem, Nat.reduceEqDiff, Nat.reduceAdd, Nat.reduceSub, Nat.reduceLeDiff, Nat.reduceLT, Nat.reduceMul, Int.reduceEq, Int.reduceLT, Int.reduceLE, Int.reduceNeg, Int.reduceToNat, Int.reduceAdd, Int.reduceSub, Int.cast_ofNat_Int, Int.cast_ofNat_Int, reduceCtorEq, ↓reduceIte, Bool.false_eq_true, decide_true, decide_false, eq_self, Bool.not_true, Bool.not_false]
    rintro b1 hb1 b2 ⟨hne, _, hb2⟩
    have hb2' : (A0.set b1 (.cells c.enc.cells)) b2 = none := by rw [Heap.set_other _ _ hne]; exact hb2
    exact Here.mk ⟨b1, b2, ((Heap.le.refl _).set hb1).set hb2', rfl, rfl, rfl, Heap.keep (Heap.set_same _ _ _) hb2', Heap.set_same _ _ _, hb2, Ne.symm hne⟩
  rintro f A ⟨b1, b2, hle, h1, h2, h3, hb1, hb2, hb20, hne⟩
  refine nwp_cut (fun f A => c.check = 0 ∧ A0.le A ∧ f 1 = .ptr b1 0 ∧ f 2 = .ptr b2 0 ∧ A b1 = some (.cells c.enc.cells) ∧ A b2 = some (.cells zero8)) ?_ ?_
  · refine nwp_then (fun f A => A0.le A ∧ f 1 = .ptr b1 0 ∧ f 2 = .ptr b2 0 ∧ A b1 = some (.cells c.enc.cells) ∧ A b2 = some (.cells zero8) ∧ f 4 = .int .i64 c.check) ?_ ?_
    · simp only [n_flatten_Convert_r1, h1, hb1, hte, go_sem, Nat.reduceEqDiff, Nat.reduceAdd, Nat.reduceSub, Nat.reduceLeDiff, Nat.reduceLT, Nat.reduceMul, Int.reduceEq, Int.reduceLT, Int.reduceLE, Int.reduceNeg, Int.reduceToNat, Int.reduceAdd, Int.reduceSub, Int.cast_ofNat_Int, Int.cast_ofNat_Int, reduceCtorEq, ↓reduceIte, Bool.false_eq_true, decide_true, decide_false, eq_self, Bool.not_true, Bool.not_false]
      refine hch.call ?_
      try simp only [go_sem, Nat.reduceEqDiff, Nat.reduceAdd, Nat.reduceSub, Nat.reduceLeDiff, Nat.reduceLT, Nat.reduceMul, Int.reduceEq, Int.reduceLT, Int.reduceLE, Int.reduceNeg, Int.reduceToNat, Int.reduceAdd, Int.reduceSub, Int.cast_ofNat_Int, Int.cast_ofNat_Int, reduceCtorEq, ↓reduceIte, Bool.false_eq_true, decide_true, decide_false, eq_self, Bool.not_true, Bool.not_false]
      exact Here.mk ⟨hle, h1, h2, hb1, hb2, rfl⟩
    clear hle h1 h2 h3 hb1 hb2
    rintro f A ⟨hle, h1, h2, hb1, hb2, h4⟩
    refine nwp_then (fun f A => A0.le A ∧ f 1 = .ptr b1 0 ∧ f 2 = .ptr b2 0 ∧ A b1 = some (.cells c.enc.cells) ∧ A b2 = some (.cells zero8) ∧ f 4 = .int .i64 c.check ∧ f 13 = .bool (!decide (c.check = 0))) ?_ ?_
    · simp only [n_flatten_Convert_r2, h4, go_sem, Nat.reduceEqDiff, Nat.reduceAdd, Nat.reduceSub, Nat.reduceLeDiff, Nat.reduceLT, Nat.reduceMul, Int.reduceEq, Int.reduceLT, Int.reduceLE, Int.reduceNeg, Int.reduceToNat, Int.reduceAdd, Int.reduceSub, Int.cast_ofNat_Int, Int.cast_ofNat_Int, reduceCtorEq, ↓reduceIte, Bool.false_eq_true, decide_true, decide_false, eq_self, Bool.not_true, Bool.not_false]
      exact Here.mk ⟨hle, h1, h2, hb1, hb2, h4, rfl⟩
    clear hle h1 h2 hb1 hb2 h4
    rintro f A ⟨hle, h1, h2, hb1, hb2, h4, h13⟩
    refine nwp_test _ h13 (fun hc => ?_) fun hc => ?_
    · have hc' : c.check ≠ 0 := by simpa using hc
      refine nwp_then (fun f A => A0.le A ∧ f 2 = .ptr b2 0 ∧ f 3 = .int .i64 c.check ∧ A b2 = some (.cells zero8)) ?_ ?_
      · simp only [zero8] at hb2
        simp only [n_flatten_Convert_r3, h2, h4, hb2, go_sem, Nat.reduceEqDiff, Nat.reduceAdd, Nat.reduceSub, Nat.reduceLeDiff, Nat.reduceLT, Nat.reduceMul, Int.reduceEq, Int.reduceLT, Int.reduceLE, Int.reduceNeg, Int.reduceToNat, Int.reduceAdd, Int.reduceSub, Int.cast_ofNat_Int, Int.cast_ofNat_Int, reduceCtorEq, ↓reduceIte, Bool.false_eq_true, decide_true, decide_false, eq_self, Bool.not_true, Bool.not_false]
        exact Here.mk ⟨hle.set' hb20, h2, rfl, Heap.set_same _ _ _⟩
      rintro f A ⟨hle, h2, h3, hb2⟩
      have hcv : c.convert = ([], Core.zero, c.check) := if_pos hc'
      rw [hcv]
      exact ret_flat (main := Core.zero) hle h2 h3 hb2 (.nil _ _ _)
    · exact ⟨by simpa using hc, hle, h1, h2, hb1, hb2⟩
  clear hle h1 h2 h3 hb1 hb2
  rintro f A ⟨hc0, hle, h1, h2, hb1, hb2⟩
  have hok := hok hc0
  refine nwp_cut (fun f A => ¬ (c.wide = true ∨ 16384 < c.funs) ∧ A0.le A ∧ f 1 = .ptr b1 0 ∧ f 2 = .ptr b2 0 ∧ A b1 = some (.cells c.enc.cells) ∧ A b2 = some (.cells zero8)) ?_ ?_
  · refine nwp_then (fun f A => A0.le A ∧ f 1 = .ptr b1 0 ∧ f 2 = .ptr b2 0 ∧ A b1 = some (.cells c.enc.cells) ∧ A b2 = some (.cells zero8) ∧ f 5 = .int .i64 c.funs ∧ f 6 = .bool c.wide) ?_ ?_
    · simp only [n_flatten_Convert_r4, h1, hb1, hte, go_sem, Nat.reduceEqDiff, Nat.reduceAdd, Nat.reduceSub, Nat.reduceLeDiff, Nat.reduceLT, Nat.reduceMul, Int.reduceEq, Int.reduceLT, Int.reduceLE, Int.reduceNeg, Int.reduceToNat, Int.reduceAdd, Int.reduceSub, Int.cast_ofNat_Int, Int.cast_ofNat_Int, reduceCtorEq, ↓reduceIte, Bool.false_eq_true, decide_true, decide_false, eq_self, Bool.not_true, Bool.not_false]
      refine hmany.call ?_
      simp only [go_sem, Nat.reduceEqDiff, Nat.reduceAdd, Nat.reduceSub, Nat.reduceLeDiff, Nat.reduceLT, Nat.reduceMul, Int.reduceEq, Int.reduceLT, Int.reduceLE, Int.reduceNeg, Int.reduceToNat, Int.reduceAdd, Int.reduceSub, Int.cast_ofNat_Int, Int.cast_ofNat_Int, reduceCtorEq, ↓reduceIte, Bool.false_eq_true, decide_true, decide_false, eq_self, Bool.not_true, Bool.not_false]
      exact Here.mk ⟨hle, h1, h2, hb1, hb2, rfl, rfl⟩
    clear hle h1 h2 hb1 hb2
    rintro f A ⟨hle, h1, h2, hb1, hb2, h5, h6⟩
    refine nwp_then (fun f A => A0.le A ∧ f 1 = .ptr b1 0 ∧ f 2 = .ptr b2 0 ∧ A b1 = some (.cells c.enc.cells) ∧ A b2 = some (.cells zero8) ∧ f 25 = .bool (decide (c.wide = true ∨ 16384 < c.funs))) ?_ ?_
    · cases hw : c.wide
      all_goals
        simp only [n_flatten_Convert_r5, h5, h6, hw, go_sem, Nat.reduceEqDiff, Nat.reduceAdd, Nat.reduceSub, Nat.reduceLeDiff, Nat.reduceLT, Nat.reduceMul, Int.reduceEq, Int.reduceLT, Int.reduceLE, Int.reduceNeg, Int.reduceToNat, Int.reduceAdd, Int.reduceSub, Int.cast_ofNat_Int, Int.cast_ofNat_Int, reduceCtorEq, ↓reduceIte, Bool.false_eq_true, decide_true, decide_false, eq_self, Bool.not_true, Bool.not_false]
        refine Here.mk ⟨hle, h1, h2, hb1, hb2, ?_⟩
        show AV.bool _ = AV.bool _
        congr 1 <;> simp <;> omega
    clear hle h1 h2 hb1 hb2 h5 h6
    rintro f A ⟨hle, h1, h2, hb1, hb2, h25⟩
    refine nwp_test _ h25 (fun hc => ?_) fun hc => ?_
    · have hc' := of_decide_eq_true hc
      refine nwp_then (fun f A => A0.le A ∧ f 2 = .ptr b2 0 ∧ f 3 = .int .i64 3 ∧ A b2 = some (.cells zero8)) ?_ ?_
      · simp only [zero8] at hb2
        simp only [n_flatten_Convert_r6, h2, hb2, go_sem, Nat.reduceEqDiff, Nat.reduceAdd, Nat.reduceSub, Nat.reduceLeDiff, Nat.reduceLT, Nat.reduceMul, Int.reduceEq, Int.reduceLT, Int.reduceLE, Int.reduceNeg, Int.reduceToNat, Int.reduceAdd, Int.reduceSub, Int.cast_ofNat_Int, Int.cast_ofNat_Int, reduceCtorEq, ↓reduceIte, Bool.false_eq_true, decide_true, decide_false, eq_self, Bool.not_true, Bool.not_false]
        exact Here.mk ⟨hle.set' hb20, h2, rfl, Heap.set_same _ _ _⟩
      rintro f A ⟨hle, h2, h3, hb2⟩
      have hcv : c.convert = ([], Core.zero, 3) := by rw [Core.convert, if_neg (by simp [hc0]), if_pos hc']
      rw [hcv]
      exact ret_flat (main := Core.zero) hle h2 h3 hb2 (.nil _ _ _)
    · exact ⟨of_decide_eq_false hc, hle, h1, h2, hb1, hb2⟩
  clear hle h1 h2 hb1 hb2
  rintro f A1 ⟨hw, hle, h1, h2, hb1, hb2⟩
  have hcv : c.convert = ((partW c.size c ⟨[], [], 0⟩).2.funs, (partW c.size c ⟨[], [], 0⟩).1, 0) := by rw [Core.convert, if_neg (by simp [hc0]), if_neg hw]
  rw [hcv]
  obtain ⟨hpart, _⟩ := part_all c.size c (Nat.le_refl _) hok
  refine nwp_then (fun f A => ∃ bm, MakJ A1 bm [] A ∧ f 1 = .ptr b1 0 ∧ f 2 = .ptr b2 0 ∧ f 7 = .ptr bm 0) ?_ ?_
  · simp only [n_flatten_Convert_r7, go_sem, Nat.reduceEqDiff, Nat.reduceAdd, Nat.reduceSub, Nat.reduceLeDiff, Nat.reduceLT, Nat.reduceMul, Int.reduceEq, Int.reduceLT, Int.reduceLE, Int.reduceNeg, Int.reduceToNat, Int.reduceAdd, Int.reduceSub, Int.cast_ofNat_Int, Int.cast_ofNat_Int, reduceCtorEq, ↓reduceIte, Bool.false_eq_true, decide_true, decide_false, eq_self, Bool.not_true, Bool.not_false]
    intro bm hbm
    exact Here.mk ⟨bm, ⟨(Heap.le.refl _).set hbm, hbm, .nilslice, Heap.set_same _ _ _, .nil _ _ _⟩, h1, h2, rfl⟩
  clear h1 h2
  rintro f A ⟨bm, hM, h1, h2, h7⟩
  refine nwp_then (fun f A => ∃ bf mt, PartJ A1 bm bf mt ⟨[], [], 0⟩ A ∧ f 1 = .ptr b1 0 ∧ f 2 = .ptr b2 0 ∧ f 7 = .ptr bm 0 ∧ f 8 = .ptr bf 0) ?_ ?_
  · simp only [n_flatten_Convert_r8, go_sem, Nat.reduceEqDiff, Nat.reduceAdd, Nat.reduceSub, Nat.reduceLeDiff, Nat.reduceLT, Nat.reduceMul, Int.reduceEq, Int.reduceLT, Int.reduceLE, Int.reduceNeg, Int.reduceToNat, Int.reduceAdd, Int.reduceSub, Int.cast_ofNat_Int, Int.cast_ofNat_Int, reduceCtorEq, ↓reduceIte, Bool.false_eq_true, decide_true, decide_false, eq_self, Bool.not_true, Bool.not_false]
    rintro mt hmt bf ⟨hn, _, hbf⟩
    have hbf' : (A.set mt (.map [] 0)) bf = none := by rw [Heap.set_other _ _ hn]; exact hbf
    exact Here.mk ⟨bf, mt, ⟨(hM.fresh hmt).fresh hbf', ⟨Heap.set_same _ _ _, Heap.keep (Heap.set_same _ _ _) hbf'⟩, hM.le.none hbf, hM.le.none hmt⟩, h1, h2, h7, rfl⟩
  clear h1 h2 h7 hM
  rintro f A ⟨bf, mt, hJ, h1, h2, h7, h8⟩
  refine nwp_then (fun f A => ∃ b9, MakJ A1 bm (partW c.size c ⟨[], [], 0⟩).2.funs A ∧ f 2 = .ptr b2 0 ∧ f 7 = .ptr bm 0 ∧ f 9 = .ptr b9 0 ∧ A b9 = some (.cells (partW c.size c ⟨[], [], 0⟩).1.enc.cells)) ?_ ?_
  · have hb1A := hJ.mj.le.get _ _ hb1
    have hcells := (partW c.size c ⟨[], [], 0⟩).1.enc_cells
    simp only [n_flatten_Convert_r9, h1, h7, h8, hb1A, hte, go_sem, Nat.reduceEqDiff, Nat.reduceAdd, Nat.reduceSub, Nat.reduceLeDiff, Nat.reduceLT, Nat.reduceMul, Int.reduceEq, Int.reduceLT, Int.reduceLE, Int.reduceNeg, Int.reduceToNat, Int.reduceAdd, Int.reduceSub, Int.cast_ofNat_Int, Int.cast_ofNat_Int, reduceCtorEq, ↓reduceIte, Bool.false_eq_true, decide_true, decide_false, eq_self, Bool.not_true, Bool.not_false]
    refine hpart hJ (by simp only [List.length_nil]; omega) fun A' hJ' => ?_
    simp only [go_sem, Nat.reduceEqDiff, Nat.reduceAdd, Nat.reduceSub, Nat.reduceLeDiff, Nat.reduceLT, Nat.reduceMul, Int.reduceEq, Int.reduceLT, Int.reduceLE, Int.reduceNeg, Int.reduceToNat, Int.reduceAdd, Int.reduceSub, Int.cast_ofNat_Int, Int.cast_ofNat_Int, reduceCtorEq, ↓reduceIte, Bool.false_eq_true, decide_true, decide_false, eq_self, Bool.not_true, Bool.not_false]
    intro b9 hb9
    exact Here.mk ⟨b9, hJ'.mj.fresh hb9, h2, h7, rfl, Heap.set_same _ _ _⟩
  clear hJ h1 h2 h7 h8 hpart
  generalize partW c.size c ⟨[], [], 0⟩ = r
  rintro f A ⟨b9, hM, h2, h7, h9, hb9⟩
  obtain ⟨v, hv, ho⟩ := hM.v
  refine nwp_then (fun f A => A0.le A ∧ f 2 = .ptr b2 0 ∧ f 3 = .int .i64 0 ∧ A b2 = some (.cells (v :: r.1.enc.cells)) ∧ OutL 8 A0 A v (encF r.2.funs)) ?_ ?_
  · have hb2A := hM.le.get _ _ hb2
    have htr := Core.take_enc r.1
    have hcells := r.1.enc_cells
    have hones := r.1.one_enc
    obtain ⟨ho1, hc1⟩ := ho.one
    simp only [zero8] at hb2A
    simp only [n_flatten_Convert_r10, h2, h7, h9, hv, hb9, hb2A, htr, ho1, hc1, go_sem, Nat.reduceEqDiff, Nat.reduceAdd, Nat.reduceSub, Nat.reduceLeDiff, Nat.reduceLT, Nat.reduceMul, Int.reduceEq, Int.reduceLT, Int.reduceLE, Int.reduceNeg, Int.reduceToNat, Int.reduceAdd, Int.reduceSub, Int.cast_ofNat_Int, Int.cast_ofNat_Int, reduceCtorEq, ↓reduceIte, Bool.false_eq_true, decide_true, decide_false, eq_self, Bool.not_true, Bool.not_false]
    have hle' := hle.trans hM.le
    exact Here.mk ⟨hle'.set' hb20, h2, rfl, Heap.set_same _ _ _, (ho.lower hle).other (ho.old hb2)⟩
  clear hM h2 h7 h9 hb9 hv ho
  rintro f A ⟨hle, h2, h3, hb2, ho⟩
  exact ret_flat hle h2 h3 hb2 ho

end Go.NL

/- flatten: there. -/
set_option linter.unusedVariables false
set_option linter.unusedSimpArgs false
set_option maxRecDepth 10000
namespace Go.NL
open Go.Proofs

/-- Which are seen; is one twice, or one of those from outside? -/
def there1 (free : Int) (fn : Bool) (s : List (Int × Bool) × Bool) (n : Int) : List (Int × Bool) × Bool := (mput s.1 n true, s.2 || ((mget s.1 n).getD false || (fn && decide (n ≤ free))))
def there2 (free : Int) (fn : Bool) (b : Bool) (n : Int) : Bool := b || (!fn || decide (n > free))
def Core.twice (c : Core) (free : Int) (fn : Bool) : Bool := (c.order.foldl (there1 free fn) ([], false)).2
def Core.missing (c : Core) (free : Int) (fn : Bool) : Bool := c.free.foldl (there2 free fn) false

set_option maxHeartbeats 1000000 in
theorem there_spec (c : Core) (free : Int) (fn : Bool) (hg : c.good big = true) (hlen : c.order.length ≤ big) (hv : c.vars = true) (hat : c.atoms ≤ big) : NPure Try.prog F_flatten_there [c.enc, .int .i64 free, .bool fn] (.tuple [.bool (c.twice free fn), .bool (c.missing free fn)]) := by
  have hbig : big = 1099511627776 := rfl
  refine NPure.walk c_flatten_there (Nat.le_of_ble_eq_true rfl) fun A0 => ?_
  have hte := Core.take_enc c
  have hone := Core.one_enc c
  have hor := Order_spec c hg hlen
  have hub := Unbound_spec c hg hv hat
  have hfl := (free_range hv).2
  have h1T : ∀ l, c.order = l → (l.foldl (there1 free fn) ([], false)).2 = c.twice free fn := fun l h => by rw [← h]; rfl
  have h2T : ∀ l, c.free = l → l.foldl (there2 free fn) false = c.missing free fn := fun l h => by rw [← h]; rfl
  generalize c.twice free fn = T1 at h1T ⊢
  generalize c.missing free fn = T2 at h2T ⊢
  generalize hol : c.order = ol at hor hlen h1T
  generalize hul : c.free = ul at hub hfl h2T
  have h1T := h1T ol rfl
  have h2T := h2T ul rfl
  simp only [n_flatten_there]
  refine nwp_then (fun f A => ∃ b3, A0.le A ∧ f 1 = .int .i64 free ∧ f 2 = .bool fn ∧ f 3 = .ptr b3 0 ∧ f 6 = .bool false ∧ f 7 = .bool false ∧ A b3 = some (.cells c.enc.cells)) ?_ ?_
  · simp only [n_flatten_there_r0, go_sem, Nat.reduceEqDiff, Nat.reduceAdd, Nat.reduceSub, Nat.reduceLeDiff, Nat.reduceLT, Nat.reduceMul, Int.reduceEq, Int.reduceLT, Int.reduceLE, Int.reduceNeg, Int.reduceToNat, Int.reduceAdd, Int.reduceSub, Int.cast_ofNat_Int, Int.cast_ofNat_Int, reduceCtorEq, ↓reduceIte, Bool.false_eq_true, decide_true, decide_false, eq_self, Bool.not_true, Bool.not_false]
    intro b hb
    exact Here.mk ⟨b, (Heap.le.refl _).set hb, rfl, rfl, rfl, rfl, rfl, Heap.set_same _ _ _⟩
  rintro f A ⟨b3, hle, h1, h2, h3, h6, h7, hb3⟩
  refine nwp_then (fun f A => ∃ ms, A0.le A ∧ A0 ms = none ∧ f 1 = .int .i64 free ∧ f 2 = .bool fn ∧ f 3 = .ptr b3 0 ∧ f 6 = .bool false ∧ f 7 = .bool false ∧ f 8 = .map ms ∧ A b3 = some (.cells c.enc.cells) ∧ A ms = some (mapB AV.bool [])) ?_ ?_
  · simp only [n_flatten_there_r1, go_sem, Nat.reduceEqDiff, Nat.reduceAdd, Nat.reduceSub, Nat.reduceLeDiff, Nat.reduceLT, Nat.reduceMul, Int.reduceEq, Int.reduceLT, Int.reduceLE, Int.reduceNeg, Int.reduceToNat, Int.reduceAdd, Int.reduceSub, Int.cast_ofNat_Int, Int.cast_ofNat_Int, reduceCtorEq, ↓reduceIte, Bool.false_eq_true, decide_true, decide_false, eq_self, Bool.not_true, Bool.not_false]
    intro ms hms
    exact Here.mk ⟨ms, hle.set hms, hle.none hms, h1, h2, h3, h6, h7, rfl, Heap.keep hb3 hms, Heap.set_same _ _ _⟩
  clear hle h1 h2 h3 h6 h7 hb3
  rintro f A ⟨ms, hle, hms0, h1, h2, h3, h6, h7, h8, hb3, hms⟩
  refine nwp_cut (fun f A => A0.le A ∧ f 1 = .int .i64 free ∧ f 2 = .bool fn ∧ f 3 = .ptr b3 0 ∧ f 6 = .bool T1 ∧ f 7 = .bool false ∧ A b3 = some (.cells c.enc.cells)) ?_ ?_
  · refine nwp_then (fun f A => A0.le A ∧ f 1 = .int .i64 free ∧ f 2 = .bool fn ∧ f 3 = .ptr b3 0 ∧ f 6 = .bool false ∧ f 7 = .bool false ∧ f 8 = .map ms ∧ A b3 = some (.cells c.enc.cells) ∧ A ms = some (mapB AV.bool []) ∧ f 15 = encSl true 1 (ol.map encInt) ∧ f 16 = .int .i64 ol.length ∧ f 17 = .int .i64 0) ?_ ?_
    · simp only [n_flatten_there_r2, h3, hb3, hte, go_sem, Nat.reduceEqDiff, Nat.reduceAdd, Nat.reduceSub, Nat.reduceLeDiff, Nat.reduceLT, Nat.reduceMul, Int.reduceEq, Int.reduceLT, Int.reduceLE, Int.reduceNeg, Int.reduceToNat, Int.reduceAdd, Int.reduceSub, Int.cast_ofNat_Int, Int.cast_ofNat_Int, reduceCtorEq, ↓reduceIte, Bool.false_eq_true, decide_true, decide_false, eq_self, Bool.not_true, Bool.not_false]
      refine hor.call ?_
      simp only [lenAV_encSl, List.length_map, go_sem, Nat.reduceEqDiff, Nat.reduceAdd, Nat.reduceSub, Nat.reduceLeDiff, Nat.reduceLT, Nat.reduceMul, Int.reduceEq, Int.reduceLT, Int.reduceLE, Int.reduceNeg, Int.reduceToNat, Int.reduceAdd, Int.reduceSub, Int.cast_ofNat_Int, Int.cast_ofNat_Int, reduceCtorEq, ↓reduceIte, Bool.false_eq_true, decide_true, decide_false, eq_self, Bool.not_true, Bool.not_false]
      exact Here.mk ⟨hle, h1, h2, h3, h6, h7, h8, hb3, hms, rfl, rfl, rfl⟩
    clear hle h1 h2 h3 h6 h7 h8 hb3 hms
    rintro f A ⟨hle, h1, h2, h3, h6, h7, h8, hb3, hms, h15, h16, h17⟩
    refine nwp_for (ti := 17) (tn := 16) (tt := 18) (tw := 34) (id := 0) (id2 := 1) ol.length (by omega) (fun i f A => A0.le A ∧ f 1 = .int .i64 free ∧ f 2 = .bool fn ∧ f 3 = .ptr b3 0 ∧ f 6 = .bool ((ol.take i).foldl (there1 free fn) ([], false)).2 ∧ f 7 = .bool false ∧ f 8 = .map ms ∧ A b3 = some (.cells c.enc.cells) ∧
      A ms = some (mapB AV.bool ((ol.take i).foldl (there1 free fn) ([], false)).1) ∧ f 15 = encSl true 1 (ol.map encInt)) (by decide) ?_ h17 h16 ⟨hle, h1, h2, h3, h6, h7, h8, hb3, hms, h15⟩ ?_ ?_
    · rintro i f A d v hd ⟨q1, q2, q3, q4, q5, q6, q7, q8, q9, q10⟩
      rcases hd with rfl | rfl | rfl
      all_goals exact ⟨q1, q2, q3, q4, q5, q6, q7, q8, q9, q10⟩
    · rintro i f A hi ⟨hle, h1, h2, h3, h6, h7, h8, hb3, hms, h15⟩ h17 h16
      have hix := indexAddr_encSl true 1 (ol.map encInt) i (encInt ol[i]) (by rw [List.getElem?_map, List.getElem?_eq_getElem hi]; rfl)
      rw [foldl_take _ _ _ _ hi]
      generalize (ol.take i).foldl (there1 free fn) ([], false) = st at h6 hms ⊢
      obtain ⟨sn, tw⟩ := st
      generalize ol[i] = z at hix ⊢
      simp only [encInt, AV.cells] at hix
      simp only [there1]
      simp only at h6 hms
      refine nwp_then (fun f A => A0.le A ∧ f 1 = .int .i64 free ∧ f 2 = .bool fn ∧ f 3 = .ptr b3 0 ∧ f 6 = .bool tw ∧ f 7 = .bool false ∧ f 8 = .map ms ∧ A b3 = some (.cells c.enc.cells) ∧ A ms = some (mapB AV.bool sn) ∧ f 15 = encSl true 1 (ol.map encInt) ∧ f 16 = .int .i64 ol.length ∧ f 17 = .int .i64 i ∧ f 10 = .int .i64 z) ?_ ?_
      · simp only [n_flatten_there_r4, encInt, h15, h17, hix, go_sem, Nat.reduceEqDiff, Nat.reduceAdd, Nat.reduceSub, Nat.reduceLeDiff, Nat.reduceLT, Nat.reduceMul, Int.reduceEq, Int.reduceLT, Int.reduceLE, Int.reduceNeg, Int.reduceToNat, Int.reduceAdd, Int.reduceSub, Int.cast_ofNat_Int, Int.cast_ofNat_Int, reduceCtorEq, ↓reduceIte, Bool.false_eq_true, decide_true, decide_false, eq_self, Bool.not_true, Bool.not_false]
        exact Here.mk ⟨hle, h1, h2, h3, h6, h7, h8, hb3, hms, h15, h16, h17, rfl⟩
      clear hle h1 h2 h3 h6 h7 h8 hb3 hms h15 h16 h17
      rintro f A ⟨hle, h1, h2, h3, h6, h7, h8, hb3, hms, h15, h16, h17, h10⟩
      refine nwp_cut (fun f A => A0.le A ∧ f 1 = .int .i64 free ∧ f 2 = .bool fn ∧ f 3 = .ptr b3 0 ∧ f 6 = .bool (tw || ((mget sn z).getD false || (fn && decide (z ≤ free)))) ∧ f 7 = .bool false ∧ f 8 = .map ms ∧ A b3 = some (.cells c.enc.cells) ∧ A ms = some (mapB AV.bool sn) ∧ f 15 = encSl true 1 (ol.map encInt) ∧ f 16 = .int .i64 ol.length ∧ f 17 = .int .i64 i ∧ f 10 = .int .i64 z) ?_ ?_
      · refine nwp_then (fun f A => A0.le A ∧ f 1 = .int .i64 free ∧ f 2 = .bool fn ∧ f 3 = .ptr b3 0 ∧ f 6 = .bool tw ∧ f 7 = .bool false ∧ f 8 = .map ms ∧ A b3 = some (.cells c.enc.cells) ∧ A ms = some (mapB AV.bool sn) ∧ f 15 = encSl true 1 (ol.map encInt) ∧ f 16 = .int .i64 ol.length ∧ f 17 = .int .i64 i ∧ f 10 = .int .i64 z ∧ f 31 = .bool ((mget sn z).getD false || (fn && decide (z ≤ free)))) ?_ ?_
        · cases hgz : (mget sn z).getD false <;> cases fn
          all_goals
            simp only [n_flatten_there_r5, h1, h2, h8, h10, hms, hgz, go_sem, Nat.reduceEqDiff, Nat.reduceAdd, Nat.reduceSub, Nat.reduceLeDiff, Nat.reduceLT, Nat.reduceMul, Int.reduceEq, Int.reduceLT, Int.reduceLE, Int.reduceNeg, Int.reduceToNat, Int.reduceAdd, Int.reduceSub, Int.cast_ofNat_Int, Int.cast_ofNat_Int, reduceCtorEq, ↓reduceIte, Bool.false_eq_true, decide_true, decide_false, eq_self, Bool.not_true, Bool.not_false]
            refine Here.mk ⟨hle, h1, h2, h3, h6, h7, h8, hb3, hms, h15, h16, h17, h10, ?_⟩
            show AV.bool _ = AV.bool _
            try simp
        clear hle h1 h2 h3 h6 h7 h8 hb3 hms h15 h16 h17 h10
        rintro f A ⟨hle, h1, h2, h3, h6, h7, h8, hb3, hms, h15, h16, h17, h10, h31⟩
        refine nwp_test _ h31 (fun hc => ?_) fun hc => ?_
        · rw [hc, Bool.or_true]
          refine nwp_last (fun f A => A0.le A ∧ f 1 = .int .i64 free ∧ f 2 = .bool fn ∧ f 3 = .ptr b3 0 ∧ f 6 = .bool true ∧ f 7 = .bool false ∧ f 8 = .map ms ∧ A b3 = some (.cells c.enc.cells) ∧ A ms = some (mapB AV.bool sn) ∧ f 15 = encSl true 1 (ol.map encInt) ∧ f 16 = .int .i64 ol.length ∧ f 17 = .int .i64 i ∧ f 10 = .int .i64 z) ?_ fun f A h => h
          simp only [n_flatten_there_r6, go_sem, Nat.reduceEqDiff, Nat.reduceAdd, Nat.reduceSub, Nat.reduceLeDiff, Nat.reduceLT, Nat.reduceMul, Int.reduceEq, Int.reduceLT, Int.reduceLE, Int.reduceNeg, Int.reduceToNat, Int.reduceAdd, Int.reduceSub, Int.cast_ofNat_Int, Int.cast_ofNat_Int, reduceCtorEq, ↓reduceIte, Bool.false_eq_true, decide_true, decide_false, eq_self, Bool.not_true, Bool.not_false]
          exact Here.mk ⟨hle, h1, h2, h3, rfl, h7, h8, hb3, hms, h15, h16, h17, h10⟩
        · rw [hc, Bool.or_false]
          exact ⟨hle, h1, h2, h3, h6, h7, h8, hb3, hms, h15, h16, h17, h10⟩
      clear hle h1 h2 h3 h6 h7 h8 hb3 hms h15 h16 h17 h10
      generalize (tw || ((mget sn z).getD false || (fn && decide (z ≤ free)))) = tw2
      rintro f A ⟨hle, h1, h2, h3, h6, h7, h8, hb3, hms, h15, h16, h17, h10⟩
      refine nwp_last (fun f A => A0.le A ∧ f 1 = .int .i64 free ∧ f 2 = .bool fn ∧ f 3 = .ptr b3 0 ∧ f 6 = .bool tw2 ∧ f 7 = .bool false ∧ f 8 = .map ms ∧ A b3 = some (.cells c.enc.cells) ∧ A ms = some (mapB AV.bool (mput sn z true)) ∧ f 15 = encSl true 1 (ol.map encInt) ∧ f 16 = .int .i64 ol.length ∧ f 17 = .int .i64 i) ?_
        fun f A ⟨q1, q2, q3, q4, q5, q6, q7, q8, q9, q10, q11, q12⟩ => ⟨⟨q1, q2, q3, q4, q5, q6, q7, q8, q9, q10⟩, q12, q11⟩
      simp only [n_flatten_there_r7, h8, h10, hms, go_sem, Nat.reduceEqDiff, Nat.reduceAdd, Nat.reduceSub, Nat.reduceLeDiff, Nat.reduceLT, Nat.reduceMul, Int.reduceEq, Int.reduceLT, Int.reduceLE, Int.reduceNeg, Int.reduceToNat, Int.reduceAdd, Int.reduceSub, Int.cast_ofNat_Int, Int.cast_ofNat_Int, reduceCtorEq, ↓reduceIte, Bool.false_eq_true, decide_true, decide_false, eq_self, Bool.not_true, Bool.not_false]
      have hn : b3 ≠ ms := fun e => by subst e; rw [hms] at hb3; cases hb3
      exact Here.mk ⟨hle.set' hms0, h1, h2, h3, h6, h7, h8, by rw [Heap.set_other _ _ hn]; exact hb3, Heap.set_same _ _ _, h15, h16, h17⟩
    · rintro f A ⟨q1, q2, q3, q4, q5, q6, q7, q8, q9, q10⟩
      rw [List.take_of_length_le (Nat.le_refl _), h1T] at q5
      exact ⟨q1, q2, q3, q4, q5, q6, q8⟩
  clear hle h1 h2 h3 h6 h7 h8 hb3 hms
  rintro f A ⟨hle, h1, h2, h3, h6, h7, hb3⟩
  refine nwp_cut (fun f A => A0.le A ∧ f 6 = .bool T1 ∧ f 7 = .bool T2) ?_ ?_
  · refine nwp_then (fun f A => A0.le A ∧ f 1 = .int .i64 free ∧ f 2 = .bool fn ∧ f 6 = .bool T1 ∧ f 7 = .bool false ∧ f 36 = encSl true 1 (ul.map encInt) ∧ f 37 = .int .i64 ul.length ∧ f 38 = .int .i64 0) ?_ ?_
    · simp only [n_flatten_there_r10, h3, hb3, hte, go_sem, Nat.reduceEqDiff, Nat.reduceAdd, Nat.reduceSub, Nat.reduceLeDiff, Nat.reduceLT, Nat.reduceMul, Int.reduceEq, Int.reduceLT, Int.reduceLE, Int.reduceNeg, Int.reduceToNat, Int.reduceAdd, Int.reduceSub, Int.cast_ofNat_Int, Int.cast_ofNat_Int, reduceCtorEq, ↓reduceIte, Bool.false_eq_true, decide_true, decide_false, eq_self, Bool.not_true, Bool.not_false]
      refine hub.call ?_
      simp only [lenAV_encSl, List.length_map, go_sem, Nat.reduceEqDiff, Nat.reduceAdd, Nat.reduceSub, Nat.reduceLeDiff, Nat.reduceLT, Nat.reduceMul, Int.reduceEq, Int.reduceLT, Int.reduceLE, Int.reduceNeg, Int.reduceToNat, Int.reduceAdd, Int.reduceSub, Int.cast_ofNat_Int, Int.cast_ofNat_Int, reduceCtorEq, ↓reduceIte, Bool.false_eq_true, decide_true, decide_false, eq_self, Bool.not_true, Bool.not_false]
      exact Here.mk ⟨hle, h1, h2, h6, h7, rfl, rfl, rfl⟩
    clear hle h1 h2 h3 h6 h7 hb3
    rintro f A ⟨hle, h1, h2, h6, h7, h36, h37, h38⟩
    refine nwp_for (ti := 38) (tn := 37) (tt := 39) (tw := 49) (id := 2) (id2 := 3) ul.length (by omega) (fun i f A => A0.le A ∧ f 1 = .int .i64 free ∧ f 2 = .bool fn ∧ f 6 = .bool T1 ∧ f 7 = .bool ((ul.take i).foldl (there2 free fn) false) ∧ f 36 = encSl true 1 (ul.map encInt)) (by decide) ?_ h38 h37 ⟨hle, h1, h2, h6, h7, h36⟩ ?_ ?_
    · rintro i f A d v hd ⟨q1, q2, q3, q4, q5, q6⟩
      rcases hd with rfl | rfl | rfl
      all_goals exact ⟨q1, q2, q3, q4, q5, q6⟩
    · rintro i f A hi ⟨hle, h1, h2, h6, h7, h36⟩ h38 h37
      have hix := indexAddr_encSl true 1 (ul.map encInt) i (encInt ul[i]) (by rw [List.getElem?_map, List.getElem?_eq_getElem hi]; rfl)
      rw [foldl_take _ _ _ _ hi]
      generalize (ul.take i).foldl (there2 free fn) false = mi at h7 ⊢
      generalize ul[i] = z at hix ⊢
      simp only [encInt, AV.cells] at hix
      simp only [there2]
      refine nwp_then (fun f A => A0.le A ∧ f 1 = .int .i64 free ∧ f 2 = .bool fn ∧ f 6 = .bool T1 ∧ f 7 = .bool mi ∧ f 36 = encSl true 1 (ul.map encInt) ∧ f 37 = .int .i64 ul.length ∧ f 38 = .int .i64 i ∧ f 12 = .int .i64 z) ?_ ?_
      · simp only [n_flatten_there_r12, encInt, h36, h38, hix, go_sem, Nat.reduceEqDiff, Nat.reduceAdd, Nat.reduceSub, Nat.reduceLeDiff, Nat.reduceLT, Nat.reduceMul, Int.reduceEq, Int.reduceLT, Int.reduceLE, Int.reduceNeg, Int.reduceToNat, Int.reduceAdd, Int.reduceSub, Int.cast_ofNat_Int, Int.cast_ofNat_Int, reduceCtorEq, ↓reduceIte, Bool.false_eq_true, decide_true, decide_false, eq_self, Bool.not_true, Bool.not_false]
        exact Here.mk ⟨hle, h1, h2, h6, h7, h36, h37, h38, rfl⟩
      clear hle h1 h2 h6 h7 h36 h37 h38
      rintro f A ⟨hle, h1, h2, h6, h7, h36, h37, h38, h12⟩
      refine nwp_then (fun f A => A0.le A ∧ f 1 = .int .i64 free ∧ f 2 = .bool fn ∧ f 6 = .bool T1 ∧ f 7 = .bool mi ∧ f 36 = encSl true 1 (ul.map encInt) ∧ f 37 = .int .i64 ul.length ∧ f 38 = .int .i64 i ∧ f 48 = .bool (!fn || decide (z > free))) ?_ ?_
      · cases fn
        all_goals
          simp only [n_flatten_there_r13, h1, h2, h12, go_sem, Nat.reduceEqDiff, Nat.reduceAdd, Nat.reduceSub, Nat.reduceLeDiff, Nat.reduceLT, Nat.reduceMul, Int.reduceEq, Int.reduceLT, Int.reduceLE, Int.reduceNeg, Int.reduceToNat, Int.reduceAdd, Int.reduceSub, Int.cast_ofNat_Int, Int.cast_ofNat_Int, reduceCtorEq, ↓reduceIte, Bool.false_eq_true, decide_true, decide_false, eq_self, Bool.not_true, Bool.not_false]
          refine Here.mk ⟨hle, h1, h2, h6, h7, h36, h37, h38, ?_⟩
          show AV.bool _ = AV.bool _
          try simp
      clear hle h1 h2 h6 h7 h36 h37 h38 h12
      rintro f A ⟨hle, h1, h2, h6, h7, h36, h37, h38, h48⟩
      refine nwp_test _ h48 (fun hc => ?_) fun hc => ?_
      · rw [hc, Bool.or_true]
        refine nwp_last (fun f A => A0.le A ∧ f 1 = .int .i64 free ∧ f 2 = .bool fn ∧ f 6 = .bool T1 ∧ f 7 = .bool true ∧ f 36 = encSl true 1 (ul.map encInt) ∧ f 37 = .int .i64 ul.length ∧ f 38 = .int .i64 i) ?_ fun f A ⟨q1, q2, q3, q4, q5, q6, q7, q8⟩ => ⟨⟨q1, q2, q3, q4, q5, q6⟩, q8, q7⟩
        simp only [n_flatten_there_r14, go_sem, Nat.reduceEqDiff, Nat.reduceAdd, Nat.reduceSub, Nat.reduceLeDiff, Nat.reduceLT, Nat.reduceMul, Int.reduceEq, Int.reduceLT, Int.reduceLE, Int.reduceNeg, Int.reduceToNat, Int.reduceAdd, Int.reduceSub, Int.cast_ofNat_Int, Int.cast_ofNat_Int, reduceCtorEq, ↓reduceIte, Bool.false_eq_true, decide_true, decide_false, eq_self, Bool.not_true, Bool.not_false]
        exact Here.mk ⟨hle, h1, h2, h6, rfl, h36, h37, h38⟩
      · rw [hc, Bool.or_false]
        exact ⟨⟨hle, h1, h2, h6, h7, h36⟩, h38, h37⟩
    · rintro f A ⟨q1, q2, q3, q4, q5, q6⟩
      rw [List.take_of_length_le (Nat.le_refl _), h2T] at q5
      exact ⟨q1, q4, q5⟩
  clear hle h1 h2 h3 h6 h7 hb3
  rintro f A ⟨hle, h6, h7⟩
  simp only [n_flatten_there_r17, h6, h7, go_sem, Nat.reduceEqDiff, Nat.reduceAdd, Nat.reduceSub, Nat.reduceLeDiff, Nat.reduceLT, Nat.reduceMul, Int.reduceEq, Int.reduceLT, Int.reduceLE, Int.reduceNeg, Int.reduceToNat, Int.reduceAdd, Int.reduceSub, Int.cast_ofNat_Int, Int.cast_ofNat_Int, reduceCtorEq, ↓reduceIte, Bool.false_eq_true, decide_true, decide_false, eq_self, Bool.not_true, Bool.not_false]
  exact hle

end Go.NL
