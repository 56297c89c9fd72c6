/- THE N-LOGIC, part U: a walk in one go. -/
import Derived.Test.YtdeboephmbaihaaGreatNT
set_option linter.unusedVariables false
set_option linter.unusedSimpArgs false
namespace Go.NL

section
variable (P : Program) (Q : Post) (f : Fr) (A : Heap)
theorem w_skip : nwp P .skip Q f A = Q .normal f A := rfl
theorem w_region (is : List NI) : nwp P (.region is []) Q f A = nrun P (Q .normal) is f A := by simp [nwp]
theorem w_seq (a b : NC) : nwp P (.seq a b) Q f A = nwp P a (thenP (nwp P b Q) Q) f A := rfl
theorem w_cond (c : Opd) (a b : NC) : nwp P (.cond c a b) Q f A = ifBool (evalOpd f c) fun x => if x = true then nwp P a Q f A else nwp P b Q f A := by
  simp only [nwp, ifBool]
  cases evalOpd f c <;> try rfl
  rename_i b
  cases b <;> rfl
theorem w_block (id : Nat) (c : NC) : nwp P (.block id c) Q f A = nwp P c (blockP id Q) f A := rfl
theorem w_exit (id : Nat) : nwp P (.exit id) Q f A = Q (.exit id) f A := rfl
theorem w_ret : nwp P .ret Q f A = Q .ret f A := rfl
end

structure Heap.le (A A' : Heap) : Prop where
  get : ∀ c y, A c = some y → A' c = some y
theorem Heap.le.refl (A : Heap) : A.le A := ⟨fun _ _ h => h⟩
theorem Heap.le.trans {A B C : Heap} (h : A.le B) (h' : B.le C) : A.le C := ⟨fun c y hc => h'.get c y (h.get c y hc)⟩
theorem Heap.le.set {A A' : Heap} {b : Nat} {x : Blk} (h : A.le A') (hb : A' b = none) : A.le (A'.set b x) := ⟨by
  intro c y hy
  have h1 := h.get c y hy
  have hne : c ≠ b := by
    intro e
    subst e
    rw [hb] at h1
    cases h1
  rw [Heap.set_other _ _ hne]
  exact h1⟩
theorem Heap.le.set' {A A' : Heap} {b : Nat} {x : Blk} (h : A.le A') (hb : A b = none) : A.le (A'.set b x) := ⟨by
  intro c y hy
  have h1 := h.get c y hy
  have hne : c ≠ b := by
    intro e
    subst e
    rw [hb] at hy
    cases hy
  rw [Heap.set_other _ _ hne]
  exact h1⟩
theorem Heap.le.none {A A' : Heap} {b : Nat} (h : A.le A') (hb : A' b = none) : A b = none := by
  cases hA : A b with
  | none => rfl
  | some x => rw [h.get b x hA] at hb; cases hb

/-- What must hold where a function returns that leaves all blocks alone. -/
def pureP (rs : List NRes) (v : AV) (A0 : Heap) : Post
  | .normal, f, A | .ret, f, A => resAV f A rs = some v ∧ A0.le A
  | _, _, _ => False
section
variable (rs : List NRes) (v : AV) (A0 : Heap) (f : Fr) (A : Heap)
theorem pureP_normal : pureP rs v A0 .normal f A = (resAV f A rs = some v ∧ A0.le A) := rfl
theorem pureP_ret : pureP rs v A0 .ret f A = (resAV f A rs = some v ∧ A0.le A) := rfl
end

theorem NPure.walk {P : Program} {f : FuncId} {nf : NFn} (hc : compFn P f = some nf) {args : List AV} (hl : args.length ≤ nf.slots) {v : AV}
    (h : ∀ A, nwp P nf.body (pureP nf.results v A) (fr0 args) A) : NPure P f args v :=
  NPure.of_body hc hl fun A => nwp_mono _ (fun e f A' he => by
    cases e with
    | normal => exact ⟨v, he.1, A, v, .sub he.2.get, rfl, rfl⟩
    | exit id => exact he.elim
    | ret => exact ⟨v, he.1, A, v, .sub he.2.get, rfl, rfl⟩) (h A)

/-- What must hold where a function returns: K of what it tells. -/
def callP (rs : List NRes) (K : AV → Heap → Prop) : Post
  | .normal, f, A | .ret, f, A => ifSome (resAV f A rs) fun v => K v A
  | _, _, _ => False
section
variable (rs : List NRes) (K : AV → Heap → Prop) (f : Fr) (A : Heap)
theorem callP_normal : callP rs K .normal f A = ifSome (resAV f A rs) fun v => K v A := rfl
theorem callP_ret : callP rs K .ret f A = ifSome (resAV f A rs) fun v => K v A := rfl
end
theorem callP_ret' {rs : List NRes} {K : AV → Heap → Prop} {f : Fr} {A : Heap} (h : ifSome (resAV f A rs) fun v => K v A) : retP rs K .ret f A := by
  cases hv : resAV f A rs with
  | none => rw [hv] at h; exact h.elim
  | some v => rw [hv] at h; exact ⟨v, hv, A, v, .refl _ _, h⟩

theorem NCalls.walk {P : Program} {f : FuncId} {nf : NFn} (hc : compFn P f = some nf) {args : List AV} (hl : args.length ≤ nf.slots) {A : Heap} {K : AV → Heap → Prop}
    (h : nwp P nf.body (callP nf.results K) (fr0 args) A) : NCalls P f args A K :=
  .of_body hc hl (nwp_mono _ (fun e f A' he => by
    cases e with
    | normal => exact callP_ret' he
    | exit id => exact he.elim
    | ret => exact callP_ret' he) h)

section
variable (f : Fr) (A : Heap) (t : Nat)
theorem resAV_one : resAV f A [.slot t] = some (f t) := rfl
theorem resAV_nil : resAV f A [] = some (.tuple []) := rfl
theorem resAV_two (u : Nat) : resAV f A [.slot t, .slot u] = some (.tuple [f t, f u]) := rfl
theorem resAV_one_c (a : Option Nat) : resAV f A [.cell t a] = loadAV A a (f t) := by
  simp only [resAV, List.mapM_cons, List.mapM_nil, resOne]
  cases loadAV A a (f t) <;> rfl
theorem resAV_cs (a : Option Nat) (u : Nat) : resAV f A [.cell t a, .slot u] = (loadAV A a (f t)).map fun v => .tuple [v, f u] := by
  simp only [resAV, List.mapM_cons, List.mapM_nil, resOne]
  cases loadAV A a (f t) <;> rfl
theorem resAV_sc (a : Option Nat) (u : Nat) : resAV f A [.slot u, .cell t a] = (loadAV A a (f t)).map fun v => .tuple [f u, v] := by
  simp only [resAV, List.mapM_cons, List.mapM_nil, resOne]
  cases loadAV A a (f t) <;> rfl
theorem thenP_normal (K : Fr → Heap → Prop) (Q : Post) : thenP K Q .normal f A = K f A := rfl
theorem thenP_ret (K : Fr → Heap → Prop) (Q : Post) : thenP K Q .ret f A = Q .ret f A := rfl
theorem thenP_exit (K : Fr → Heap → Prop) (Q : Post) : thenP K Q (.exit t) f A = Q (.exit t) f A := rfl
theorem blockP_normal (Q : Post) : blockP t Q .normal f A = Q .normal f A := rfl
theorem blockP_ret (Q : Post) : blockP t Q .ret f A = Q .ret f A := rfl
theorem blockP_exit (u : Nat) (Q : Post) : blockP t Q (.exit u) f A = if u = t then Q .normal f A else Q (.exit u) f A := rfl
end

theorem idx_arr_ptr (esz n b off : Nat) (i : Int) : indexAddrAV esz (some n) (.ptr b off) i = if 0 ≤ i ∧ i < n then some (.ptr b (off + i.toNat * esz)) else none := rfl
theorem idx_arr_iptr (esz n off : Nat) (cs : List AV) (i : Int) : indexAddrAV esz (some n) (.iptr cs off) i = if 0 ≤ i ∧ i < n then some (.iptr cs (off + i.toNat * esz)) else none := rfl

theorem ifBool_true (K : Bool → Prop) : ifBool (.bool true) K = K true := rfl
theorem ifBool_false (K : Bool → Prop) : ifBool (.bool false) K = K false := rfl
theorem ifBool_cases {b : Bool} {K : Bool → Prop} (h1 : b = true → K true) (h2 : b = false → K false) : ifBool (.bool b) K := by
  cases b
  · exact h2 rfl
  · exact h1 rfl

theorem le_refl' (A : Heap) : A.le A = True := eq_true (.refl A)
theorem le_set_true {A0 A : Heap} {b : Nat} {x : Blk} (h : A b = none) (h' : A0.le A) : A0.le (A.set b x) = True := eq_true (h'.set h)
theorem le_set_true' {A0 A : Heap} {b : Nat} {x : Blk} (h : A0 b = none) (h' : A0.le A) : A0.le (A.set b x) = True := eq_true (h'.set' h)

/-! what a block holds -/
theorem Heap.get_set (A : Heap) (b c : Nat) (x : Blk) : (A.set b x) c = if c = b then some x else A c := rfl
theorem Heap.set_none (A : Heap) (b c : Nat) (x : Blk) : ((A.set b x) c = none) = (c ≠ b ∧ b ≠ c ∧ A c = none) := by
  unfold Heap.set
  by_cases h : c = b
  · simp [h]
  · simp [h, Ne.symm h]
def cellsB (K : List AV → Prop) : Option Blk → Prop
  | some (.cells cs) => K cs
  | _ => False
theorem ifCells_blk (A : Heap) (b : Nat) (K : List AV → Prop) : ifCells A b K = cellsB K (A b) := by
  unfold ifCells cellsB
  rfl
theorem cellsB_some (K : List AV → Prop) (cs : List AV) : cellsB K (some (.cells cs)) = K cs := rfl
def loadB (agg : Option Nat) (off : Nat) : Option Blk → Option AV
  | some (.cells cs) => takeAV agg cs off
  | _ => none
theorem load_blk (A : Heap) (agg : Option Nat) (b off : Nat) : loadAV A agg (.ptr b off) = loadB agg off (A b) := by
  unfold loadAV loadB
  rfl
theorem loadB_some (agg : Option Nat) (off : Nat) (cs : List AV) : loadB agg off (some (.cells cs)) = takeAV agg cs off := rfl
def findB (k : AV) : Option Blk → Option (Option (Nat × AV))
  | some (.map es _) => findE k es 0
  | _ => none
theorem mapFind_blk (A : Heap) (k : AV) (b : Nat) : mapFind A k (.map b) = findB k (A b) := by
  unfold mapFind findB
  rfl
theorem mapFind_nil (A : Heap) (k : AV) : mapFind A k .nilmap = some none := rfl
def updB (A : Heap) (b : Nat) (K : Heap → Prop) (k v : AV) : Option Blk → Prop
  | some (.map es ck) => match findE k es 0 with
    | some (some (i, _)) => K (A.set b (.map (es.modify i fun e => (k, v, e.2.2)) ck))
    | some none => K (A.set b (.map (es ++ [(k, v, ck)]) (ck + 1)))
    | none => False
  | _ => False
theorem mapUpd_blk (A : Heap) (K : Heap → Prop) (k v : AV) (b : Nat) : mapUpd A K k v (.map b) = updB A b K k v (A b) := by
  unfold mapUpd updB
  rfl
@[congr] theorem cellsB_congr {K : List AV → Prop} {o o' : Option Blk} (h : mark o = o') : cellsB K o = cellsB K o' := by simp only [mark] at h; rw [h]
@[congr] theorem updB_congr {A : Heap} {b : Nat} {K : Heap → Prop} {k v k' v' : AV} {o o' : Option Blk} (h : mark o = o') (hk : k = k') (hv : v = v') : updB A b K k v o = updB A b K k' v' o' := by simp only [mark] at h; rw [h, hk, hv]

/-- A loop that counts. -/
theorem nwp_range {P : Program} {c : NC} {Q : Post} (N : Nat) (I : Nat → Fr → Heap → Prop) {f : Fr} {A : Heap} (h0 : I 0 f A) (round : ∀ i f A, I i f A → nwp P c (thenP (fun f' A' => i < N ∧ I (i + 1) f' A') Q) f A) : nwp P (.loop c) Q f A := by
  refine nwp_loop (fun m f A => ∃ i, m = N - i ∧ I i f A) (n := N) ⟨0, rfl, h0⟩ ?_
  rintro n f A ⟨i, rfl, hI⟩
  refine nwp_mono _ (fun e f' A' he => ?_) (round i f A hI)
  cases e with
  | normal => exact ⟨N - (i + 1), by have := he.1; omega, i + 1, rfl, he.2⟩
  | exit id => exact he
  | ret => exact he

theorem ite_intro {c : Prop} [Decidable c] {a b : Prop} (h1 : c → a) (h2 : ¬c → b) : if c then a else b := by
  split
  · exact h1 ‹_›
  · exact h2 ‹_›

attribute [go_sem ↓] w_skip w_region w_seq w_cond w_block w_exit w_ret pureP_normal pureP_ret callP_normal callP_ret thenP_normal thenP_ret thenP_exit blockP_normal blockP_ret blockP_exit
attribute [go_sem ↓] Heap.set_none ifBool_true ifBool_false ifCells_blk mapUpd_blk
attribute [go_sem] le_refl' le_set_true le_set_true' Heap.get_set cellsB_some load_blk loadB_some mapFind_blk mapFind_nil ne_eq not_false_eq_true not_true_eq_false
attribute [go_sem] idx_arr_ptr idx_arr_iptr and_self resAV_one_c resAV_cs resAV_sc resAV_one resAV_nil resAV_two Option.some.injEq decide_eq_true_eq

end Go.NL
