import Derived.Test.YtdeboephmbaihaaMC2
import Derived.Test.YtdeboephmbaihaaXAC
import Derived.RangeFuncGives
import Derived.RangeFuncBound
import Derived.Sort.MapsRangeIn
import Derived.Sort.KeysCollected
import Derived.WalkKit
import Derived.OwnWalkIn
import Derived.TacticsInMore
import Derived.RegionIn
import Derived.LoopNIn
import Derived.LoopIn
import Derived.Maps.AppendAt
import Derived.Shelf.Abstract
import Derived.Sort.OwnSortedInts
import Derived.Lib.SlKeysI
import Derived.Test.YtdeboephmbaihaaShelf
set_option linter.unusedVariables false

set_option maxRecDepth 10000
namespace Go.NL
open Go.Proofs
def isVar (n : Int) : Bool := decide (0 ≤ n) && decide (n ≤ 1048575)
theorem variable_spec (n : Int) : NPure Try.prog F_core_variable [.int .i64 n] (.bool (isVar n)) := by
  refine NPure.walk c_core_variable (Nat.le_of_ble_eq_true rfl) fun A => ?_
  repeat' (first | (intro b hb; try simp only [Heap.set_none, ne_eq] at hb) | (refine ifBool_cases (fun hc => ?_) (fun hc => ?_)) | (simp (config := {maxDischargeDepth := 12}) only [*, go_sem, Nat.reduceEqDiff, reduceCtorEq, ↓reduceIte, Bool.false_eq_true, eq_self]))
  all_goals (simp_all [isVar] <;> omega)
theorem within_spec (n a b : Int) : NPure Try.prog F_core_within [.int .i64 n, .agg [.int .i64 a, .int .i64 b]] (.bool (decide (a ≤ n) && decide (n ≤ b))) := by
  refine NPure.walk c_core_within (Nat.le_of_ble_eq_true rfl) fun A => ?_
  repeat' (first | (intro b hb; try simp only [Heap.set_none, ne_eq] at hb) | (refine ifBool_cases (fun hc => ?_) (fun hc => ?_)) | (simp (config := {maxDischargeDepth := 12}) only [*, go_sem, Nat.reduceEqDiff, Nat.reduceMul, Int.reduceLT, Int.reduceLE, Int.reduceToNat, Int.cast_ofNat_Int, Int.cast_ofNat_Int, reduceCtorEq, ↓reduceIte, Bool.false_eq_true, eq_self]))
  all_goals simp_all
def Atom.ok (a : Atom) : Bool :=
  if a.kind = 1 then isVar a.n && decide (a.s = [])
  else if a.kind = 2 then decide (-1073741824 ≤ a.n) && decide (a.n ≤ 1073741823) && decide (a.s = [])
  else if a.kind = 3 then decide (a.n = 0) && decide ((a.s.length : Int) ≤ 4096)
  else false
theorem Atom_spec (a : Atom) : NPure Try.prog F_core_Atom [a.enc] (.bool a.ok) := by
  obtain ⟨k, n, s⟩ := a
  refine NPure.walk c_core_Atom (Nat.le_of_ble_eq_true rfl) fun A => ?_
  simp only [Atom.enc]
  repeat' (first | (intro b hb; try simp only [Heap.set_none, ne_eq] at hb) | (refine ifBool_cases (fun hc => ?_) (fun hc => ?_)) | (simp (config := {maxDischargeDepth := 12}) only [*, go_sem, Nat.reduceEqDiff, Int.reduceNeg, ↓reduceIte, Bool.false_eq_true, eq_self]))
  all_goals (simp_all [Atom.ok, isVar] <;> omega)
end Go.NL

set_option linter.unusedVariables false

set_option maxRecDepth 10000
namespace Go.NL
open Go.Proofs
/-- What a kind asks for: X, N, S, Tags; atoms from, to; parts from, to. -/
structure Rule where
  x : Bool
  n : Bool
  s : Bool
  tags : Bool
  a0 : Int
  a1 : Int
  p0 : Int
  p1 : Int
def Rule.enc (r : Rule) : AV := .agg [.bool r.x, .bool r.n, .bool r.s, .bool r.tags, .int .i64 r.a0, .int .i64 r.a1, .int .i64 r.p0, .int .i64 r.p1]
def ruleOf (k : Int) : Rule :=
  if k = 1 then ⟨false, false, false, false, 1, 1, 0, 0⟩
  else if k = 2 then ⟨true, false, false, false, 0, 0, 2, 2⟩
  else if k = 3 then ⟨false, false, true, false, 1, 3, 0, 0⟩
  else if k = 4 then ⟨false, true, false, false, 0, 1024, 0, 0⟩
  else if k = 5 then ⟨false, true, false, false, 1, 1, 0, 0⟩
  else if k = 6 then ⟨false, false, false, false, 2, 2, 0, 0⟩
  else if k = 7 then ⟨true, false, false, false, 0, 0, 1, 1⟩
  else if k = 9 then ⟨false, false, false, true, 1, 1, 1, 1073741824⟩
  else if k = 10 then ⟨false, false, false, true, 1, 1, 1, 1073741824⟩
  else if k = 11 then ⟨true, false, false, false, 0, 0, 2, 2⟩
  else if k = 12 then ⟨false, false, false, false, 1, 1, 0, 0⟩
  else ⟨false, false, false, false, 0, 0, 0, 0⟩
def ruled (k : Int) : Bool := decide (1 ≤ k) && decide (k ≤ 12) && decide (k ≠ 8)
set_option maxHeartbeats 1000000 in
theorem rules_spec (k : Int) : NPure Try.prog F_core_rules [.int .i64 k] (.tuple [(ruleOf k).enc, .bool (ruled k)]) := by
  refine NPure.walk c_core_rules (Nat.le_of_ble_eq_true rfl) fun A => ?_
  simp (config := {maxSteps := 1000000}) only [go_sem, Nat.reduceEqDiff, Nat.reduceAdd, Nat.reduceLeDiff, reduceCtorEq, ↓reduceIte, eq_self]
  intro b hb b' hb'
  by_cases hk : 1 ≤ k ∧ k ≤ 12 ∧ k ≠ 8
  · have hk' : k = 1 ∨ k = 2 ∨ k = 3 ∨ k = 4 ∨ k = 5 ∨ k = 6 ∨ k = 7 ∨ k = 9 ∨ k = 10 ∨ k = 11 ∨ k = 12 := by omega
    rcases hk' with rfl | rfl | rfl | rfl | rfl | rfl | rfl | rfl | rfl | rfl | rfl
    all_goals
      simp only [hb, hb', go_sem, Nat.reduceEqDiff, Nat.reduceAdd, Nat.reduceLeDiff, Nat.reduceMul, Int.reduceEq, Int.reduceLT, Int.reduceLE, Int.reduceToNat, Int.cast_ofNat_Int, Int.cast_ofNat_Int, reduceCtorEq, ↓reduceIte, Bool.false_eq_true, decide_false, eq_self]
      simp only [ruleOf, ruled, Rule.enc, go_sem, Int.reduceEq, Int.reduceLE, ↓reduceIte, decide_true, eq_self]
      try simp (config := {maxDischargeDepth := 12}) only [*, le_refl', le_set_true, le_set_true', Heap.set_none, ne_eq, not_false_eq_true, and_self]
  · have hr : ruled k = false := by simp only [ruled]; simp; omega
    have ho : ruleOf k = ⟨false, false, false, false, 0, 0, 0, 0⟩ := by
      unfold ruleOf
      repeat (rw [if_neg (by omega)])
    rw [hr, ho]
    by_cases h0 : k ≤ 0
    · simp only [hb, hb', h0, Rule.enc, go_sem, Nat.reduceEqDiff, Nat.reduceAdd, Nat.reduceLeDiff, reduceCtorEq, ↓reduceIte, decide_true, eq_self]
      try simp (config := {maxDischargeDepth := 12}) only [*, le_refl', le_set_true, le_set_true', Heap.set_none, ne_eq, not_false_eq_true, and_self]
    · by_cases h13 : 13 ≤ k
      · simp only [hb, hb', h0, h13, Rule.enc, go_sem, Nat.reduceEqDiff, Nat.reduceAdd, Nat.reduceLeDiff, reduceCtorEq, ↓reduceIte, Bool.false_eq_true, decide_true, decide_false, eq_self]
        try simp (config := {maxDischargeDepth := 12}) only [*, le_refl', le_set_true, le_set_true', Heap.set_none, ne_eq, not_false_eq_true, and_self]
      · have h8 : k = 8 := by omega
        subst h8
        simp only [hb, hb', Rule.enc, go_sem, Nat.reduceEqDiff, Nat.reduceAdd, Nat.reduceLeDiff, Int.reduceLE, reduceCtorEq, ↓reduceIte, Bool.false_eq_true, decide_true, decide_false, eq_self]
        try simp (config := {maxDischargeDepth := 12}) only [*, le_refl', le_set_true, le_set_true', Heap.set_none, ne_eq, not_false_eq_true, and_self]
end Go.NL

set_option linter.unusedVariables false

set_option maxRecDepth 10000
namespace Go.NL
open Go.Proofs
/-- The first place at which p holds, or -1. -/
def idxOf {α : Type} (p : α → Bool) : List α → Int
  | [] => -1
  | a :: l => if p a then 0 else if idxOf p l = -1 then -1 else idxOf p l + 1
theorem idxOf_neg {α : Type} (p : α → Bool) (l : List α) (h : ∀ a ∈ l, p a = false) : idxOf p l = -1 := by
  induction l with
  | nil => rfl
  | cons a l ih =>
    rw [idxOf, h a (by simp), ih fun b hb => h b (by simp [hb])]
    simp
theorem idxOf_ge {α : Type} (p : α → Bool) (l : List α) : -1 ≤ idxOf p l := by
  induction l with
  | nil => simp [idxOf]
  | cons a l ih => rw [idxOf]; split <;> (try split) <;> omega
theorem idxOf_at {α : Type} (p : α → Bool) : ∀ (l : List α) (i : Nat) (a : α), l[i]? = some a → (∀ j b, j < i → l[j]? = some b → p b = false) → p a = true → idxOf p l = i
  | [], i, a, h, _, _ => by simp at h
  | x :: l, 0, a, h, _, hp => by simp at h; subst h; simp [idxOf, hp]
  | x :: l, i + 1, a, h, hj, hp => by
    simp at h
    have hx := hj 0 x (by omega) rfl
    have ih := idxOf_at p l i a h (fun j b hji hb => hj (j + 1) b (by omega) (by simpa using hb)) hp
    rw [idxOf, hx, ih]
    simp
theorem idxOf_any {α : Type} (p : α → Bool) (l : List α) : decide (0 ≤ idxOf p l) = l.any p := by
  induction l with
  | nil => rfl
  | cons a l ih =>
    rw [idxOf, List.any_cons, ← ih]
    cases hp : p a
    · have := idxOf_ge p l
      simp
      split <;> omega
    · simp
theorem indexAtom_spec {α : Type} (enc : α → AV) (henc : ∀ a, takeAV (some 3) (enc a).cells 0 = some (enc a)) (l : List α) (hl : l.length ≤ 1099511627776) (nl : Bool) (fid : FuncId) (first caps : List AV) (p : α → Bool) (hp : ∀ a ∈ l, NPure Try.prog fid (first ++ [enc a] ++ caps) (.bool (p a))) :
    NPure Try.prog F_slices_IndexFunc__api_Atom_api_Atom [encSl nl 3 (l.map enc), .func fid first caps] (.int .i64 (idxOf p l)) := by
  refine NPure.walk c_slices_IndexFunc__api_Atom_api_Atom (Nat.le_of_ble_eq_true rfl) fun A0 => ?_
  repeat' (first | (intro b hb; try simp only [Heap.set_none, ne_eq] at hb) | (refine ifBool_cases (fun hc => ?_) (fun hc => ?_)) | (simp (config := {maxDischargeDepth := 12}) only [*, go_sem, Int.reduceNeg, reduceCtorEq, ↓reduceIte, eq_self]))
  refine nwp_range l.length (fun i f A => A0.le A ∧ i ≤ l.length ∧ (∀ j b, j < i → l[j]? = some b → p b = false) ∧ f 0 = encSl nl 3 (l.map enc) ∧ f 1 = .func fid first caps ∧ f 7 = .int .i64 l.length ∧ f 8 = .int .i64 i) ?_ ?_
  · exact ⟨.refl _, Nat.zero_le _, fun j b hj => absurd hj (Nat.not_lt_zero _), rfl, rfl, by simp only [go_sem, Nat.reduceEqDiff, ↓reduceIte, eq_self, List.length_map], rfl⟩
  · rintro i f A ⟨hA, hi, hj, h0, h1, h7, h8⟩
    unfold n_slices_IndexFunc__api_Atom_api_Atom_l7
    by_cases hi' : i < l.length
    · have hd : decide ((i : Int) < (l.length : Int)) = true := by simp; omega
      have hix := indexAddr_encSl nl 3 (l.map enc) i (enc l[i]) (by simp [hi'])
      have hte := henc l[i]
      have hw : IntKind.i64.wrap ((i : Int) + 1) = ((i + 1 : Nat) : Int) := by rw [i64w (by omega) (by omega)]; rfl
      have hpa := hp l[i] (List.getElem_mem hi')
      clear hp henc
      simp only [h0, h1, h7, h8, hd, hix, hte, go_sem, Nat.reduceEqDiff, Int.reduceNeg, reduceCtorEq, ↓reduceIte, eq_self]
      refine hpa.call ?_
      simp only [go_sem, ↓reduceIte, eq_self]
      refine ifBool_cases (fun hc => ?_) fun hc => ?_
      · simp only [hA, go_sem, Nat.reduceEqDiff, ↓reduceIte, eq_self]
        rw [idxOf_at p l i l[i] (by simp [hi']) hj hc]
      · simp only [h0, h1, h7, h8, hw, hA, go_sem, Nat.reduceEqDiff, reduceCtorEq, ↓reduceIte, Bool.false_eq_true, eq_self]
        refine ⟨hi', hi', fun j b hjj hb => ?_⟩
        rcases Nat.lt_or_ge j i with h | h
        · exact hj j b h hb
        · have : j = i := by omega
          subst this
          rw [List.getElem?_eq_getElem hi'] at hb
          cases hb
          exact hc
    · have hd : decide ((i : Int) < (l.length : Int)) = false := by simp; omega
      simp only [h7, h8, hd, hA, go_sem, Int.reduceNeg, ↓reduceIte, Bool.false_eq_true, eq_self]
      rw [idxOf_neg p l fun a ha => ?_]
      obtain ⟨j, hjl, rfl⟩ := List.getElem_of_mem ha
      exact hj j _ (by omega) (List.getElem?_eq_getElem hjl)
theorem containsAtom_spec {α : Type} (enc : α → AV) (henc : ∀ a, takeAV (some 3) (enc a).cells 0 = some (enc a)) (l : List α) (hl : l.length ≤ 1099511627776) (nl : Bool) (fid : FuncId) (first caps : List AV) (p : α → Bool) (hp : ∀ a ∈ l, NPure Try.prog fid (first ++ [enc a] ++ caps) (.bool (p a))) :
    NPure Try.prog F_slices_ContainsFunc__api_Atom_api_Atom [encSl nl 3 (l.map enc), .func fid first caps] (.bool (l.any p)) := by
  refine NPure.walk c_slices_ContainsFunc__api_Atom_api_Atom (Nat.le_of_ble_eq_true rfl) fun A0 => ?_
  have h := indexAtom_spec enc henc l hl nl fid first caps p hp
  clear hp henc
  simp only [go_sem, Nat.reduceEqDiff, reduceCtorEq, ↓reduceIte, eq_self]
  refine h.call ?_
  simp only [idxOf_any, go_sem, ↓reduceIte, eq_self]
end Go.NL

set_option linter.unusedVariables false

namespace Go.Proofs
open Go.RowKit Go.Maps Go.Sort Go.Shelf
theorem nk_law : Keyed Try.prog 3 := int_keyed Try.underlying3
/-- Of what a key leads to nothing is asked. -/
def nk_R {H : Type} : Value → Option (DataW H × List MemPlace) := fun _ => some (.nil, [])
def nk_apAssign : Code := (Code.region 2 #[{ dst := some 5, op := Op.assign (Operand.tmp 7), type := 3, pos := "iter.go:51", after := #[], guard := none }] false)
def nk_apBody : Code := (Code.block 1 (Code.region 3 #[{ dst := some 8, op := Op.load 24 (Operand.tmp 2), type := 24, pos := "iter.go:52", after := #[], guard := none }, { dst := some 9, op := Op.move (Operand.tmp 5), type := 3, pos := "iter.go:52", after := #[], guard := none }, { dst := some 10, op := Op.buildSlice 24 1 #[(0, Operand.tmp 9)], type := 24, pos := "iter.go:52", after := #[{ on := 1, ground := Ground.data }], guard := none }, { dst := some 11, op := Op.call { callee := Callee.builtin Builtin.append, args := #[Operand.tmp 8, Operand.tmp 10], argTypes := #[24, 24] }, type := 24, pos := "iter.go:52", after := #[{ on := 0, ground := Ground.data }, { on := 2, ground := Ground.data }], guard := none }, { dst := none, op := Op.store 24 (Operand.tmp 2) (Operand.tmp 11), type := 0, pos := "iter.go:52", after := #[{ on := 3, ground := Ground.data }, { on := 3, ground := Ground.chain }, { on := 0, ground := Ground.phase }, { on := 1, ground := Ground.phase }, { on := 2, ground := Ground.phase }, { on := 3, ground := Ground.phase }], guard := none }] false))
set_option maxRecDepth 100000 in
set_option maxHeartbeats 1000000 in
theorem nk_keys1N_in {H : Type} (F : Fence) (n : Nat) (h10 : F.fn 64) (hro : F.round = none) (hn : 1 ≤ n) (l Bm ob b nn : Nat) (D0 : DataW H) (J : List Int → World → Prop)
    (hY : ∀ pre x W, J pre W → pre.length < Maps.size D0 → YieldAt F (n - 1) Try.prog l #[encZ x] W fun e W' => e = .returned (.bool true) ∧ J (pre ++ [x]) W' ∧ KeepsWalks W W')
    (W : World) (hJ : AbidesFrom W.heap.size J) (hm : W.cell? ⟨Bm, ob, none⟩ = some (.map (some b))) (hown : W.ownsMap Try.prog 3 nk_R b nn D0) (h0 : J [] W) :
    CallsIn F n Try.prog 64 #[.func (.yield l) #[] #[], .pointer (some ⟨Bm, ob, none⟩)] W fun e W' => (∃ v, e = .returned v) ∧ ∃ ss : List Int, ss.Perm (intKeys D0) ∧ J ss W' := by
  refine callsIn_of_wp Try.func64 rfl h10 ?_ hro
  simp only [Try.ntmps64, List.size_toArray, List.length_cons, List.length_nil, Nat.reduceAdd, Nat.reduceSub, Array.replicate_succ, Array.replicate_zero, List.push_toArray, List.append_toArray, List.nil_append, List.cons_append]
  gi_wp2_with (first
    | (gi_at_range; refine wpListIn_range_own _ rfl _ 77 rfl 3 4 nk_law Try.underlying77 _ b nn _ rfl hown ?_; intro w0 hrg0 hg0 hs0)
    | gi_in)
  go_frame
  gi_loopw [3] (fun _ wr => ∃ (left : Lit → Bool) (cnt : Nat) (ss : List Int), wr.ranges Try.prog 3 nk_R b W.heap.size nn D0 left cnt ∧ ss.length + cnt ≤ Maps.size D0 ∧ CollectedI D0 left ss ∧ J ss wr)
    (fun _ wr => wr.rangeLeft b W.heap.size)
  case atStart =>
    exact ⟨_, _, [], hrg0, by simp, CollectedI.start D0, hJ [] W w0 none h0 hg0 (fun r e => by cases e)⟩
  case round =>
    obtain ⟨left, cnt, ss, hrg, hcs, hC, hJs⟩ := hrel
    gi_wp2_with (first
      | (gi_at_next; refine wpListIn_next_ranges _ rfl _ rfl 3 nk_law nk_R encZ (fun v : Value => v) (fun key kl hk => by obtain ⟨x, hx, _⟩ := Maps.keyOf_i64 Try.underlying3 hk; exact ⟨x, hx⟩) (fun v y hv => ⟨v, rfl⟩) b W.heap.size nn _ _ _ rfl hrg ?_ ?_)
      | gi_in)
    ·
      intro hc0 hl0
      gi_wp2
      go_end0
      exact ⟨⟨_, rfl⟩, ss, hC.perm hown nk_law Try.underlying3 hl0, hJs⟩
    ·
      intro x c kl yd yp w2 cnt2 hkey hlk hv hat hrg2 hlt hg2 hs2 hen
      obtain ⟨x', ex, rfl, _⟩ := Maps.keyOf_i64 Try.underlying3 hkey
      obtain rfl : x = x' := encZ_inj ex
      have hJ2 : J ss w2 := hJ ss wr w2 (some W.heap.size) hJs hg2 (fun r e => by cases e; exact ⟨Nat.le_refl _, hrg.iter_walk⟩)
      obtain ⟨fn, tmps, assign, body, hy, hR⟩ := hY ss x w2 hJ2 (by omega)
      clear hs2
      gi_wp2
      refine hR.mono ?_
      rintro e W3 ⟨rfl, hJ3, hk3⟩
      gi_wp2
      have hrg3 := hrg2.of_walks hk3
      go_roundw
      case rel => exact ⟨_, cnt2, ss ++ [x], hrg3, by simp; omega, hC.step hlk hat, hJ3⟩
      case measure => rw [hrg3.left_eq, hrg.left_eq]; exact hlt
theorem nk_keys_gives {H : Type} (F : Fence) (n : Nat) (h10 : F.fn 64) (hro : F.round = none) (hn : 1 ≤ n) (Bm ob b nn : Nat) (D0 : DataW H) (w : World) (hBm : Bm < w.heap.size)
    (hm : w.cell? ⟨Bm, ob, none⟩ = some (.map (some b))) (hown : w.ownsMap Try.prog 3 nk_R b nn D0) :
    SeqGives F n Try.prog 64 #[.pointer (some ⟨Bm, ob, none⟩)] encZ (fun ss => ss.Perm (intKeys D0)) (Maps.size D0) w := fun l J W hW hJ hY h0 => by
  have hown' : W.ownsMap Try.prog 3 nk_R b nn D0 := by
    have hbl := hown.lt
    obtain ⟨es, clock, hb, Ft, hs, hD⟩ := hown
    exact ⟨es, clock, (hW.block b hbl).trans hb, Ft, hs, hD⟩
  exact nk_keys1N_in F n h10 hro hn l Bm ob b nn D0 J hY W hJ ((hW.cell (p := ⟨Bm, ob, none⟩) hBm).trans hm) hown' h0
def nk_apRec (fn : FuncId) (sv : Value) (Bs D : Nat) (st : LoopState) (pend : Option Code) : Loop :=
  { state := st, pending := pend, fn, tmps := #[.slice none 0 0, sv, .pointer (some ⟨Bs, 0, none⟩), undef, .slice none 0 0, undef, sv, undef, undef, undef, undef, undef, undef], params := #[7], assign := nk_apAssign, body := nk_apBody, defers := D }
structure nk_ApAt (w0 : World) (fn : FuncId) (sv : Value) (Bs l D : Nat) (ss : List Int) (W : World) : Prop where
  box : ∃ v, W.heap[Bs]? = some (.cells #[v] 24 (0, 0)) ∧ W.ownsRow w0.heap.size 3 1 v ss.length (ss.map encZ) ∧ (v = .slice none 0 0 ↔ ss = [])
  L : W.heap[l]? = some (.loop (nk_apRec fn sv Bs D .ready none))
  K : W.heap[D]? = some (.deferred (some []))
  below : Below w0.heap.size w0 W
theorem ownsRow_abides {W W' : World} {row : Option Nat} {base : Nat} {e : TypeId} {size : Nat} {v : Value} {k : Nat} {xs : List Value} (h : W.ownsRow base e size v k xs) (hg : W.grownBy W' row)
    (hrow : ∀ r, row = some r → ∃ o : Obj, W.heap[r]? = some o ∧ o.isWalk = true) : W'.ownsRow base e size v k xs := by
  refine h.kept hg ?_
  rcases h.2 with ⟨rfl, _⟩ | ⟨g, cap, cur, rfl, _, hgb, _⟩
  · exact .inl rfl
  · refine .inr fun e' => ?_
    obtain ⟨o, ho, hw⟩ := hrow g (by simpa [Value.ownBlock] using e'.symm)
    rw [hgb] at ho; cases ho; cases hw
theorem nk_ap_abides (w0 : World) (fn : FuncId) (sv : Value) (Bs l D B : Nat) (hB : w0.heap.size ≤ B) : AbidesFrom B (nk_ApAt w0 fn sv Bs l D) := fun s W W' row h hg hrow => by
  have hrow' : ∀ r, row = some r → ∃ o : Obj, W.heap[r]? = some o ∧ o.isWalk = true := fun r e => (hrow r e).2
  obtain ⟨v, hv, hr, hn⟩ := h.box
  exact ⟨⟨v, (grownBy_keeps hg hrow' hv rfl).trans hv, ownsRow_abides hr hg hrow', hn⟩, (grownBy_keeps hg hrow' h.L rfl).trans h.L, (grownBy_keeps hg hrow' h.K rfl).trans h.K,
    h.below.grown hg h.below.size (fun k e => Nat.le_trans hB (hrow k e).1)⟩
theorem grownBy_putObj (W : World) (l : Nat) (o : Obj) : W.grownBy (W.putObj l o) (some l) :=
  ⟨rfl, rfl, rfl, by simp, fun k _ hk => World.putObj_heap_other (fun e => hk (by rw [e]))⟩
theorem grownBy_setCell0 (W : World) (b : Nat) (v : Value) : W.grownBy (W.setCell ⟨b, 0, none⟩ v) (some b) :=
  ⟨rfl, rfl, rfl, (KeepsWalks.setCell W _ v).size, fun k _ hk => Below.heap_setCell _ _ _ k (fun e => hk (by rw [e]))⟩
theorem ownsRow_ne {W : World} {base : Nat} {e : TypeId} {size : Nat} {v : Value} {k : Nat} {xs : List Value} (h : W.ownsRow base e size v k xs) {j : Nat} {o : Obj} (hj : W.heap[j]? = some o) (hno : ∀ cur, o ≠ .cells cur e (0, 0)) :
    v.ownBlock = none ∨ v.ownBlock ≠ some j := by
  rcases h.2 with ⟨rfl, _⟩ | ⟨g, cap, cur, rfl, _, hgb, _⟩
  · exact .inl rfl
  · refine .inr fun e' => ?_
    have : g = j := by simpa [Value.ownBlock] using e'
    subst this; rw [hgb] at hj; cases hj; exact hno cur rfl
theorem cell_of_box {W : World} {B : Nat} {v : Value} {t : TypeId} (h : W.heap[B]? = some (.cells #[v] t (0, 0))) : W.cell? ⟨B, 0, none⟩ = some v ∧ W.frozen? ⟨B, 0, none⟩ = false := by
  constructor <;> simp [World.cell?, World.frozen?, h]
theorem heap_setCell_box {W : World} {B : Nat} {v : Value} {t : TypeId} (v' : Value) (h : W.heap[B]? = some (.cells #[v] t (0, 0))) : (W.setCell ⟨B, 0, none⟩ v').heap[B]? = some (.cells #[v'] t (0, 0)) := by
  obtain ⟨hlt, hk⟩ := Array.getElem?_eq_some_iff.1 h
  show (W.heap.modify B _)[B]? = _
  rw [Array.getElem?_eq_getElem (by rw [Array.size_modify]; exact hlt), Array.getElem_modify_self, hk]
  rfl
theorem ownsRow_not_walk {W : World} {base : Nat} {e : TypeId} {size : Nat} {v : Value} {k : Nat} {xs : List Value} (h : W.ownsRow base e size v k xs) : ∀ (j : Nat) (o : Obj), v.ownBlock = some j → W.heap[j]? = some o → o.isWalk = false := by
  intro j o hj ho
  rcases h.2 with ⟨rfl, _⟩ | ⟨g, cap, cur, rfl, _, hgb, _⟩
  · simp [Value.ownBlock] at hj
  · have : g = j := by simpa [Value.ownBlock] using hj
    subst this; rw [hgb] at ho; cases ho; rfl
theorem nk_info26 : (Try.prog.info? 3).map (fun i => (i.zero, i.size, i.bytes)) = some (some (.int .i64 0), 1, 8) := by kernel_rfl
set_option maxRecDepth 100000 in
set_option maxHeartbeats 2000000 in
theorem nk_apYield (F : Fence) (m : Nat) (w0 : World) (fn : FuncId) (hfn : F.fn fn) (sv : Value) (Bs l D : Nat) (hBl : Bs ≠ l) (hDl : D ≠ l) (hDB : D ≠ Bs) (h0B : w0.heap.size ≤ Bs) (h0l : w0.heap.size ≤ l)
    (N : Nat) (hN : N ≤ maxLen) (hNb : N * 8 ≤ 140737488355328) (ss : List Int) (x : Int) (W : World) (h : nk_ApAt w0 fn sv Bs l D ss W) (hlen : ss.length < N) :
    YieldAt F m Try.prog l #[encZ x] W fun e W' => e = .returned (.bool true) ∧ nk_ApAt w0 fn sv Bs l D (ss ++ [x]) W' ∧ KeepsWalks W W' := by
  obtain ⟨i0, hi, hz0, hz1, hz2⟩ := info_parts nk_info26
  obtain ⟨v, hv, hrow, _⟩ := h.box
  refine ⟨fn, #[.slice none 0 0, sv, .pointer (some ⟨Bs, 0, none⟩), undef, .slice none 0 0, undef, sv, encZ x, undef, undef, undef, undef, undef], nk_apAssign, nk_apBody, by simpa [nk_apRec] using run_yield (P := Try.prog) (args := #[encZ x]) h.L rfl, roundIn_of_wpIn hfn ?_⟩
  have hl : l < W.heap.size := (Array.getElem?_eq_some_iff.1 h.L).1
  have hbr := run_beginRound (P := Try.prog) h.L rfl
  obtain ⟨W2, hW2⟩ : ∃ W2, W.putObj l (.loop { nk_apRec fn sv Bs D .ready none with state := .busy }) = W2 := ⟨_, rfl⟩
  rw [hW2] at hbr
  have hg2 : W.grownBy W2 (some l) := by rw [← hW2]; exact grownBy_putObj _ _ _
  have hk2 : KeepsWalks W W2 := by rw [← hW2]; exact KeepsWalks.putObj _ h.L rfl
  have hv2 : W2.heap[Bs]? = some (.cells #[v] 24 (0, 0)) := by rw [← hW2]; exact (World.putObj_heap_other hBl).trans hv
  have hK2 : W2.heap[D]? = some (.deferred (some [])) := by rw [← hW2]; exact (World.putObj_heap_other hDl).trans h.K
  have hL2 : W2.heap[l]? = some (.loop { nk_apRec fn sv Bs D .ready none with state := .busy }) := by rw [← hW2]; exact World.putObj_heap_same hl
  have hrow2 : W2.ownsRow w0.heap.size 3 1 v ss.length (ss.map encZ) := hrow.kept hg2 (ownsRow_ne hrow h.L (fun cur e => by cases e))
  have hb2 : Below w0.heap.size w0 W2 := h.below.grown hg2 h.below.size (fun k e => by cases e; exact h0l)
  obtain ⟨hc2, hf2⟩ := cell_of_box hv2
  have hBlt : Bs < W2.heap.size := (Array.getElem?_eq_some_iff.1 hv2).1
  have hl2 : l < W2.heap.size := (Array.getElem?_eq_some_iff.1 hL2).1
  have hDlt : D < W2.heap.size := (Array.getElem?_eq_some_iff.1 hK2).1
  have ne_of : ∀ {j : Nat} {o : Obj}, W2.heap[j]? = some o → (∀ cur, o ≠ .cells cur 3 (0, 0)) → some j ≠ v.ownBlock := fun hj hno => by
    rcases ownsRow_ne hrow2 hj hno with e | e
    · rw [e]; simp
    · exact fun e' => e e'.symm
  clear hW2
  unfold nk_apAssign
  gi_wp2_with (rw [Oper.semAt_eq _ _ _ (fun c h => by cases h)]; go_simp; try go_bits)
  unfold nk_apBody
  gi_wp2_with (first
    | (gi_at_builtin; refine wpListIn_append_own _ rfl _ _ 24 rfl w0.heap.size 3 i0 (.int .i64 0) 1 8 Try.underlying24 hi hz0 hz1 hz2 rfl (by decide) _ _ _ rfl (hrow2.alloc _) ⟨W2.heap.size, 0, none⟩ 1 1 [encZ x] rfl rfl (cell_one_new _ _ _) (by simp [Value.oneCell', encZ]) (by omega) (by omega) (by have := hb2.size; simp; omega) ?_; intro v' w3 hown' hg3 hnil3
       have hv3 : w3.heap[Bs]? = some (.cells #[v] 24 (0, 0)) := (hg3.block Bs (by simp; omega) (ne_of hv2 (fun cur e => by cases e))).trans ((Below.heap_alloc _ _ Bs hBlt).trans hv2)
       obtain ⟨hc3, hf3⟩ := cell_of_box hv3
       obtain ⟨g', cap', cur', rfl, hbase', hgb', hr1, hr2, hr3, hr4⟩ : ∃ g' cap' cur', v' = .slice (some ⟨g', 0, none⟩) (ss.length + 1) cap' ∧ w0.heap.size ≤ g' ∧ w3.heap[g']? = some (.cells cur' 3 (0, 0)) ∧ ss.length + 1 ≤ cap' ∧ cap' ≤ maxLen ∧ cur'.size = cap' * 1 ∧ cur'.toList.take ((ss.length + 1) * 1) = ss.map encZ ++ [encZ x] := by
         rcases hown'.2 with ⟨_, h0⟩ | h'
         · exact absurd h0 (by omega)
         · exact h'
       go_frame)
    | (rw [Oper.semAt_eq _ _ _ (fun c h => by cases h)]; go_simp; try go_bits))
  have hg3' : (W2.alloc (.cells #[encZ x] 3)).grownBy w3 v.ownBlock := hg3
  have hL3 : w3.heap[l]? = some (.loop { nk_apRec fn sv Bs D .ready none with state := .busy }) := (hg3'.block l (by simp; omega) (ne_of hL2 (fun cur e => by cases e))).trans ((Below.heap_alloc _ _ l hl2).trans hL2)
  have hK3 : w3.heap[D]? = some (.deferred (some [])) := (hg3'.block D (by simp; omega) (ne_of hK2 (fun cur e => by cases e))).trans ((Below.heap_alloc _ _ D hDlt).trans hK2)
  obtain ⟨w4, hw4⟩ : ∃ w4, w3.setCell ⟨Bs, 0, none⟩ (.slice (some ⟨g', 0, none⟩) (ss.length + 1) cap') = w4 := ⟨_, rfl⟩
  rw [hw4]
  have hg4 : w3.grownBy w4 (some Bs) := by rw [← hw4]; exact grownBy_setCell0 _ _ _
  have hv4 : w4.heap[Bs]? = some (.cells #[.slice (some ⟨g', 0, none⟩) (ss.length + 1) cap'] 24 (0, 0)) := by rw [← hw4]; exact heap_setCell_box _ hv3
  have hL4 : w4.heap[l]? = some (.loop { nk_apRec fn sv Bs D .ready none with state := .busy }) := (hg4.block l (Array.getElem?_eq_some_iff.1 hL3).1 (fun e => hBl (by cases e; rfl))).trans hL3
  have hK4 : w4.heap[D]? = some (.deferred (some [])) := (hg4.block D (Array.getElem?_eq_some_iff.1 hK3).1 (fun e => hDB (by cases e; rfl))).trans hK3
  have hrow4 := hown'.kept hg4 (ownsRow_ne hown' hv3 (fun cur e => by cases e))
  have hl4 : l < w4.heap.size := (Array.getElem?_eq_some_iff.1 hL4).1
  have hb3 : Below w0.heap.size w0 w3 := (hb2.alloc hb2.size _).grown hg3' (by have := hb2.size; simp; omega) (fun k e => (hrow2.lt k e).1)
  have hb4 : Below w0.heap.size w0 w4 := hb3.grown hg4 hb3.size (fun k e => by cases e; exact h0B)
  have hk4 : KeepsWalks W w4 := ((hk2.trans (KeepsWalks.alloc _ _)).trans (KeepsWalks.of_grownBy hg3' (ownsRow_not_walk (hrow2.alloc _)))).trans (by rw [← hw4]; exact KeepsWalks.setCell _ _ _)
  clear hw4
  refine ⟨_, _, run_endRound none hL4, rfl, ⟨⟨_, (World.putObj_heap_other hBl).trans hv4, ?_, by simp⟩, World.putObj_heap_same hl4, (World.putObj_heap_other hDl).trans hK4, hb4.grown (grownBy_putObj _ _ _) hb4.size (fun k e => by cases e; exact h0l)⟩, hk4.trans (KeepsWalks.putObj _ hL4 rfl)⟩
  have := hrow4.kept (grownBy_putObj w4 l (.loop { { nk_apRec fn sv Bs D .ready none with state := .busy } with state := if (none : Option Code).isNone then .ready else .done, pending := none })) (ownsRow_ne hrow4 hL4 (fun cur e => by cases e))
  simpa using this
set_option maxRecDepth 100000 in
set_option maxHeartbeats 2000000 in
theorem nk_appendSeq_in (F : Fence) (n : Nat) (h11 : F.fn 82) (hro : F.round = none) (hn : 2 ≤ n) (g : Nat) (lb : Array Value) (hFg : F.fn g) (eg : ∀ args w, (callFunc g args).run Try.prog w = .ok (.enter g args) w)
    (S : List Int → Prop) (N : Nat) (hN : N ≤ maxLen) (hNb : N * 8 ≤ 140737488355328) (w : World) (hseq : SeqGives F (n - 1) Try.prog g lb encZ S N w) :
    CallsIn F n Try.prog 82 #[.slice none 0 0, .func (.func g) #[] lb] w fun e w' => ∃ (v : Value) (ss : List Int), e = .returned v ∧ S ss ∧ w'.ownsRow w.heap.size 3 1 v ss.length (ss.map encZ) ∧ (v = .slice none 0 0 ↔ ss = []) ∧ Below w.heap.size w w' := by
  have h1 : 1 ≤ n := by omega
  refine callsIn_of_wp_marks Try.func82 rfl h11 ?_ hro
  simp only [Try.ntmps82, List.size_toArray, List.length_cons, List.length_nil, Nat.reduceAdd, Nat.reduceSub, Array.replicate_succ, Array.replicate_zero, List.push_toArray, List.append_toArray, List.nil_append, List.cons_append]
  gi_wp2
  refine wpIn_rangeFunc ?_
  intro fn hfn
  rw [hro]
  obtain ⟨W0, hW0⟩ : ∃ W0, w.alloc (.cells #[.slice none 0 0] 24) = W0 := ⟨_, rfl⟩
  have hs0 : W0.heap.size = w.heap.size + 1 := by rw [← hW0]; simp
  have hv0 : W0.heap[w.heap.size]? = some (.cells #[.slice none 0 0] 24 (0, 0)) := by rw [← hW0]; exact World.alloc_heap_new w _
  have hb0 : Below w.heap.size w W0 := by rw [← hW0]; exact (Below.refl _ w).alloc (Nat.le_refl _) _
  rw [hW0]
  obtain ⟨W1, hW1⟩ : ∃ W1, (W0.alloc (.deferred (some []))).alloc (.loop (nk_apRec fn (.func (.func g) #[] lb) w.heap.size W0.heap.size .ready none)) = W1 := ⟨_, rfl⟩
  have hold : ∀ k, k < W0.heap.size → W1.heap[k]? = W0.heap[k]? := fun k hk => by
    rw [← hW1]; exact (Below.heap_alloc _ _ k (by simp; omega)).trans (Below.heap_alloc _ _ k hk)
  have hb1 : Below w.heap.size w W1 := by rw [← hW1]; exact (hb0.alloc hb0.size _).alloc (by have := hb0.size; simp; omega) _
  have hs1 : W1.heap.size = W0.heap.size + 2 := by rw [← hW1]; simp
  have hM : nk_ApAt w fn (.func (.func g) #[] lb) w.heap.size (W0.heap.size + 1) W0.heap.size [] W1 :=
    ⟨⟨_, (hold w.heap.size (by omega)).trans hv0, ⟨rfl, .inl ⟨rfl, rfl⟩⟩, by simp⟩,
     by rw [← hW1]; have := World.alloc_heap_new (W0.alloc (.deferred (some []))) (.loop (nk_apRec fn (.func (.func g) #[] lb) w.heap.size W0.heap.size .ready none)); rwa [World.size_alloc] at this,
     by rw [← hW1]; exact (Below.heap_alloc _ _ _ (by simp)).trans (World.alloc_heap_new W0 _), hb1⟩
  refine ⟨W0.heap.size + 1, [{ target := .collected W0.heap.size, args := #[] }], W1, { target := .fn (.func g) lb, args := #[.func (.yield (W0.heap.size + 1)) #[] #[]] }, W1, g,
    #[.func (.yield (W0.heap.size + 1)) #[] #[]] ++ lb, W1, ?_, ?_, ?_, ?_, fun _ => h1, ?_⟩
  · rw [← hW1]; exact run_enterLoop_outer _ _ _ _ _
  · simp [resolve, go_sem]
  · intro f' hf'; simp [Target.leads] at hf'; subst hf'; exact hFg
  · simp [invoke, go_sem, eg]
  · refine (hseq (W0.heap.size + 1) (nk_ApAt w fn (.func (.func g) #[] lb) w.heap.size (W0.heap.size + 1) W0.heap.size) W1 hb1 (nk_ap_abides _ _ _ _ _ _ _ hb1.size)
      (fun pre x W hJ hl => nk_apYield F (n - 1 - 1) w fn hfn _ w.heap.size (W0.heap.size + 1) W0.heap.size (by omega) (by omega) (by omega) (Nat.le_refl _) (by omega) N hN hNb pre x W hJ hl) hM).mono ?_
    rintro e W2 ⟨⟨v0, rfl⟩, ss, hS, h2⟩
    obtain ⟨v, hv, hrow, hnil⟩ := h2.box
    have hend := run_endLoop (P := Try.prog) h2.L (by simp [nk_apRec])
    obtain ⟨W3, hW3⟩ : ∃ W3, W2.putObj (W0.heap.size + 1) (.loop { nk_apRec fn (.func (.func g) #[] lb) w.heap.size W0.heap.size .ready none with state := .exhausted }) = W3 := ⟨_, rfl⟩
    rw [hW3] at hend
    have hg3 : W2.grownBy W3 (some (W0.heap.size + 1)) := by rw [← hW3]; exact grownBy_putObj _ _ _
    have hv3 : W3.heap[w.heap.size]? = some (.cells #[v] 24 (0, 0)) := by rw [← hW3]; exact (World.putObj_heap_other (by omega)).trans hv
    have hK3 : W3.heap[W0.heap.size]? = some (.deferred (some [])) := by rw [← hW3]; exact (World.putObj_heap_other (by omega)).trans h2.K
    have hrow3 := hrow.kept hg3 (ownsRow_ne hrow h2.L (fun cur e => by cases e))
    have hb3 : Below w.heap.size w W3 := h2.below.grown hg3 h2.below.size (fun k e => by cases e; omega)
    obtain ⟨hc3, hf3⟩ := cell_of_box hv3
    clear hW3
    refine ⟨none, W3, hend, ?_⟩
    gi_wp2
    rw [← hs0]
    refine ⟨by simp, .inl ⟨_, _, rfl, run_takeDeferred hK3, ?_⟩⟩
    exact ⟨_, results_tmp rfl _ _ _, v, ss, rfl, hS, hrow3.kept (grownBy_putObj _ _ _) (ownsRow_ne hrow3 hK3 (fun cur e => by cases e)), hnil, hb3.grown (grownBy_putObj _ _ _) hb3.size (fun k e => by cases e; omega)⟩
set_option maxHeartbeats 1000000 in
theorem nk_collect_in (F : Fence) (n : Nat) (h8 : F.fn 63) (h11 : F.fn 82) (hro : F.round = none) (hn : 3 ≤ n) (g : Nat) (lb : Array Value) (hFg : F.fn g) (eg : ∀ args w, (callFunc g args).run Try.prog w = .ok (.enter g args) w)
    (S : List Int → Prop) (N : Nat) (hN : N ≤ maxLen) (hNb : N * 8 ≤ 140737488355328) (w : World) (hseq : SeqGives F (n - 1 - 1) Try.prog g lb encZ S N w) :
    CallsIn F n Try.prog 63 #[.func (.func g) #[] lb] w fun e w' => ∃ (v : Value) (ss : List Int), e = .returned v ∧ S ss ∧ w'.ownsRow w.heap.size 3 1 v ss.length (ss.map encZ) ∧ (v = .slice none 0 0 ↔ ss = []) ∧ Below w.heap.size w w' := by
  have h1 : 1 ≤ n := by omega
  refine callsIn_of_wp Try.func63 rfl h8 ?_ hro
  simp only [Try.ntmps63, List.size_toArray, List.length_cons, List.length_nil, Nat.reduceAdd, Nat.reduceSub, Array.replicate_succ, Array.replicate_zero, List.push_toArray, List.append_toArray, List.nil_append, List.cons_append]
  gi_wp2_with (gi_at_call 82; refine (nk_appendSeq_in F (n - 1) h11 hro (by omega) g lb hFg eg S N hN hNb _ hseq).mono ?_; rintro e w' ⟨v, ss, rfl, hS, hrow, hnil, hb⟩)
  go_ret
  exact ⟨v, ss, rfl, hS, hrow, hnil, hb⟩
def nk_SortsIn (F : Fence) (m : Nat) : Prop :=
  (∀ (blk off cap : Nat) (ss : List Int) (W : World), Holds encZ W blk off ss.toArray → blk < W.heap.size → ss.length < 4611686018427387904 →
    CallsIn F m Try.prog 56 #[.slice (some ⟨blk, off, none⟩) ss.length cap] W fun e w' => e = .returned (.tuple #[]) ∧ ∃ k os, w' = grow (putRow encZ (Sort.ahead W k) blk off (ss.mergeSort fun x y => decide (x ≤ y)).toArray) os) ∧
  (∀ (p : Option Addr) (cap : Nat) (W : World), CallsIn F m Try.prog 56 #[.slice p 0 cap] W fun e w' => e = .returned (.tuple #[]) ∧ w' = W)
set_option maxRecDepth 100000 in
set_option maxHeartbeats 2000000 in
theorem nk_sorted_in (F : Fence) (n : Nat) (h6 : F.fn 49) (h8 : F.fn 63) (h9 : F.fn 56) (h11 : F.fn 82) (hro : F.round = none) (hn : 4 ≤ n) (hsort : nk_SortsIn F (n - 1)) (g : Nat) (lb : Array Value) (hFg : F.fn g) (eg : ∀ args w, (callFunc g args).run Try.prog w = .ok (.enter g args) w)
    (S : List Int → Prop) (N : Nat) (hN : N ≤ maxLen) (hNb : N * 8 ≤ 140737488355328) (w : World) (hseq : SeqGives F (n - 1 - 1 - 1) Try.prog g lb encZ S N w) :
    CallsIn F n Try.prog 49 #[.func (.func g) #[] lb] w fun e w' => ∃ (v : Value) (ss : List Int), e = .returned v ∧ S ss ∧
      w'.ownsRow w.heap.size 3 1 v ss.length ((ss.mergeSort (fun x y => decide (x ≤ y))).map encZ) ∧ (v = .slice none 0 0 ↔ ss = []) ∧ Below w.heap.size w w' := by
  have h1 : 1 ≤ n := by omega
  refine callsIn_of_wp Try.func49 rfl h6 ?_ hro
  simp only [Try.ntmps49, List.size_toArray, List.length_cons, List.length_nil, Nat.reduceAdd, Nat.reduceSub, Array.replicate_succ, Array.replicate_zero, List.push_toArray, List.append_toArray, List.nil_append, List.cons_append]
  gi_wp2_with (gi_at_call 63; refine (nk_collect_in F (n - 1) h8 h11 hro (by omega) g lb hFg eg _ N hN hNb _ hseq.bounded).mono ?_; rintro e W ⟨v, ss, rfl, ⟨hS, hlen⟩, hrow, hnil, hb⟩)
  rcases hrow.2 with ⟨rfl, hz⟩ | ⟨gb, cap, cur, rfl, hbase, hgb, r1, r2, r3, r4⟩
  ·
    have hss : ss = [] := List.eq_nil_of_length_eq_zero hz
    subst hss
    gi_wp2_with (gi_at_call 56; refine (hsort.2 none 0 W).mono ?_; rintro e w' ⟨rfl, rfl⟩)
    go_ret
    exact ⟨.slice none 0 0, [], rfl, hS, by simpa using hrow, by simp, hb⟩
  · have hH : Holds encZ W gb 0 ss.toArray := holds_of_blockI hgb (by simpa using r4)
    have hgl : gb < W.heap.size := (Array.getElem?_eq_some_iff.1 hgb).1
    have hsz : ss.length < 4611686018427387904 := by omega
    have cS := hsort.1 gb 0 cap ss W hH hgl hsz
    gi_wp2_with (gi_at_call 56; refine cS.mono ?_; rintro e w' ⟨rfl, nn, os, rfl⟩)
    go_ret
    exact ⟨_, ss, rfl, hS, ownsRow_sortedI (by simp) hbase hgb r1 r2 r3, hnil, hb.grown (grownBy_sortedI _) hb.size (fun j hj => by cases hj; exact hbase)⟩
end Go.Proofs

set_option linter.unusedVariables false

namespace Go.NL
open Go.Proofs Go.Maps Go.RowKit Go.Sort Go.WideShapes Go.ChangeMaps
/-- Behind a part of a run that left all that there was. -/
theorem Sim.below {g : G} {A : Heap} {w w' : World} (hs : Sim g A w) (hb : Below w.heap.size w w') : Sim g A w' ∧ Ext g w g w' := by
  refine ⟨⟨hs.fresh, ?_, hs.inj, hs.own, ?_, ?_⟩, ⟨Nat.le_refl _, fun _ _ _ h => h, fun _ _ _ h => h, ?_, ?_, ?_, hb.size, hb.os, hb.tape, hb.output⟩⟩
  · intro b x hx
    obtain ⟨cb, sh, top, h1, h2⟩ := hs.blk b x hx
    exact ⟨cb, sh, top, h1, h2.ext (Nat.le_refl _) (fun _ _ _ h => h) (fun _ _ _ h => h) (hb.block _ (hs.lt _ _ _ _ h1))⟩
  · intro b cb sh top h
    exact Nat.lt_of_lt_of_le (hs.lt _ _ _ _ h) hb.size
  · intro cb o v hv
    obtain ⟨V, hV, hR, h1⟩ := hs.imm _ _ _ hv
    refine ⟨V, ?_, hR, h1⟩
    have := World.block_lt_of_cell? _ _ hV
    rw [cell?_of_heap (hb.block _ this)]
    exact hV
  · intro b cb sh top hg hm
    rw [(hs.fresh b hg).1] at hm
    cases hm
  · intro cb hlt _
    exact hb.block _ hlt
  · intro a ha
    exact frozen?_of_heap (hb.block _ ha)
/-- And one of the new blocks gets a name. -/
theorem Sim.adopt {g : G} {A : Heap} {w w' : World} (hs : Sim g A w) (hb : Below w.heap.size w w') {gb top : Nat} {x : Blk} (hgb : w.heap.size ≤ gb) (hlt : gb < w'.heap.size) (hx : BlkOk (g.more gb top) w' gb 0 top x) :
    Sim (g.more gb top) (A.set g.n x) w' ∧ Ext g w (g.more gb top) w' := by
  obtain ⟨hs', he⟩ := hs.below hb
  obtain ⟨e1, e2, e3⟩ := G.more_ext (g := g) gb top
  have hne : ∀ b cb sh t, g.mb b = some (cb, sh, t) → cb ≠ gb := fun b cb sh t h hc => by have := hs.lt _ _ _ _ h; omega
  have hmb : ∀ b cb sh t, (g.more gb top).mb b = some (cb, sh, t) → (b = g.n ∧ cb = gb ∧ sh = 0 ∧ t = top) ∨ (b ≠ g.n ∧ g.mb b = some (cb, sh, t)) := by
    intro b cb sh t h
    by_cases hb : b = g.n
    · simp [G.more, hb] at h
      exact .inl ⟨hb, by omega, by omega, by omega⟩
    · simp [G.more, hb] at h
      exact .inr ⟨hb, h⟩
  refine ⟨⟨?_, ?_, ?_, ?_, ?_, ?_⟩, ⟨e1, e2, e3, ?_, fun cb hlt _ => hb.block _ hlt, he.frozen, hb.size, hb.os, hb.tape, hb.output⟩⟩
  · intro b hb
    have hb : g.n + 1 ≤ b := hb
    have h1 : b ≠ g.n := by omega
    have h2 := hs.fresh b (by omega)
    simp [G.more, Heap.set, h1, h2]
  · intro b y hy
    by_cases hb : b = g.n
    · subst hb
      simp [Heap.set] at hy
      subst hy
      exact ⟨gb, 0, top, by simp [G.more], hx⟩
    · simp [Heap.set, hb] at hy
      obtain ⟨cb, sh, t, hm, hok⟩ := hs'.blk b y hy
      exact ⟨cb, sh, t, by simp [G.more, hb, hm], hok.ext e1 e2 e3 rfl⟩
  · intro b b' cb sh t sh' t' h h'
    rcases hmb _ _ _ _ h with ⟨h1, h2, _⟩ | ⟨h1, h2⟩ <;> rcases hmb _ _ _ _ h' with ⟨h3, h4, _⟩ | ⟨h3, h4⟩
    · omega
    · exact absurd h2 (hne _ _ _ _ h4)
    · exact absurd h4 (hne _ _ _ _ h2)
    · exact hs.inj _ _ _ _ _ _ _ h2 h4
  · intro b cb sh t o' v h hv
    rcases hmb _ _ _ _ h with ⟨h1, h2, _⟩ | ⟨h1, h2⟩
    · obtain ⟨V, hV, _⟩ := hs.imm _ _ _ hv
      have := World.block_lt_of_cell? _ _ hV
      simp at this
      omega
    · exact hs.own _ _ _ _ _ _ h2 hv
  · intro b cb sh t h
    rcases hmb _ _ _ _ h with ⟨h1, h2, _⟩ | ⟨h1, h2⟩
    · omega
    · exact hs'.lt _ _ _ _ h2
  · intro cb o' v hv
    obtain ⟨V, hV, hR, h1⟩ := hs'.imm _ _ _ hv
    exact ⟨V, hV, hR.ext e1 e2 e3, h1⟩
  · intro b cb sh t hb h
    rcases hmb _ _ _ _ h with ⟨h1, h2, _⟩ | ⟨h1, h2⟩
    · exact .inl (by omega)
    · rw [(hs.fresh b hb).1] at h2; cases h2
/-- A map by numbers, as its entries came. -/
def ents {V : Type} (enc : V → AV) : List (Int × V) → Nat → List (AV × AV × Nat)
  | [], _ => []
  | (k, v) :: m, i => (.int .i64 k, enc v, i) :: ents enc m (i + 1)
def mapB {V : Type} (enc : V → AV) (m : List (Int × V)) : Blk := .map (ents enc m 0) m.length
theorem ents_length {V : Type} (enc : V → AV) : ∀ (m : List (Int × V)) (i : Nat), (ents enc m i).length = m.length
  | [], _ => rfl
  | (k, v) :: m, i => by simp [ents, ents_length enc m]
theorem ents_get {V : Type} (enc : V → AV) : ∀ (m : List (Int × V)) (i j : Nat) (k : Int) (v : V), m[j]? = some (k, v) → (ents enc m i)[j]? = some (.int .i64 k, enc v, i + j)
  | [], _, _, _, _, h => by simp at h
  | (k', v') :: m, i, 0, k, v, h => by simp at h; obtain ⟨rfl, rfl⟩ := h; rfl
  | (k', v') :: m, i, j + 1, k, v, h => by
    simp at h
    have := ents_get enc m (i + 1) j k v h
    simp only [ents, List.getElem?_cons_succ, this]
    congr 3
    omega
/-- Numbers in a map, none twice. -/
def MapOk {V : Type} (m : List (Int × V)) : Prop := (m.map (·.1)).Nodup ∧ ∀ p ∈ m, -9223372036854775808 ≤ p.1 ∧ p.1 ≤ 9223372036854775807
theorem nk_sorts (m : Nat) : nk_SortsIn Fence.wide m :=
  ⟨fun blk off cap ss W hH hblk hsz => callsIn_wide.2 (Try.slices_Sort_int blk off cap ss W hH hblk hsz), fun p cap W => callsIn_wide.2 (Try.slices_Sort_int_none p cap W)⟩
theorem i64_wf {x : Int} (h1 : -9223372036854775808 ≤ x) (h2 : x ≤ 9223372036854775807) : (Lit.int .i64 x).wf = true := by
  have e1 : IntKind.i64.min = -9223372036854775808 := by decide
  have e2 : IntKind.i64.max = 9223372036854775807 := by decide
  simp [Lit.wf, e1, e2, h1, h2]
theorem map_own {V : Type} (enc : V → AV) (m : List (Int × V)) (hm : MapOk m) (hl : m.length ≤ maxLen) {g : G} {w : World} {cb : Nat} {ces : Array MapEntry} (hh : w.heap[cb]? = some (.map ces m.length)) (hsz : ces.size = (ents enc m 0).length)
    (hrel : ∀ (i : Nat) (k v : AV) (born : Nat) (e : MapEntry), (ents enc m 0)[i]? = some (k, v, born) → ces[i]? = some e → Rel g k e.key ∧ Rel g v e.val ∧ e.born = born) :
    ∃ D : DataW Nat, w.ownsMap Try.prog 3 nk_R cb m.length D ∧ (m.map (·.1)).Perm (intKeys D) := by
  rw [ents_length] at hsz
  have hce : ∀ (i : Nat) (e : MapEntry), ces[i]? = some e → ∃ k v, m[i]? = some (k, v) ∧ e.key = .int .i64 k ∧ e.born = i := by
    intro i e he
    have hi : i < m.length := by rw [← hsz]; exact (Array.getElem?_eq_some_iff.1 he).1
    have hmi : m[i]? = some m[i] := List.getElem?_eq_getElem hi
    obtain ⟨h1, _, h3⟩ := hrel i _ _ _ e (ents_get enc m 0 i _ _ hmi) he
    refine ⟨_, _, hmi, ?_, by omega⟩
    generalize e.key = K at h1
    cases h1
    rfl
  have hkeys : ces.toList.map (·.key) = m.map fun p => Value.int .i64 p.1 := by
    apply List.ext_getElem?
    intro i
    rw [List.getElem?_map, List.getElem?_map, Array.getElem?_toList]
    by_cases hi : i < ces.size
    · obtain ⟨k, v, h1, h2, _⟩ := hce i ces[i] (Array.getElem?_eq_getElem hi)
      rw [h1, Array.getElem?_eq_getElem hi]
      simp [h2]
    · rw [Array.getElem?_eq_none (by omega), List.getElem?_eq_none (by omega)]
      rfl
  have hborn : ces.toList.map (·.born) = List.range m.length := by
    apply List.ext_getElem?
    intro i
    rw [List.getElem?_map, Array.getElem?_toList]
    by_cases hi : i < ces.size
    · obtain ⟨k, v, _, _, h2⟩ := hce i ces[i] (Array.getElem?_eq_getElem hi)
      rw [Array.getElem?_eq_getElem hi, List.getElem?_range (by omega)]
      simp [h2]
    · rw [Array.getElem?_eq_none (by omega), List.getElem?_eq_none (by simp; omega)]
      rfl
  have hread : ∀ x ∈ ces.toList, ∃ k, x.key = .int .i64 k ∧ k ∈ m.map (·.1) ∧ (Lit.int .i64 k).wf = true := by
    intro x hx
    obtain ⟨i, hi, rfl⟩ := List.getElem_of_mem hx
    obtain ⟨k, v, h1, h2, _⟩ := hce i _ (by rw [← Array.getElem?_toList]; exact List.getElem?_eq_getElem hi)
    have hmem := List.mem_of_getElem? h1
    exact ⟨k, h2, List.mem_map.2 ⟨_, hmem, rfl⟩, i64_wf (hm.2 _ hmem).1 (hm.2 _ hmem).2⟩
  have hko : ∀ {x : MapEntry} {k : Int}, x.key = .int .i64 k → (Lit.int .i64 k).wf = true → Go.WideElems.rd Try.prog 3 (nk_R (H := Nat)) x = some (.int .i64 k, .nil) := by
    intro x k hx hw
    simp [Go.WideElems.rd, hx, keyOf_int_mk Try.underlying3 hw, nk_R]
  have F : Go.WideElems.Fit Try.prog 3 (nk_R (H := Nat)) ces m.length := by
    refine ⟨by omega, (MapKept.stamped_iff _ _).2 ⟨fun x hx => ?_, by rw [hborn]; exact List.nodup_range, ?_⟩, fun x hx => ?_⟩
    · obtain ⟨i, hi, rfl⟩ := List.getElem_of_mem hx
      obtain ⟨k, v, _, _, h2⟩ := hce i _ (by rw [← Array.getElem?_toList]; exact List.getElem?_eq_getElem hi)
      rw [h2]
      simp at hi
      omega
    · have : (ces.toList.map (·.key)).Nodup := by
        rw [hkeys]
        have h1 := hm.1
        rw [List.Nodup, List.pairwise_map] at h1 ⊢
        exact h1.imp fun hne e => hne (by injection e)
      exact List.pairwise_map.1 this
    · obtain ⟨k, h1, _, h2⟩ := hread x hx
      exact ⟨_, hko h1 h2⟩
  refine ⟨_, ⟨ces, m.length, hh, F, by omega, rfl⟩, ?_⟩
  have hmem : ∀ p, p ∈ (ces.toList.map (Go.WideElems.rg Try.prog 3 (nk_R (H := Nat)))).foldr DataW.insert [] ↔ ∃ x ∈ ces.toList, ∃ k, x.key = .int .i64 k ∧ (Lit.int .i64 k).wf = true ∧ p = (.int .i64 k, .nil) := by
    intro p
    rw [mem_sorted, List.mem_map]
    constructor
    · rintro ⟨x, hx, rfl⟩
      obtain ⟨k, h1, _, h2⟩ := hread x hx
      exact ⟨x, hx, k, h1, h2, Go.WideElems.rg_of (hko h1 h2)⟩
    · rintro ⟨x, hx, k, h1, h2, rfl⟩
      exact ⟨x, hx, Go.WideElems.rg_of (hko h1 h2)⟩
  refine perm_intKeys ?_ ?_ hm.1 ?_
  · exact ((sorted_perm _).pairwise_iff (fun {_ _} hne => Ne.symm hne)).2 (Maps.fit_apart nk_law F)
  · intro p hp
    obtain ⟨x, _, k, _, _, rfl⟩ := (hmem p).1 hp
    exact ⟨k, rfl⟩
  · intro x
    rw [has_eq, List.any_eq_true]
    constructor
    · intro hx
      obtain ⟨i, hi, hxi⟩ := List.getElem_of_mem hx
      have hi' : i < ces.toList.length := by simp at hi ⊢; omega
      have hmm : ces.toList[i] ∈ ces.toList := List.getElem_mem hi'
      have hk : ces.toList[i].key = .int .i64 x := by
        have : (ces.toList.map (·.key))[i]? = (m.map fun p => Value.int .i64 p.1)[i]? := by rw [hkeys]
        rw [List.getElem?_map, List.getElem?_eq_getElem hi', List.getElem?_map, List.getElem?_eq_getElem (by simpa using hi)] at this
        simp at this hxi
        simp [this, hxi]
      obtain ⟨k, h1, _, h2⟩ := hread _ hmm
      rw [hk] at h1
      cases h1
      exact ⟨_, (hmem _).2 ⟨_, hmm, x, hk, h2, rfl⟩, by simp [Lit.sameKey]⟩
    · rintro ⟨p, hp, hs⟩
      obtain ⟨y, hy, k, h1, h2, rfl⟩ := (hmem p).1 hp
      obtain ⟨k', h3, h4, _⟩ := hread y hy
      rw [h1] at h3
      cases h3
      have : k = x := by simpa [Lit.sameKey] using hs
      rw [← this]
      exact h4
theorem sorted_enters : enters Try.prog 49 = true := by kernel_rfl
theorem keys1_enters : ∀ args w, (callFunc 64 args).run Try.prog w = .ok (.enter 64 args) w := enters_of Try.func64 (by kernel_rfl) rfl
theorem sortInts_perm {a b : List Int} (h : a.Perm b) : a.mergeSort (fun x y => decide (x ≤ y)) = b.mergeSort (fun x y => decide (x ≤ y)) := mergeSort_of_perm_i h
/-- slices.Sorted(maps.Keys(m)), m not nil. -/
theorem sorted_keys {V : Type} (enc : V → AV) (m : List (Int × V)) (hm : MapOk m) (hl : m.length * 8 ≤ 140737488355328) {A : Heap} {bx mb : Nat} (hbx : A bx = some (.cells [.map mb])) (hmb : A mb = some (mapB enc m)) {K : AV → Heap → Prop}
    (h0 : m = [] → K .nilslice A)
    (h1 : m ≠ [] → ∀ b, A b = none → K (.slice 1 b 0 m.length (.ge m.length)) (A.set b (.cells (((m.map (·.1)).mergeSort (fun x y => decide (x ≤ y))).map (AV.int .i64))))) :
    NCalls Try.prog 49 [.func 64 [] [.ptr bx 0]] A K := by
  refine ⟨sorted_enters, fun g w cargs hs hr => ?_⟩
  -- the argument
  obtain ⟨C, rfl⟩ : ∃ C, cargs = #[C] := by
    have := hr.len
    simp at this
    exact ⟨cargs[0], by
      apply Array.ext
      · simp; omega
      · intro i h1 h2
        have : i = 0 := by simp at h2; omega
        subst this
        rfl⟩
  have hC := hr.rel 0 _ C rfl rfl
  obtain ⟨cbx, sx, tx, hgx, c, e, hcx, _, hlx, hcellx⟩ := hs.blk bx _ hbx
  obtain ⟨X, hX⟩ : ∃ X, C = .func (.func 64) #[] #[X] ∧ Rel g (.ptr bx 0) X := by
    generalize hav : AV.func 64 [] [.ptr bx 0] = av at hC
    cases hC <;> cases hav
    rename_i fs cs hf h1 hc h2
    have hfs : fs = #[] := Array.eq_empty_of_size_eq_zero (by simpa using hf.symm)
    subst hfs
    have hcs : cs.size = 1 := by simpa using hc.symm
    refine ⟨cs[0], ?_, h2 0 (by simp) (by omega)⟩
    congr 1
    apply Array.ext
    · simp; omega
    · intro i h1 h2
      have : i = 0 := by simp at h2; omega
      subst this
      rfl
  obtain ⟨rfl, hXr⟩ := hX
  obtain ⟨a, rfl, ha⟩ : ∃ a, X = .pointer (some a) ∧ a = ⟨cbx, sx + 0, none⟩ := by
    cases hXr with
    | ptr _ _ a _ h => exact ⟨a, rfl, h _ _ _ hgx⟩
  subst ha
  obtain ⟨_, MV, hMV, hMr⟩ := hcellx 0 _ rfl
  obtain ⟨cbm, sm, tm, hgm, ces, hcm, hcsz, hcrel⟩ := hs.blk mb _ hmb
  obtain rfl : MV = .map (some cbm) := by
    cases hMr with
    | map _ cb _ h => rw [h _ _ _ hgm]
  have hlm : m.length ≤ maxLen := by unfold maxLen; omega
  obtain ⟨D, hown, hperm⟩ := map_own enc m hm hlm hcm hcsz hcrel
  have hcell : w.cell? ⟨cbx, sx + 0, none⟩ = some (.map (some cbm)) := by simp [World.cell?, hcx] at hMV ⊢; exact hMV
  have hsizeD := hown.size_le
  have hseq := nk_keys_gives Fence.wide (6 - 1 - 1 - 1) trivial rfl (by decide) cbx (sx + 0) cbm m.length D w (hs.lt _ _ _ _ hgx) hcell hown
  refine ((callsIn_wide (n := 6)).1 (nk_sorted_in Fence.wide 6 trivial trivial trivial trivial rfl (by decide) (nk_sorts _) 64 _ trivial keys1_enters _ _ (by omega) (by omega) w hseq)).mono ?_
  rintro e' w' ⟨v, ss, rfl, hS, hrow, hnil, hb⟩
  have hss : ss.Perm (m.map (·.1)) := hS.trans hperm.symm
  have hlen : ss.length = m.length := by rw [hss.length_eq, List.length_map]
  rw [sortInts_perm hss, hlen] at hrow
  rcases hrow.2 with ⟨rfl, hz⟩ | ⟨gb, cap, cur, rfl, hbase, hgb, r1, r2, r3, r4⟩
  · have hm0 : m = [] := List.eq_nil_of_length_eq_zero hz
    obtain ⟨s1, e1⟩ := hs.below hb
    exact ⟨.nilslice, _, A, g, rfl, .nilslice, s1, e1, h0 hm0⟩
  · have hm0 : m ≠ [] := by
      rintro rfl
      have : ss = [] := List.eq_nil_of_length_eq_zero hlen
      have := hnil.2 this
      cases this
    have hgl : gb < w'.heap.size := (Array.getElem?_eq_some_iff.1 hgb).1
    obtain ⟨s1, e1⟩ := hs.adopt (gb := gb) (top := cur.size) (x := .cells (((m.map (·.1)).mergeSort (fun x y => decide (x ≤ y))).map (AV.int .i64))) hb hbase hgl ⟨cur, _, hgb, rfl, by simp; omega, fun i v hv => by
      rw [List.getElem?_map, Option.map_eq_some_iff] at hv
      obtain ⟨x, hx, rfl⟩ := hv
      have hi : i < m.length := by have := (List.getElem?_eq_some_iff.1 hx).1; simpa using this
      refine ⟨rfl, .int .i64 x, ?_, .int _ _⟩
      have h2 : (cur.toList.take (m.length * 1))[i]? = some (encZ x) := by rw [r4, List.getElem?_map, hx]; rfl
      rw [List.getElem?_take_of_lt (by omega), Array.getElem?_toList] at h2
      rw [Nat.zero_add]
      exact h2⟩
    refine ⟨.slice 1 g.n 0 m.length (.ge m.length), _, _, _, rfl, ?_, s1, e1, h1 hm0 g.n (hs.fresh _ (Nat.le_refl _)).2⟩
    refine .slice _ _ _ _ _ _ _ (Nat.lt_succ_self _) r1 r1 rfl fun _ cb sh top' hmm => ?_
    simp only [G.more, if_true, Option.some.injEq, Prod.mk.injEq] at hmm
    obtain ⟨rfl, rfl, rfl⟩ := hmm
    exact ⟨rfl, by omega⟩
end Go.NL

set_option linter.unusedVariables false

namespace Go.NL
open Go.Proofs Go.Maps Go.RowKit Go.Sort
/-- One argument. -/
theorem one_arg {g : G} {a : AV} {cargs : Array Value} (h : RelL g [a] cargs) : ∃ V, cargs = #[V] ∧ Rel g a V := by
  have hl := h.len
  simp at hl
  have h0 : 0 < cargs.size := by omega
  refine ⟨cargs[0], ?_, h.rel 0 _ _ rfl (Array.getElem?_eq_getElem h0)⟩
  apply Array.ext
  · simp; omega
  · intro i h1 h2
    have : i = 0 := by simp at h2; omega
    subst this
    rfl
abbrev ints (zs : List Int) : List AV := zs.map (AV.int .i64)
/-- A slice of numbers in a block of the run's own. -/
theorem ints_slice {g : G} {A : Heap} {w : World} (hs : Sim g A w) {b : Nat} {zs : List Int} {rest : List AV} (hb : A b = some (.cells (ints zs ++ rest))) {cap : Cap} {V : Value} (hz : zs ≠ []) (hr : Rel g (.slice 1 b 0 zs.length cap) V) :
    ∃ cb sh top c e cp, V = .slice (some ⟨cb, sh, none⟩) zs.length cp ∧ zs.length ≤ cp ∧ (match cap with | .ge k => k ≤ cp | .eq k => cp = k) ∧ sh + cp ≤ top ∧ g.mb b = some (cb, sh, top) ∧ w.heap[cb]? = some (.cells c e (0, 0)) ∧ c.size = top ∧ sh + (zs.length + rest.length) ≤ top ∧ cb < w.heap.size ∧
      Holds (Value.int .i64) w cb sh zs.toArray := by
  obtain ⟨cb, sh, top, c, e, hm, hh, htop, hlen, hcs, hcell⟩ := blk_cells hs hb
  have hzl : 0 < zs.length := List.length_pos_iff.2 hz
  cases hr with
  | slice _ _ _ _ _ a cp _ hlc hcap hsp h =>
    obtain ⟨h1, h2⟩ := h (by omega) _ _ _ hm
    subst h1
    refine ⟨cb, sh, top, c, e, cp, rfl, hlc, hcap, by omega, hm, hh, htop, by simpa using hlen, hs.lt _ _ _ _ hm, fun j hj => ?_⟩
    have hj' : j < zs.length := by simpa using hj
    obtain ⟨_, V, hV, hVr⟩ := hcell j (.int .i64 zs[j]) (by rw [List.getElem?_append_left (by simpa using hj')]; simp [hj'])
    have hVe : V = .int .i64 zs[j] := by cases hVr; rfl
    subst hVe
    refine ⟨?_, by simp [World.frozen?, hh]⟩
    rw [hV]
    simp [hj']
/-- The cells of a slice of numbers are written. -/
theorem put_ints {g : G} {A : Heap} {w : World} (hs : Sim g A w) {b : Nat} {zs ys : List Int} {rest : List AV} (hb : A b = some (.cells (ints zs ++ rest))) (hy : ys.length = zs.length) {cb sh top : Nat} {c : Array Value} {e : TypeId} (hm : g.mb b = some (cb, sh, top)) (hh : w.heap[cb]? = some (.cells c e (0, 0)))
    (htop : c.size = top) (hlen : sh + (zs.length + rest.length) ≤ top) (n : Nat) (os : Array Obj) :
    Sim g (A.set b (.cells (ints ys ++ rest))) (grow (putRow (Value.int .i64) (Sort.ahead w n) cb sh ys.toArray) os) ∧ Ext g w g (grow (putRow (Value.int .i64) (Sort.ahead w n) cb sh ys.toArray) os) := by
  have hlt : cb < w.heap.size := hs.lt _ _ _ _ hm
  have hu : Upd w (putRow (Value.int .i64) (Sort.ahead w n) cb sh ys.toArray) cb (.cells (putCells (Value.int .i64) sh ys.toArray c) e (0, 0)) := by
    refine ⟨fun k hk => ?_, ?_, ?_, rfl, rfl, rfl⟩
    · simp only [putRow, mapBlock, Sort.ahead, Array.getElem?_modify, if_neg (Ne.symm hk)]
    · simp only [putRow, mapBlock, Sort.ahead, Array.getElem?_modify, if_true, hh, Option.map_some, onCells]
    · simp [putRow, mapBlock, Sort.ahead]
  obtain ⟨cb', sh', top', hm', c', e', hh', _, _, hcell⟩ := hs.blk b _ hb
  rw [hm] at hm'
  cases hm'
  rw [hh] at hh'
  cases hh'
  obtain ⟨s1, e1⟩ := hs.upd (cs' := ints ys ++ rest) hm hh hu (fun i hi => by
      rw [putCells, Array.getElem?_mapIdx]
      cases hc : c[i]? with
      | none => rfl
      | some x => simp; intro h; omega) (by simp [putCells, htop]) (by simp [hy]; omega) (fun i v hv => by
      by_cases hi : i < ys.length
      · rw [List.getElem?_append_left (by simpa using hi)] at hv
        simp [hi] at hv
        subst hv
        refine ⟨rfl, .int .i64 ys[i], ?_, .int _ _⟩
        rw [putCells, Array.getElem?_mapIdx, Array.getElem?_eq_getElem (by omega)]
        simp [hi]
      · rw [List.getElem?_append_right (by simpa using hi)] at hv
        have h2 : (ints zs ++ rest)[i]? = some v := by
          rw [List.getElem?_append_right (by simp; omega)]
          simpa [hy] using hv
        obtain ⟨h3, V, h4, h5⟩ := hcell i v h2
        refine ⟨h3, V, ?_, h5⟩
        rw [putCells, Array.getElem?_mapIdx, h4]
        simp
        omega)
  have hb : Below (putRow (Value.int .i64) (Sort.ahead w n) cb sh ys.toArray).heap.size (putRow (Value.int .i64) (Sort.ahead w n) cb sh ys.toArray) (grow (putRow (Value.int .i64) (Sort.ahead w n) cb sh ys.toArray) os) :=
    ⟨rfl, rfl, rfl, by simp [grow], fun k hk => heap_grow_old _ _ hk⟩
  obtain ⟨s2, e2⟩ := s1.below hb
  exact ⟨s2, e1.trans e2⟩
theorem sort_enters : enters Try.prog 56 = true := by kernel_rfl
theorem compact_enters : enters Try.prog 57 = true := by kernel_rfl
/-- slices.Sort of numbers in a block of the run's own. -/
theorem sort_ints {A : Heap} {b : Nat} {zs : List Int} {rest : List AV} (hb : A b = some (.cells (ints zs ++ rest))) {cap : Cap} (hsz : zs.length < 4611686018427387904) {K : AV → Heap → Prop} (hz : zs ≠ [])
    (hk : K (.tuple []) (A.set b (.cells (ints (zs.mergeSort fun x y => decide (x ≤ y)) ++ rest)))) : NCalls Try.prog 56 [.slice 1 b 0 zs.length cap] A K := by
  refine ⟨sort_enters, fun g w cargs hs hr => ?_⟩
  obtain ⟨V, rfl, hV⟩ := one_arg hr
  obtain ⟨cb, sh, top, c, e, cp, rfl, h1, h2, h3, hm, hh, htop, hlen, hlt, hH⟩ := ints_slice hs hb hz hV
  refine (Try.slices_Sort_int cb sh cp zs w hH hlt hsz).mono ?_
  rintro e' w' ⟨rfl, n, os, rfl⟩
  obtain ⟨s1, e1⟩ := put_ints hs hb (ys := zs.mergeSort fun x y => decide (x ≤ y)) (List.length_mergeSort _) hm hh htop hlen n os
  exact ⟨.tuple [], .tuple #[], _, _, rfl, RelL.nil.tuple, s1, e1, hk⟩
theorem sort_nil {A : Heap} {K : AV → Heap → Prop} (hk : K (.tuple []) A) : NCalls Try.prog 56 [.nilslice] A K := by
  refine ⟨sort_enters, fun g w cargs hs hr => ?_⟩
  obtain ⟨V, rfl, hV⟩ := one_arg hr
  cases hV
  refine (Try.slices_Sort_int_none none 0 w).mono ?_
  rintro e' w' ⟨rfl, rfl⟩
  exact ⟨.tuple [], .tuple #[], _, _, rfl, RelL.nil.tuple, hs, .refl hs, hk⟩
/-- slices.Compact of numbers in a block of the run's own. -/
theorem compact_ints {A : Heap} {b : Nat} {zs : List Int} {rest : List AV} (hb : A b = some (.cells (ints zs ++ rest))) {cap : Cap} (hsz : zs.length < 4611686018427387904) {K : AV → Heap → Prop} (hz : zs ≠ []) (hcl : (Lib.compact zs).length ≤ zs.length)
    (hk : K (.slice 1 b 0 (Lib.compact zs).length cap) (A.set b (.cells (ints (Lib.compact zs ++ List.replicate (zs.length - (Lib.compact zs).length) 0) ++ rest)))) : NCalls Try.prog 57 [.slice 1 b 0 zs.length cap] A K := by
  refine ⟨compact_enters, fun g w cargs hs hr => ?_⟩
  obtain ⟨V, rfl, hV⟩ := one_arg hr
  obtain ⟨cb, sh, top, c, e, cp, rfl, h1, h2, h3, hm, hh, htop, hlen, hlt, hH⟩ := ints_slice hs hb hz hV
  refine (Try.slices_Compact_int cb sh cp zs w hH (by omega) h1).mono ?_
  rintro e' w' ⟨rfl, n, rfl⟩
  obtain ⟨s1, e1⟩ := put_ints hs hb (ys := Lib.compact zs ++ List.replicate (zs.length - (Lib.compact zs).length) 0) (by simp; omega) hm hh htop hlen n #[]
  rw [grow_empty] at s1 e1
  refine ⟨.slice 1 b 0 (Lib.compact zs).length cap, _, _, _, rfl, ?_, s1, e1, hk⟩
  refine .slice _ _ _ _ _ _ _ ?_ (by omega) h2 rfl fun _ cb' sh' top' hmm => ?_
  · cases hV; assumption
  · rw [hm] at hmm
    cases hmm
    exact ⟨rfl, by omega⟩
theorem compact_nil {A : Heap} {K : AV → Heap → Prop} (hk : K .nilslice A) : NCalls Try.prog 57 [.nilslice] A K := by
  refine ⟨compact_enters, fun g w cargs hs hr => ?_⟩
  obtain ⟨V, rfl, hV⟩ := one_arg hr
  cases hV
  refine (Try.slices_Compact_int_empty none 0 w).mono ?_
  rintro e' w' ⟨rfl, rfl⟩
  exact ⟨.nilslice, _, _, _, rfl, .nilslice, hs, .refl hs, hk⟩
end Go.NL

set_option linter.unusedVariables false

set_option maxRecDepth 10000
namespace Go.NL
open Go.Proofs
theorem Own1_spec (a : Atom) : NPure Try.prog F_core_Own_1 [a.enc] (.bool (!a.ok)) := by
  refine NPure.walk c_core_Own_1 (Nat.le_of_ble_eq_true rfl) fun A0 => ?_
  have h := Atom_spec a
  obtain ⟨k, n, s⟩ := a
  simp only [Atom.enc, go_sem, Nat.reduceEqDiff, Nat.reduceAdd, Nat.reduceLeDiff, ↓reduceIte, eq_self] at h ⊢
  intro b hb
  refine h.call ?_
  simp only [hb, go_sem, ↓reduceIte, eq_self]
/-- A map by texts, as its entries came. -/
def sents : List (List UInt8 × Int) → Nat → List (AV × AV × Nat)
  | [], _ => []
  | (k, v) :: m, i => (.str k, .int .i64 v, i) :: sents m (i + 1)
def smapB (m : List (List UInt8 × Int)) : Blk := .map (sents m 0) m.length
def primsL : List (List UInt8 × Int) := [([97, 100, 100], 2), ([115, 117, 98], 2), ([109, 117, 108], 2), ([100, 105, 118], 2), ([109, 111, 100], 2), ([101, 113], 2), ([108, 116], 2), ([108, 101], 2), ([98, 121, 116, 101], 2), ([106, 111, 105, 110], 2), ([115, 101, 116], 2),
  ([110, 101, 103], 1), ([103, 101, 116, 99], 1), ([112, 117, 116, 99], 1), ([112, 117, 116, 115], 1), ([115, 105, 122, 101], 1), ([99, 104, 114], 1), ([99, 117, 116], 3)]
theorem prims_spec {A : Heap} {K : AV → Heap → Prop} (h : ∀ b, A b = none → K (.map b) (A.set b (smapB primsL))) : NCalls Try.prog F_core_prims [] A K := by
  refine NCalls.walk c_core_prims (Nat.le_of_ble_eq_true rfl) ?_
  simp only [go_sem, ↓reduceIte, eq_self]
  intro b hb
  simp (config := {maxSteps := 400000, decide := true}) only [updB, findE, keyEq, go_sem, Nat.reduceAdd, ↓reduceIte, decide_false, eq_self]
  exact h b hb
end Go.NL

set_option linter.unusedVariables false

namespace Go.NL
def mget {V : Type} : List (Int × V) → Int → Option V
  | [], _ => none
  | (k', v) :: m, k => if k' = k then some v else mget m k
def mput {V : Type} : List (Int × V) → Int → V → List (Int × V)
  | [], k, v => [(k, v)]
  | (k', v') :: m, k, v => if k' = k then (k, v) :: m else (k', v') :: mput m k v
def mfind {V : Type} : List (Int × V) → Int → Nat → Option (Nat × V)
  | [], _, _ => none
  | (k', v) :: m, k, i => if k' = k then some (i, v) else mfind m k (i + 1)
theorem mfind_get {V : Type} : ∀ (m : List (Int × V)) (k : Int) (i : Nat), (mfind m k i).map (·.2) = mget m k
  | [], _, _ => rfl
  | (k', v) :: m, k, i => by
    simp only [mfind, mget]
    split
    · rfl
    · exact mfind_get m k (i + 1)
theorem findE_ents {V : Type} (enc : V → AV) (k : Int) : ∀ (m : List (Int × V)) (j i : Nat), findE (.int .i64 k) (ents enc m j) i = some ((mfind m k i).map fun p => (p.1, enc p.2))
  | [], _, _ => rfl
  | (k', v) :: m, j, i => by
    simp only [ents, findE, keyEq, if_true, mfind]
    by_cases h : k' = k
    · simp [h]
    · have : ¬k = k' := fun e => h e.symm
      simp [h, this, findE_ents enc k m (j + 1) (i + 1)]
theorem findB_map {V : Type} (enc : V → AV) (k : Int) (m : List (Int × V)) : findB (.int .i64 k) (some (mapB enc m)) = some ((mfind m k 0).map fun p => (p.1, enc p.2)) := findE_ents enc k m 0 0
theorem look_bool (k : Int) (m : List (Int × Bool)) : lookRes (.bool false) false ((mfind m k 0).map fun p => (p.1, AV.bool p.2)) = .bool ((mget m k).getD false) := by
  rw [← mfind_get m k 0]
  cases mfind m k 0 <;> rfl
theorem look_int (k : Int) (m : List (Int × Int)) : lookRes (.int .i64 0) false ((mfind m k 0).map fun p => (p.1, AV.int .i64 p.2)) = .int .i64 ((mget m k).getD 0) := by
  rw [← mfind_get m k 0]
  cases mfind m k 0 <;> rfl
theorem mfind_none {V : Type} (enc : V → AV) (v : V) (k : Int) : ∀ (m : List (Int × V)) (i j : Nat), mfind m k i = none → ents enc (mput m k v) j = ents enc m j ++ [(.int .i64 k, enc v, j + m.length)] ∧ (mput m k v).length = m.length + 1
  | [], i, j, _ => by simp [mput, ents]
  | (k', v') :: m, i, j, h => by
    simp only [mfind] at h
    split at h
    · cases h
    · rename_i hk
      obtain ⟨h1, h2⟩ := mfind_none enc v k m (i + 1) (j + 1) h
      have e : j + 1 + m.length = j + (m.length + 1) := by omega
      simp only [mput, if_neg hk, ents, h1, List.cons_append, List.length_cons, h2, and_true, e]
theorem mfind_some {V : Type} (enc : V → AV) (v : V) (k : Int) : ∀ (m : List (Int × V)) (i j n : Nat) (v0 : V), mfind m k i = some (n, v0) → i ≤ n ∧ ents enc (mput m k v) j = (ents enc m j).modify (n - i) (fun e => (.int .i64 k, enc v, e.2.2)) ∧ (mput m k v).length = m.length
  | [], i, j, n, v0, h => by simp [mfind] at h
  | (k', v') :: m, i, j, n, v0, h => by
    simp only [mfind] at h
    split at h
    · rename_i hk
      cases h
      refine ⟨Nat.le_refl _, ?_, by simp [mput, hk]⟩
      simp [mput, hk, ents]
    · rename_i hk
      obtain ⟨h1, h2, h3⟩ := mfind_some enc v k m (i + 1) (j + 1) n v0 h
      refine ⟨by omega, ?_, by simp [mput, hk, h3]⟩
      simp only [mput, if_neg hk, ents, h2]
      rw [show n - i = (n - (i + 1)) + 1 from by omega]
      rfl
theorem updB_map {V : Type} (enc : V → AV) (A : Heap) (b : Nat) (K : Heap → Prop) (k : Int) (v : V) (m : List (Int × V)) : updB A b K (.int .i64 k) (enc v) (some (mapB enc m)) = K (A.set b (mapB enc (mput m k v))) := by
  unfold updB mapB
  simp only [findE_ents]
  cases h : mfind m k 0 with
  | none =>
    obtain ⟨h1, h2⟩ := mfind_none enc v k m 0 0 h
    simp only [Option.map_none, h1, h2, Nat.zero_add]
  | some p =>
    obtain ⟨n, v0⟩ := p
    obtain ⟨_, h1, h2⟩ := mfind_some enc v k m 0 0 n v0 h
    simp only [Option.map_some, h1, h2, Nat.sub_zero]
theorem updB_bool (A : Heap) (b : Nat) (K : Heap → Prop) (k : Int) (v : Bool) (m : List (Int × Bool)) : updB A b K (.int .i64 k) (.bool v) (some (mapB AV.bool m)) = K (A.set b (mapB AV.bool (mput m k v))) := updB_map AV.bool A b K k v m
theorem updB_int (A : Heap) (b : Nat) (K : Heap → Prop) (k : Int) (v : Int) (m : List (Int × Int)) : updB A b K (.int .i64 k) (.int .i64 v) (some (mapB (AV.int .i64) m)) = K (A.set b (mapB (AV.int .i64) (mput m k v))) := updB_map (AV.int .i64) A b K k v m
theorem keyOk_int (k : IntKind) (n : Int) : keyOk false (.int k n) = true := rfl
theorem keyOk_str (s : List UInt8) : keyOk true (.str s) = true := rfl
attribute [go_sem] findB_map look_bool look_int updB_bool updB_int keyOk_int keyOk_str Bool.true_eq_false
theorem mget_put {V : Type} (k k' : Int) (v : V) : ∀ m : List (Int × V), mget (mput m k v) k' = if k = k' then some v else mget m k'
  | [] => by simp [mput, mget]
  | (k0, v0) :: m => by
    simp only [mput]
    by_cases h : k0 = k
    · subst h
      simp only [if_true, mget]
      split <;> rfl
    · simp only [if_neg h, mget, mget_put k k' v m]
      by_cases h1 : k0 = k'
      · have : k ≠ k' := fun e => h (by rw [h1, e])
        simp [h1, this]
      · simp [h1]
end Go.NL

set_option linter.unusedVariables false

set_option maxRecDepth 10000
namespace Go.NL
open Go.Proofs
def okT (ch : Bool) (t : Int) : Bool := if ch then decide (-1073741824 ≤ t) && decide (t ≤ 1073741823) else isVar t
def tagsOk (ch : Bool) (ts : List Int) : Bool := ts.all (okT ch) && decide ts.Nodup
def Core.tagged (c : Core) : Bool := tagsOk (decide (c.kind = 10)) c.tags && (decide ((c.l.length : Int) = c.tags.length) || decide ((c.l.length : Int) = c.tags.length + 1))
theorem tagged_spec (c : Core) (ht : c.tags.length ≤ 1099511627776) (hL : c.l.length ≤ 1099511627776) : NPure Try.prog F_core_tagged [c.enc] (.bool c.tagged) := by
  refine NPure.walk c_core_tagged (Nat.le_of_ble_eq_true rfl) fun A0 => ?_
  obtain ⟨k, x, n, s, na, a, nt, t, nl, l⟩ := c
  simp only [Core.tags, Core.l] at ht hL
  simp only [Core.enc]
  repeat' (first | (intro b hb; try simp only [Heap.set_none, ne_eq] at hb) | (refine ifBool_cases (fun hc => ?_) (fun hc => ?_)) | (simp (config := {maxDischargeDepth := 12}) only [*, go_sem, Nat.reduceEqDiff, ↓reduceIte, eq_self]))
  rename_i b0 hb0
  refine nwp_range t.length (fun i f A => A0.le A ∧ i ≤ t.length ∧ (t.take i).all (okT (decide (k = 10))) = true ∧ (t.take i).Nodup ∧ f 1 = .ptr b0 0 ∧ f 3 = .map b ∧ f 9 = encSl nt 1 (t.map encInt) ∧ f 10 = .int .i64 t.length ∧ f 11 = .int .i64 i ∧
    A b0 = some (.cells [.int .i64 k, .int .i64 x, .int .i64 n, .str s, encSl na 3 (a.map Atom.enc), encSl nt 1 (t.map encInt), encSl nl 7 (Core.encs l)]) ∧ ∃ m, A b = some (mapB AV.bool m) ∧ ∀ y, (mget m y).getD false = decide (y ∈ t.take i)) ?_ ?_
  · refine ⟨by repeat (first | exact Heap.le.refl _ | assumption | refine Heap.le.set ?_ (by simp [*, Heap.set_none]; done) | refine Heap.le.set' ?_ (by simp [*]; done)), Nat.zero_le _, rfl, by simp, rfl, rfl, rfl, by simp only [go_sem, Nat.reduceEqDiff, ↓reduceIte, eq_self, List.length_map], rfl, by simp only [*, go_sem, ↓reduceIte, eq_self], [], by simp only [*, go_sem, ↓reduceIte, eq_self]; rfl, fun y => by simp [mget]⟩
  · rintro i f A ⟨hA, hi, hok, hnd, h1, h3, h9, h10, h11, hAb, m, hAm, hm⟩
    unfold n_core_tagged_l12
    by_cases hi' : i < t.length
    · have hd : decide ((i : Int) < (t.length : Int)) = true := by simp; omega
      have hix := indexAddr_encSl nt 1 (t.map encInt) i (encInt t[i]) (by simp [hi'])
      have hw : IntKind.i64.wrap ((i : Int) + 1) = ((i + 1 : Nat) : Int) := by rw [i64w (by omega) (by omega)]; rfl
      have hv := variable_spec t[i]
      have htk : t.take (i + 1) = t.take i ++ [t[i]] := by rw [List.take_add_one, List.getElem?_eq_getElem hi']; rfl
      have hok' : (t.take (i + 1)).all (okT (decide (k = 10))) = okT (decide (k = 10)) t[i] := by rw [htk, List.all_append, hok]; simp
      have hnd' : (t.take (i + 1)).Nodup ↔ ¬ t[i] ∈ t.take i := by
        rw [htk, List.nodup_append]
        constructor
        · rintro ⟨_, _, h⟩ hm; exact h _ hm _ (by simp) rfl
        · exact fun h => ⟨hnd, by simp, fun a ha b hb => by simp at hb; subst hb; exact fun e => h (e ▸ ha)⟩
      have hmi := hm t[i]
      have hgo : okT (decide (k = 10)) t[i] = false ∨ t[i] ∈ t.take i → tagsOk (decide (k = 10)) t = false := by
        intro h
        simp only [tagsOk]
        rcases h with h | h
        · have : t.all (okT (decide (k = 10))) = false := by
            rw [List.all_eq_false]
            exact ⟨t[i], List.getElem_mem hi', by simp [h]⟩
          simp [this]
        · have : ¬ t.Nodup := by
            intro hn
            have h2 := hn.sublist (List.take_sublist (i + 1) t)
            exact hnd'.1 h2 h
          simp [this]
      have henc : (encInt t[i]).cells = [.int .i64 t[i]] := rfl
      simp only [h1, h9, h10, h11, hd, hix, henc, go_sem, Nat.reduceEqDiff, Int.reduceNeg, ↓reduceIte, eq_self]
      refine hv.call ?_
      have hmput : ∀ y, (mget (mput m t[i] true) y).getD false = decide (y ∈ t.take (i + 1)) := by
        intro y
        rw [mget_put, htk]
        by_cases e : t[i] = y
        · simp only [e, if_true, Option.getD_some, List.mem_append, List.mem_singleton, or_true, decide_true]
        · have e' : ¬ y = t[i] := fun h => e h.symm
          simp only [if_neg e, hm y, List.mem_append, List.mem_singleton, e', or_false]
      clear hm
      by_cases hk : k = 10
      · subst hk
        have hTf : okT (decide ((10 : Int) = 10)) t[i] = false ∨ t[i] ∈ t.take i → (Core.mk 10 x n s na a nt t nl l).tagged = false := fun h => by
          show (tagsOk (decide ((10 : Int) = 10)) t && _) = _
          rw [hgo h, Bool.false_and]
        have hokT : okT (decide ((10 : Int) = 10)) t[i] = (decide (-1073741824 ≤ t[i]) && decide (t[i] ≤ 1073741823)) := rfl
        have hb0b : b0 ≠ b := hb.2.1
        have fin : okT (decide ((10 : Int) = 10)) t[i] = true → ¬ t[i] ∈ t.take i → (t.take (i + 1)).all (okT (decide ((10 : Int) = 10))) = true ∧ (t.take (i + 1)).Nodup := fun h h' => ⟨by rw [hok', h], hnd'.2 h'⟩
        simp only [hAb, go_sem, Nat.reduceEqDiff, Int.reduceNeg, ↓reduceIte, decide_true, eq_self]
        refine ifBool_cases (fun hc => ?_) fun hc => ?_
        · simp only [hc, go_sem, Nat.reduceEqDiff, Int.reduceNeg, ↓reduceIte, eq_self]
          refine ifBool_cases (fun hc2 => ?_) fun hc2 => ?_
          · simp only [hc2, hA, go_sem, Nat.reduceEqDiff, Int.reduceNeg, ↓reduceIte, eq_self]
            rw [hTf (.inl (by rw [hokT, hc]; simpa using hc2))]
          · simp only [hc2, h3, hAm, hmi, go_sem, Nat.reduceEqDiff, ↓reduceIte, Bool.false_eq_true, eq_self]
            refine ifBool_cases (fun hc3 => ?_) fun hc3 => ?_
            · simp only [hc3, hc2, hA, go_sem, Int.reduceNeg, ↓reduceIte, eq_self]
              rw [hTf (.inr (by simpa using hc3))]
            · simp only [h1, h3, h9, h10, h11, hw, hAb, hAm, go_sem, Nat.reduceEqDiff, ↓reduceIte, Bool.false_eq_true, decide_true, eq_self]
              obtain ⟨f1, f2⟩ := fin (by rw [hokT, hc]; simpa using hc2) (by simpa using hc3)
              exact ⟨hi', hA.set' hb.2.2, hi', f1, f2, by rw [if_neg hb0b], _, rfl, hmput⟩
        · simp only [hc, hA, go_sem, Nat.reduceEqDiff, Int.reduceNeg, ↓reduceIte, Bool.false_eq_true, eq_self, Bool.not_false]
          rw [hTf (.inl (by rw [hokT, hc]; rfl))]
      · have hkd : decide (k = 10) = false := by simp [hk]
        have hTf : okT (decide (k = 10)) t[i] = false ∨ t[i] ∈ t.take i → (Core.mk k x n s na a nt t nl l).tagged = false := fun h => by
          show (tagsOk (decide (k = 10)) t && _) = _
          rw [hgo h, Bool.false_and]
        have hokT : okT (decide (k = 10)) t[i] = isVar t[i] := by rw [hkd]; rfl
        have hb0b : b0 ≠ b := hb.2.1
        have fin : okT (decide (k = 10)) t[i] = true → ¬ t[i] ∈ t.take i → (t.take (i + 1)).all (okT (decide (k = 10))) = true ∧ (t.take (i + 1)).Nodup := fun h h' => ⟨by rw [hok', h], hnd'.2 h'⟩
        simp only [hkd, hAb, go_sem, Nat.reduceEqDiff, ↓reduceIte, Bool.false_eq_true, eq_self]
        refine ifBool_cases (fun hc2 => ?_) fun hc2 => ?_
        · simp only [hc2, hA, go_sem, Nat.reduceEqDiff, ↓reduceIte, eq_self]
          rw [hTf (.inl (by rw [hokT]; simpa using hc2))]
        · simp only [hc2, h3, hAm, hmi, go_sem, Nat.reduceEqDiff, ↓reduceIte, Bool.false_eq_true, eq_self]
          refine ifBool_cases (fun hc3 => ?_) fun hc3 => ?_
          · simp only [hc3, hc2, hA, go_sem, ↓reduceIte, eq_self]
            rw [hTf (.inr (by simpa using hc3))]
          · simp only [h1, h3, h9, h10, h11, hw, hAb, hAm, go_sem, Nat.reduceEqDiff, ↓reduceIte, Bool.false_eq_true, eq_self]
            obtain ⟨f1, f2⟩ := fin (by rw [hokT]; simpa using hc2) (by simpa using hc3)
            exact ⟨hi', hA.set' hb.2.2, hi', f1, f2, by rw [if_neg hb0b], _, rfl, hmput⟩
    · have hd : decide ((i : Int) < (t.length : Int)) = false := by simp; omega
      have hti : t.take i = t := List.take_of_length_le (by omega)
      have htg : tagsOk (decide (k = 10)) t = true := by rw [hti] at hok hnd; simp [tagsOk, hok, hnd]
      simp only [h1, h10, h11, hd, hAb, lenAV_encSl, List.length_map, encs_length, go_sem, Nat.reduceEqDiff, Int.reduceNeg, ↓reduceIte, Bool.false_eq_true, eq_self]
      have hw : IntKind.i64.wrap ((t.length : Int) + 1) = (t.length : Int) + 1 := i64w (by omega) (by omega)
      have hT : (Core.mk k x n s na a nt t nl l).tagged = (decide ((l.length : Int) = t.length) || decide ((l.length : Int) = t.length + 1)) := by
        show (tagsOk (decide (k = 10)) t && _) = _
        rw [htg, Bool.true_and]
        rfl
      rw [hT]
      refine ifBool_cases (fun hc => ?_) fun hc => ?_
      · simp only [hc, hA, Bool.true_or, go_sem, Nat.reduceEqDiff, ↓reduceIte, eq_self]
      · simp only [h1, hc, hAb, lenAV_encSl, List.length_map, encs_length, hw, hA, Bool.false_or, go_sem, Nat.reduceEqDiff, ↓reduceIte, Bool.false_eq_true, eq_self]
end Go.NL

set_option linter.unusedVariables false

namespace Go.NL
/-- What holds between two pieces of code. -/
theorem nwp_cut {P : Program} {a b : NC} {Q : Post} {f : Fr} {A : Heap} (I : Fr → Heap → Prop) (h1 : nwp P a (thenP I Q) f A) (h2 : ∀ f A, I f A → nwp P b Q f A) : nwp P (.seq a b) Q f A :=
  nwp_mono a (fun e f A he => by
    cases e with
    | normal => exact h2 f A he
    | exit id => exact he
    | ret => exact he) h1
/-- (So that a walk's end is left as it is.) -/
def Here (I : Fr → Heap → Prop) (f : Fr) (A : Heap) : Prop := I f A
theorem Here.mk {I : Fr → Heap → Prop} {f : Fr} {A : Heap} (h : I f A) : Here I f A := h
/-- A region, then the rest. -/
theorem nwp_then {P : Program} {r : List NI} {b : NC} {Q : Post} {f : Fr} {A : Heap} (I : Fr → Heap → Prop) (h1 : nrun P (Here I) r f A) (h2 : ∀ f A, I f A → nwp P b Q f A) : nwp P (.seq (.region r []) b) Q f A :=
  nwp_cut I (nwp_region h1) h2
/-- A test out of several: where it says yes the others are passed over. -/
theorem nwp_or {P : Program} {r : List NI} {t : Nat} {rest : NC} {Q : Post} {f : Fr} {A : Heap} (c : Bool) (I : Fr → Heap → Prop) (h1 : nrun P (Here fun f A => I f A ∧ f t = .bool c) r f A) (h2 : c = true → ∀ f A, I f A → f t = .bool true → Q .normal f A)
    (h3 : c = false → ∀ f A, I f A → nwp P rest Q f A) : nwp P (.seq (.region r []) (.cond (.tmp t) .skip rest)) Q f A :=
  nwp_then _ h1 fun f A h => by
    obtain ⟨hI, ht⟩ := h
    cases c
    · exact nwp_false ht (h3 rfl f A hI)
    · exact nwp_true ht (h2 rfl f A hI ht)
/-- The last region. -/
theorem nwp_last {P : Program} {r : List NI} {Q : Post} {f : Fr} {A : Heap} (I : Fr → Heap → Prop) (h1 : nrun P (Here I) r f A) (h2 : ∀ f A, I f A → Q .normal f A) : nwp P (.region r []) Q f A := nwp_region (nrun_mono h2 _ h1)
/-- What is wanted where a bool is told. -/
theorem nwp_test {P : Program} {t : Nat} {a b : NC} {Q : Post} {f : Fr} {A : Heap} (c : Bool) (ht : f t = .bool c) (h1 : c = true → nwp P a Q f A) (h2 : c = false → nwp P b Q f A) : nwp P (.cond (.tmp t) a b) Q f A := nwp_cond ht h1 h2
/-- A call that holds where nothing stands in memory leaves all that stands there, if what it tells bears no name. -/
theorem NCalls.pure {P : Program} {F : FuncId} {args : List AV} {v : AV} (h : NCalls P F args (fun _ => none) fun v' _ => v' = v) (hargs : ∀ (g g' : G) (Vs : Array Value), RelL g args Vs → RelL g' args Vs) (hv : ∀ (g g' : G) (V : Value), Rel g v V → Rel g' v V) : NPure P F args v := by
  intro A
  refine ⟨h.1, fun g w cargs hs hr => ?_⟩
  let g0 : G := ⟨g.n, fun _ => none, g.im⟩
  have s0 : Sim g0 (fun _ => none) w := ⟨fun b _ => ⟨rfl, rfl⟩, (fun b x h => by cases h), (fun b b' cb sh top sh' top' h => by cases h), (fun b cb sh top o v h => by cases h), (fun b cb sh top h => by cases h),
    fun cb o u hu => by
      obtain ⟨V, h1, h2, h3⟩ := hs.imm cb o u hu
      exact ⟨V, h1, h2.ext (Nat.le_refl _) (fun _ _ _ h => h) (fun b x _ h => by cases h), h3⟩⟩
  refine (h.2 g0 w cargs s0 (hargs g g0 _ hr)).mono ?_
  rintro e w' ⟨v', V, A', g', h1, h2, h3, h4, rfl⟩
  have heap : ∀ cb, cb < w.heap.size → w'.heap[cb]? = w.heap[cb]? := fun cb hlt => h4.heap cb hlt fun b sh top hh => by cases hh
  have cell : ∀ cb o, cb < w.heap.size → w'.cell? ⟨cb, o, none⟩ = w.cell? ⟨cb, o, none⟩ := fun cb o hlt => cell?_of_heap (heap cb hlt)
  -- the old names, over the new world
  have hext : Ext g w g w' := ⟨Nat.le_refl _, fun _ _ _ h => h, fun _ _ _ h => h, (fun b cb sh top hb hm => by rw [(hs.fresh b hb).1] at hm; cases hm), fun cb hlt _ => heap cb hlt, h4.frozen, h4.size, h4.os, h4.tape, h4.output⟩
  refine ⟨v', V, A, g, h1, hv g' g V h2, ⟨hs.fresh, ?_, hs.inj, hs.own, ?_, ?_⟩, hext, rfl, rfl⟩
  · intro b x hx
    obtain ⟨cb, sh, top, hm, hok⟩ := hs.blk b x hx
    exact ⟨cb, sh, top, hm, hok.ext (Nat.le_refl _) (fun _ _ _ h => h) (fun _ _ _ h => h) (heap cb (hs.lt _ _ _ _ hm))⟩
  · intro b cb sh top hm
    exact Nat.lt_of_lt_of_le (hs.lt _ _ _ _ hm) h4.size
  · intro cb o u hu
    obtain ⟨V', q1, q2, q3⟩ := hs.imm cb o u hu
    have hlt := World.block_lt_of_cell? _ _ q1
    exact ⟨V', by rw [cell cb o (by simpa using hlt)]; exact q1, q2, q3⟩
/-- What must hold behind the body of a loop over a list. -/
def forP (id id2 : Nat) (next : Fr → Heap → Prop) (Q : Post) : Post
  | .normal, f, A => next f A
  | .exit k, f, A => if k = id2 then next f A else if k = id then Q .normal f A else Q (.exit k) f A
  | .ret, f, A => Q .ret f A
section
variable (id id2 : Nat) (next : Fr → Heap → Prop) (Q : Post) (f : Fr) (A : Heap)
theorem forP_normal : forP id id2 next Q .normal f A = next f A := rfl
theorem forP_ret : forP id id2 next Q .ret f A = Q .ret f A := rfl
theorem forP_exit (k : Nat) : forP id id2 next Q (.exit k) f A = if k = id2 then next f A else if k = id then Q .normal f A else Q (.exit k) f A := rfl
end
attribute [go_sem ↓] forP_normal forP_ret forP_exit
theorem wrap_succ {i N : Nat} (h : i < N) (hN : N ≤ 1099511627776) : IntKind.i64.wrap ((i : Int) + 1) = ((i + 1 : Nat) : Int) := by
  simp only [IntKind.wrap, IntKind.bits, IntKind.signed]
  simp
  omega
/-- A loop over a list: 'for i := range l', 'for i, x := range l'. -/
theorem nwp_for {P : Program} {ti tn tt tw id id2 : Nat} {body : NC} {Q : Post} {f : Fr} {A : Heap} (N : Nat) (hN : N ≤ 1099511627776) (J : Nat → Fr → Heap → Prop)
    (hd : tt ≠ ti ∧ tt ≠ tn ∧ tw ≠ ti ∧ tw ≠ tn ∧ ti ≠ tn)
    (hJ : ∀ i f A d v, (d = tt ∨ d = tw ∨ d = ti) → J i f A → J i (f.set (some d) v) A)
    (hi : f ti = .int .i64 0) (hn : f tn = .int .i64 N) (h0 : J 0 f A)
    (hbody : ∀ i f A, i < N → J i f A → f ti = .int .i64 i → f tn = .int .i64 N → nwp P body (forP id id2 (fun f' A' => J (i + 1) f' A' ∧ f' ti = .int .i64 i ∧ f' tn = .int .i64 N) Q) f A)
    (hend : ∀ f A, J N f A → Q .normal f A) :
    nwp P (.block id (.loop (.seq (.region [⟨0, some tt, none, .bin .lss (some .int) (.tmp ti) (.tmp tn), []⟩] []) (.seq (.cond (.tmp tt) .skip (.exit id)) (.seq (.block id2 body)
      (.region [⟨0, some tw, none, .bin .add (some .int) (.tmp ti) (.const (.int .i64 1)), []⟩, ⟨1, some ti, none, .move (.tmp tw), []⟩] [])))))) Q f A := by
  obtain ⟨d1, d2, d3, d4, d5⟩ := hd
  refine nwp_block (nwp_range N (fun i f A => i ≤ N ∧ J i f A ∧ f ti = .int .i64 i ∧ f tn = .int .i64 N) ⟨Nat.zero_le _, h0, hi, hn⟩ ?_)
  rintro i f A ⟨hle, hj, h1, h2⟩
  have hset := hJ i f A tt (.bool (decide ((i : Int) < (N : Int)))) (.inl rfl) hj
  refine nwp_then (fun f' A' => A' = A ∧ f' = f.set (some tt) (.bool (decide ((i : Int) < (N : Int))))) ?_ ?_
  · simp only [nrun, guarded, cop, qop, evalOpd, h1, h2, binAV, binInt, if_true, reAll, true_and]
    exact Here.mk ⟨rfl, rfl⟩
  rintro f' A' ⟨rfl, rfl⟩
  have ht : (f.set (some tt) (.bool (decide ((i : Int) < (N : Int))))) tt = .bool (decide ((i : Int) < (N : Int))) := by simp [Fr.set]
  have e1 : (f.set (some tt) (.bool (decide ((i : Int) < (N : Int))))) ti = .int .i64 i := by simp [Fr.set, Ne.symm d1, h1]
  have e2 : (f.set (some tt) (.bool (decide ((i : Int) < (N : Int))))) tn = .int .i64 N := by simp [Fr.set, Ne.symm d2, h2]
  generalize f.set (some tt) (.bool (decide ((i : Int) < (N : Int)))) = f1 at hset ht e1 e2
  by_cases hlt : i < N
  · have hdt : decide ((i : Int) < (N : Int)) = true := by simp; omega
    rw [hdt] at ht
    refine nwp_cut (fun f A => f = f1 ∧ A = A') (nwp_true ht ⟨rfl, rfl⟩) ?_
    rintro f2 A2 ⟨rfl, rfl⟩
    refine nwp_cut (fun f' A' => J (i + 1) f' A' ∧ f' ti = .int .i64 i ∧ f' tn = .int .i64 N) ?_ ?_
    · refine nwp_block (nwp_mono _ ?_ (hbody i f2 A2 hlt hset e1 e2))
      intro e f' A' he
      cases e with
      | normal => exact he
      | exit k =>
        simp only [forP, blockP, thenP] at he ⊢
        by_cases hk : k = id2
        · rw [if_pos hk] at he ⊢; exact he
        · rw [if_neg hk] at he ⊢
          exact he
      | ret => exact he
    · rintro f3 A3 ⟨q1, q2, q3⟩
      refine nwp_region ?_
      have hw := wrap_succ hlt hN
      simp only [nrun, guarded, cop, qop, evalOpd, q2, binAV, binInt, if_true, reAll, true_and, hw]
      refine ⟨hlt, hlt, hJ _ _ _ _ _ (.inr (.inr rfl)) (hJ _ _ _ _ _ (.inr (.inl rfl)) q1), ?_, ?_⟩
      · simp [Fr.set]
      · simp [Fr.set, Ne.symm d5, Ne.symm d4, q3]
  · have hdt : decide ((i : Int) < (N : Int)) = false := by simp; omega
    rw [hdt] at ht
    have hiN : i = N := by omega
    subst hiN
    refine nwp_seq fun K hK => nwp_false ht ?_
    simp only [nwp, thenP, blockP, if_true]
    exact hend _ _ hset
end Go.NL

set_option linter.unusedVariables false

set_option maxRecDepth 10000
namespace Go.NL
open Go.Proofs
def primN (s : List UInt8) : Int := ((primsL.find? fun p => p.1 = s).map (·.2)).getD 0
/-- May a part be, but for its own parts? -/
def Core.own (c : Core) (named : Bool) : Bool :=
  let r := ruleOf c.kind
  !(!ruled c.kind || !isVar c.x || (!r.x && decide (c.x ≠ 0)) || ((!r.n && !named) && decide (c.n ≠ 0)) || (!r.s && decide (c.s ≠ [])) || (!r.tags && decide (0 < c.tags.length)) ||
  !(decide (r.a0 ≤ c.a.length) && decide ((c.a.length : Int) ≤ r.a1)) || !(decide (r.p0 ≤ c.l.length) && decide ((c.l.length : Int) ≤ r.p1)) || !isVar c.n ||
  (decide (c.kind = 5) && decide (1024 ≤ c.n)) || (decide (c.kind = 3) && decide (primN c.s ≠ c.a.length)) || (r.tags && !c.tagged)) && c.a.all Atom.ok
theorem smap_find (s : List UInt8) : ∀ (m : List (List UInt8 × Int)) (i j : Nat), ∃ p, findE (.str s) (sents m j) i = some p ∧ lookRes (.int .i64 0) false p = .int .i64 (((m.find? fun p => p.1 = s).map (·.2)).getD 0)
  | [], i, j => ⟨none, rfl, rfl⟩
  | (k, v) :: m, i, j => by
    simp only [sents, findE, keyEq, List.find?_cons]
    by_cases h : s = k
    · subst h
      exact ⟨some (i, .int .i64 v), by simp, by simp [lookRes]⟩
    · have h' : ¬ k = s := fun e => h e.symm
      obtain ⟨p, h1, h2⟩ := smap_find s m (i + 1) (j + 1)
      exact ⟨p, by simp [h, h1], by simp [h', h2]⟩
/-- What stands all along in Own. -/
structure OwnJ (A0 : Heap) (named : Bool) (b b2 : Nat) (C R : List AV) (f : Fr) (A : Heap) : Prop where
  h1 : f 1 = .bool named
  h2 : f 2 = .ptr b 0
  h5 : f 5 = .ptr b2 0
  le : A0.le A
  hb : A b = some (.cells C)
  hb2 : A b2 = some (.cells R)
theorem OwnJ.set {A0 : Heap} {named : Bool} {b b2 : Nat} {C R : List AV} {f : Fr} {A : Heap} (h : OwnJ A0 named b b2 C R f A) {d : Nat} {v : AV} (hd : (d == 1 || d == 2 || d == 5) = false) : OwnJ A0 named b b2 C R (f.set (some d) v) A := by
  simp only [Bool.or_eq_false_iff, beq_eq_false_iff_ne, ne_eq] at hd
  obtain ⟨⟨h1, h2⟩, h5⟩ := hd
  exact ⟨by simp [Fr.set, Ne.symm h1, h.h1], by simp [Fr.set, Ne.symm h2, h.h2], by simp [Fr.set, Ne.symm h5, h.h5], h.le, h.hb, h.hb2⟩
theorem OwnJ.q1 {A0 : Heap} {named : Bool} {b b2 : Nat} {C R L : List AV} {f : Fr} {A : Heap} (h : OwnJ A0 named b b2 C R f A) (hC : C = L) : A b = some (.cells L) := hC ▸ h.hb
theorem OwnJ.q2 {A0 : Heap} {named : Bool} {b b2 : Nat} {C R L : List AV} {f : Fr} {A : Heap} (h : OwnJ A0 named b b2 C R f A) (hR : R = L) : A b2 = some (.cells L) := hR ▸ h.hb2
theorem OwnJ.heap {A0 : Heap} {named : Bool} {b b2 : Nat} {C R : List AV} {f : Fr} {A : Heap} (h : OwnJ A0 named b b2 C R f A) {b3 : Nat} {x : Blk} (hb3 : A b3 = none) : OwnJ A0 named b b2 C R f (A.set b3 x) :=
  ⟨h.h1, h.h2, h.h5, h.le.set hb3, by rw [Heap.set_other _ _ (Heap.ne_of h.hb hb3).symm]; exact h.hb, by rw [Heap.set_other _ _ (Heap.ne_of h.hb2 hb3).symm]; exact h.hb2⟩
theorem or6_yes {e1 e2 e3 e4 e5 e6 r al O : Bool} (h : (!(e1 || (e2 || (e3 || (e4 || (e5 || (e6 || r)))))) && al) = O) (ht : (e1 || (e2 || (e3 || (e4 || (e5 || e6))))) = true) : O = false := by
  cases e1 <;> cases e2 <;> cases e3 <;> cases e4 <;> cases e5 <;> cases e6 <;> simp_all
theorem or6_no {e1 e2 e3 e4 e5 e6 r al O : Bool} (h : (!(e1 || (e2 || (e3 || (e4 || (e5 || (e6 || r)))))) && al) = O) (ht : (e1 || (e2 || (e3 || (e4 || (e5 || e6))))) = false) : (!r && al) = O := by
  cases e1 <;> cases e2 <;> cases e3 <;> cases e4 <;> cases e5 <;> cases e6 <;> simp_all
theorem or3_yes {e1 e2 e3 r al O : Bool} (h : (!(e1 || (e2 || (e3 || r))) && al) = O) (ht : (e1 || (e2 || e3)) = true) : O = false := by
  cases e1 <;> cases e2 <;> cases e3 <;> simp_all
theorem or3_no {e1 e2 e3 r al O : Bool} (h : (!(e1 || (e2 || (e3 || r))) && al) = O) (ht : (e1 || (e2 || e3)) = false) : (!r && al) = O := by
  cases e1 <;> cases e2 <;> cases e3 <;> simp_all
set_option maxHeartbeats 4000000 in
theorem Own_spec (c : Core) (named : Bool) (ha : c.a.length ≤ 1099511627776) (ht : c.tags.length ≤ 1099511627776) (hL : c.l.length ≤ 1099511627776) : NPure Try.prog F_core_Own [c.enc, .bool named] (.bool (c.own named)) := by
  refine NPure.walk c_core_Own (Nat.le_of_ble_eq_true rfl) fun A0 => ?_
  have hr := rules_spec c.kind
  have hvx := variable_spec c.x
  have hvn := variable_spec c.n
  have htg := tagged_spec c ht hL
  have hany := containsAtom_spec Atom.enc Atom.take_enc c.a ha
  obtain ⟨k, x, n, s, na, a, nt, t, nl, l⟩ := c
  simp only [Core.tags, Core.l, Core.a, Core.kind, Core.x, Core.n] at ht hL ha hr hvx hvn hany
  generalize hO0 : (Core.mk k x n s na a nt t nl l).own named = O
  have hO : (!(!ruled k || !isVar x || (!(ruleOf k).x && decide (x ≠ 0)) || ((!(ruleOf k).n && !named) && decide (n ≠ 0)) || (!(ruleOf k).s && decide (s ≠ [])) || (!(ruleOf k).tags && decide (0 < t.length)) ||
    !(decide ((ruleOf k).a0 ≤ a.length) && decide ((a.length : Int) ≤ (ruleOf k).a1)) || !(decide ((ruleOf k).p0 ≤ l.length) && decide ((l.length : Int) ≤ (ruleOf k).p1)) || !isVar n ||
    (decide (k = 5) && decide (1024 ≤ n)) || (decide (k = 3) && decide (primN s ≠ a.length)) || ((ruleOf k).tags && !(Core.mk k x n s na a nt t nl l).tagged)) && a.all Atom.ok) = O := hO0
  clear hO0
  generalize ruleOf k = R at hr hO
  generalize ruled k = I at hr hO
  generalize (Core.mk k x n s na a nt t nl l).tagged = T at htg hO
  obtain ⟨rx, rn, rs, rt, a0, a1, p0, p1⟩ := R
  simp only [Core.enc, Rule.enc] at hr hvx hvn htg ⊢
  have hwa := within_spec a.length a0 a1
  have hwp := within_spec l.length p0 p1
  simp only [n_core_Own]
  refine nwp_seq fun K hK => nwp_region ?_
  simp only [n_core_Own_r0, go_sem, eq_self]
  intro b hb
  refine hK _ _ ?_; clear hK K
  let C : List AV := [.int .i64 k, .int .i64 x, .int .i64 n, .str s, encSl na 3 (a.map Atom.enc), encSl nt 1 (t.map encInt), encSl nl 7 (Core.encs l)]
  have hC : C = [.int .i64 k, .int .i64 x, .int .i64 n, .str s, encSl na 3 (a.map Atom.enc), encSl nt 1 (t.map encInt), encSl nl 7 (Core.encs l)] := rfl
  let R : List AV := [.bool rx, .bool rn, .bool rs, .bool rt, .int .i64 a0, .int .i64 a1, .int .i64 p0, .int .i64 p1]
  have hR : R = [.bool rx, .bool rn, .bool rs, .bool rt, .int .i64 a0, .int .i64 a1, .int .i64 p0, .int .i64 p1] := rfl
  refine nwp_then (fun f A => ∃ b2, OwnJ A0 named b b2 C R f A ∧ f 6 = .bool I) ?_ ?_
  · simp only [n_core_Own_r1, go_sem, Nat.reduceEqDiff, ↓reduceIte, eq_self]
    refine hr.call ?_
    simp only [go_sem, Nat.reduceEqDiff, Nat.reduceAdd, Nat.reduceLeDiff, ↓reduceIte, eq_self]
    intro b2 hb2
    exact Here.mk ⟨b2, ⟨rfl, rfl, rfl, ((Heap.le.refl _).set hb).set (by simp only [Heap.set_none]; exact hb2), by simp only [hb2, Heap.get_set, if_true, if_false, hC], by simp [hR]⟩, rfl⟩
  rintro f A ⟨b2, hJ, h6⟩
  clear_value C R
  refine nwp_cut (fun f A => OwnJ A0 named b b2 C R f A ∧ (O = a.all Atom.ok)) ?_ ?_
  · refine nwp_block ?_
    have fail : ∀ (f : Fr) A, OwnJ A0 named b b2 C R f A → O = false → nwp Try.prog (.seq (.region n_core_Own_r8 []) .ret) (blockP 0 (thenP (fun f A => OwnJ A0 named b b2 C R f A ∧ (O = a.all Atom.ok)) (pureP [.slot 4] (.bool O) A0))) f A := by
      intro f A hJ hO'
      simp only [n_core_Own_r8, hO', hJ.le, go_sem, ↓reduceIte, eq_self]
    dsimp only at hO
    generalize he1 : (!I) = e1 at hO
    generalize he2 : (!isVar x) = e2 at hO
    generalize he3 : (!rx && decide (x ≠ 0)) = e3 at hO
    generalize he4 : (!rn && !named && decide (n ≠ 0)) = e4 at hO
    generalize he5 : (!rs && decide (s ≠ [])) = e5 at hO
    generalize he6 : (!rt && decide (0 < t.length)) = e6 at hO
    generalize he7 : (!(decide (a0 ≤ a.length) && decide ((a.length : Int) ≤ a1))) = e7 at hO
    generalize he8 : (!(decide (p0 ≤ l.length) && decide ((l.length : Int) ≤ p1))) = e8 at hO
    generalize he9 : (!isVar n) = e9 at hO
    generalize he10 : (decide (k = 5) && decide (1024 ≤ n)) = e10 at hO
    generalize he11 : (decide (k = 3) && decide (primN s ≠ a.length)) = e11 at hO
    generalize he12 : (rt && !T) = e12 at hO
    simp only [Bool.or_assoc] at hO
    refine nwp_cut (fun f A => OwnJ A0 named b b2 C R f A ∧ f 13 = .bool (e1 || (e2 || (e3 || (e4 || (e5 || e6)))))) ?_ ?_
    · refine nwp_or e1 (OwnJ A0 named b b2 C R) ?_ (fun hc f A hJ h => ⟨hJ, by rw [h, hc, Bool.true_or]⟩) fun hc f A hJ => ?_
      · simp only [n_core_Own_r2, h6, go_sem, ↓reduceIte, eq_self]
        exact Here.mk ⟨by repeat (first | assumption | refine OwnJ.set ?_ rfl), by show AV.bool _ = AV.bool _; rw [he1]⟩
      simp only [hc, Bool.false_or]
      clear hc
      refine nwp_or e2 (OwnJ A0 named b b2 C R) ?_ (fun hc f A hJ h => ⟨hJ, by rw [h, hc, Bool.true_or]⟩) fun hc f A hJ => ?_
      · simp only [n_core_Own_r3, hJ.h2, hJ.q1 hC, go_sem, ↓reduceIte, eq_self]
        refine hvx.call ?_
        simp only [go_sem, ↓reduceIte, eq_self]
        exact Here.mk ⟨by repeat (first | assumption | refine OwnJ.set ?_ rfl), by show AV.bool _ = AV.bool _; rw [he2]⟩
      simp only [hc, Bool.false_or]
      clear hc
      refine nwp_or e3 (OwnJ A0 named b b2 C R) ?_ (fun hc f A hJ h => ⟨hJ, by rw [h, hc, Bool.true_or]⟩) fun hc f A hJ => ?_
      · simp only [n_core_Own_r4, hJ.h5, hJ.q2 hR, go_sem, ↓reduceIte, eq_self]
        refine ifBool_cases (fun hg => ?_) fun hg => ?_
        all_goals
          simp only [hg, hJ.h2, hJ.q1 hC, go_sem, Nat.reduceEqDiff, ↓reduceIte, Bool.false_eq_true, eq_self]
          exact Here.mk ⟨by repeat (first | assumption | refine OwnJ.set ?_ rfl), by show AV.bool _ = AV.bool _; rw [← he3, hg]; simp⟩
      simp only [hc, Bool.false_or]
      clear hc
      refine nwp_or e4 (OwnJ A0 named b b2 C R) ?_ (fun hc f A hJ h => ⟨hJ, by rw [h, hc, Bool.true_or]⟩) fun hc f A hJ => ?_
      · simp only [n_core_Own_r5, hJ.h5, hJ.q2 hR, go_sem, ↓reduceIte, eq_self]
        refine ifBool_cases (fun hg => ?_) fun hg => ?_
        · simp only [hg, hJ.h1, go_sem, Nat.reduceEqDiff, ↓reduceIte, eq_self]
          refine ifBool_cases (fun hg2 => ?_) fun hg2 => ?_
          all_goals
            simp only [hg, hg2, hJ.h2, hJ.q1 hC, go_sem, Nat.reduceEqDiff, ↓reduceIte, Bool.false_eq_true, eq_self]
            exact Here.mk ⟨by repeat (first | assumption | refine OwnJ.set ?_ rfl), by show AV.bool _ = AV.bool _; rw [← he4, hg, hg2]; simp⟩
        · simp only [hg, go_sem, Nat.reduceEqDiff, ↓reduceIte, Bool.false_eq_true, eq_self]
          exact Here.mk ⟨by repeat (first | assumption | refine OwnJ.set ?_ rfl), by show AV.bool _ = AV.bool _; rw [← he4, hg]; simp⟩
      simp only [hc, Bool.false_or]
      clear hc
      refine nwp_or e5 (OwnJ A0 named b b2 C R) ?_ (fun hc f A hJ h => ⟨hJ, by rw [h, hc, Bool.true_or]⟩) fun hc f A hJ => ?_
      · simp only [n_core_Own_r6, hJ.h5, hJ.q2 hR, go_sem, ↓reduceIte, eq_self]
        refine ifBool_cases (fun hg => ?_) fun hg => ?_
        all_goals
          simp only [hg, hJ.h2, hJ.q1 hC, go_sem, Nat.reduceEqDiff, ↓reduceIte, Bool.false_eq_true, eq_self]
          exact Here.mk ⟨by repeat (first | assumption | refine OwnJ.set ?_ rfl), by show AV.bool _ = AV.bool _; rw [← he5, hg]; simp⟩
      simp only [hc, Bool.false_or]
      clear hc
      refine nwp_region ?_
      simp only [n_core_Own_r7, hJ.h5, hJ.q2 hR, go_sem, ↓reduceIte, eq_self]
      refine ifBool_cases (fun hg => ?_) fun hg => ?_
      all_goals
        simp only [hg, hJ.h2, hJ.q1 hC, lenAV_encSl, List.length_map, go_sem, Nat.reduceEqDiff, ↓reduceIte, Bool.false_eq_true, eq_self]
        exact ⟨by repeat (first | assumption | refine OwnJ.set ?_ rfl), by show AV.bool _ = AV.bool _; rw [← he6, hg]; simp⟩
    · rintro f A ⟨hJ, h13⟩
      refine nwp_test _ h13 (fun h => fail f A hJ (or6_yes hO h)) fun h => ?_
      have hO2 := or6_no hO h
      clear hO h h13
      have fail12 : ∀ (f : Fr) A, OwnJ A0 named b b2 C R f A → O = false → nwp Try.prog (.seq (.region n_core_Own_r12 []) .ret) (blockP 0 (thenP (fun f A => OwnJ A0 named b b2 C R f A ∧ (O = a.all Atom.ok)) (pureP [.slot 4] (.bool O) A0))) f A := by
        intro f A hJ hO'
        simp only [n_core_Own_r12, hO', hJ.le, go_sem, ↓reduceIte, eq_self]
      have fail16 : ∀ (f : Fr) A, OwnJ A0 named b b2 C R f A → O = false → nwp Try.prog (.seq (.region n_core_Own_r16 []) .ret) (blockP 0 (thenP (fun f A => OwnJ A0 named b b2 C R f A ∧ (O = a.all Atom.ok)) (pureP [.slot 4] (.bool O) A0))) f A := by
        intro f A hJ hO'
        simp only [n_core_Own_r16, hO', hJ.le, go_sem, ↓reduceIte, eq_self]
      refine nwp_cut (fun f A => OwnJ A0 named b b2 C R f A ∧ f 57 = .bool (e7 || (e8 || e9))) ?_ ?_
      · refine nwp_or e7 (OwnJ A0 named b b2 C R) ?_ (fun hc f A hJ h => ⟨hJ, by rw [h, hc, Bool.true_or]⟩) fun hc f A hJ => ?_
        · simp only [n_core_Own_r9, hJ.h2, hJ.h5, hJ.q1 hC, hJ.q2 hR, lenAV_encSl, List.length_map, go_sem, Nat.reduceEqDiff, Nat.reduceAdd, Nat.reduceLeDiff, ↓reduceIte, eq_self]
          refine hwa.call ?_
          simp only [go_sem, ↓reduceIte, eq_self]
          exact Here.mk ⟨by repeat (first | assumption | refine OwnJ.set ?_ rfl), by show AV.bool _ = AV.bool _; rw [he7]⟩
        simp only [hc, Bool.false_or]
        clear hc
        refine nwp_or e8 (OwnJ A0 named b b2 C R) ?_ (fun hc f A hJ h => ⟨hJ, by rw [h, hc, Bool.true_or]⟩) fun hc f A hJ => ?_
        · simp only [n_core_Own_r10, hJ.h2, hJ.h5, hJ.q1 hC, hJ.q2 hR, lenAV_encSl, encs_length, go_sem, Nat.reduceEqDiff, Nat.reduceAdd, Nat.reduceLeDiff, ↓reduceIte, eq_self]
          refine hwp.call ?_
          simp only [go_sem, ↓reduceIte, eq_self]
          exact Here.mk ⟨by repeat (first | assumption | refine OwnJ.set ?_ rfl), by show AV.bool _ = AV.bool _; rw [he8]⟩
        simp only [hc, Bool.false_or]
        clear hc
        refine nwp_region ?_
        simp only [n_core_Own_r11, hJ.h2, hJ.q1 hC, go_sem, ↓reduceIte, eq_self]
        refine hvn.call ?_
        simp only [go_sem, ↓reduceIte, eq_self]
        exact ⟨by repeat (first | assumption | refine OwnJ.set ?_ rfl), by show AV.bool _ = AV.bool _; rw [he9]⟩
      rintro f A ⟨hJ, h57⟩
      refine nwp_test _ h57 (fun h => fail12 f A hJ (or3_yes hO2 h)) fun h => ?_
      have hO3 := or3_no hO2 h
      clear hO2 h h57
      refine nwp_cut (fun f A => OwnJ A0 named b b2 C R f A ∧ f 76 = .bool (e10 || (e11 || e12))) ?_ ?_
      · refine nwp_or e10 (OwnJ A0 named b b2 C R) ?_ (fun hc f A hJ h => ⟨hJ, by rw [h, hc, Bool.true_or]⟩) fun hc f A hJ => ?_
        · simp only [n_core_Own_r13, hJ.h2, hJ.q1 hC, go_sem, ↓reduceIte, eq_self]
          refine ifBool_cases (fun hg => ?_) fun hg => ?_
          all_goals
            simp only [hg, hJ.h2, hJ.q1 hC, go_sem, Nat.reduceEqDiff, ↓reduceIte, Bool.false_eq_true, eq_self]
            exact Here.mk ⟨by repeat (first | assumption | refine OwnJ.set ?_ rfl), by show AV.bool _ = AV.bool _; rw [← he10, hg]; simp⟩
        simp only [hc, Bool.false_or]
        clear hc
        refine nwp_or e11 (OwnJ A0 named b b2 C R) ?_ (fun hc f A hJ h => ⟨hJ, by rw [h, hc, Bool.true_or]⟩) fun hc f A hJ => ?_
        · simp only [n_core_Own_r14, hJ.h2, hJ.q1 hC, go_sem, ↓reduceIte, eq_self]
          refine ifBool_cases (fun hg => ?_) fun hg => ?_
          · simp only [hg, hJ.h2, hJ.q1 hC, lenAV_encSl, List.length_map, go_sem, Nat.reduceEqDiff, ↓reduceIte, decide_true, eq_self]
            refine prims_spec fun b3 hb3 => ?_
            have hJ3 := hJ.heap (x := smapB primsL) hb3
            obtain ⟨p, w1, w2⟩ := smap_find s primsL 0 0
            have w3 : findB (.str s) (some (smapB primsL)) = some p := w1
            obtain ⟨A3, hA3⟩ : ∃ A3, A3 = A.set b3 (smapB primsL) := ⟨_, rfl⟩
            rw [← hA3] at hJ3 ⊢
            have hm : A3 b3 = some (smapB primsL) := by rw [hA3]; simp
            clear hA3
            simp only [hg, hJ3.q1 hC, hm, w3, w2, go_sem, Nat.reduceEqDiff, ↓reduceIte, eq_self]
            exact Here.mk ⟨by repeat (first | assumption | refine OwnJ.set ?_ rfl), by show AV.bool _ = AV.bool _; rw [← he11, hg, Bool.true_and]; exact congrArg AV.bool (decide_not (p := primN s = a.length)).symm⟩
          · simp only [hg, go_sem, Nat.reduceEqDiff, ↓reduceIte, Bool.false_eq_true, decide_false, eq_self]
            exact Here.mk ⟨by repeat (first | assumption | refine OwnJ.set ?_ rfl), by show AV.bool _ = AV.bool _; rw [← he11, hg]; simp⟩
        simp only [hc, Bool.false_or]
        clear hc
        refine nwp_region ?_
        simp only [n_core_Own_r15, hJ.h5, hJ.q2 hR, go_sem, ↓reduceIte, eq_self]
        refine ifBool_cases (fun hg => ?_) fun hg => ?_
        · simp only [hg, hJ.h2, hJ.q1 hC, go_sem, Nat.reduceEqDiff, Nat.reduceAdd, Nat.reduceLeDiff, ↓reduceIte, eq_self]
          refine htg.call ?_
          simp only [hg, go_sem, Nat.reduceEqDiff, ↓reduceIte, eq_self]
          exact ⟨by repeat (first | assumption | refine OwnJ.set ?_ rfl), by show AV.bool _ = AV.bool _; rw [← he12, hg]; simp⟩
        · simp only [hg, go_sem, Nat.reduceEqDiff, ↓reduceIte, Bool.false_eq_true, eq_self]
          exact ⟨by repeat (first | assumption | refine OwnJ.set ?_ rfl), by show AV.bool _ = AV.bool _; rw [← he12, hg]; simp⟩
      rintro f A ⟨hJ, h76⟩
      have hO5 : (!(e10 || (e11 || (e12 || false))) && a.all Atom.ok) = O := by rw [Bool.or_false]; exact hO3
      refine nwp_test _ h76 (fun h => fail16 f A hJ (or3_yes hO5 h)) fun h => ?_
      have hO4 := or3_no hO5 h
      exact ⟨hJ, by rw [← hO4]; simp⟩
  · rintro f A ⟨hJ, hOa⟩
    simp only [n_core_Own_r17, hJ.h2, hJ.q1 hC, go_sem, ↓reduceIte, eq_self]
    refine (hany na _ [] [] _ (fun a _ => Own1_spec a)).call ?_
    simp only [hJ.le, hOa, go_sem, ↓reduceIte, eq_self]
    rw [List.all_eq_not_any_not]
end Go.NL

set_option linter.unusedVariables false

set_option maxRecDepth 10000
namespace Go.NL
open Go.Proofs
mutual
/-- May a part be? -/
def Core.may : Core → Bool
  | .mk k x n s na a nt t nl l =>
    if k = 8 then !(decide (x ≠ 0) || decide (n ≠ 0) || decide (s ≠ []) || decide (0 < t.length) || decide (0 < a.length) || decide ((l.length : Int) - 1 < 1)) && ((Core.mayFs l).take (l.length - 1)).all id && (Core.mays l).getD (l.length - 1) false
    else (Core.mk k x n s na a nt t nl l).own false && (Core.mays l).all id
/-- May it be a function of a CoreRec? -/
def Core.mayF : Core → Bool
  | .mk k x n s na a nt t nl l => decide (k = 7) && (Core.mk k x n s na a nt t nl l).own true && (Core.mays l).getD 0 false
def Core.mays : List Core → List Bool
  | [] => []
  | c :: cs => c.may :: Core.mays cs
def Core.mayFs : List Core → List Bool
  | [] => []
  | c :: cs => c.mayF :: Core.mayFs cs
end
theorem encsL (l : List Core) : Core.encs l = l.map Core.enc := Core.encs_eq l
theorem slice_encSl (nl : Bool) (e : Nat) (es : List AV) (m : Nat) (hm : m ≤ es.length) (hne : es ≠ []) : sliceAV (some e) none (some (.int .i64 m)) none (encSl nl e es) = some (encSl false e (es.take m)) := by
  unfold encSl
  rw [if_neg (by rintro ⟨_, h⟩; exact hne h), if_neg (by rintro ⟨h, _⟩; cases h)]
  simp [sliceAV, boundAV, hm]
/-- What a call of may asks of sizes. -/
structure Core.Fit (c : Core) (n : Nat) : Prop where
  size : c.size ≤ n
mutual
/-- No list is longer than n. -/
def Core.small (n : Nat) : Core → Bool
  | .mk _ _ _ _ _ a _ t _ l => decide (a.length ≤ n) && decide (t.length ≤ n) && decide (l.length ≤ n) && Core.smalls n l
def Core.smalls (n : Nat) : List Core → Bool
  | [] => true
  | c :: cs => c.small n && Core.smalls n cs
end
theorem Core.smalls_mem {n : Nat} {l : List Core} (h : Core.smalls n l = true) : ∀ c ∈ l, c.small n = true := by
  induction l with
  | nil => intro c hc; cases hc
  | cons x l ih =>
    simp only [Core.smalls, Bool.and_eq_true] at h
    intro c hc
    rcases List.mem_cons.1 hc with rfl | hc
    · exact h.1
    · exact ih h.2 c hc
def big : Nat := 1099511627776
theorem big_eq : big = 1099511627776 := rfl
/-- What stands all along in may. -/
structure MayJ (A0 : Heap) (b : Nat) (C : List AV) (f : Fr) (A : Heap) : Prop where
  h1 : f 1 = .ptr b 0
  le : A0.le A
  hb : A b = some (.cells C)
theorem MayJ.set {A0 : Heap} {b : Nat} {C : List AV} {f : Fr} {A : Heap} (h : MayJ A0 b C f A) {d : Nat} {v : AV} (hd : (d == 1) = false) : MayJ A0 b C (f.set (some d) v) A := by
  simp only [beq_eq_false_iff_ne, ne_eq] at hd
  exact ⟨by simp [Fr.set, Ne.symm hd, h.h1], h.le, h.hb⟩
theorem MayJ.heap {A0 : Heap} {b : Nat} {C : List AV} {f : Fr} {A : Heap} (h : MayJ A0 b C f A) {b3 : Nat} {x : Blk} (hb3 : A b3 = none) : MayJ A0 b C f (A.set b3 x) :=
  ⟨h.h1, h.le.set hb3, by rw [Heap.set_other _ _ (Heap.ne_of h.hb hb3).symm]; exact h.hb⟩
theorem MayJ.q {A0 : Heap} {b : Nat} {C L : List AV} {f : Fr} {A : Heap} (h : MayJ A0 b C f A) (hC : C = L) : A b = some (.cells L) := hC ▸ h.hb
end Go.NL

set_option linter.unusedVariables false

set_option maxRecDepth 10000
namespace Go.NL
open Go.Proofs
/-- A list of numbers in a block of the run's own, that A0 does not know; nil, if there are none. -/
def OutI (A0 A : Heap) (v : AV) (l : List Int) : Prop :=
  (v = .nilslice ∧ l = []) ∨ ∃ b, v = .slice 1 b 0 l.length (.ge l.length) ∧ A b = some (.cells (ints l)) ∧ A0 b = none ∧ l ≠ []
theorem OutI.nil (A0 A : Heap) : OutI A0 A .nilslice [] := .inl ⟨rfl, rfl⟩
/-- The blocks of A but for the list's own. -/
def butOut (A : Heap) (v : AV) : Heap := fun c => match v with
  | .slice _ b _ _ _ => if c = b then none else A c
  | _ => A c
theorem OutI.keep {A0 A A' : Heap} {v : AV} {l : List Int} (h : OutI A0 A v l) (hle : (butOut A v).le A') (hb : ∀ e b o n c, v = .slice e b o n c → A' b = A b) : OutI A0 A' v l := by
  rcases h with h | ⟨b, hv, h1, h2⟩
  · exact .inl h
  · exact .inr ⟨b, hv, by rw [hb _ _ _ _ _ hv]; exact h1, h2⟩
theorem OutI.base {A0 A1 A : Heap} {v : AV} {l : List Int} (h : OutI A0 A v l) (h1 : ∀ b e o n c, v = .slice e b o n c → A1 b = none) : OutI A1 A v l := by
  rcases h with h | ⟨b, hv, h2, h3, h4⟩
  · exact .inl h
  · exact .inr ⟨b, hv, h2, h1 _ _ _ _ _ hv, h4⟩
theorem OutI.fresh {A0 A : Heap} {v : AV} {l : List Int} (h : OutI A0 A v l) {b : Nat} {x : Blk} (hb : A b = none) : OutI A0 (A.set b x) v l := by
  rcases h with h | ⟨b', h, h', h0, h1⟩
  · exact .inl h
  · exact .inr ⟨b', h, by rw [Heap.set_other _ _ (Heap.ne_of h' hb).symm]; exact h', h0, h1⟩
theorem src_one (A : Heap) (b : Nat) (n : Int) : srcAV (A.set b (.cells [.int .i64 n])) false 1 (.slice 1 b 0 1 (.eq 1)) = some ([n].length, ints [n]) := by
  simp [srcAV, ints]
theorem take_succ_map {α β : Type} (g : α → β) (l : List α) (i : Nat) (h : i < l.length) : (l.map g).take (i + 1) = (l.map g).take i ++ [g l[i]] := by
  rw [List.take_add_one, List.getElem?_map, List.getElem?_eq_getElem h]
  rfl
theorem ints_len (l : List Int) : (ints l).length = l.length := by simp [ints]
theorem ints_app (l m : List Int) : ints (l ++ m) = ints l ++ ints m := by simp [ints]
theorem ints_take_all (l : List Int) : ((ints l).drop 0).take (l.length * 1) = ints l := by
  rw [List.drop_zero, Nat.mul_one]
  exact List.take_of_length_le (by rw [ints_len]; exact Nat.le_refl _)
/-- append: numbers behind numbers. -/
theorem append_ints {A0 A : Heap} {v x : AV} {l m : List Int} {K : AV → Heap → Prop} (hv : OutI A0 A v l) (hle : A0.le A) (hx : srcAV A false 1 x = some (m.length, ints m)) (hlen : l.length + m.length ≤ big)
    (hK : ∀ v' A', OutI A0 A' v' (l ++ m) → A0.le A' → (∀ c y, A c = some y → (∀ e o n k, v ≠ .slice e c o n k) → A' c = some y) → K v' A') : appendN A K false 1 8 v x := by
  have hbig : big = 1099511627776 := rfl
  simp only [appendN, hx]
  rcases hv with ⟨rfl, rfl⟩ | ⟨b, rfl, hb, h0, hne0⟩
  · simp only
    split
    · rename_i hm
      have hm : m = [] := List.eq_nil_of_length_eq_zero hm
      subst hm
      exact hK _ _ (.inl ⟨rfl, rfl⟩) hle fun _ _ h _ => h
    · rename_i hm
      simp only [List.length_nil, Nat.zero_add] at hlen
      refine ⟨⟨by omega, by omega⟩, fun b hb => hK _ _ (.inr ⟨b, rfl, by simp, hle.none hb, by rintro rfl; exact hm rfl⟩) (hle.set hb) fun c y hc _ => ?_⟩
      rw [Heap.set_other _ _ (Heap.ne_of hc hb).symm]
      exact hc
  · simp only [hb, ints_len, true_and]
    refine ⟨by omega, ?_⟩
    split
    · rename_i hm
      have hm : m = [] := List.eq_nil_of_length_eq_zero hm
      subst hm
      refine hK _ _ ?_ hle fun _ _ h _ => h
      rw [List.append_nil]
      exact .inr ⟨b, rfl, hb, h0, hne0⟩
    · rename_i hm
      rw [if_neg (by simp only [Cap.low]; omega)]
      refine ⟨⟨by omega, by omega⟩, fun b' hb' => ?_⟩
      have hbb : b' ≠ b := Heap.ne_of hb hb'
      have hd : (A.del b) b' = none := by simp [Heap.del, hbb, hb']
      have hle' : A0.le (A.del b) := ⟨fun c y hc => by
        have hne : c ≠ b := fun e => by subst e; rw [h0] at hc; cases hc
        simp [Heap.del, hne, hle.get c y hc]⟩
      refine hK _ _ (.inr ⟨b', by simp, ?_, hle.none hb', by simp [hne0]⟩) (hle'.set hd) fun c y hc hne => ?_
      · rw [Heap.set_same, ints_take_all, ints_app]
      · have h1 : c ≠ b := fun e => hne _ _ _ _ (by rw [e])
        have h2 : c ≠ b' := fun e => by subst e; rw [hb'] at hc; cases hc
        rw [Heap.set_other _ _ h2]
        simp [Heap.del, h1, hc]
theorem src_out {A0 A : Heap} {v : AV} {l : List Int} (h : OutI A0 A v l) : srcAV A false 1 v = some (l.length, ints l) := by
  rcases h with ⟨rfl, rfl⟩ | ⟨b, rfl, hb, _⟩
  · rfl
  · simp only [srcAV, hb, ints_len, and_self, if_true]
    rw [if_pos (by omega), ints_take_all]
theorem src_encI (A : Heap) (nl : Bool) (l : List Int) : srcAV A false 1 (encSl nl 1 (l.map encInt)) = some (l.length, ints l) := by
  rw [srcAV_encSl]
  simp [ints, encInt, List.flatMap_map, AV.cells]
  induction l with
  | nil => rfl
  | cons x l ih => simp [List.flatMap_cons, ih]
theorem ret_same {rs : List NRes} {v : AV} {A0 : Heap} {f : Fr} {A : Heap} (h : resAV f A rs = some v) (hle : A0.le A) : retP rs (fun v' A' => v' = v ∧ A' = A0) .ret f A := ⟨v, h, A0, v, .sub hle.get, rfl, rfl⟩
theorem flat_ints (l : List Int) : (l.map encInt).flatMap AV.cells = ints l := by
  induction l with
  | nil => rfl
  | cons x l ih => rw [List.map_cons, List.flatMap_cons, ih]; rfl
/-- The list that is told is taken as never changing. -/
theorem ret_out {rs : List NRes} {A0 : Heap} {f : Fr} {A : Heap} {u : AV} {l : List Int} (h : resAV f A rs = some u) (ho : OutI A0 A u l) (hle : A0.le A) : retP rs (fun v' A' => v' = encSl true 1 (l.map encInt) ∧ A' = A0) .ret f A := by
  rcases ho with ⟨rfl, rfl⟩ | ⟨b, rfl, hb, h0, hl0⟩
  · exact ret_same h hle
  · by_cases hl : l = []
    · exact absurd hl hl0
    · refine ⟨_, h, A0, _, ?_, rfl, rfl⟩
      have hw := Wk.frz (A := A) (v := .slice 1 b 0 l.length (.ge l.length)) 1 (l.map encInt) (by rw [flat_ints]; exact hb) (by simp [encInt, AV.cells])
      have he : (AV.slice 1 b 0 l.length (.ge l.length)).frz b 1 (l.map encInt) = encSl true 1 (l.map encInt) := by
        simp [AV.frz, AV.frz1, AV.frz0, encSl, hl]
      rw [he] at hw
      refine hw.trans (.sub fun c y hc => ?_)
      have hne : c ≠ b := fun e => by subst e; rw [h0] at hc; cases hc
      simp [Heap.del, hne, hle.get c y hc]
end Go.NL

set_option linter.unusedVariables false

set_option maxRecDepth 10000
namespace Go.NL
open Go.Proofs
/-- The variables that a part binds ahead of its parts. -/
def Core.binds : Core → List Int
  | .mk k x n s na a nt t nl l => if k = 7 then [x] else if k = 8 then (l.take (l.length - 1)).map Core.n else if k = 14 then (List.range t.length).map (fun (i : Nat) => IntKind.i64.wrap (x + (i : Int))) else []
theorem Core.n_enc (c : Core) : takeAV none c.enc.cells 2 = some (.int .i64 c.n) := by cases c; rfl
set_option maxHeartbeats 2000000 in
theorem binds_spec (c : Core) (h8 : c.kind = 8 → c.l ≠ []) (ht : c.tags.length ≤ big) (hl : c.l.length ≤ big) : NPure Try.prog F_core_binds [c.enc] (encSl true 1 (c.binds.map encInt)) := by
  have hbig : big = 1099511627776 := rfl
  refine NPure.of_body c_core_binds (Nat.le_of_ble_eq_true rfl) fun A0 => ?_
  obtain ⟨k, x, n, s, na, a, nt, t, nl, l⟩ := c
  simp only [Core.kind, Core.l, Core.tags] at h8 ht hl
  generalize hO : (Core.mk k x n s na a nt t nl l).binds = O
  simp only [Core.binds] at hO
  simp only [Core.enc, encsL, n_core_binds]
  refine nwp_seq fun K hK => nwp_region ?_
  simp only [n_core_binds_r0, go_sem, eq_self]
  intro b hb
  refine hK _ _ ?_; clear hK K
  refine nwp_then (fun f A => MayJ A0 b [.int .i64 k, .int .i64 x, .int .i64 n, .str s, encSl na 3 (a.map Atom.enc), encSl nt 1 (t.map encInt), encSl nl 7 (l.map Core.enc)] f A ∧ f 9 = .int .i64 k) ?_ ?_
  · simp only [n_core_binds_r1, go_sem, Nat.reduceEqDiff, ↓reduceIte, eq_self]
    exact Here.mk ⟨⟨rfl, (Heap.le.refl _).set hb, by simp⟩, rfl⟩
  rintro f A ⟨hJ, h9⟩
  refine nwp_block ?_
  refine nwp_then (fun f A => MayJ A0 b [.int .i64 k, .int .i64 x, .int .i64 n, .str s, encSl na 3 (a.map Atom.enc), encSl nt 1 (t.map encInt), encSl nl 7 (l.map Core.enc)] f A ∧ f 9 = .int .i64 k ∧ f 10 = .bool (decide (k = 7))) ?_ ?_
  · simp only [n_core_binds_r2, h9, go_sem, ↓reduceIte, eq_self]
    exact Here.mk ⟨by repeat (first | assumption | refine MayJ.set ?_ rfl), h9, rfl⟩
  rintro f A ⟨hJ, h9, h10⟩
  refine nwp_test _ h10 (fun hk => ?_) fun hk => ?_
  · -- a function
    have hk7 : k = 7 := by simpa using hk
    rw [if_pos hk7] at hO
    subst hO
    simp only [n_core_binds_r3, hJ.h1, hJ.hb, go_sem, Nat.reduceLeDiff, ↓reduceIte, eq_self]
    intro b2 hb2
    refine ⟨_, rfl, A0, _, Wk.trans (Wk.frz (b := b2) 1 [.int .i64 x] (by simp [AV.cells]) (by simp [AV.cells])) (Wk.sub (A' := A0) fun c y hc => ?_), ?_, rfl⟩
    · have hne : c ≠ b2 := fun e => by subst e; rw [hJ.le.none hb2] at hc; cases hc
      simp [Heap.del, Heap.set, hne, hJ.le.get c y hc]
    · simp [AV.frz, AV.frz1, AV.frz0, encSl, encInt, Fr.set]
  have hk7 : k ≠ 7 := by simpa using hk
  rw [if_neg hk7] at hO
  clear hk h10
  refine nwp_then (fun f A => MayJ A0 b [.int .i64 k, .int .i64 x, .int .i64 n, .str s, encSl na 3 (a.map Atom.enc), encSl nt 1 (t.map encInt), encSl nl 7 (l.map Core.enc)] f A ∧ f 9 = .int .i64 k ∧ f 15 = .bool (decide (k = 8))) ?_ ?_
  · simp only [n_core_binds_r4, h9, go_sem, ↓reduceIte, eq_self]
    exact Here.mk ⟨by repeat (first | assumption | refine MayJ.set ?_ rfl), h9, rfl⟩
  rintro f A ⟨hJ, h9, h15⟩
  refine nwp_test _ h15 (fun hk => ?_) fun hk => ?_
  · -- a CoreRec
    have hk8 : k = 8 := by simpa using hk
    rw [if_pos hk8] at hO
    have hne0 := h8 hk8
    obtain ⟨m, hlm⟩ : ∃ m, l.length = m + 1 := ⟨l.length - 1, by have := List.length_pos_iff.2 hne0; omega⟩
    rw [show l.length - 1 = m by omega] at hO
    have hwl : IntKind.i64.wrap ((l.length : Int) - 1) = (m : Int) := by rw [i64w (by omega) (by omega)]; omega
    have hsl := slice_encSl nl 7 (l.map Core.enc) m (by simp; omega) (by simpa using hne0)
    have hlt : ((l.map Core.enc).take m).length = m := by simp; omega
    refine nwp_then (fun f A => MayJ A0 b [.int .i64 k, .int .i64 x, .int .i64 n, .str s, encSl na 3 (a.map Atom.enc), encSl nt 1 (t.map encInt), encSl nl 7 (l.map Core.enc)] f A ∧ f 3 = .nilslice) ?_ ?_
    · simp only [n_core_binds_r5, go_sem]
      exact Here.mk ⟨by repeat (first | assumption | refine MayJ.set ?_ rfl), rfl⟩
    rintro f A ⟨hJ, h3⟩
    refine nwp_cut (fun f A => A0.le A ∧ OutI A0 A (f 3) O) ?_ ?_
    · refine nwp_then (fun f A => MayJ A0 b [.int .i64 k, .int .i64 x, .int .i64 n, .str s, encSl na 3 (a.map Atom.enc), encSl nt 1 (t.map encInt), encSl nl 7 (l.map Core.enc)] f A ∧ f 3 = .nilslice ∧ f 23 = encSl false 7 ((l.map Core.enc).take m) ∧ f 24 = .int .i64 m ∧ f 25 = .int .i64 0) ?_ ?_
      · simp only [n_core_binds_r6, hJ.h1, hJ.hb, lenAV_encSl, List.length_map, hwl, hsl, hlt, go_sem, Nat.reduceEqDiff, ↓reduceIte, eq_self]
        exact Here.mk ⟨by repeat (first | assumption | refine MayJ.set ?_ rfl), h3, rfl, rfl, rfl⟩
      rintro f A ⟨hJ, h3, h23, h24, h25⟩
      refine nwp_for (ti := 25) (tn := 24) (tt := 26) (tw := 34) (id := 1) (id2 := 2) m (by omega) (fun i f A => A0.le A ∧ f 23 = encSl false 7 ((l.map Core.enc).take m) ∧ OutI A0 A (f 3) (((l.take m).map Core.n).take i)) (by decide) ?_ h25 h24 ⟨hJ.le, h23, by rw [h3]; exact .nil _ _⟩ ?_ ?_
      · rintro i f A d v hd ⟨q1, q2, q3⟩
        rcases hd with rfl | rfl | rfl
        all_goals exact ⟨q1, q2, q3⟩
      · rintro i f A hi ⟨hle, h23, hout⟩ h25 h24
        have hil : i < l.length := by omega
        have hix := indexAddr_encSl false 7 ((l.map Core.enc).take m) i l[i].enc (by rw [List.getElem?_take, if_pos hi, List.getElem?_map, List.getElem?_eq_getElem hil]; rfl)
        have hte := Core.take_enc l[i]
        have hne := Core.n_enc l[i]
        refine nwp_then (fun f A => ∃ b5, A0.le A ∧ f 23 = encSl false 7 ((l.map Core.enc).take m) ∧ f 24 = .int .i64 m ∧ f 25 = .int .i64 i ∧ f 5 = .ptr b5 0 ∧ A b5 = some (.cells l[i].enc.cells) ∧ OutI A0 A (f 3) (((l.take m).map Core.n).take i)) ?_ ?_
        · simp only [n_core_binds_r8, h23, h25, hix, hte, go_sem, Nat.reduceEqDiff, Nat.reduceAdd, Nat.reduceLeDiff, ↓reduceIte, eq_self]
          intro b5 hb5
          refine Here.mk ⟨b5, hle.set hb5, h23, h24, h25, rfl, by simp, ?_⟩
          show OutI A0 _ (f 3) _
          exact hout.fresh hb5
        rintro f A ⟨b5, hle, h23, h24, h25, h5, hb5, hout⟩
        refine nwp_last (fun f A => A0.le A ∧ f 23 = encSl false 7 ((l.map Core.enc).take m) ∧ f 24 = .int .i64 m ∧ f 25 = .int .i64 i ∧ OutI A0 A (f 3) (((l.take m).map Core.n).take (i + 1))) ?_ ?_
        · simp only [n_core_binds_r9, h5, hb5, hne, go_sem, Nat.reduceEqDiff, Nat.reduceLeDiff, ↓reduceIte, eq_self]
          intro b hb
          have hlt2 : i < (l.take m).length := by simp; omega
          refine append_ints (m := [l[i].n]) (hout.fresh hb) (hle.set hb) (src_one _ _ _) (by simp; omega) fun v' A' ho hle' _ => Here.mk ⟨hle', h23, h24, h25, ?_⟩
          show OutI A0 A' v' _
          rw [take_succ_map _ _ _ hlt2, List.getElem_take]
          exact ho
        · rintro f A ⟨q1, q2, q3, q4, q5⟩
          exact ⟨⟨q1, q2, q5⟩, q4, q3⟩
      · rintro f A ⟨q1, q2, q3⟩
        refine ⟨q1, ?_⟩
        rw [← hO]
        rw [List.take_of_length_le (by simp; omega)] at q3
        exact q3
    · rintro f A ⟨hle, hout⟩
      refine nwp_then (fun f A => A0.le A ∧ OutI A0 A (f 2) O) ?_ ?_
      · simp only [n_core_binds_r12, go_sem, ↓reduceIte, eq_self]
        exact Here.mk ⟨hle, hout⟩
      rintro f A ⟨hle, hout⟩
      exact ret_out rfl hout hle
  have hk8 : k ≠ 8 := by simpa using hk
  rw [if_neg hk8] at hO
  clear hk h15
  refine nwp_then (fun f A => MayJ A0 b [.int .i64 k, .int .i64 x, .int .i64 n, .str s, encSl na 3 (a.map Atom.enc), encSl nt 1 (t.map encInt), encSl nl 7 (l.map Core.enc)] f A ∧ f 9 = .int .i64 k ∧ f 36 = .bool (decide (k = 14))) ?_ ?_
  · simp only [n_core_binds_r13, h9, go_sem, ↓reduceIte, eq_self]
    exact Here.mk ⟨by repeat (first | assumption | refine MayJ.set ?_ rfl), h9, rfl⟩
  rintro f A ⟨hJ, h9, h36⟩
  refine nwp_test _ h36 (fun hk => ?_) fun hk => ?_
  · -- a CoreGroup
    have hk14 : k = 14 := by simpa using hk
    rw [if_pos hk14] at hO
    refine nwp_then (fun f A => MayJ A0 b [.int .i64 k, .int .i64 x, .int .i64 n, .str s, encSl na 3 (a.map Atom.enc), encSl nt 1 (t.map encInt), encSl nl 7 (l.map Core.enc)] f A ∧ f 6 = .nilslice) ?_ ?_
    · simp only [n_core_binds_r14, go_sem]
      exact Here.mk ⟨by repeat (first | assumption | refine MayJ.set ?_ rfl), rfl⟩
    rintro f A ⟨hJ, h6⟩
    refine nwp_cut (fun f A => A0.le A ∧ OutI A0 A (f 6) O) ?_ ?_
    · refine nwp_then (fun f A => MayJ A0 b [.int .i64 k, .int .i64 x, .int .i64 n, .str s, encSl na 3 (a.map Atom.enc), encSl nt 1 (t.map encInt), encSl nl 7 (l.map Core.enc)] f A ∧ f 6 = .nilslice ∧ f 40 = .int .i64 t.length ∧ f 41 = .int .i64 0) ?_ ?_
      · simp only [n_core_binds_r15, hJ.h1, hJ.hb, lenAV_encSl, List.length_map, go_sem, ↓reduceIte, eq_self]
        exact Here.mk ⟨by repeat (first | assumption | refine MayJ.set ?_ rfl), h6, rfl, rfl⟩
      rintro f A ⟨hJ, h6, h40, h41⟩
      refine nwp_for (ti := 41) (tn := 40) (tt := 42) (tw := 51) (id := 3) (id2 := 4) t.length (by omega) (fun i f A => MayJ A0 b [.int .i64 k, .int .i64 x, .int .i64 n, .str s, encSl na 3 (a.map Atom.enc), encSl nt 1 (t.map encInt), encSl nl 7 (l.map Core.enc)] f A ∧ OutI A0 A (f 6) (((List.range t.length).map fun (i : Nat) => IntKind.i64.wrap (x + (i : Int))).take i)) (by decide) ?_ h41 h40 ⟨hJ, by rw [h6]; exact .nil _ _⟩ ?_ ?_
      · rintro i f A d v hd ⟨q1, q2⟩
        rcases hd with rfl | rfl | rfl
        all_goals exact ⟨q1.set rfl, q2⟩
      · rintro i f A hi ⟨hJ, hout⟩ h41 h40
        refine nwp_then (fun f A => MayJ A0 b [.int .i64 k, .int .i64 x, .int .i64 n, .str s, encSl na 3 (a.map Atom.enc), encSl nt 1 (t.map encInt), encSl nl 7 (l.map Core.enc)] f A ∧ f 7 = .int .i64 i ∧ f 40 = .int .i64 t.length ∧ f 41 = .int .i64 i ∧ OutI A0 A (f 6) (((List.range t.length).map fun (i : Nat) => IntKind.i64.wrap (x + (i : Int))).take i)) ?_ ?_
        · simp only [n_core_binds_r17, h41, go_sem, ↓reduceIte, eq_self]
          exact Here.mk ⟨by repeat (first | assumption | refine MayJ.set ?_ rfl), rfl, h40, h41, hout⟩
        rintro f A ⟨hJ, h7, h40, h41, hout⟩
        refine nwp_last (fun f A => MayJ A0 b [.int .i64 k, .int .i64 x, .int .i64 n, .str s, encSl na 3 (a.map Atom.enc), encSl nt 1 (t.map encInt), encSl nl 7 (l.map Core.enc)] f A ∧ f 40 = .int .i64 t.length ∧ f 41 = .int .i64 i ∧ OutI A0 A (f 6) (((List.range t.length).map fun (i : Nat) => IntKind.i64.wrap (x + (i : Int))).take (i + 1))) ?_ ?_
        · simp only [n_core_binds_r18, hJ.h1, hJ.hb, h7, go_sem, Nat.reduceEqDiff, Nat.reduceLeDiff, ↓reduceIte, eq_self]
          intro b2 hb2
          have hlt2 : i < (List.range t.length).length := by simpa using hi
          have hJ2 := hJ.heap (x := .cells [.int .i64 (IntKind.i64.wrap (x + (i : Int)))]) hb2
          refine append_ints (m := [IntKind.i64.wrap (x + (i : Int))]) (A0 := A0) (hout.fresh hb2) (hJ.le.set hb2) (src_one _ _ _) (by simp; omega) fun v' A' ho hle' hfr => Here.mk ⟨?_, h40, h41, ?_⟩
          · have hbA : A' b = some (.cells [.int .i64 k, .int .i64 x, .int .i64 n, .str s, encSl na 3 (a.map Atom.enc), encSl nt 1 (t.map encInt), encSl nl 7 (l.map Core.enc)]) := by
              refine hfr b _ hJ2.hb fun e o n' c hv => ?_
              rcases hout with ⟨h, _⟩ | ⟨b', h, h', _⟩
              · rw [h] at hv; cases hv
              · rw [h] at hv
                cases hv
                rw [hJ.hb] at h'
                have h4 := congrArg (fun o => match o with | some (Blk.cells cs) => cs[3]? | _ => none) h'
                simp only [List.getElem?_cons_succ, List.getElem?_cons_zero, ints, List.getElem?_map] at h4
                cases hq : (List.take i (List.map (fun (i : Nat) => IntKind.i64.wrap (x + (i : Int))) (List.range t.length)))[3]? with
                | none => rw [hq] at h4; cases h4
                | some q => rw [hq] at h4; cases h4
            have hJ3 : MayJ A0 b [.int .i64 k, .int .i64 x, .int .i64 n, .str s, encSl na 3 (a.map Atom.enc), encSl nt 1 (t.map encInt), encSl nl 7 (l.map Core.enc)] f A' := ⟨hJ.h1, hle', hbA⟩
            repeat (first | exact hJ3 | refine MayJ.set ?_ rfl)
          · show OutI A0 A' v' _
            rw [take_succ_map _ _ _ hlt2, List.getElem_range]
            exact ho
        · rintro f A ⟨q1, q2, q3, q4⟩
          exact ⟨⟨q1, q4⟩, q3, q2⟩
      · rintro f A ⟨q1, q2⟩
        refine ⟨q1.le, ?_⟩
        rw [← hO]
        rw [List.take_of_length_le (by simp)] at q2
        exact q2
    · rintro f A ⟨hle, hout⟩
      refine nwp_then (fun f A => A0.le A ∧ OutI A0 A (f 2) O) ?_ ?_
      · simp only [n_core_binds_r21, go_sem, ↓reduceIte, eq_self]
        exact Here.mk ⟨hle, hout⟩
      rintro f A ⟨hle, hout⟩
      exact ret_out rfl hout hle
  have hk14 : k ≠ 14 := by simpa using hk
  rw [if_neg hk14] at hO
  subst hO
  show nwp _ (.seq (.region n_core_binds_r22 []) .ret) _ _ _
  refine nwp_then (fun f A => A0.le A ∧ f 2 = .nilslice) ?_ ?_
  · simp only [n_core_binds_r22, go_sem]
    exact Here.mk ⟨hJ.le, rfl⟩
  rintro f A ⟨hle, h2⟩
  exact ret_same (by rw [resAV_one, h2]; rfl) hle
end Go.NL

set_option linter.unusedVariables false

set_option maxRecDepth 10000
namespace Go.NL
open Go.Proofs
def lateK (k : Int) : Bool := decide (k = 2) || decide (k = 11)
mutual
/-- The variables that are bound in a part, in order. -/
def Core.order : Core → List Int
  | .mk k x n s na a nt t nl l => (Core.mk k x n s na a nt t nl l).binds ++ Core.orders (lateK k) x 0 l
def Core.orders (late : Bool) (x : Int) (i : Nat) : List Core → List Int
  | [] => []
  | c :: cs => ((if late = true ∧ i = 1 then [x] else []) ++ c.order) ++ Core.orders late x (i + 1) cs
end
theorem Core.orders_snoc (late : Bool) (x : Int) (c : Core) : ∀ (l : List Core) (i : Nat), Core.orders late x i (l ++ [c]) = Core.orders late x i l ++ ((if late = true ∧ i + l.length = 1 then [x] else []) ++ c.order)
  | [], i => by simp [Core.orders]
  | d :: l, i => by
    simp only [List.cons_append, Core.orders, Core.orders_snoc late x c l (i + 1), List.length_cons, List.append_assoc]
    rw [show i + 1 + l.length = i + (l.length + 1) by omega]
theorem Core.orders_take (late : Bool) (x : Int) (l : List Core) (i : Nat) (h : i < l.length) : Core.orders late x 0 (l.take (i + 1)) = Core.orders late x 0 (l.take i) ++ ((if late = true ∧ i = 1 then [x] else []) ++ l[i].order) := by
  rw [List.take_add_one, List.getElem?_eq_getElem h]
  show Core.orders late x 0 (l.take i ++ [l[i]]) = _
  rw [Core.orders_snoc]
  rw [show 0 + (l.take i).length = i by simp; omega]
theorem Core.orders_le (late : Bool) (x : Int) : ∀ (l : List Core) (i j : Nat), (Core.orders late x j (l.take i)).length ≤ (Core.orders late x j l).length
  | [], i, j => by simp
  | c :: l, 0, j => by simp [Core.orders]
  | c :: l, i + 1, j => by
    have := Core.orders_le late x l i (j + 1)
    simp only [List.take_succ_cons, Core.orders, List.length_append]
    omega
mutual
/-- Each CoreRec has a part, and no list is longer than n. -/
def Core.good (n : Nat) : Core → Bool
  | .mk k _ _ _ _ a _ t _ l => (!decide (k = 8) || !l.isEmpty) && decide (a.length ≤ n) && decide (t.length ≤ n) && decide (l.length ≤ n) && Core.goods n l
def Core.goods (n : Nat) : List Core → Bool
  | [] => true
  | c :: cs => c.good n && Core.goods n cs
end
theorem Core.goods_mem {n : Nat} {l : List Core} (h : Core.goods n l = true) : ∀ c ∈ l, c.good n = true := by
  induction l with
  | nil => intro c hc; cases hc
  | cons x l ih =>
    simp only [Core.goods, Bool.and_eq_true] at h
    intro c hc
    rcases List.mem_cons.1 hc with rfl | hc
    · exact h.1
    · exact ih h.2 c hc
theorem OutI.ne {A0 A : Heap} {v : AV} {l : List Int} (h : OutI A0 A v l) {bo : Nat} {u : AV} (hbo : A bo = some (.cells [u])) (hu : ∀ k n, u ≠ .int k n) : ∀ e b o n k, v = .slice e b o n k → b ≠ bo := by
  intro e b o n k hv hb
  subst hb
  rcases h with ⟨h, _⟩ | ⟨b', h, h', _, hne⟩
  · rw [h] at hv; cases hv
  · rw [h] at hv
    cases hv
    rw [hbo] at h'
    cases l with
    | nil => exact hne rfl
    | cons x l =>
      simp only [ints, List.map_cons] at h'
      injection h' with h'
      injection h' with h'
      injection h' with h1 h2
      exact hu _ _ h1
theorem OutI.noint {A0 A : Heap} {v : AV} {l : List Int} (h : OutI A0 A v l) : ∀ k n, v ≠ .int k n := by
  rcases h with ⟨rfl, _⟩ | ⟨b, rfl, _⟩ <;> intro k n h <;> cases h
theorem OutI.one {A0 A : Heap} {v : AV} {l : List Int} (h : OutI A0 A v l) : v.one = true ∧ v.cells = [v] := by
  rcases h with ⟨rfl, _⟩ | ⟨b, rfl, _⟩ <;> exact ⟨rfl, rfl⟩
/-- A part is no list of numbers. -/
theorem OutI.core {A0 A : Heap} {v : AV} {l : List Int} (h : OutI A0 A v l) {b5 : Nat} {y : Core} (hb : A b5 = some (.cells y.enc.cells)) : ∀ e o n k, v ≠ .slice e b5 o n k := by
  intro e o n k hv
  rcases h with ⟨h, _⟩ | ⟨b', h, h', _, hne⟩
  · rw [h] at hv; cases hv
  · rw [h] at hv
    cases hv
    rw [hb] at h'
    obtain ⟨k, x, n, s, na, a, nt, t, nl, l'⟩ := y
    injection h' with h'
    injection h' with h'
    have h4 := congrArg (fun cs => cs[3]?) h'
    simp only [Core.enc, AV.cells, List.getElem?_cons_succ, List.getElem?_cons_zero, ints, List.getElem?_map] at h4
    cases hq : l[3]? with
    | none => rw [hq] at h4; cases h4
    | some q => rw [hq] at h4; cases h4
/-- Another block is written. -/
theorem OutI.other {A0 A : Heap} {v : AV} {l : List Int} (h : OutI A0 A v l) {b : Nat} {x : Blk} (hb : ∀ e b' o n k, v = .slice e b' o n k → b' ≠ b) : OutI A0 (A.set b x) v l := by
  rcases h with h | ⟨b', h, h', h0, h1⟩
  · exact .inl h
  · exact .inr ⟨b', h, by rw [Heap.set_other _ _ (hb _ _ _ _ _ h)]; exact h', h0, h1⟩
/-- Where Order's inner function stands: out, itself. -/
structure OrdJ (A0 : Heap) (bo bg : Nat) (l : List Int) (A : Heap) : Prop where
  le : A0.le A
  no : A0 bo = none
  o : ∃ v, A bo = some (.cells [v]) ∧ OutI A0 A v l
  g : A bg = some (.cells [.func F_core_Order_1 [] [.ptr bo 0, .ptr bg 0]])
  ne : bo ≠ bg
theorem OrdJ.fresh {A0 : Heap} {bo bg : Nat} {l : List Int} {A : Heap} (h : OrdJ A0 bo bg l A) {b : Nat} {x : Blk} (hb : A b = none) : OrdJ A0 bo bg l (A.set b x) := by
  obtain ⟨v, h1, h2⟩ := h.o
  exact ⟨h.le.set hb, h.no, ⟨v, by rw [Heap.set_other _ _ (Heap.ne_of h1 hb).symm]; exact h1, h2.fresh hb⟩, by rw [Heap.set_other _ _ (Heap.ne_of h.g hb).symm]; exact h.g, h.ne⟩
/-- All that stands beside the list may be held fast. -/
theorem OrdJ.rebase {A0 : Heap} {bo bg : Nat} {l : List Int} {A : Heap} (h : OrdJ A0 bo bg l A) : ∃ B : Heap, OrdJ B bo bg l A ∧ A0.le B ∧ (∀ c y, A c = some y → (∀ u, y = .cells [u] → c ≠ bo) → (∀ z zs, y ≠ .cells (ints (z :: zs))) → B c = some y) := by
  obtain ⟨v, h1, h2⟩ := h.o
  refine ⟨fun c => if c = bo then none else butOut A v c, ⟨⟨fun c y hc => ?_⟩, by simp, ⟨v, h1, h2.base fun b e o n k hv => ?_⟩, h.g, h.ne⟩, ⟨fun c y hc => ?_⟩, fun c y hc hbo hints => ?_⟩
  · split at hc
    · cases hc
    · unfold butOut at hc
      split at hc
      · split at hc
        · cases hc
        · exact hc
      · exact hc
  · subst hv
    simp only [butOut, if_true]
    split <;> rfl
  · have hne : c ≠ bo := fun e => by subst e; rw [h.no] at hc; cases hc
    rw [if_neg hne]
    unfold butOut
    split
    · rename_i e b o n k
      rcases h2 with ⟨h, _⟩ | ⟨b', h', _, h0, _⟩
      · cases h
      · cases h'
        rw [if_neg (fun e => by subst e; rw [h0] at hc; cases hc)]
        exact h.le.get c y hc
    · exact h.le.get c y hc
  · have hne : c ≠ bo := fun e => by
      subst e
      rw [h1] at hc
      cases hc
      exact hbo v rfl rfl
    show (if c = bo then none else butOut A v c) = some y
    rw [if_neg hne]
    unfold butOut
    split
    · rename_i e b o n k
      rcases h2 with ⟨h, _⟩ | ⟨b', h', hb', _, hne'⟩
      · cases h
      · cases h'
        rw [if_neg (fun e => by
          subst e
          rw [hb'] at hc
          cases hc
          cases l with
          | nil => exact hne' rfl
          | cons z zs => exact hints z zs rfl)]
        exact hc
    · exact hc
theorem OrdJ.base {A0 B : Heap} {bo bg : Nat} {l : List Int} {A : Heap} (h : OrdJ B bo bg l A) (hle : A0.le B) : OrdJ A0 bo bg l A := by
  obtain ⟨v, h1, h2⟩ := h.o
  refine ⟨hle.trans h.le, hle.none h.no, ⟨v, h1, ?_⟩, h.g, h.ne⟩
  rcases h2 with h | ⟨b, h', hb, h0, hne⟩
  · exact .inl h
  · exact .inr ⟨b, h', hb, hle.none h0, hne⟩
/-- Numbers are put behind the list. -/
theorem OrdJ.push {A0 : Heap} {bo bg : Nat} {l m : List Int} {A : Heap} (h : OrdJ A0 bo bg l A) {v x : AV} (hv : A bo = some (.cells [v])) (hx : srcAV A false 1 x = some (m.length, ints m)) (hlen : l.length + m.length ≤ big) {K : AV → Heap → Prop}
    (hK : ∀ v' A', A' bo = some (.cells [v]) → v'.cells = [v'] → v'.one = true → OrdJ A0 bo bg (l ++ m) (A'.set bo (.cells [v'])) → (∀ b (y : Core), b ≠ bo → A b = some (.cells y.enc.cells) → (A'.set bo (.cells [v'])) b = some (.cells y.enc.cells)) → K v' A') : appendN A K false 1 8 v x := by
  obtain ⟨v0, h1, h2⟩ := h.o
  rw [hv] at h1
  cases h1
  refine append_ints h2 h.le hx hlen fun v' A' ho hle hfr => ?_
  have hbo : A' bo = some (.cells [v]) := hfr bo _ hv fun e o n k he => h2.ne hv h2.noint _ _ _ _ _ he rfl
  have hbg : A' bg = some (.cells [.func F_core_Order_1 [] [.ptr bo 0, .ptr bg 0]]) := hfr bg _ h.g fun e o n k he => h2.ne h.g (by intro k n hh; cases hh) _ _ _ _ _ he rfl
  have hne := ho.ne hbo h2.noint
  exact hK v' A' hbo ho.one.2 ho.one.1 ⟨hle.set' h.no, h.no, ⟨v', by simp, ho.other hne⟩, by rw [Heap.set_other _ _ h.ne.symm]; exact hbg, h.ne⟩ fun b y hb hy => by
    rw [Heap.set_other _ _ hb]
    exact hfr b _ hy (h2.core hy)
set_option maxHeartbeats 2000000 in
theorem Order1_spec : ∀ (N : Nat) (c : Core), c.size ≤ N → c.good big = true → ∀ {A0 A : Heap} {bo bg : Nat} {acc : List Int} {K : AV → Heap → Prop}, OrdJ A0 bo bg acc A → acc.length + c.order.length ≤ big → (∀ A', OrdJ A0 bo bg (acc ++ c.order) A' → K (.tuple []) A') →
    NCalls Try.prog F_core_Order_1 [c.enc, .ptr bo 0, .ptr bg 0] A K := by
  intro N
  induction N with
  | zero => intro c hc; cases c; simp [Core.size] at hc
  | succ N ih =>
    intro c hc hgood A0 A bo bg acc K hJ0 hlen hK
    have hbig : big = 1099511627776 := rfl
    have hbinds := binds_spec c
    obtain ⟨k, x, n, s, na, a, nt, t, nl, l⟩ := c
    have hl : Core.sizes l ≤ N := by simp only [Core.size] at hc; omega
    simp only [Core.good, Bool.and_eq_true] at hgood
    obtain ⟨⟨⟨⟨g8, ga⟩, gt⟩, gl⟩, gs⟩ := hgood
    replace ga := of_decide_eq_true ga
    replace gt := of_decide_eq_true gt
    replace gl := of_decide_eq_true gl
    have g8' : k = 8 → l ≠ [] := by
      intro h hh
      subst hh
      simp [h] at g8
    have hbinds := hbinds g8' gt gl
    have hord : (Core.mk k x n s na a nt t nl l).order = (Core.mk k x n s na a nt t nl l).binds ++ Core.orders (lateK k) x 0 l := by rw [Core.order]
    rw [hord] at hlen hK
    clear hord
    generalize (Core.mk k x n s na a nt t nl l).binds = bs at hbinds hlen hK
    rw [List.length_append] at hlen
    refine NCalls.walk c_core_Order_1 (Nat.le_of_ble_eq_true rfl) ?_
    simp only [Core.enc, encsL] at hbinds ⊢
    simp only [n_core_Order_1]
    refine nwp_seq fun K2 hK2 => nwp_region ?_
    simp only [n_core_Order_1_r0, go_sem, eq_self]
    intro b3 hb3
    refine hK2 _ _ ?_; clear hK2 K2
    have hJ1 := hJ0.fresh (x := .cells [.int .i64 k, .int .i64 x, .int .i64 n, .str s, encSl na 3 (a.map Atom.enc), encSl nt 1 (t.map encInt), encSl nl 7 (l.map Core.enc)]) hb3
    obtain ⟨B, hJ, hAB, hB⟩ := hJ1.rebase
    have hB3 := hB b3 _ (Heap.set_same _ _ _) (fun u h => by cases h) (fun z zs h => by
      injection h with h
      have h4 := congrArg (fun cs => cs[3]?) h
      simp only [List.getElem?_cons_succ, List.getElem?_cons_zero, ints, List.getElem?_map, List.map_cons] at h4
      cases hq : zs[2]? with
      | none => rw [hq] at h4; cases h4
      | some q => rw [hq] at h4; cases h4)
    generalize A.set b3 _ = A1 at hJ
    clear hJ0 hJ1 hB
    refine nwp_then (fun f A => OrdJ B bo bg (acc ++ bs) A ∧ f 1 = .ptr bo 0 ∧ f 2 = .ptr bg 0 ∧ f 3 = .ptr b3 0) ?_ ?_
    · obtain ⟨v, hv, hout⟩ := hJ.o
      have h3 := hJ.le.get _ _ hB3
      simp only [n_core_Order_1_r1, hv, h3, go_sem, Nat.reduceEqDiff, Nat.reduceAdd, Nat.reduceLeDiff, ↓reduceIte, eq_self]
      refine hbinds.call ?_
      simp only [hv, go_sem, eq_self]
      refine hJ.push hv (src_encI _ _ _) (by omega) fun v' A' hbo hc1 ho1 hJ' _ => ?_
      simp only [hbo, hc1, ho1, go_sem, Nat.reduceLeDiff, eq_self]
      exact Here.mk ⟨hJ', rfl, rfl, rfl⟩
    rintro f A ⟨hJ, h1, h2, h3⟩
    clear hbinds
    refine nwp_then (fun f A => OrdJ B bo bg (acc ++ bs) A ∧ f 1 = .ptr bo 0 ∧ f 2 = .ptr bg 0 ∧ f 3 = .ptr b3 0 ∧ f 11 = encSl nl 7 (l.map Core.enc) ∧ f 12 = .int .i64 l.length ∧ f 13 = .int .i64 0) ?_ ?_
    · have hb := hJ.le.get _ _ hB3
      simp only [n_core_Order_1_r2, h3, hb, lenAV_encSl, List.length_map, go_sem, ↓reduceIte, eq_self]
      exact Here.mk ⟨hJ, h1, h2, h3, rfl, rfl, rfl⟩
    rintro f A ⟨hJ, h1, h2, h3, h11, h12, h13⟩
    refine nwp_for (ti := 13) (tn := 12) (tt := 14) (tw := 38) (id := 0) (id2 := 1) l.length (by omega) (fun i f A => OrdJ B bo bg (acc ++ bs ++ Core.orders (lateK k) x 0 (l.take i)) A ∧ f 1 = .ptr bo 0 ∧ f 2 = .ptr bg 0 ∧ f 3 = .ptr b3 0 ∧ f 11 = encSl nl 7 (l.map Core.enc)) (by decide) ?_ h13 h12
      ⟨by simpa [Core.orders] using hJ, h1, h2, h3, h11⟩ ?_ ?_
    · rintro i f A d v hd ⟨q1, q2, q3, q4, q5⟩
      rcases hd with rfl | rfl | rfl
      all_goals exact ⟨q1, q2, q3, q4, q5⟩
    · rintro i f A hi ⟨hJ, h1, h2, h3, h11⟩ h13 h12
      have hix := indexAddr_encSl nl 7 (l.map Core.enc) i l[i].enc (by rw [List.getElem?_map, List.getElem?_eq_getElem hi]; rfl)
      have hte := Core.take_enc l[i]
      have hot := Core.orders_take (lateK k) x l i hi
      have hol := Core.orders_le (lateK k) x l (i + 1) 0
      rw [hot, List.length_append, List.length_append] at hol
      have hrec := @ih l[i] (Nat.le_trans (Core.size_mem (List.getElem_mem hi)) hl) (Core.goods_mem gs _ (List.getElem_mem hi))
      rw [hot]
      generalize Core.orders (lateK k) x 0 (l.take i) = pre at hJ hol ⊢
      generalize l[i] = y at hix hte hol hrec ⊢
      refine nwp_then (fun f A => ∃ b5, OrdJ B bo bg (acc ++ bs ++ pre) A ∧ f 1 = .ptr bo 0 ∧ f 2 = .ptr bg 0 ∧ f 3 = .ptr b3 0 ∧ f 11 = encSl nl 7 (l.map Core.enc) ∧ f 12 = .int .i64 l.length ∧ f 13 = .int .i64 i ∧ f 4 = .int .i64 i ∧ f 5 = .ptr b5 0 ∧ A b5 = some (.cells y.enc.cells)) ?_ ?_
      · simp only [n_core_Order_1_r4, h11, h13, hix, hte, go_sem, Nat.reduceEqDiff, Nat.reduceAdd, Nat.reduceLeDiff, ↓reduceIte, eq_self]
        intro b5 hb5
        exact Here.mk ⟨b5, hJ.fresh hb5, h1, h2, h3, h11, h12, h13, rfl, rfl, by simp⟩
      rintro f A ⟨b5, hJ, h1, h2, h3, h11, h12, h13, h4, h5, hb5⟩
      refine nwp_cut (fun f A => OrdJ B bo bg (acc ++ bs ++ (pre ++ (if lateK k = true ∧ i = 1 then [x] else []))) A ∧ f 1 = .ptr bo 0 ∧ f 2 = .ptr bg 0 ∧ f 3 = .ptr b3 0 ∧ f 11 = encSl nl 7 (l.map Core.enc) ∧ f 12 = .int .i64 l.length ∧ f 13 = .int .i64 i ∧ f 5 = .ptr b5 0 ∧ A b5 = some (.cells y.enc.cells)) ?_ ?_
      · refine nwp_then (fun f A => OrdJ B bo bg (acc ++ bs ++ pre) A ∧ f 1 = .ptr bo 0 ∧ f 2 = .ptr bg 0 ∧ f 3 = .ptr b3 0 ∧ f 11 = encSl nl 7 (l.map Core.enc) ∧ f 12 = .int .i64 l.length ∧ f 13 = .int .i64 i ∧ f 5 = .ptr b5 0 ∧ A b5 = some (.cells y.enc.cells) ∧ f 29 = .bool (decide (lateK k = true ∧ i = 1))) ?_ ?_
        · have hb := hJ.le.get _ _ hB3
          simp only [n_core_Order_1_r5, h4, go_sem, ↓reduceIte, eq_self]
          refine ifBool_cases (fun hg => ?_) fun hg => ?_
          · simp only [hg, h3, hb, go_sem, Nat.reduceEqDiff, ↓reduceIte, eq_self]
            refine ifBool_cases (fun hg2 => ?_) fun hg2 => ?_
            all_goals
              simp only [hg, hg2, h3, hb, go_sem, Nat.reduceEqDiff, ↓reduceIte, Bool.false_eq_true, eq_self]
              refine Here.mk ⟨hJ, h1, h2, h3, h11, h12, h13, h5, hb5, ?_⟩
              show AV.bool _ = AV.bool _
              have hi1 : i = 1 := by
                have := of_decide_eq_true hg
                omega
              simp_all [lateK]
          · simp only [hg, go_sem, Nat.reduceEqDiff, ↓reduceIte, Bool.false_eq_true, eq_self]
            refine Here.mk ⟨hJ, h1, h2, h3, h11, h12, h13, h5, hb5, ?_⟩
            show AV.bool _ = AV.bool _
            have hi1 : ¬ i = 1 := by
              have := of_decide_eq_false hg
              omega
            simp [hi1]
        rintro f A ⟨hJ, h1, h2, h3, h11, h12, h13, h5, hb5, h29⟩
        refine nwp_test _ h29 (fun hc => ?_) fun hc => ?_
        · refine nwp_last _ ?_ fun f A h => h
          have hcc := of_decide_eq_true hc
          rw [if_pos hcc]
          rw [if_pos hcc] at hol
          simp only [List.length_singleton] at hol
          obtain ⟨v, hv, hout⟩ := hJ.o
          have hb := hJ.le.get _ _ hB3
          simp only [n_core_Order_1_r6, h1, h3, hv, hb, go_sem, Nat.reduceEqDiff, Nat.reduceLeDiff, ↓reduceIte, eq_self]
          intro b7 hb7
          have hJ7 := hJ.fresh (x := .cells [.int .i64 x]) hb7
          have hv7 : (A.set b7 (.cells [.int .i64 x])) bo = some (.cells [v]) := by rw [Heap.set_other _ _ (Heap.ne_of hv hb7).symm]; exact hv
          refine hJ7.push hv7 (src_one _ _ _) (by simp; omega) fun v' A' hbo hc1 ho1 hJ' hfr => ?_
          simp only [hbo, hc1, ho1, go_sem, Nat.reduceLeDiff, eq_self]
          have hne5 : b5 ≠ bo := fun e => by
            subst e
            rw [hv] at hb5
            injection hb5 with hb5
            injection hb5 with hb5
            have := congrArg List.length hb5
            simp [Core.enc_cells] at this
          exact Here.mk ⟨by simpa only [List.append_assoc] using hJ', h1, h2, h3, h11, h12, h13, h5, hfr b5 y hne5 (by rw [Heap.set_other _ _ (Heap.ne_of hb5 hb7).symm]; exact hb5)⟩
        · have hcc := of_decide_eq_false hc
          rw [if_neg hcc, List.append_nil]
          exact ⟨hJ, h1, h2, h3, h11, h12, h13, h5, hb5⟩
      rintro f A ⟨hJ, h1, h2, h3, h11, h12, h13, h5, hb5⟩
      refine nwp_last (fun f A => OrdJ B bo bg (acc ++ bs ++ (pre ++ ((if lateK k = true ∧ i = 1 then [x] else []) ++ y.order))) A ∧ f 1 = .ptr bo 0 ∧ f 2 = .ptr bg 0 ∧ f 3 = .ptr b3 0 ∧ f 11 = encSl nl 7 (l.map Core.enc) ∧ f 12 = .int .i64 l.length ∧ f 13 = .int .i64 i) ?_ ?_
      · simp only [n_core_Order_1_r7, h2, h5, hJ.g, hb5, hte, go_sem, Nat.reduceEqDiff, ↓reduceIte, eq_self]
        refine hrec hJ (by simp only [List.length_append]; omega) fun A' hJ' => ?_
        simp only [go_sem]
        refine Here.mk ⟨?_, h1, h2, h3, h11, h12, h13⟩
        simpa only [List.append_assoc] using hJ'
      · rintro f A ⟨q1, q2, q3, q4, q5, q6, q7⟩
        exact ⟨⟨q1, q2, q3, q4, q5⟩, q7, q6⟩
    · rintro f A ⟨hJ, h1, h2, h3, h11⟩
      rw [List.take_of_length_le (Nat.le_refl _)] at hJ
      simp only [go_sem]
      exact hK _ (by rw [← List.append_assoc]; exact hJ.base hAB)
end Go.NL

set_option linter.unusedVariables false

set_option maxRecDepth 10000
namespace Go.NL
open Go.Proofs
/-- The list of numbers that a call tells, in a block of its own. -/
def OutK (A : Heap) (l : List Int) (K : AV → Heap → Prop) : Prop := ∀ v A', A.le A' → OutI A A' v l → K v A'
set_option maxHeartbeats 1000000 in
theorem Order_body (c : Core) (hg : c.good big = true) (hlen : c.order.length ≤ big) {A0 : Heap} {Q : Post} (hQ : ∀ f A, A0.le A → OutI A0 A (f 2) c.order → Q .ret f A) : nwp Try.prog n_core_Order.body Q (fr0 [c.enc]) A0 := by
  have hte := Core.take_enc c
  have hone := Core.one_enc c
  have hrun := @Order1_spec c.size c (Nat.le_refl _) hg
  simp only [n_core_Order]
  refine nwp_then (fun f A => ∃ b, A0.le A ∧ f 1 = .ptr b 0 ∧ A b = some (.cells c.enc.cells)) ?_ ?_
  · simp only [n_core_Order_r0, go_sem, eq_self]
    intro b hb
    exact Here.mk ⟨b, (Heap.le.refl _).set hb, rfl, by simp⟩
  rintro f A ⟨b, hle, h1, hb⟩
  refine nwp_then (fun f A => ∃ bo, A0.le A ∧ f 1 = .ptr b 0 ∧ A b = some (.cells c.enc.cells) ∧ f 3 = .ptr bo 0 ∧ A bo = some (.cells [.nilslice]) ∧ bo ≠ b ∧ A0 bo = none) ?_ ?_
  · simp only [n_core_Order_r1, go_sem]
    intro bo hbo
    exact Here.mk ⟨bo, hle.set hbo, h1, by rw [Heap.set_other _ _ (Heap.ne_of hb hbo).symm]; exact hb, rfl, by simp, (Heap.ne_of hb hbo), hle.none hbo⟩
  rintro f A ⟨bo, hle, h1, hb, h3, hbo, hne, hbo0⟩
  refine nwp_then (fun f A => ∃ bg, A0.le A ∧ f 1 = .ptr b 0 ∧ A b = some (.cells c.enc.cells) ∧ f 3 = .ptr bo 0 ∧ A bo = some (.cells [.nilslice]) ∧ f 4 = .ptr bg 0 ∧ A bg = some (.cells [.nilfunc]) ∧ bo ≠ bg ∧ b ≠ bg ∧ A0 bg = none) ?_ ?_
  · simp only [n_core_Order_r2, go_sem]
    intro bg hbg
    exact Here.mk ⟨bg, hle.set hbg, h1, by rw [Heap.set_other _ _ (Heap.ne_of hb hbg).symm]; exact hb, h3, by rw [Heap.set_other _ _ (Heap.ne_of hbo hbg).symm]; exact hbo, rfl, by simp, (Heap.ne_of hbo hbg).symm, (Heap.ne_of hb hbg).symm, hle.none hbg⟩
  rintro f A ⟨bg, hle, h1, hb, h3, hbo, h4, hbg, hne1, hne2, hbg0⟩
  refine nwp_then (fun f A => A0.le A ∧ f 1 = .ptr b 0 ∧ A b = some (.cells c.enc.cells) ∧ f 3 = .ptr bo 0 ∧ A bo = some (.cells [.nilslice]) ∧ f 4 = .ptr bg 0 ∧ A bg = some (.cells [.func F_core_Order_1 [] [.ptr bo 0, .ptr bg 0]])) ?_ ?_
  · simp only [n_core_Order_r3, h3, h4, hbg, go_sem, Nat.reduceEqDiff, Nat.reduceLeDiff, ↓reduceIte, eq_self]
    exact Here.mk ⟨hle.set' hbg0, h1, by rw [Heap.set_other _ _ hne2]; exact hb, h3, by rw [Heap.set_other _ _ hne1]; exact hbo, h4, by simp⟩
  rintro f A ⟨hle, h1, hb, h3, hbo, h4, hbg⟩
  refine nwp_then (fun f A => OrdJ A0 bo bg c.order A ∧ f 3 = .ptr bo 0) ?_ ?_
  · simp only [n_core_Order_r4, h1, h4, hb, hbg, hte, go_sem, Nat.reduceEqDiff, ↓reduceIte, eq_self]
    refine hrun (A0 := A0) (acc := []) ⟨hle, hbo0, ⟨_, hbo, .nil _ _⟩, hbg, hne1⟩ (by simpa using hlen) fun A' hJ => ?_
    simp only [go_sem]
    exact Here.mk ⟨hJ, h3⟩
  rintro f A ⟨hJ, h3⟩
  obtain ⟨v, hv, ho⟩ := hJ.o
  refine nwp_then (fun f A => A0.le A ∧ OutI A0 A (f 2) c.order) ?_ ?_
  · simp only [n_core_Order_r5, h3, hv, go_sem, ↓reduceIte, eq_self]
    exact Here.mk ⟨hJ.le, ho⟩
  rintro f A ⟨hle, ho⟩
  exact hQ _ _ hle ho
theorem Order_spec (c : Core) (hg : c.good big = true) (hlen : c.order.length ≤ big) : NPure Try.prog F_core_Order [c.enc] (encSl true 1 (c.order.map encInt)) :=
  NPure.of_body c_core_Order (Nat.le_of_ble_eq_true rfl) fun A0 => Order_body c hg hlen fun f A hle ho => ret_out rfl ho hle
/-- How many variables are bound in a part. -/
def Core.bound (c : Core) : List Int := if c.may then Lib.compact (c.order.mergeSort fun x y => decide (x ≤ y)) else []
end Go.NL

set_option linter.unusedVariables false

set_option maxRecDepth 10000
namespace Go.NL
open Go.Proofs
theorem OutI.len {A0 A : Heap} {v : AV} {l : List Int} (h : OutI A0 A v l) : ∀ B, lenAV B .slice v = some l.length := by
  rcases h with ⟨rfl, rfl⟩ | ⟨b, rfl, _⟩ <;> intro B <;> rfl
end Go.NL

set_option linter.unusedVariables false

set_option maxRecDepth 10000
namespace Go.NL
open Go.Proofs
def up (m : List (Int × Int)) (k : Int) : List (Int × Int) := mput m k (IntKind.i64.wrap ((mget m k).getD 0 + 1))
def dn (m : List (Int × Int)) (k : Int) : List (Int × Int) := mput m k (IntKind.i64.wrap ((mget m k).getD 0 - 1))
def sees (b : List (Int × Int)) (o : List (Int × Bool)) (a : Atom) : List (Int × Bool) := if a.kind = 1 ∧ (mget b a.n).getD 0 = 0 then mput o a.n true else o
mutual
/-- What is used where it is not bound; how often each is bound. -/
def Core.unb : Core → List (Int × Bool) → List (Int × Int) → List (Int × Bool) × List (Int × Int)
  | .mk k x n s na a nt t nl l, o, b =>
    ((Core.unbs (lateK k) x 0 l (a.foldl (sees b) o) ((Core.mk k x n s na a nt t nl l).binds.foldl up b)).1,
      (Core.mk k x n s na a nt t nl l).binds.foldl dn (Core.unbs (lateK k) x 0 l (a.foldl (sees b) o) ((Core.mk k x n s na a nt t nl l).binds.foldl up b)).2)
def Core.unbs (late : Bool) (x : Int) (i : Nat) : List Core → List (Int × Bool) → List (Int × Int) → List (Int × Bool) × List (Int × Int)
  | [], o, b => (o, b)
  | c :: cs, o, b =>
    Core.unbs late x (i + 1) cs (c.unb o (if late = true ∧ i = 1 then up b x else b)).1
      (if late = true ∧ i = 1 then dn (c.unb o (if late = true ∧ i = 1 then up b x else b)).2 x else (c.unb o (if late = true ∧ i = 1 then up b x else b)).2)
end
theorem Core.unbs_snoc (late : Bool) (x : Int) (c : Core) : ∀ (l : List Core) (i : Nat) (o : List (Int × Bool)) (b : List (Int × Int)),
    Core.unbs late x i (l ++ [c]) o b = ((c.unb (Core.unbs late x i l o b).1 (if late = true ∧ i + l.length = 1 then up (Core.unbs late x i l o b).2 x else (Core.unbs late x i l o b).2)).1,
      if late = true ∧ i + l.length = 1 then dn (c.unb (Core.unbs late x i l o b).1 (if late = true ∧ i + l.length = 1 then up (Core.unbs late x i l o b).2 x else (Core.unbs late x i l o b).2)).2 x
        else (c.unb (Core.unbs late x i l o b).1 (if late = true ∧ i + l.length = 1 then up (Core.unbs late x i l o b).2 x else (Core.unbs late x i l o b).2)).2)
  | [], i, o, b => by simp [Core.unbs]
  | d :: l, i, o, b => by
    simp only [List.cons_append, Core.unbs, Core.unbs_snoc late x c l (i + 1), List.length_cons]
    rw [show i + 1 + l.length = i + (l.length + 1) by omega]
theorem Core.unbs_take (late : Bool) (x : Int) (l : List Core) (i : Nat) (h : i < l.length) (o : List (Int × Bool)) (b : List (Int × Int)) {o1 : List (Int × Bool)} {b1 : List (Int × Int)} (he : Core.unbs late x 0 (l.take i) o b = (o1, b1)) :
    Core.unbs late x 0 (l.take (i + 1)) o b = ((l[i].unb o1 (if late = true ∧ i = 1 then up b1 x else b1)).1, if late = true ∧ i = 1 then dn (l[i].unb o1 (if late = true ∧ i = 1 then up b1 x else b1)).2 x else (l[i].unb o1 (if late = true ∧ i = 1 then up b1 x else b1)).2) := by
  rw [List.take_add_one, List.getElem?_eq_getElem h]
  show Core.unbs late x 0 (l.take i ++ [l[i]]) o b = _
  rw [Core.unbs_snoc, he]
  rw [show 0 + (l.take i).length = i by simp; omega]
theorem foldl_take {α β : Type} (g : β → α → β) (z : β) (l : List α) (i : Nat) (h : i < l.length) : (l.take (i + 1)).foldl g z = g ((l.take i).foldl g z) l[i] := by
  rw [List.take_add_one, List.getElem?_eq_getElem h]
  show (l.take i ++ [l[i]]).foldl g z = _
  rw [List.foldl_append]
  rfl
theorem Core.binds_le (c : Core) (hg : c.good big = true) : c.binds.length ≤ big := by
  have hbig : big = 1099511627776 := rfl
  obtain ⟨k, x, n, s, na, a, nt, t, nl, l⟩ := c
  simp only [Core.good, Bool.and_eq_true] at hg
  obtain ⟨⟨⟨⟨g8, ga⟩, gt⟩, gl⟩, gs⟩ := hg
  replace gt := of_decide_eq_true gt
  replace gl := of_decide_eq_true gl
  simp only [Core.binds]
  split
  · simp; omega
  · split
    · simp; omega
    · split
      · simpa using gt
      · simp
/-- Where Unbound's inner function stands: out, bound. -/
structure UnbJ (A0 : Heap) (mb mo : Nat) (o : List (Int × Bool)) (b : List (Int × Int)) (A : Heap) : Prop where
  le : A0.le A
  nb : A0 mb = none
  no : A0 mo = none
  hb : A mb = some (mapB (AV.int .i64) b)
  ho : A mo = some (mapB AV.bool o)
  ne : mb ≠ mo
theorem UnbJ.fresh {A0 : Heap} {mb mo : Nat} {o : List (Int × Bool)} {b : List (Int × Int)} {A : Heap} (h : UnbJ A0 mb mo o b A) {c : Nat} {x : Blk} (hc : A c = none) : UnbJ A0 mb mo o b (A.set c x) :=
  ⟨h.le.set hc, h.nb, h.no, by rw [Heap.set_other _ _ (Heap.ne_of h.hb hc).symm]; exact h.hb, by rw [Heap.set_other _ _ (Heap.ne_of h.ho hc).symm]; exact h.ho, h.ne⟩
theorem UnbJ.setO {A0 : Heap} {mb mo : Nat} {o : List (Int × Bool)} {b : List (Int × Int)} {A : Heap} (h : UnbJ A0 mb mo o b A) (o' : List (Int × Bool)) : UnbJ A0 mb mo o' b (A.set mo (mapB AV.bool o')) :=
  ⟨h.le.set' h.no, h.nb, h.no, by rw [Heap.set_other _ _ h.ne]; exact h.hb, by simp, h.ne⟩
theorem UnbJ.setB {A0 : Heap} {mb mo : Nat} {o : List (Int × Bool)} {b : List (Int × Int)} {A : Heap} (h : UnbJ A0 mb mo o b A) (b' : List (Int × Int)) : UnbJ A0 mb mo o b' (A.set mb (mapB (AV.int .i64) b')) :=
  ⟨h.le.set' h.nb, h.nb, h.no, by simp, by rw [Heap.set_other _ _ h.ne.symm]; exact h.ho, h.ne⟩
theorem UnbJ.rebase {A0 : Heap} {mb mo : Nat} {o : List (Int × Bool)} {b : List (Int × Int)} {A : Heap} (h : UnbJ A0 mb mo o b A) : ∃ B : Heap, UnbJ B mb mo o b A ∧ A0.le B ∧ ∀ c y, A c = some (.cells y) → B c = some (.cells y) := by
  refine ⟨fun c => if c = mb ∨ c = mo then none else A c, ⟨⟨fun c y hc => ?_⟩, by simp, by simp, h.hb, h.ho, h.ne⟩, ⟨fun c y hc => ?_⟩, fun c y hc => ?_⟩
  · split at hc
    · cases hc
    · exact hc
  · have h1 : c ≠ mb := fun e => by subst e; rw [h.nb] at hc; cases hc
    have h2 : c ≠ mo := fun e => by subst e; rw [h.no] at hc; cases hc
    simp [h1, h2, h.le.get c y hc]
  · have h1 : c ≠ mb := fun e => by subst e; rw [h.hb] at hc; cases hc
    have h2 : c ≠ mo := fun e => by subst e; rw [h.ho] at hc; cases hc
    simp [h1, h2, hc]
theorem UnbJ.base {A0 B : Heap} {mb mo : Nat} {o : List (Int × Bool)} {b : List (Int × Int)} {A : Heap} (h : UnbJ B mb mo o b A) (hle : A0.le B) : UnbJ A0 mb mo o b A := ⟨hle.trans h.le, hle.none h.nb, hle.none h.no, h.hb, h.ho, h.ne⟩
def UnbS (bb bo bg b4 : Nat) (f : Fr) : Prop := f 1 = .ptr bb 0 ∧ f 2 = .ptr bo 0 ∧ f 3 = .ptr bg 0 ∧ f 4 = .ptr b4 0
set_option maxHeartbeats 2000000 in
theorem Unbound1_spec : ∀ (N : Nat) (c : Core), c.size ≤ N → c.good big = true → ∀ {A0 A : Heap} {bb mb bo mo bg : Nat} {o : List (Int × Bool)} {b : List (Int × Int)} {K : AV → Heap → Prop}, A0 bb = some (.cells [.map mb]) → A0 bo = some (.cells [.map mo]) →
    A0 bg = some (.cells [.func F_core_Unbound_1 [] [.ptr bb 0, .ptr bo 0, .ptr bg 0]]) → UnbJ A0 mb mo o b A → (∀ A', UnbJ A0 mb mo (c.unb o b).1 (c.unb o b).2 A' → K (.tuple []) A') →
    NCalls Try.prog F_core_Unbound_1 [c.enc, .ptr bb 0, .ptr bo 0, .ptr bg 0] A K := by
  intro N
  induction N with
  | zero => intro c hc; cases c; simp [Core.size] at hc
  | succ N ih =>
    intro c hc hgood A0 A bb mb bo mo bg o b K hbb hbo hbg hJ0 hK
    have hlen := Core.binds_le c hgood
    have hbig : big = 1099511627776 := rfl
    have hbinds := binds_spec c
    obtain ⟨k, x, n, s, na, a, nt, t, nl, l⟩ := c
    have hl : Core.sizes l ≤ N := by simp only [Core.size] at hc; omega
    simp only [Core.good, Bool.and_eq_true] at hgood
    obtain ⟨⟨⟨⟨g8, ga⟩, gt⟩, gl⟩, gs⟩ := hgood
    replace ga := of_decide_eq_true ga
    replace gt := of_decide_eq_true gt
    replace gl := of_decide_eq_true gl
    have g8' : k = 8 → l ≠ [] := by
      intro h hh
      subst hh
      simp [h] at g8
    have hbinds := hbinds g8' gt gl
    rw [Core.unb] at hK
    generalize (Core.mk k x n s na a nt t nl l).binds = bs at hbinds hlen hK
    refine NCalls.walk c_core_Unbound_1 (Nat.le_of_ble_eq_true rfl) ?_
    simp only [Core.enc, encsL] at hbinds ⊢
    simp only [n_core_Unbound_1]
    refine nwp_then (fun f A => ∃ B b4, A0.le B ∧ UnbJ B mb mo o b A ∧ UnbS bb bo bg b4 f ∧ B b4 = some (.cells [.int .i64 k, .int .i64 x, .int .i64 n, .str s, encSl na 3 (a.map Atom.enc), encSl nt 1 (t.map encInt), encSl nl 7 (l.map Core.enc)])) ?_ ?_
    · simp only [n_core_Unbound_1_r0, go_sem, eq_self]
      intro b4 hb4
      obtain ⟨B, hJ, hAB, hB⟩ := (hJ0.fresh (x := .cells [.int .i64 k, .int .i64 x, .int .i64 n, .str s, encSl na 3 (a.map Atom.enc), encSl nt 1 (t.map encInt), encSl nl 7 (l.map Core.enc)]) hb4).rebase
      exact Here.mk ⟨B, b4, hAB, hJ, ⟨rfl, rfl, rfl, rfl⟩, hB b4 _ (Heap.set_same _ _ _)⟩
    rintro f A ⟨B, b4, hAB, hJ, hS, hB4⟩
    have hBb := hAB.get _ _ hbb
    have hBo := hAB.get _ _ hbo
    have hBg := hAB.get _ _ hbg
    -- the atoms
    refine nwp_cut (fun f A => UnbJ B mb mo (a.foldl (sees b) o) b A ∧ UnbS bb bo bg b4 f) ?_ ?_
    · refine nwp_then (fun f A => UnbJ B mb mo o b A ∧ UnbS bb bo bg b4 f ∧ f 16 = encSl na 3 (a.map Atom.enc) ∧ f 17 = .int .i64 a.length ∧ f 18 = .int .i64 0) ?_ ?_
      · obtain ⟨h1, h2, h3, h4⟩ := hS
        simp only [n_core_Unbound_1_r1, h4, hJ.le.get _ _ hB4, lenAV_encSl, List.length_map, go_sem, ↓reduceIte, eq_self]
        exact Here.mk ⟨hJ, ⟨h1, h2, h3, h4⟩, rfl, rfl, rfl⟩
      rintro f A ⟨hJ, hS, h16, h17, h18⟩
      refine nwp_for (ti := 18) (tn := 17) (tt := 19) (tw := 35) (id := 0) (id2 := 1) a.length (by omega) (fun i f A => UnbJ B mb mo ((a.take i).foldl (sees b) o) b A ∧ UnbS bb bo bg b4 f ∧ f 16 = encSl na 3 (a.map Atom.enc)) (by decide) ?_ h18 h17 ⟨hJ, hS, h16⟩ ?_ ?_
      · rintro i f A d v hd ⟨q1, q2, q3⟩
        rcases hd with rfl | rfl | rfl
        all_goals exact ⟨q1, q2, q3⟩
      · rintro i f A hi ⟨hJ, hS, h16⟩ h18 h17
        have hix := indexAddr_encSl na 3 (a.map Atom.enc) i a[i].enc (by rw [List.getElem?_map, List.getElem?_eq_getElem hi]; rfl)
        rw [foldl_take _ _ _ _ hi]
        generalize (a.take i).foldl (sees b) o = o1 at hJ ⊢
        generalize a[i] = y at hix ⊢
        obtain ⟨yk, yn, ys⟩ := y
        simp only [Atom.enc, AV.cells] at hix
        obtain ⟨h1, h2, h3, h4⟩ := hS
        refine nwp_then (fun f A => ∃ b6, UnbJ B mb mo o1 b A ∧ UnbS bb bo bg b4 f ∧ f 16 = encSl na 3 (a.map Atom.enc) ∧ f 17 = .int .i64 a.length ∧ f 18 = .int .i64 i ∧ f 6 = .ptr b6 0 ∧ A b6 = some (.cells [.int .i64 yk, .int .i64 yn, .str ys])) ?_ ?_
        · simp only [n_core_Unbound_1_r3, h16, h18, hix, go_sem, Nat.reduceEqDiff, Nat.reduceAdd, Nat.reduceLeDiff, ↓reduceIte, eq_self]
          intro b6 hb6
          exact Here.mk ⟨b6, hJ.fresh hb6, ⟨h1, h2, h3, h4⟩, h16, h17, h18, rfl, by simp⟩
        clear h1 h2 h3 h4 h16 h17 h18 hJ
        rintro f A ⟨b6, hJ, hS, h16, h17, h18, h6, hb6⟩
        refine nwp_then (fun f A => UnbJ B mb mo o1 b A ∧ UnbS bb bo bg b4 f ∧ f 16 = encSl na 3 (a.map Atom.enc) ∧ f 17 = .int .i64 a.length ∧ f 18 = .int .i64 i ∧ f 6 = .ptr b6 0 ∧ A b6 = some (.cells [.int .i64 yk, .int .i64 yn, .str ys]) ∧ f 31 = .bool (decide (yk = 1 ∧ (mget b yn).getD 0 = 0))) ?_ ?_
        · obtain ⟨h1, h2, h3, h4⟩ := hS
          have hbbA := hJ.le.get _ _ hBb
          have hbA := hJ.hb
          simp only [n_core_Unbound_1_r4, h6, hb6, go_sem, ↓reduceIte, eq_self]
          refine ifBool_cases (fun hg => ?_) fun hg => ?_
          all_goals
            simp only [hg, h1, h6, hb6, hbbA, hbA, go_sem, Nat.reduceEqDiff, ↓reduceIte, Bool.false_eq_true, eq_self]
            refine Here.mk ⟨hJ, ⟨h1, h2, h3, h4⟩, h16, h17, h18, h6, hb6, ?_⟩
            show AV.bool _ = AV.bool _
            simp_all
        rintro f A ⟨hJ, hS, h16, h17, h18, h6, hb6, h31⟩
        refine nwp_test _ h31 (fun hc => ?_) fun hc => ?_
        · have hcc := of_decide_eq_true hc
          refine nwp_last (fun f A => UnbJ B mb mo (sees b o1 ⟨yk, yn, ys⟩) b A ∧ UnbS bb bo bg b4 f ∧ f 16 = encSl na 3 (a.map Atom.enc) ∧ f 17 = .int .i64 a.length ∧ f 18 = .int .i64 i) ?_ fun f A ⟨q1, q2, q3, q4, q5⟩ => ⟨⟨q1, q2, q3⟩, q5, q4⟩
          obtain ⟨h1, h2, h3, h4⟩ := hS
          have hboA := hJ.le.get _ _ hBo
          have hoA := hJ.ho
          simp only [n_core_Unbound_1_r5, h2, h6, hb6, hboA, hoA, go_sem, Nat.reduceEqDiff, ↓reduceIte, eq_self]
          have he : sees b o1 ⟨yk, yn, ys⟩ = mput o1 yn true := if_pos hcc
          rw [he]
          exact Here.mk ⟨hJ.setO _, ⟨h1, h2, h3, h4⟩, h16, h17, h18⟩
        · have hcc := of_decide_eq_false hc
          have he : sees b o1 ⟨yk, yn, ys⟩ = o1 := if_neg hcc
          rw [he]
          exact ⟨⟨hJ, hS, h16⟩, h18, h17⟩
      · rintro f A ⟨q1, q2, q3⟩
        rw [List.take_of_length_le (Nat.le_refl _)] at q1
        exact ⟨q1, q2⟩
    generalize a.foldl (sees b) o = o0 at hK
    clear hJ hS
    rintro f A ⟨hJ, hS⟩
    -- what is bound
    have hlb : (bs.map encInt).length = bs.length := List.length_map _
    refine nwp_then (fun f A => UnbJ B mb mo o0 b A ∧ UnbS bb bo bg b4 f ∧ f 7 = encSl true 1 (bs.map encInt)) ?_ ?_
    · obtain ⟨h1, h2, h3, h4⟩ := hS
      simp only [n_core_Unbound_1_r8, h4, hJ.le.get _ _ hB4, go_sem, Nat.reduceAdd, Nat.reduceLeDiff, ↓reduceIte, eq_self]
      refine hbinds.call ?_
      try simp only [go_sem, Nat.reduceEqDiff, Nat.reduceAdd, Nat.reduceSub, Nat.reduceLeDiff, Nat.reduceLT, Nat.reduceMul, Int.reduceEq, Int.reduceLT, Int.reduceLE, Int.reduceNeg, Int.reduceToNat, Int.reduceAdd, Int.reduceSub, Int.cast_ofNat_Int, Int.cast_ofNat_Int, reduceCtorEq, ↓reduceIte, Bool.false_eq_true, decide_true, decide_false, eq_self, Bool.not_true, Bool.not_false]
      exact Here.mk ⟨hJ, ⟨h1, h2, h3, h4⟩, rfl⟩
    clear hJ hS
    rintro f A ⟨hJ, hS, h7⟩
    refine nwp_cut (fun f A => UnbJ B mb mo o0 (bs.foldl up b) A ∧ UnbS bb bo bg b4 f ∧ f 7 = encSl true 1 (bs.map encInt)) ?_ ?_
    · refine nwp_then (fun f A => UnbJ B mb mo o0 b A ∧ UnbS bb bo bg b4 f ∧ f 7 = encSl true 1 (bs.map encInt) ∧ f 38 = encSl true 1 (bs.map encInt) ∧ f 39 = .int .i64 bs.length ∧ f 40 = .int .i64 0) ?_ ?_
      · obtain ⟨h1, h2, h3, h4⟩ := hS
        simp only [n_core_Unbound_1_r9, h7, lenAV_encSl, hlb, go_sem, ↓reduceIte, eq_self]
        exact Here.mk ⟨hJ, ⟨h1, h2, h3, h4⟩, h7, rfl, rfl, rfl⟩
      clear hJ hS h7
      rintro f A ⟨hJ, hS, h7, h38, h39, h40⟩
      refine nwp_for (ti := 40) (tn := 39) (tt := 41) (tw := 48) (id := 2) (id2 := 3) bs.length (by omega) (fun i f A => UnbJ B mb mo o0 ((bs.take i).foldl up b) A ∧ UnbS bb bo bg b4 f ∧ f 7 = encSl true 1 (bs.map encInt) ∧ f 38 = encSl true 1 (bs.map encInt)) (by decide) ?_ h40 h39 ⟨hJ, hS, h7, h38⟩ ?_ ?_
      · rintro i f A d v hd ⟨q1, q2, q3, q4⟩
        rcases hd with rfl | rfl | rfl
        all_goals exact ⟨q1, q2, q3, q4⟩
      · rintro i f A hi ⟨hJ, hS, h7, h38⟩ h40 h39
        have hix := indexAddr_encSl true 1 (bs.map encInt) i (encInt bs[i]) (by rw [List.getElem?_map, List.getElem?_eq_getElem hi]; rfl)
        rw [foldl_take _ _ _ _ hi]
        generalize (bs.take i).foldl up b = b1 at hJ ⊢
        generalize bs[i] = y at hix ⊢
        simp only [encInt, AV.cells] at hix
        refine nwp_then (fun f A => UnbJ B mb mo o0 b1 A ∧ UnbS bb bo bg b4 f ∧ f 7 = encSl true 1 (bs.map encInt) ∧ f 38 = encSl true 1 (bs.map encInt) ∧ f 39 = .int .i64 bs.length ∧ f 40 = .int .i64 i ∧ f 9 = .int .i64 y) ?_ ?_
        · obtain ⟨h1, h2, h3, h4⟩ := hS
          simp only [n_core_Unbound_1_r11, h38, h40, hix, go_sem, ↓reduceIte, eq_self]
          exact Here.mk ⟨hJ, ⟨h1, h2, h3, h4⟩, h7, h38, h39, h40, rfl⟩
        clear hJ hS h7 h38 h39 h40
        rintro f A ⟨hJ, hS, h7, h38, h39, h40, h9⟩
        refine nwp_last (fun f A => UnbJ B mb mo o0 (up b1 y) A ∧ UnbS bb bo bg b4 f ∧ f 7 = encSl true 1 (bs.map encInt) ∧ f 38 = encSl true 1 (bs.map encInt) ∧ f 39 = .int .i64 bs.length ∧ f 40 = .int .i64 i) ?_ fun f A ⟨q1, q2, q3, q4, q5, q6⟩ => ⟨⟨q1, q2, q3, q4⟩, q6, q5⟩
        obtain ⟨h1, h2, h3, h4⟩ := hS
        have hbbA := hJ.le.get _ _ hBb
        have hbA := hJ.hb
        simp only [n_core_Unbound_1_r12, h1, h9, hbbA, hbA, go_sem, Nat.reduceEqDiff, ↓reduceIte, eq_self]
        exact Here.mk ⟨hJ.setB _, ⟨h1, h2, h3, h4⟩, h7, h38, h39, h40⟩
      · rintro f A ⟨q1, q2, q3, q4⟩
        rw [List.take_of_length_le (Nat.le_refl _)] at q1
        exact ⟨q1, q2, q3⟩
    clear hJ hS h7
    generalize bs.foldl up b = b0 at hK
    rintro f A ⟨hJ, hS, h7⟩
    -- the parts
    refine nwp_cut (fun f A => UnbJ B mb mo (Core.unbs (lateK k) x 0 l o0 b0).1 (Core.unbs (lateK k) x 0 l o0 b0).2 A ∧ UnbS bb bo bg b4 f ∧ f 7 = encSl true 1 (bs.map encInt)) ?_ ?_
    · refine nwp_then (fun f A => UnbJ B mb mo o0 b0 A ∧ UnbS bb bo bg b4 f ∧ f 7 = encSl true 1 (bs.map encInt) ∧ f 50 = encSl nl 7 (l.map Core.enc) ∧ f 51 = .int .i64 l.length ∧ f 52 = .int .i64 0) ?_ ?_
      · obtain ⟨h1, h2, h3, h4⟩ := hS
        simp only [n_core_Unbound_1_r15, h4, hJ.le.get _ _ hB4, lenAV_encSl, List.length_map, go_sem, ↓reduceIte, eq_self]
        exact Here.mk ⟨hJ, ⟨h1, h2, h3, h4⟩, h7, rfl, rfl, rfl⟩
      clear hJ hS h7
      rintro f A ⟨hJ, hS, h7, h50, h51, h52⟩
      refine nwp_for (ti := 52) (tn := 51) (tt := 53) (tw := 84) (id := 4) (id2 := 5) l.length (by omega) (fun i f A => UnbJ B mb mo (Core.unbs (lateK k) x 0 (l.take i) o0 b0).1 (Core.unbs (lateK k) x 0 (l.take i) o0 b0).2 A ∧ UnbS bb bo bg b4 f ∧ f 7 = encSl true 1 (bs.map encInt) ∧ f 50 = encSl nl 7 (l.map Core.enc)) (by decide) ?_ h52 h51 ⟨by simpa [Core.unbs] using hJ, hS, h7, h50⟩ ?_ ?_
      · rintro i f A d v hd ⟨q1, q2, q3, q4⟩
        rcases hd with rfl | rfl | rfl
        all_goals exact ⟨q1, q2, q3, q4⟩
      · rintro i f A hi ⟨hJ, hS, h7, h50⟩ h52 h51
        have hix := indexAddr_encSl nl 7 (l.map Core.enc) i l[i].enc (by rw [List.getElem?_map, List.getElem?_eq_getElem hi]; rfl)
        have hte := Core.take_enc l[i]
        have htk := fun o1 b1 => @Core.unbs_take (lateK k) x l i hi o0 b0 o1 b1
        have hrec := @ih l[i] (Nat.le_trans (Core.size_mem (List.getElem_mem hi)) hl) (Core.goods_mem gs _ (List.getElem_mem hi))
        generalize Core.unbs (lateK k) x 0 (l.take i) o0 b0 = ob at hJ htk
        obtain ⟨o1, b1⟩ := ob
        rw [htk o1 b1 rfl]
        simp only at hJ ⊢
        clear htk
        generalize l[i] = y at hix hte hrec ⊢
        generalize hd : decide (lateK k = true ∧ i = 1) = d
        have hdd : ∀ (u v : List (Int × Int)), (if lateK k = true ∧ i = 1 then u else v) = if d = true then u else v := by
          intro u v
          subst hd
          simp
        simp only [hdd]
        refine nwp_then (fun f A => ∃ b11, UnbJ B mb mo o1 b1 A ∧ UnbS bb bo bg b4 f ∧ f 7 = encSl true 1 (bs.map encInt) ∧ f 50 = encSl nl 7 (l.map Core.enc) ∧ f 51 = .int .i64 l.length ∧ f 52 = .int .i64 i ∧ f 10 = .int .i64 i ∧ f 11 = .ptr b11 0 ∧ A b11 = some (.cells y.enc.cells)) ?_ ?_
        · obtain ⟨h1, h2, h3, h4⟩ := hS
          simp only [n_core_Unbound_1_r17, h50, h52, hix, hte, go_sem, Nat.reduceEqDiff, Nat.reduceAdd, Nat.reduceLeDiff, ↓reduceIte, eq_self]
          intro b11 hb11
          exact Here.mk ⟨b11, hJ.fresh hb11, ⟨h1, h2, h3, h4⟩, h7, h50, h51, h52, rfl, rfl, by simp⟩
        clear hJ hS h7 h50 h51 h52
        rintro f A ⟨b11, hJ, hS, h7, h50, h51, h52, h10, h11, hb11⟩
        refine nwp_then (fun f A => UnbJ B mb mo o1 b1 A ∧ UnbS bb bo bg b4 f ∧ f 7 = encSl true 1 (bs.map encInt) ∧ f 50 = encSl nl 7 (l.map Core.enc) ∧ f 51 = .int .i64 l.length ∧ f 52 = .int .i64 i ∧ f 11 = .ptr b11 0 ∧ A b11 = some (.cells y.enc.cells) ∧ f 12 = .bool d) ?_ ?_
        · obtain ⟨h1, h2, h3, h4⟩ := hS
          have hb4 := hJ.le.get _ _ hB4
          simp only [n_core_Unbound_1_r18, h10, go_sem, ↓reduceIte, eq_self]
          refine ifBool_cases (fun hg => ?_) fun hg => ?_
          · simp only [hg, h4, hb4, go_sem, Nat.reduceEqDiff, ↓reduceIte, eq_self]
            refine ifBool_cases (fun hg2 => ?_) fun hg2 => ?_
            all_goals
              simp only [hg, hg2, h4, hb4, go_sem, Nat.reduceEqDiff, ↓reduceIte, Bool.false_eq_true, eq_self]
              refine Here.mk ⟨hJ, ⟨h1, h2, h3, h4⟩, h7, h50, h51, h52, h11, hb11, ?_⟩
              show AV.bool _ = AV.bool _
              have hi1 : i = 1 := by
                have := of_decide_eq_true hg
                omega
              rw [← hd]
              simp_all [lateK]
          · simp only [hg, go_sem, Nat.reduceEqDiff, ↓reduceIte, Bool.false_eq_true, eq_self]
            refine Here.mk ⟨hJ, ⟨h1, h2, h3, h4⟩, h7, h50, h51, h52, h11, hb11, ?_⟩
            show AV.bool _ = AV.bool _
            have hi1 : ¬ i = 1 := by
              have := of_decide_eq_false hg
              omega
            rw [← hd]
            simp [hi1]
        clear hJ hS h7 h50 h51 h52 h10 h11 hb11
        rintro f A ⟨hJ, hS, h7, h50, h51, h52, h11, hb11, h12⟩
        refine nwp_cut (fun f A => UnbJ B mb mo o1 (if d = true then up b1 x else b1) A ∧ UnbS bb bo bg b4 f ∧ f 7 = encSl true 1 (bs.map encInt) ∧ f 50 = encSl nl 7 (l.map Core.enc) ∧ f 51 = .int .i64 l.length ∧ f 52 = .int .i64 i ∧ f 11 = .ptr b11 0 ∧ A b11 = some (.cells y.enc.cells) ∧ f 12 = .bool d) ?_ ?_
        · refine nwp_then (fun f A => UnbJ B mb mo o1 b1 A ∧ UnbS bb bo bg b4 f ∧ f 7 = encSl true 1 (bs.map encInt) ∧ f 50 = encSl nl 7 (l.map Core.enc) ∧ f 51 = .int .i64 l.length ∧ f 52 = .int .i64 i ∧ f 11 = .ptr b11 0 ∧ A b11 = some (.cells y.enc.cells) ∧ f 12 = .bool d ∧ f 69 = .bool d) ?_ ?_
          · obtain ⟨h1, h2, h3, h4⟩ := hS
            simp only [n_core_Unbound_1_r19, h12, go_sem]
            exact Here.mk ⟨hJ, ⟨h1, h2, h3, h4⟩, h7, h50, h51, h52, h11, hb11, h12, rfl⟩
          clear hJ hS h7 h50 h51 h52 h11 hb11 h12
          rintro f A ⟨hJ, hS, h7, h50, h51, h52, h11, hb11, h12, h69⟩
          refine nwp_test _ h69 (fun hc => ?_) fun hc => ?_
          · refine nwp_last _ ?_ fun f A h => h
            obtain ⟨h1, h2, h3, h4⟩ := hS
            have hbbA := hJ.le.get _ _ hBb
            have hbA := hJ.hb
            have hb4 := hJ.le.get _ _ hB4
            simp only [n_core_Unbound_1_r20, h1, h4, hb4, hbbA, hbA, go_sem, Nat.reduceEqDiff, ↓reduceIte, eq_self]
            rw [if_pos hc]
            refine Here.mk ⟨hJ.setB _, ⟨h1, h2, h3, h4⟩, h7, h50, h51, h52, h11, ?_, h12⟩
            rw [Heap.set_other _ _ (fun e => by subst e; rw [hbA] at hb11; cases hb11)]
            exact hb11
          · rw [if_neg (by simp [hc])]
            exact ⟨hJ, hS, h7, h50, h51, h52, h11, hb11, h12⟩
        generalize (if d = true then up b1 x else b1) = b2
        clear hJ hS h7 h50 h51 h52 h11 hb11 h12
        rintro f A ⟨hJ, hS, h7, h50, h51, h52, h11, hb11, h12⟩
        refine nwp_then (fun f A => UnbJ B mb mo (y.unb o1 b2).1 (y.unb o1 b2).2 A ∧ UnbS bb bo bg b4 f ∧ f 7 = encSl true 1 (bs.map encInt) ∧ f 50 = encSl nl 7 (l.map Core.enc) ∧ f 51 = .int .i64 l.length ∧ f 52 = .int .i64 i ∧ f 12 = .bool d) ?_ ?_
        · obtain ⟨h1, h2, h3, h4⟩ := hS
          have hbgA := hJ.le.get _ _ hBg
          simp only [n_core_Unbound_1_r21, h3, h11, hbgA, hb11, hte, go_sem, Nat.reduceEqDiff, ↓reduceIte, eq_self]
          refine hrec hBb hBo hBg hJ fun A' hJ' => ?_
          try simp only [go_sem]
          exact Here.mk ⟨hJ', ⟨h1, h2, h3, h4⟩, h7, h50, h51, h52, h12⟩
        generalize y.unb o1 b2 = ob
        obtain ⟨o3, b3⟩ := ob
        simp only
        clear hJ hS h7 h50 h51 h52 h11 hb11 h12 hrec
        rintro f A ⟨hJ, hS, h7, h50, h51, h52, h12⟩
        refine nwp_then (fun f A => UnbJ B mb mo o3 b3 A ∧ UnbS bb bo bg b4 f ∧ f 7 = encSl true 1 (bs.map encInt) ∧ f 50 = encSl nl 7 (l.map Core.enc) ∧ f 51 = .int .i64 l.length ∧ f 52 = .int .i64 i ∧ f 78 = .bool d) ?_ ?_
        · obtain ⟨h1, h2, h3, h4⟩ := hS
          simp only [n_core_Unbound_1_r22, h12, go_sem]
          exact Here.mk ⟨hJ, ⟨h1, h2, h3, h4⟩, h7, h50, h51, h52, rfl⟩
        clear hJ hS h7 h50 h51 h52 h12
        rintro f A ⟨hJ, hS, h7, h50, h51, h52, h78⟩
        refine nwp_test _ h78 (fun hc => ?_) fun hc => ?_
        · refine nwp_last (fun f A => UnbJ B mb mo o3 (dn b3 x) A ∧ UnbS bb bo bg b4 f ∧ f 7 = encSl true 1 (bs.map encInt) ∧ f 50 = encSl nl 7 (l.map Core.enc) ∧ f 51 = .int .i64 l.length ∧ f 52 = .int .i64 i) ?_ ?_
          · obtain ⟨h1, h2, h3, h4⟩ := hS
            have hbbA := hJ.le.get _ _ hBb
            have hbA := hJ.hb
            have hb4 := hJ.le.get _ _ hB4
            simp only [n_core_Unbound_1_r23, h1, h4, hb4, hbbA, hbA, go_sem, Nat.reduceEqDiff, ↓reduceIte, eq_self]
            exact Here.mk ⟨hJ.setB _, ⟨h1, h2, h3, h4⟩, h7, h50, h51, h52⟩
          · rintro f A ⟨q1, q2, q3, q4, q5, q6⟩
            rw [if_pos hc]
            exact ⟨⟨q1, q2, q3, q4⟩, q6, q5⟩
        · rw [if_neg (by simp [hc])]
          exact ⟨⟨hJ, hS, h7, h50⟩, h52, h51⟩
      · rintro f A ⟨q1, q2, q3, q4⟩
        rw [List.take_of_length_le (Nat.le_refl _)] at q1
        exact ⟨q1, q2, q3⟩
    clear hJ hS h7
    generalize (Core.unbs (lateK k) x 0 l o0 b0) = ob at hK
    obtain ⟨o2, b2⟩ := ob
    rintro f A ⟨hJ, hS, h7⟩
    simp only at hK hJ
    refine nwp_then (fun f A => UnbJ B mb mo o2 b2 A ∧ UnbS bb bo bg b4 f ∧ f 85 = encSl true 1 (bs.map encInt) ∧ f 86 = .int .i64 bs.length ∧ f 87 = .int .i64 0) ?_ ?_
    · obtain ⟨h1, h2, h3, h4⟩ := hS
      simp only [n_core_Unbound_1_r26, h7, lenAV_encSl, hlb, go_sem, ↓reduceIte, eq_self]
      exact Here.mk ⟨hJ, ⟨h1, h2, h3, h4⟩, rfl, rfl, rfl⟩
    clear hJ hS h7
    rintro f A ⟨hJ, hS, h38, h39, h40⟩
    refine nwp_for (ti := 87) (tn := 86) (tt := 88) (tw := 95) (id := 6) (id2 := 7) bs.length (by omega) (fun i f A => UnbJ B mb mo o2 ((bs.take i).foldl dn b2) A ∧ UnbS bb bo bg b4 f ∧ f 85 = encSl true 1 (bs.map encInt)) (by decide) ?_ h40 h39 ⟨hJ, hS, h38⟩ ?_ ?_
    · rintro i f A d v hd ⟨q1, q2, q3⟩
      rcases hd with rfl | rfl | rfl
      all_goals exact ⟨q1, q2, q3⟩
    · rintro i f A hi ⟨hJ, hS, h38⟩ h40 h39
      have hix := indexAddr_encSl true 1 (bs.map encInt) i (encInt bs[i]) (by rw [List.getElem?_map, List.getElem?_eq_getElem hi]; rfl)
      rw [foldl_take _ _ _ _ hi]
      generalize (bs.take i).foldl dn b2 = b1 at hJ ⊢
      generalize bs[i] = y at hix ⊢
      simp only [encInt, AV.cells] at hix
      refine nwp_then (fun f A => UnbJ B mb mo o2 b1 A ∧ UnbS bb bo bg b4 f ∧ f 85 = encSl true 1 (bs.map encInt) ∧ f 86 = .int .i64 bs.length ∧ f 87 = .int .i64 i ∧ f 14 = .int .i64 y) ?_ ?_
      · obtain ⟨h1, h2, h3, h4⟩ := hS
        simp only [n_core_Unbound_1_r28, h38, h40, hix, go_sem, ↓reduceIte, eq_self]
        exact Here.mk ⟨hJ, ⟨h1, h2, h3, h4⟩, h38, h39, h40, rfl⟩
      clear hJ hS h38 h39 h40
      rintro f A ⟨hJ, hS, h38, h39, h40, h9⟩
      refine nwp_last (fun f A => UnbJ B mb mo o2 (dn b1 y) A ∧ UnbS bb bo bg b4 f ∧ f 85 = encSl true 1 (bs.map encInt) ∧ f 86 = .int .i64 bs.length ∧ f 87 = .int .i64 i) ?_ fun f A ⟨q1, q2, q3, q4, q5⟩ => ⟨⟨q1, q2, q3⟩, q5, q4⟩
      obtain ⟨h1, h2, h3, h4⟩ := hS
      have hbbA := hJ.le.get _ _ hBb
      have hbA := hJ.hb
      simp only [n_core_Unbound_1_r29, h1, h9, hbbA, hbA, go_sem, Nat.reduceEqDiff, ↓reduceIte, eq_self]
      exact Here.mk ⟨hJ.setB _, ⟨h1, h2, h3, h4⟩, h38, h39, h40⟩
    · rintro f A ⟨q1, q2, q3⟩
      rw [List.take_of_length_le (Nat.le_refl _)] at q1
      simp only [go_sem]
      exact hK _ (q1.base hAB)
end Go.NL

set_option linter.unusedVariables false

set_option maxRecDepth 10000
namespace Go.NL
open Go.Proofs
/-- Variables, none twice, no more than so many. -/
structure KeysOk (n : Nat) (o : List (Int × Bool)) : Prop where
  nd : (o.map (·.1)).Nodup
  rg : ∀ x ∈ o.map (·.1), 0 ≤ x ∧ x ≤ 1048575
  ln : o.length ≤ n
theorem mput_keys {V : Type} (k : Int) (v : V) : ∀ m : List (Int × V), (∀ x, x ∈ (mput m k v).map (·.1) → x = k ∨ x ∈ m.map (·.1)) ∧ ((m.map (·.1)).Nodup → ((mput m k v).map (·.1)).Nodup) ∧ (mput m k v).length ≤ m.length + 1
  | [] => by simp [mput]
  | (k', v') :: m => by
    obtain ⟨h1, h2, h3⟩ := mput_keys k v m
    simp only [mput]
    split
    · rename_i h
      subst h
      refine ⟨fun x hx => .inr ?_, fun h => h, by simp⟩
      exact hx
    · rename_i h
      refine ⟨fun x hx => ?_, fun hn => ?_, by simp only [List.length_cons]; omega⟩
      · simp only [List.map_cons, List.mem_cons] at hx ⊢
        rcases hx with hx | hx
        · exact .inr (.inl hx)
        · rcases h1 x hx with h | h
          · exact .inl h
          · exact .inr (.inr h)
      · simp only [List.map_cons, List.nodup_cons] at hn ⊢
        refine ⟨fun hk => ?_, h2 hn.2⟩
        rcases h1 _ hk with h' | h'
        · exact h h'
        · exact hn.1 h'
theorem KeysOk.put {n : Nat} {o : List (Int × Bool)} (h : KeysOk n o) {k : Int} (h0 : 0 ≤ k) (h1 : k ≤ 1048575) (v : Bool) : KeysOk (n + 1) (mput o k v) := by
  obtain ⟨q1, q2, q3⟩ := mput_keys k v o
  refine ⟨q2 h.nd, fun x hx => ?_, by have := h.ln; omega⟩
  rcases q1 x hx with rfl | hx
  · exact ⟨h0, h1⟩
  · exact h.rg x hx
theorem KeysOk.le {n m : Nat} {o : List (Int × Bool)} (h : KeysOk n o) (hnm : n ≤ m) : KeysOk m o := ⟨h.nd, h.rg, Nat.le_trans h.ln hnm⟩
theorem KeysOk.nil (n : Nat) : KeysOk n [] := ⟨.nil, by simp, by simp⟩
mutual
/-- How many atoms. -/
def Core.atoms : Core → Nat
  | .mk _ _ _ _ _ a _ _ _ l => a.length + Core.atomss l
def Core.atomss : List Core → Nat
  | [] => 0
  | c :: cs => c.atoms + Core.atomss cs
end
mutual
/-- Are variables variables? -/
def Core.vars : Core → Bool
  | .mk _ _ _ _ _ a _ _ _ l => a.all (fun a => !decide (a.kind = 1) || isVar a.n) && Core.varss l
def Core.varss : List Core → Bool
  | [] => true
  | c :: cs => c.vars && Core.varss cs
end
theorem sees_ok (b : List (Int × Int)) : ∀ (a : List Atom) (n : Nat) (o : List (Int × Bool)), KeysOk n o → a.all (fun a => !decide (a.kind = 1) || isVar a.n) = true → KeysOk (n + a.length) (a.foldl (sees b) o)
  | [], n, o, h, _ => h
  | x :: a, n, o, h, ha => by
    simp only [List.all_cons, Bool.and_eq_true] at ha
    have := sees_ok b a (n + 1) (sees b o x) (by
      unfold sees
      split
      · rename_i hx
        have h1 := ha.1
        simp only [hx.1, decide_true, Bool.not_true, Bool.false_or, isVar, Bool.and_eq_true, decide_eq_true_eq] at h1
        exact h.put h1.1 h1.2 true
      · exact h.le (Nat.le_succ _)) ha.2
    simp only [List.foldl_cons, List.length_cons]
    exact this.le (by omega)
mutual
theorem Core.unb_ok : ∀ (c : Core) (n : Nat) (o : List (Int × Bool)) (b : List (Int × Int)), KeysOk n o → c.vars = true → KeysOk (n + c.atoms) (c.unb o b).1
  | .mk k x m s na a nt t nl l, n, o, b, h, hv => by
    simp only [Core.vars, Bool.and_eq_true] at hv
    rw [Core.unb]
    simp only [Core.atoms]
    exact (Core.unbs_ok l (lateK k) x 0 _ _ _ (sees_ok b a n o h hv.1) hv.2).le (by omega)
theorem Core.unbs_ok : ∀ (l : List Core) (late : Bool) (x : Int) (i : Nat) (n : Nat) (o : List (Int × Bool)) (b : List (Int × Int)), KeysOk n o → Core.varss l = true → KeysOk (n + Core.atomss l) (Core.unbs late x i l o b).1
  | [], late, x, i, n, o, b, h, _ => by simpa [Core.unbs, Core.atomss] using h
  | c :: cs, late, x, i, n, o, b, h, hv => by
    simp only [Core.varss, Bool.and_eq_true] at hv
    simp only [Core.unbs, Core.atomss]
    exact (Core.unbs_ok cs late x (i + 1) _ _ _ (Core.unb_ok c n o _ h hv.1) hv.2).le (by omega)
end
/-- The variables that a part uses where they are not bound, rising. -/
def Core.free (c : Core) : List Int := ((c.unb [] []).1.map (·.1)).mergeSort fun x y => decide (x ≤ y)
theorem Heap.keep {A : Heap} {b c : Nat} {x y : Blk} (hc : A c = some y) (hb : A b = none) : (A.set b x) c = some y := by
  rw [Heap.set_other _ _ (Heap.ne_of hc hb).symm]
  exact hc
theorem Keys_run {A : Heap} {mb : Nat} {K : AV → Heap → Prop} (hK : ∀ b, A b = none → K (.func 64 [] [.ptr b 0]) (A.set b (.cells [.map mb]))) : NCalls Try.prog F_maps_Keys_map_intbool_int_bool [.map mb] A K := by
  refine NCalls.walk c_maps_Keys_map_intbool_int_bool (Nat.le_of_ble_eq_true rfl) ?_
  simp only [n_maps_Keys_map_intbool_int_bool, go_sem, Nat.reduceEqDiff, ↓reduceIte, eq_self]
  intro b hb
  exact hK b hb
set_option maxHeartbeats 1000000 in
theorem Unbound_body (c : Core) (hg : c.good big = true) (hv : c.vars = true) (hlen : c.atoms ≤ big) {A0 : Heap} {Q : Post} (hQ : ∀ f A, A0.le A → OutI A0 A (f 2) c.free → Q .ret f A) : nwp Try.prog n_core_Unbound.body Q (fr0 [c.enc]) A0 := by
  have hbig : big = 1099511627776 := rfl
  have hte := Core.take_enc c
  have hone := Core.one_enc c
  have hrun := @Unbound1_spec c.size c (Nat.le_refl _) hg
  have hok := Core.unb_ok c 0 [] [] (.nil _) hv
  simp only [n_core_Unbound]
  refine nwp_then (fun f A => ∃ b, A0.le A ∧ f 1 = .ptr b 0 ∧ A b = some (.cells c.enc.cells)) ?_ ?_
  · simp only [n_core_Unbound_r0, go_sem, eq_self]
    intro b hb
    exact Here.mk ⟨b, (Heap.le.refl _).set hb, rfl, by simp⟩
  rintro f A ⟨b, hle, h1, hb⟩
  refine nwp_then (fun f A => ∃ bo mo, A0.le A ∧ f 1 = .ptr b 0 ∧ A b = some (.cells c.enc.cells) ∧ f 3 = .ptr bo 0 ∧ A bo = some (.cells [.map mo]) ∧ A mo = some (mapB AV.bool []) ∧ A0 mo = none) ?_ ?_
  · simp only [n_core_Unbound_r1, go_sem, Nat.reduceEqDiff, Nat.reduceLeDiff, ↓reduceIte, eq_self]
    rintro mo hmo bo ⟨ne, _, hbo⟩
    have hbo' : (A.set mo (.map [] 0)) bo = none := by rw [Heap.set_other _ _ ne]; exact hbo
    exact Here.mk ⟨bo, mo, (hle.set hmo).set hbo', h1, Heap.keep (Heap.keep hb hmo) hbo', rfl, Heap.set_same _ _ _, Heap.keep (Heap.set_same _ _ _) hbo', hle.none hmo⟩
  rintro f A ⟨bo, mo, hle, h1, hb, h3, hbo, hmo, hmo0⟩
  refine nwp_then (fun f A => ∃ bb mb, A0.le A ∧ f 1 = .ptr b 0 ∧ A b = some (.cells c.enc.cells) ∧ f 3 = .ptr bo 0 ∧ A bo = some (.cells [.map mo]) ∧ A mo = some (mapB AV.bool []) ∧ f 4 = .ptr bb 0 ∧ A bb = some (.cells [.map mb]) ∧ A mb = some (mapB (AV.int .i64) []) ∧ A0 mb = none ∧ mb ≠ mo) ?_ ?_
  · simp only [n_core_Unbound_r2, go_sem, Nat.reduceEqDiff, Nat.reduceLeDiff, ↓reduceIte, eq_self]
    rintro mb hmb bb ⟨ne, _, hbb⟩
    have hbb' : (A.set mb (.map [] 0)) bb = none := by rw [Heap.set_other _ _ ne]; exact hbb
    exact Here.mk ⟨bb, mb, (hle.set hmb).set hbb', h1, Heap.keep (Heap.keep hb hmb) hbb', h3, Heap.keep (Heap.keep hbo hmb) hbb', Heap.keep (Heap.keep hmo hmb) hbb', rfl, Heap.set_same _ _ _, Heap.keep (Heap.set_same _ _ _) hbb', hle.none hmb, Heap.ne_of hmo hmb⟩
  clear hle h1 hb h3 hbo hmo
  rintro f A ⟨bb, mb, hle, h1, hb, h3, hbo, hmo, h4, hbb, hmb, hmb0, hne⟩
  refine nwp_then (fun f A => ∃ bg, UnbJ A0 mb mo [] [] A ∧ f 1 = .ptr b 0 ∧ A b = some (.cells c.enc.cells) ∧ f 3 = .ptr bo 0 ∧ A bo = some (.cells [.map mo]) ∧ f 4 = .ptr bb 0 ∧ A bb = some (.cells [.map mb]) ∧ f 5 = .ptr bg 0 ∧ A bg = some (.cells [.nilfunc]) ∧ A0 bg = none ∧ bo ≠ bg ∧ bb ≠ bg ∧ b ≠ bg) ?_ ?_
  · simp only [n_core_Unbound_r3, go_sem]
    intro bg hbg
    exact Here.mk ⟨bg, ⟨hle.set hbg, hmb0, hmo0, Heap.keep hmb hbg, Heap.keep hmo hbg, hne⟩, h1, Heap.keep hb hbg, h3, Heap.keep hbo hbg, h4, Heap.keep hbb hbg, rfl, Heap.set_same _ _ _, hle.none hbg, (Heap.ne_of hbo hbg).symm, (Heap.ne_of hbb hbg).symm, (Heap.ne_of hb hbg).symm⟩
  clear hle h1 hb h3 hbo hmo h4 hbb hmb
  rintro f A ⟨bg, hJ, h1, hb, h3, hbo, h4, hbb, h5, hbg, hbg0, ne1, ne2, ne3⟩
  refine nwp_then (fun f A => ∃ B, A0.le B ∧ UnbJ B mb mo [] [] A ∧ f 1 = .ptr b 0 ∧ B b = some (.cells c.enc.cells) ∧ f 3 = .ptr bo 0 ∧ B bo = some (.cells [.map mo]) ∧ B bb = some (.cells [.map mb]) ∧ f 5 = .ptr bg 0 ∧ B bg = some (.cells [.func F_core_Unbound_1 [] [.ptr bb 0, .ptr bo 0, .ptr bg 0]])) ?_ ?_
  · simp only [n_core_Unbound_r4, h3, h4, h5, hbg, go_sem, Nat.reduceEqDiff, Nat.reduceLeDiff, ↓reduceIte, eq_self]
    have n1 : mb ≠ bg := fun e => by subst e; rw [hJ.hb] at hbg; cases hbg
    have n2 : mo ≠ bg := fun e => by subst e; rw [hJ.ho] at hbg; cases hbg
    have hJ' : UnbJ A0 mb mo [] [] (A.set bg (.cells [.func F_core_Unbound_1 [] [.ptr bb 0, .ptr bo 0, .ptr bg 0]])) := ⟨hJ.le.set' hbg0, hJ.nb, hJ.no, by rw [Heap.set_other _ _ n1]; exact hJ.hb, by rw [Heap.set_other _ _ n2]; exact hJ.ho, hJ.ne⟩
    obtain ⟨B, hB, hAB, hBc⟩ := hJ'.rebase
    exact Here.mk ⟨B, hAB, hB, h1, hBc _ _ (by rw [Heap.set_other _ _ ne3]; exact hb), h3, hBc _ _ (by rw [Heap.set_other _ _ ne1]; exact hbo), hBc _ _ (by rw [Heap.set_other _ _ ne2]; exact hbb), h5, hBc _ _ (Heap.set_same _ _ _)⟩
  clear hJ h1 hb h3 hbo h4 hbb h5 hbg
  rintro f A ⟨B, hAB, hJ, h1, hb, h3, hbo, hbb, h5, hbg⟩
  refine nwp_then (fun f A => UnbJ B mb mo (c.unb [] []).1 (c.unb [] []).2 A ∧ f 3 = .ptr bo 0) ?_ ?_
  · have hbA := hJ.le.get _ _ hb
    have hbgA := hJ.le.get _ _ hbg
    simp only [n_core_Unbound_r5, h1, h5, hbA, hbgA, hte, go_sem, Nat.reduceEqDiff, ↓reduceIte, eq_self]
    refine hrun hbb hbo hbg hJ fun A' hJ' => ?_
    try simp only [go_sem]
    exact Here.mk ⟨hJ', h3⟩
  clear hJ h1 h3 h5 hrun
  rintro f A ⟨hJ, h3⟩
  refine nwp_then (fun f A => A0.le A ∧ OutI A0 A (f 2) c.free) ?_ ?_
  · have hboA := hJ.le.get _ _ hbo
    simp only [n_core_Unbound_r6, h3, hboA, go_sem, ↓reduceIte, eq_self]
    refine Keys_run fun bx hbx => ?_
    try simp only [go_sem]
    have hle' : A0.le (A.set bx (.cells [.map mo])) := (hAB.trans hJ.le).set hbx
    refine sorted_keys AV.bool (c.unb [] []).1 ⟨hok.nd, fun p hp => ?_⟩ (by have := hok.ln; omega) (Heap.set_same _ _ _) (Heap.keep hJ.ho hbx) (fun he => ?_) fun he b2 hb2 => ?_
    · have := hok.rg p.1 (List.mem_map_of_mem hp)
      omega
    · try simp only [go_sem, Nat.reduceEqDiff, Nat.reduceAdd, Nat.reduceSub, Nat.reduceLeDiff, Nat.reduceLT, Nat.reduceMul, Int.reduceEq, Int.reduceLT, Int.reduceLE, Int.reduceNeg, Int.reduceToNat, Int.reduceAdd, Int.reduceSub, Int.cast_ofNat_Int, Int.cast_ofNat_Int, reduceCtorEq, ↓reduceIte, Bool.false_eq_true, decide_true, decide_false, eq_self, Bool.not_true, Bool.not_false]
      refine Here.mk ⟨hle', ?_⟩
      show OutI A0 _ .nilslice _
      have h0 : c.free = [] := by simp [Core.free, he]
      rw [h0]
      exact .nil _ _
    · try simp only [go_sem, Nat.reduceEqDiff, Nat.reduceAdd, Nat.reduceSub, Nat.reduceLeDiff, Nat.reduceLT, Nat.reduceMul, Int.reduceEq, Int.reduceLT, Int.reduceLE, Int.reduceNeg, Int.reduceToNat, Int.reduceAdd, Int.reduceSub, Int.cast_ofNat_Int, Int.cast_ofNat_Int, reduceCtorEq, ↓reduceIte, Bool.false_eq_true, decide_true, decide_false, eq_self, Bool.not_true, Bool.not_false]
      refine Here.mk ⟨hle'.set hb2, ?_⟩
      refine .inr ⟨b2, ?_, Heap.set_same _ _ _, hle'.none hb2, ?_⟩
      · show AV.slice _ _ _ _ _ = _
        simp [Core.free]
      · intro h0
        have := congrArg List.length h0
        simp [Core.free] at this
        exact he this
  rintro f A ⟨hle, ho⟩
  exact hQ _ _ hle ho
theorem Unbound_spec (c : Core) (hg : c.good big = true) (hv : c.vars = true) (hlen : c.atoms ≤ big) : NPure Try.prog F_core_Unbound [c.enc] (encSl true 1 (c.free.map encInt)) :=
  NPure.of_body c_core_Unbound (Nat.le_of_ble_eq_true rfl) fun A0 => Unbound_body c hg hv hlen fun f A hle ho => ret_out rfl ho hle
end Go.NL

set_option linter.unusedVariables false

set_option maxRecDepth 10000
namespace Go.NL
open Go.Proofs
/-- Why a part is no program. -/
def Core.check (c : Core) : Int := if c.may = false then 2 else if c.order.length ≠ c.bound.length then 7 else if 0 < c.free.length then 6 else 0
end Go.NL

set_option linter.unusedVariables false

set_option maxRecDepth 10000
namespace Go.NL
open Go.Proofs
/-- A list of values in a block of the run's own, that A0 does not know; nil, if there are none. -/
def OutL (e : Nat) (A0 A : Heap) (v : AV) (es : List AV) : Prop :=
  (v = .nilslice ∧ es = []) ∨ ∃ b, v = .slice e b 0 es.length (.ge es.length) ∧ A b = some (.cells (es.flatMap AV.cells)) ∧ A0 b = none ∧ es ≠ []
theorem OutL.nil (e : Nat) (A0 A : Heap) : OutL e A0 A .nilslice [] := .inl ⟨rfl, rfl⟩
theorem flat_len {e : Nat} : ∀ {es : List AV}, (∀ x ∈ es, x.cells.length = e) → (es.flatMap AV.cells).length = es.length * e
  | [], _ => by simp
  | x :: es, h => by
    rw [List.flatMap_cons, List.length_append, h x (List.mem_cons_self ..), flat_len fun y hy => h y (List.mem_cons_of_mem _ hy), List.length_cons, Nat.succ_mul, Nat.add_comm]
theorem OutL.fresh {e : Nat} {A0 A : Heap} {v : AV} {es : List AV} (h : OutL e A0 A v es) {b : Nat} {x : Blk} (hb : A b = none) : OutL e A0 (A.set b x) v es := by
  rcases h with h | ⟨b', h, h', h0, h1⟩
  · exact .inl h
  · exact .inr ⟨b', h, by rw [Heap.set_other _ _ (Heap.ne_of h' hb).symm]; exact h', h0, h1⟩
theorem OutL.other {e : Nat} {A0 A : Heap} {v : AV} {es : List AV} (h : OutL e A0 A v es) {b : Nat} {x : Blk} (hb : ∀ e b' o n k, v = .slice e b' o n k → b' ≠ b) : OutL e A0 (A.set b x) v es := by
  rcases h with h | ⟨b', h, h', h0, h1⟩
  · exact .inl h
  · exact .inr ⟨b', h, by rw [Heap.set_other _ _ (hb _ _ _ _ _ h)]; exact h', h0, h1⟩
theorem OutL.lower {e : Nat} {A0 B A : Heap} {v : AV} {es : List AV} (h : OutL e B A v es) (hle : A0.le B) : OutL e A0 A v es := by
  rcases h with h | ⟨b', h, h', h0, h1⟩
  · exact .inl h
  · exact .inr ⟨b', h, h', hle.none h0, h1⟩
theorem OutL.len {e : Nat} {A0 A : Heap} {v : AV} {es : List AV} (h : OutL e A0 A v es) : ∀ B, lenAV B .slice v = some es.length := by
  rcases h with ⟨rfl, rfl⟩ | ⟨b, rfl, _⟩ <;> intro B <;> rfl
theorem OutL.one {e : Nat} {A0 A : Heap} {v : AV} {es : List AV} (h : OutL e A0 A v es) : v.one = true ∧ v.cells = [v] := by
  rcases h with ⟨rfl, _⟩ | ⟨b, rfl, _⟩ <;> exact ⟨rfl, rfl⟩
/-- What is known of old is no list's block. -/
theorem OutL.old {e : Nat} {A0 A : Heap} {v : AV} {es : List AV} (h : OutL e A0 A v es) {b : Nat} {x : Blk} (hb : A0 b = some x) : ∀ e' b' o n k, v = .slice e' b' o n k → b' ≠ b := by
  intro e' b' o n k hv heq
  subst heq
  rcases h with ⟨h, _⟩ | ⟨b', h, h', h0, h1⟩
  · rw [h] at hv; cases hv
  · rw [h] at hv
    cases hv
    rw [h0] at hb
    cases hb
/-- append: values behind values. -/
theorem append_vals2 {e by_ : Nat} {A0 A : Heap} {v x : AV} {es ms : List AV} {K : AV → Heap → Prop} (hv : OutL e A0 A v es) (hle : A0.le A) (hx : srcAV A false e x = some (ms.length, ms.flatMap AV.cells)) (hes : ∀ x ∈ es, x.cells.length = e) (hlen : es.length + ms.length ≤ big) (hby : by_ ≤ 128)
    (hK : ∀ v' A', OutL e A0 A' v' (es ++ ms) → A0.le A' → (∀ c y, A c = some y → (∀ e o n k, v ≠ .slice e c o n k) → A' c = some y) → (∀ e b o n k, v' = .slice e b o n k → v' = v ∨ A b = none) → K v' A') : appendN A K false e by_ v x := by
  have hbig : big = 1099511627776 := rfl
  have hroom : ∀ n, n ≤ big → roomOk n by_ := by
    intro n hn
    have h1 : n * by_ ≤ n * 128 := Nat.mul_le_mul_left _ hby
    exact ⟨by omega, by omega⟩
  have hfl := flat_len hes
  simp only [appendN, hx]
  rcases hv with ⟨rfl, rfl⟩ | ⟨b, rfl, hb, h0, hne0⟩
  · simp only
    split
    · rename_i hm
      have hm : ms = [] := List.eq_nil_of_length_eq_zero hm
      subst hm
      exact hK _ _ (.inl ⟨rfl, rfl⟩) hle (fun _ _ h _ => h) fun _ _ _ _ _ _ => .inl rfl
    · rename_i hm
      simp only [List.length_nil, Nat.zero_add] at hlen
      refine ⟨hroom _ hlen, fun b hb => hK _ _ (.inr ⟨b, rfl, by simp, hle.none hb, by rintro rfl; exact hm rfl⟩) (hle.set hb) (fun c y hc _ => ?_) fun _ _ _ _ _ h => ?_⟩
      · rw [Heap.set_other _ _ (Heap.ne_of hc hb).symm]
        exact hc
      · cases h; exact .inr hb
  · simp only [hb, hfl, true_and]
    refine ⟨by omega, ?_⟩
    split
    · rename_i hm
      have hm : ms = [] := List.eq_nil_of_length_eq_zero hm
      subst hm
      refine hK _ _ ?_ hle (fun _ _ h _ => h) fun _ _ _ _ _ _ => .inl rfl
      rw [List.append_nil]
      exact .inr ⟨b, rfl, hb, h0, hne0⟩
    · rename_i hm
      rw [if_neg (by simp only [Cap.low]; omega)]
      refine ⟨hroom _ hlen, fun b' hb' => ?_⟩
      have hbb : b' ≠ b := Heap.ne_of hb hb'
      have hd : (A.del b) b' = none := by simp [Heap.del, hbb, hb']
      have hle' : A0.le (A.del b) := ⟨fun c y hc => by
        have hne : c ≠ b := fun e => by subst e; rw [h0] at hc; cases hc
        simp [Heap.del, hne, hle.get c y hc]⟩
      refine hK _ _ (.inr ⟨b', by simp, ?_, hle.none hb', by simp [hne0]⟩) (hle'.set hd) (fun c y hc hne => ?_) fun _ _ _ _ _ h => ?_
      · rw [Heap.set_same, List.drop_zero, List.take_of_length_le (by rw [hfl]; exact Nat.le_refl _), List.flatMap_append]
      · have h1 : c ≠ b := fun e => hne _ _ _ _ (by rw [e])
        have h2 : c ≠ b' := fun e => by subst e; rw [hb'] at hc; cases hc
        rw [Heap.set_other _ _ h2]
        simp [Heap.del, h1, hc]
      · cases h; exact .inr hb'
theorem append_vals {e by_ : Nat} {A0 A : Heap} {v x : AV} {es ms : List AV} {K : AV → Heap → Prop} (hv : OutL e A0 A v es) (hle : A0.le A) (hx : srcAV A false e x = some (ms.length, ms.flatMap AV.cells)) (hes : ∀ x ∈ es, x.cells.length = e) (hlen : es.length + ms.length ≤ big) (hby : by_ ≤ 128)
    (hK : ∀ v' A', OutL e A0 A' v' (es ++ ms) → A0.le A' → (∀ c y, A c = some y → (∀ e o n k, v ≠ .slice e c o n k) → A' c = some y) → K v' A') : appendN A K false e by_ v x := append_vals2 hv hle hx hes hlen hby fun v' A' h1 h2 h3 _ => hK v' A' h1 h2 h3
/-- One value's block, where it is a list. -/
theorem src_val {e : Nat} (A : Heap) (b : Nat) (x : AV) (cs : List AV) (hx : x.cells = cs) (he : cs.length = e) : srcAV (A.set b (.cells cs)) false e (.slice e b 0 1 (.eq 1)) = some ([x].length, [x].flatMap AV.cells) := by
  subst hx
  simp only [srcAV, Heap.set_same, and_self, if_true]
  rw [if_pos (by omega)]
  simp []
  rw [List.take_of_length_le (by omega)]
/-- Numbers that may be read as long as A0's blocks stand. -/
def IntsAt (A0 : Heap) (v : AV) (l : List Int) : Prop := (∃ nl, v = encSl nl 1 (l.map encInt)) ∨ ∃ b c, v = .slice 1 b 0 l.length c ∧ A0 b = some (.cells (ints l))
theorem IntsAt.len {A0 : Heap} {v : AV} {l : List Int} (h : IntsAt A0 v l) : ∀ B, lenAV B .slice v = some l.length := by
  intro B
  rcases h with ⟨nl, rfl⟩ | ⟨b, c, rfl, _⟩
  · rw [lenAV_encSl, List.length_map]
  · rfl
theorem IntsAt.le {A0 B : Heap} {v : AV} {l : List Int} (h : IntsAt A0 v l) (hle : A0.le B) : IntsAt B v l := by
  rcases h with h | ⟨b, c, h, hb⟩
  · exact .inl h
  · exact .inr ⟨b, c, h, hle.get _ _ hb⟩
theorem OutI.at {A0 A : Heap} {v : AV} {l : List Int} (h : OutI A0 A v l) : IntsAt A v l := by
  rcases h with ⟨rfl, rfl⟩ | ⟨b, rfl, hb, _⟩
  · exact .inl ⟨true, rfl⟩
  · exact .inr ⟨b, _, rfl, hb⟩
theorem IntsAt.enc (A0 : Heap) (nl : Bool) (l : List Int) : IntsAt A0 (encSl nl 1 (l.map encInt)) l := .inl ⟨nl, rfl⟩
end Go.NL

set_option linter.unusedVariables false

set_option maxRecDepth 10000
namespace Go.NL
open Go.Proofs
/-- Where a frame is. -/
structure FrameAt (bf mt : Nat) (to : List (Int × Int)) (next : Int) (A : Heap) : Prop where
  f : A bf = some (.cells [.map mt, .int .i64 next])
  m : A mt = some (mapB (AV.int .i64) to)
def look (to : List (Int × Int)) (v : Int) : Int := (mget to v).getD 0
/-- The atom of a variable in a frame. -/
def atomOf (to : List (Int × Int)) (v : Int) : Atom := ⟨1, look to v, []⟩
end Go.NL

set_option linter.unusedVariables false

set_option maxRecDepth 10000
namespace Go.NL
open Go.Proofs
/-- A function that is made: how many it has captured, its part. -/
abbrev FlatF := Int × Core
def FlatF.enc (p : FlatF) : AV := .agg (.int .i64 p.1 :: p.2.enc.cells)
def Core.zero : Core := .mk 0 0 0 [] true [] true [] true []
structure MS where
  funs : List FlatF
  to : List (Int × Int)
  next : Int
def newF (s : List (Int × Int) × Int) (v : Int) : List (Int × Int) × Int := (mput s.1 v s.2, IntKind.i64.wrap (s.2 + 1))
def funW (rec : Core → MS → Core × MS) (c : Core) (cap : List Int) (funs : List FlatF) : List FlatF :=
  (rec (c.l.headD Core.zero) ⟨funs ++ [((cap.length : Int), Core.zero)], (cap.foldl newF (mput [] c.x 0, 1)).1, (cap.foldl newF (mput [] c.x 0, 1)).2⟩).2.funs.modify funs.length
    (fun p => (p.1, (rec (c.l.headD Core.zero) ⟨funs ++ [((cap.length : Int), Core.zero)], (cap.foldl newF (mput [] c.x 0, 1)).1, (cap.foldl newF (mput [] c.x 0, 1)).2⟩).1))
def convA (to : List (Int × Int)) (a : Atom) : Atom := if a.kind = 1 then ⟨a.kind, look to a.n, a.s⟩ else a
/-- The parts of a part. -/
def partsW (rec : Core → MS → Core × MS) (late : Bool) (x : Int) : Nat → List Core → Int → List Core → MS → Int × List Core × MS
  | _, [], X, L, s => (X, L, s)
  | i, c :: cs, X, L, s =>
    if late = true ∧ i = 1 then
      partsW rec late x (i + 1) cs (IntKind.i64.wrap (IntKind.i64.wrap (s.next + 1) - 1)) (L ++ [(rec c ⟨s.funs, (newF (s.to, s.next) x).1, (newF (s.to, s.next) x).2⟩).1]) (rec c ⟨s.funs, (newF (s.to, s.next) x).1, (newF (s.to, s.next) x).2⟩).2
    else partsW rec late x (i + 1) cs X (L ++ [(rec c s).1]) (rec c s).2
def groupNames (xs : List Core) : List (Int × Bool) := xs.foldl (fun m x => mput m x.n true) []
def groupAll1 (names : List (Int × Bool)) (all : List (Int × Bool)) (v : Int) : List (Int × Bool) := if (mget names v).getD false = false then mput all v true else all
def groupAll (names : List (Int × Bool)) (xs : List Core) : List (Int × Bool) := xs.foldl (fun all x => x.free.foldl (groupAll1 names) all) []
def groupShared (xs : List Core) : List Int := ((groupAll (groupNames xs) xs).map (·.1)).mergeSort fun x y => decide (x ≤ y)
def groupFuns (rec : Core → MS → Core × MS) (cap : List Int) (xs : List Core) (tf : List Int × List FlatF) : List Int × List FlatF := xs.foldl (fun tf x => (tf.1 ++ [(tf.2.length : Int)], funW rec x cap tf.2)) tf
def groupW (rec : Core → MS → Core × MS) (l : List Core) (s : MS) : Core × MS :=
  let xs := l.take (l.length - 1)
  let cap := groupShared xs ++ xs.map Core.n
  let fr := xs.foldl (fun fr x => newF fr x.n) (s.to, s.next)
  let tf := groupFuns rec cap xs ([], s.funs)
  let r := rec (l.getD (l.length - 1) Core.zero) ⟨tf.2, fr.1, fr.2⟩
  (.mk 14 s.next 0 [] true ((groupShared xs).map (atomOf s.to)) true tf.1 true [r.1], r.2)
/-- What maker.part tells, and what it leaves. -/
def partW : Nat → Core → MS → Core × MS
  | 0, _, s => (Core.zero, s)
  | N + 1, .mk k x n str na a nt t nl l, s =>
    if k = 7 then (.mk 13 0 s.funs.length [] true ((Core.mk k x n str na a nt t nl l).free.map (atomOf s.to)) true [] true [], ⟨funW (partW N) (.mk k x n str na a nt t nl l) (Core.mk k x n str na a nt t nl l).free s.funs, s.to, s.next⟩)
    else if k = 8 then groupW (partW N) l s
    else (.mk k (partsW (partW N) (lateK k) x 0 l 0 [] s).1 n str true (a.map (convA s.to)) nt t true (partsW (partW N) (lateK k) x 0 l 0 [] s).2.1, (partsW (partW N) (lateK k) x 0 l 0 [] s).2.2)
theorem FlatF.len (p : FlatF) : p.enc.cells.length = 8 := by
  obtain ⟨n, c⟩ := p
  cases c
  rfl
def encF (funs : List FlatF) : List AV := funs.map FlatF.enc
theorem encF_len (funs : List FlatF) : (encF funs).length = funs.length := by simp [encF]
theorem encF_cells (funs : List FlatF) : ∀ x ∈ encF funs, x.cells.length = 8 := by
  intro x hx
  obtain ⟨p, _, rfl⟩ := List.mem_map.1 hx
  exact p.len
/-- Where a maker stands. -/
structure MakJ (A0 : Heap) (bm : Nat) (funs : List FlatF) (A : Heap) : Prop where
  le : A0.le A
  nm : A0 bm = none
  v : ∃ v, A bm = some (.cells [v]) ∧ OutL 8 A0 A v (encF funs)
/-- Blocks that are no maker's: they bear strings in early places, or numbers alone. -/
def Mine (cs : List AV) : Prop := (∃ s, cs[2]? = some (.str s) ∨ cs[3]? = some (.str s)) ∨ ∃ l, l ≠ [] ∧ cs = ints l
theorem encF_shape {f : FlatF} {fs : List FlatF} : ∃ a b c d s r, (encF (f :: fs)).flatMap AV.cells = .int .i64 a :: .int .i64 b :: .int .i64 c :: .int .i64 d :: .str s :: r := by
  obtain ⟨n, k, x, m, s, na, a, nt, t, nl, l⟩ := f
  exact ⟨_, _, _, _, _, _, rfl⟩
theorem encF_mine {funs : List FlatF} (hne : encF funs ≠ []) : ¬ Mine ((encF funs).flatMap AV.cells) := by
  cases funs with
  | nil => exact absurd rfl hne
  | cons f fs =>
    obtain ⟨a, b, c, d, s, r, h⟩ := @encF_shape f fs
    rw [h]
    rintro (⟨s, h | h⟩ | ⟨l, _, h⟩)
    · simp at h
    · simp at h
    · have h4 := congrArg (fun cs => cs[4]?) h
      simp only [List.getElem?_cons_succ, List.getElem?_cons_zero, ints, List.getElem?_map] at h4
      cases hq : l[4]? with
      | none => rw [hq] at h4; cases h4
      | some q => rw [hq] at h4; cases h4
theorem mine_one {v : AV} (h : ∀ k n, v ≠ .int k n) : ¬ Mine [v] := by
  rintro (⟨s, h' | h'⟩ | ⟨l, hl, h'⟩)
  · simp at h'
  · simp at h'
  · cases l with
    | nil => exact hl rfl
    | cons x l =>
      simp only [ints, List.map_cons, List.cons.injEq] at h'
      exact h _ _ h'.1
theorem mine_two {m : Nat} {y : AV} : ¬ Mine [.map m, y] := by
  rintro (⟨s, h' | h'⟩ | ⟨l, hl, h'⟩)
  · simp at h'
  · simp at h'
  · cases l with
    | nil => exact hl rfl
    | cons x l =>
      simp only [ints, List.map_cons, List.cons.injEq] at h'
      cases h'.1
theorem OutL.noint {e : Nat} {A0 A : Heap} {v : AV} {es : List AV} (h : OutL e A0 A v es) : ∀ k n, v ≠ .int k n := by
  rcases h with ⟨rfl, _⟩ | ⟨b, rfl, _⟩ <;> intro k n h <;> cases h
theorem MakJ.fresh {A0 : Heap} {bm : Nat} {funs : List FlatF} {A : Heap} (h : MakJ A0 bm funs A) {c : Nat} {x : Blk} (hc : A c = none) : MakJ A0 bm funs (A.set c x) := by
  obtain ⟨v, h1, h2⟩ := h.v
  exact ⟨h.le.set hc, h.nm, v, Heap.keep h1 hc, h2.fresh hc⟩
theorem MakJ.base {A0 B : Heap} {bm : Nat} {funs : List FlatF} {A : Heap} (h : MakJ B bm funs A) (hle : A0.le B) : MakJ A0 bm funs A := by
  obtain ⟨v, h1, h2⟩ := h.v
  exact ⟨hle.trans h.le, hle.none h.nm, v, h1, h2.lower hle⟩
/-- A block that is no maker's is written. -/
theorem MakJ.other {A0 : Heap} {bm : Nat} {funs : List FlatF} {A : Heap} (h : MakJ A0 bm funs A) {c : Nat} {x y : Blk} (hc : A c = some x) (hx : ∀ cs, x = .cells cs → Mine cs ∨ ∃ m y, cs = [.map m, y]) (h0 : A0 c = none) : MakJ A0 bm funs (A.set c y) := by
  obtain ⟨v, h1, h2⟩ := h.v
  have hne : bm ≠ c := fun e => by
    subst e
    rw [h1] at hc
    cases hc
    rcases hx _ rfl with h | ⟨m, y, h⟩
    · exact mine_one h2.noint h
    · cases h
  refine ⟨h.le.set' h0, h.nm, v, by rw [Heap.set_other _ _ hne]; exact h1, h2.other fun e b' o n k hv he => ?_⟩
  subst he
  rcases h2 with ⟨h, _⟩ | ⟨b, h, hb, _, hne⟩
  · rw [h] at hv; cases hv
  · rw [h] at hv
    cases hv
    rw [hb] at hc
    cases hc
    rcases hx _ rfl with h | ⟨m, y, h⟩
    · exact encF_mine hne h
    · cases funs with
      | nil => exact hne rfl
      | cons f fs =>
        obtain ⟨a, b, c, d, s, r, h'⟩ := @encF_shape f fs
        rw [h'] at h
        cases h
theorem MakJ.rebase {A0 : Heap} {bm : Nat} {funs : List FlatF} {A : Heap} (h : MakJ A0 bm funs A) : ∃ B : Heap, MakJ B bm funs A ∧ A0.le B ∧ (∀ c cs, A c = some (.cells cs) → Mine cs → B c = some (.cells cs)) ∧
    (∀ c m y, A c = some (.cells [.map m, y]) → B c = some (.cells [.map m, y])) ∧ (∀ c es k, A c = some (.map es k) → B c = some (.map es k)) := by
  obtain ⟨v, h1, h2⟩ := h.v
  have key : ∀ c y, A c = some y → (∀ cs, y = .cells cs → Mine cs ∨ ∃ m y, cs = [.map m, y]) → (if c = bm then none else butOut A v c) = some y := by
    intro c y hc hy
    have hne : c ≠ bm := fun e => by
      subst e
      rw [h1] at hc
      cases hc
      rcases hy _ rfl with h | ⟨m, y, h⟩
      · exact mine_one h2.noint h
      · cases h
    rw [if_neg hne]
    unfold butOut
    rcases h2 with ⟨rfl, _⟩ | ⟨b, rfl, hb, _, hne2⟩
    · exact hc
    · simp only
      rw [if_neg]
      · exact hc
      · intro e
        subst e
        rw [hb] at hc
        cases hc
        rcases hy _ rfl with h | ⟨m, y, h⟩
        · exact encF_mine hne2 h
        · cases funs with
          | nil => exact hne2 rfl
          | cons f fs =>
            obtain ⟨a, b, c, d, s, r, h'⟩ := @encF_shape f fs
            rw [h'] at h
            cases h
  refine ⟨fun c => if c = bm then none else butOut A v c, ⟨⟨fun c y hc => ?_⟩, by simp, v, h1, ?_⟩, ⟨fun c y hc => ?_⟩, fun c cs hc hm => key c _ hc fun cs' h => ?_, fun c m y hc => key c _ hc fun cs' h => ?_, fun c es k hc => key c _ hc fun cs' h => ?_⟩
  · split at hc
    · cases hc
    · unfold butOut at hc
      split at hc
      · split at hc
        · cases hc
        · exact hc
      · exact hc
  · rcases h2 with h | ⟨b, rfl, hb, _, hne2⟩
    · exact .inl h
    · refine .inr ⟨b, rfl, hb, ?_, hne2⟩
      simp only [butOut, if_true]
      split <;> rfl
  · have hne : c ≠ bm := fun e => by subst e; rw [h.nm] at hc; cases hc
    rw [if_neg hne]
    unfold butOut
    rcases h2 with ⟨rfl, _⟩ | ⟨b, rfl, hb, h0, hne2⟩
    · exact h.le.get c y hc
    · simp only
      rw [if_neg (fun e => by subst e; rw [h0] at hc; cases hc)]
      exact h.le.get c y hc
  · cases h; exact .inl hm
  · cases h; exact .inr ⟨m, y, rfl⟩
  · cases h
end Go.NL

set_option linter.unusedVariables false

set_option maxRecDepth 10000
namespace Go.NL
open Go.Proofs
/-- Where a maker and a frame stand. -/
structure PartJ (A0 : Heap) (bm bf mt : Nat) (s : MS) (A : Heap) : Prop where
  mj : MakJ A0 bm s.funs A
  fr : FrameAt bf mt s.to s.next A
  nf : A0 bf = none
  nt : A0 mt = none
theorem FrameAt.ne {bf mt : Nat} {to : List (Int × Int)} {next : Int} {A : Heap} (h : FrameAt bf mt to next A) : bf ≠ mt := fun e => by
  subst e; have := h.f; rw [h.m] at this; cases this
theorem FrameAt.fresh {bf mt : Nat} {to : List (Int × Int)} {next : Int} {A : Heap} (h : FrameAt bf mt to next A) {c : Nat} {x : Blk} (hc : A c = none) : FrameAt bf mt to next (A.set c x) := ⟨Heap.keep h.f hc, Heap.keep h.m hc⟩
theorem PartJ.fresh {A0 : Heap} {bm bf mt : Nat} {s : MS} {A : Heap} (h : PartJ A0 bm bf mt s A) {c : Nat} {x : Blk} (hc : A c = none) : PartJ A0 bm bf mt s (A.set c x) := ⟨h.mj.fresh hc, h.fr.fresh hc, h.nf, h.nt⟩
theorem PartJ.base {A0 B : Heap} {bm bf mt : Nat} {s : MS} {A : Heap} (h : PartJ B bm bf mt s A) (hle : A0.le B) : PartJ A0 bm bf mt s A := ⟨h.mj.base hle, h.fr, hle.none h.nf, hle.none h.nt⟩
/-- A block that is no maker's and no frame's is written. -/
theorem PartJ.other {A0 : Heap} {bm bf mt : Nat} {s : MS} {A : Heap} (h : PartJ A0 bm bf mt s A) {c : Nat} {cs : List AV} {y : Blk} (hc : A c = some (.cells cs)) (hm : Mine cs) (h0 : A0 c = none) : PartJ A0 bm bf mt s (A.set c y) := by
  have h1 : bf ≠ c := fun e => by
    subst e
    rw [h.fr.f] at hc
    cases hc
    exact mine_two hm
  have h2 : mt ≠ c := fun e => by
    subst e
    rw [h.fr.m] at hc
    cases hc
  exact ⟨h.mj.other hc (fun cs' e => by cases e; exact .inl hm) h0, ⟨by rw [Heap.set_other _ _ h1]; exact h.fr.f, by rw [Heap.set_other _ _ h2]; exact h.fr.m⟩, h.nf, h.nt⟩
theorem PartJ.new {A0 : Heap} {bm bf mt : Nat} {s : MS} {A : Heap} (h : PartJ A0 bm bf mt s A) (v : Int) : PartJ A0 bm bf mt ⟨s.funs, (newF (s.to, s.next) v).1, (newF (s.to, s.next) v).2⟩
    ((A.set mt (mapB (AV.int .i64) (mput s.to v s.next))).set bf (.cells [.map mt, .int .i64 (IntKind.i64.wrap (s.next + 1))])) := by
  have hne := h.fr.ne
  have q1 := h.mj.other (y := mapB (AV.int .i64) (mput s.to v s.next)) h.fr.m (fun cs e => by cases e) h.nt
  have hbf : (A.set mt (mapB (AV.int .i64) (mput s.to v s.next))) bf = some (.cells [.map mt, .int .i64 s.next]) := by rw [Heap.set_other _ _ hne]; exact h.fr.f
  have q2 := q1.other (y := .cells [.map mt, .int .i64 (IntKind.i64.wrap (s.next + 1))]) hbf (fun cs e => by cases e; exact .inr ⟨_, _, rfl⟩) h.nf
  exact ⟨q2, ⟨Heap.set_same _ _ _, by rw [Heap.set_other _ _ hne.symm]; exact Heap.set_same _ _ _⟩, h.nf, h.nt⟩
theorem PartJ.rebase {A0 : Heap} {bm bf mt : Nat} {s : MS} {A : Heap} (h : PartJ A0 bm bf mt s A) : ∃ B : Heap, PartJ B bm bf mt s A ∧ A0.le B ∧ ∀ c cs, A c = some (.cells cs) → Mine cs → B c = some (.cells cs) := by
  obtain ⟨B, hB, hle, hk, hk2, hk3⟩ := h.mj.rebase
  refine ⟨fun c => if c = bf ∨ c = mt then none else B c, ⟨?_, h.fr, by simp, by simp⟩, ⟨fun c y hc => ?_⟩, fun c cs hc hm => ?_⟩
  · exact hB.base ⟨fun c y hc => by
      split at hc
      · cases hc
      · exact hc⟩
  · have h1 : c ≠ bf := fun e => by subst e; rw [h.nf] at hc; cases hc
    have h2 : c ≠ mt := fun e => by subst e; rw [h.nt] at hc; cases hc
    simp [h1, h2, hle.get c y hc]
  · have h1 : c ≠ bf := fun e => by
      subst e
      rw [h.fr.f] at hc
      cases hc
      exact mine_two hm
    have h2 : c ≠ mt := fun e => by
      subst e
      rw [h.fr.m] at hc
      cases hc
    simp [h1, h2, hk c cs hc hm]
end Go.NL

set_option linter.unusedVariables false

set_option maxRecDepth 10000
namespace Go.NL
open Go.Proofs
mutual
/-- Functions have their part; so have those of a CoreRec. -/
def Core.ready : Core → Bool
  | .mk k _ _ _ _ _ _ _ _ l => (!decide (k = 7) || !l.isEmpty) && (!decide (k = 8) || (!l.isEmpty && (l.take (l.length - 1)).all fun x => !x.l.isEmpty)) && Core.readys l
def Core.readys : List Core → Bool
  | [] => true
  | c :: cs => c.ready && Core.readys cs
end
theorem Core.readys_mem {l : List Core} (h : Core.readys l = true) : ∀ c ∈ l, c.ready = true := by
  induction l with
  | nil => intro c hc; cases hc
  | cons x l ih =>
    simp only [Core.readys, Bool.and_eq_true] at h
    intro c hc
    rcases List.mem_cons.1 hc with rfl | hc
    · exact h.1
    · exact ih h.2 c hc
theorem Core.varss_mem {l : List Core} (h : Core.varss l = true) : ∀ c ∈ l, c.vars = true := by
  induction l with
  | nil => intro c hc; cases hc
  | cons x l ih =>
    simp only [Core.varss, Bool.and_eq_true] at h
    intro c hc
    rcases List.mem_cons.1 hc with rfl | hc
    · exact h.1
    · exact ih h.2 c hc
theorem Core.atomss_mem {l : List Core} : ∀ c ∈ l, c.atoms ≤ Core.atomss l := by
  induction l with
  | nil => intro c hc; cases hc
  | cons x l ih =>
    intro c hc
    simp only [Core.atomss]
    rcases List.mem_cons.1 hc with rfl | hc
    · omega
    · have := ih c hc; omega
/-- What the maker may be given. -/
structure Core.Ok (c : Core) : Prop where
  rd : c.ready = true
  gd : c.good big = true
  vr : c.vars = true
  at_ : c.atoms ≤ big
  sz : c.atoms + c.size ≤ big
theorem Core.Ok.sub {c x : Core} (h : c.Ok) (hx : x ∈ c.l) : x.Ok := by
  obtain ⟨k, a1, a2, a3, a4, a5, a6, a7, a8, l⟩ := c
  obtain ⟨h1, h2, h3, h4, h5⟩ := h
  simp only [Core.l] at hx
  simp only [Core.ready, Bool.and_eq_true] at h1
  simp only [Core.good, Bool.and_eq_true] at h2
  simp only [Core.vars, Bool.and_eq_true] at h3
  simp only [Core.atoms] at h4 h5
  simp only [Core.size] at h5
  exact ⟨Core.readys_mem h1.2 x hx, Core.goods_mem h2.2 x hx, Core.varss_mem h3.2 x hx, by have := Core.atomss_mem x hx; omega, by have := Core.atomss_mem x hx; have := Core.size_mem hx; omega⟩
theorem Core.Ok.fn {c : Core} (h : c.Ok) (hk : c.kind = 7) : c.l ≠ [] := by
  obtain ⟨k, a1, a2, a3, a4, a5, a6, a7, a8, l⟩ := c
  simp only [Core.kind] at hk
  subst hk
  have h1 := h.rd
  simp only [Core.ready, Bool.and_eq_true] at h1
  intro hl
  simp only [Core.l] at hl
  subst hl
  simp at h1
end Go.NL

set_option linter.unusedVariables false

set_option maxRecDepth 10000
namespace Go.NL
open Go.Proofs
theorem MakJ.push {A0 : Heap} {bm : Nat} {funs : List FlatF} {A : Heap} (h : MakJ A0 bm funs A) {v x : AV} {p : FlatF} (hv : A bm = some (.cells [v])) (hx : srcAV A false 8 x = some ([p.enc].length, [p.enc].flatMap AV.cells)) (hlen : funs.length + 1 ≤ big) {K : AV → Heap → Prop}
    (hK : ∀ v' A', A' bm = some (.cells [v]) → v'.cells = [v'] → v'.one = true → MakJ A0 bm (funs ++ [p]) (A'.set bm (.cells [v'])) → K v' A') : appendN A K false 8 120 v x := by
  obtain ⟨v0, h1, h2⟩ := h.v
  rw [hv] at h1
  cases h1
  have hno : ∀ e o n k, v ≠ .slice e bm o n k := by
    intro e o n k he
    rcases h2 with ⟨h, _⟩ | ⟨b, h, hb, _, hne⟩
    · rw [h] at he; cases he
    · rw [h] at he
      cases he
      rw [hb] at hv
      cases funs with
      | nil => exact hne rfl
      | cons f fs =>
        obtain ⟨a, b, c, d, s, r, h'⟩ := @encF_shape f fs
        rw [h'] at hv
        cases hv
  refine append_vals h2 h.le hx (encF_cells funs) (by rw [encF_len]; exact hlen) (by omega) fun v' A' ho hle hfr => ?_
  have he : encF funs ++ [p.enc] = encF (funs ++ [p]) := by simp [encF]
  rw [he] at ho
  have hbm := hfr bm _ hv hno
  refine hK v' A' hbm ho.one.2 ho.one.1 ⟨hle.set' h.nm, h.nm, v', Heap.set_same _ _ _, ho.other fun e b' o n k hv' he' => ?_⟩
  subst he'
  rcases ho with ⟨h, _⟩ | ⟨b, h, hb, h0, hne⟩
  · rw [h] at hv'; cases hv'
  · rw [h] at hv'
    cases hv'
    rw [hb] at hbm
    cases hfs : funs ++ [p] with
    | nil => simp at hfs
    | cons f fs =>
      rw [hfs] at hbm
      obtain ⟨a, b, c, d, s, r, h'⟩ := @encF_shape f fs
      rw [h'] at hbm
      cases hbm
end Go.NL

set_option linter.unusedVariables false

set_option maxRecDepth 10000
namespace Go.NL
open Go.Proofs
theorem MakJ.move {A0 : Heap} {bm : Nat} {funs : List FlatF} {A A' : Heap} (h : MakJ A0 bm funs A) (hle : A0.le A') (hk : ∀ c y, A c = some y → (∀ cs, y = .cells cs → ¬ Mine cs) → A' c = some y) : MakJ A0 bm funs A' := by
  obtain ⟨v, h1, h2⟩ := h.v
  refine ⟨hle, h.nm, v, hk bm _ h1 fun cs e => by cases e; exact mine_one h2.noint, ?_⟩
  rcases h2 with h2 | ⟨b, h2, hb, h0, hne⟩
  · exact .inl h2
  · exact .inr ⟨b, h2, hk b _ hb fun cs e => by cases e; exact encF_mine hne, h0, hne⟩
theorem PartJ.move {A0 : Heap} {bm bf mt : Nat} {s : MS} {A A' : Heap} (h : PartJ A0 bm bf mt s A) (hle : A0.le A') (hk : ∀ c y, A c = some y → (∀ cs, y = .cells cs → ¬ Mine cs) → A' c = some y) : PartJ A0 bm bf mt s A' :=
  ⟨h.mj.move hle hk, ⟨hk bf _ h.fr.f fun cs e => by cases e; exact mine_two, hk mt _ h.fr.m fun cs e => by cases e⟩, h.nf, h.nt⟩
theorem atoms_mine {l : List Atom} (h : l.map Atom.enc ≠ []) : Mine ((l.map Atom.enc).flatMap AV.cells) := by
  cases l with
  | nil => exact absurd rfl h
  | cons a l => exact .inl ⟨a.s, .inl rfl⟩
theorem cores_mine {l : List Core} (h : l.map Core.enc ≠ []) : Mine ((l.map Core.enc).flatMap AV.cells) := by
  cases l with
  | nil => exact absurd rfl h
  | cons c l =>
    obtain ⟨k, x, n, s, na, a, nt, t, nl, l'⟩ := c
    exact .inl ⟨s, .inr rfl⟩
theorem atoms_cells (l : List Atom) : ∀ x ∈ l.map Atom.enc, x.cells.length = 3 := by
  intro x hx
  obtain ⟨a, _, rfl⟩ := List.mem_map.1 hx
  rfl
theorem cores_cells (l : List Core) : ∀ x ∈ l.map Core.enc, x.cells.length = 7 := by
  intro x hx
  obtain ⟨a, _, rfl⟩ := List.mem_map.1 hx
  exact a.enc_cells
theorem frz0_enc (b e e' : Nat) (es es' : List AV) (nl : Bool) : (encSl nl e es).frz0 b e' es' = encSl nl e es := by
  unfold encSl
  split <;> rfl
end Go.NL

set_option linter.unusedVariables false

set_option maxRecDepth 10000
namespace Go.NL
open Go.Proofs
def zero7 : List AV := [.int .i64 0, .int .i64 0, .int .i64 0, .str [], .nilslice, .nilslice, .nilslice]
/-- Where the part that is made stands. -/
structure OutJ (B : Heap) (b8 : Nat) (k X n : Int) (s : List UInt8) (vT : AV) (as_ : List Atom) (ls : List Core) (A : Heap) : Prop where
  nb : B b8 = none
  h : ∃ vA vL, A b8 = some (.cells [.int .i64 k, .int .i64 X, .int .i64 n, .str s, vA, vT, vL]) ∧ OutL 3 B A vA (as_.map Atom.enc) ∧ OutL 7 B A vL (ls.map Core.enc)
theorem out_mine {k X n : Int} {s : List UInt8} {vA vT vL : AV} : Mine [.int .i64 k, .int .i64 X, .int .i64 n, .str s, vA, vT, vL] := .inl ⟨s, .inr rfl⟩
theorem OutJ.fresh {B : Heap} {b8 : Nat} {k X n : Int} {s : List UInt8} {vT : AV} {as_ : List Atom} {ls : List Core} {A : Heap} (h : OutJ B b8 k X n s vT as_ ls A) {c : Nat} {x : Blk} (hc : A c = none) : OutJ B b8 k X n s vT as_ ls (A.set c x) := by
  obtain ⟨nb, vA, vL, h1, h2, h3⟩ := h
  exact ⟨nb, vA, vL, Heap.keep h1 hc, h2.fresh hc, h3.fresh hc⟩
/-- It stays where all that is mine stays. -/
theorem OutJ.keep {B : Heap} {b8 : Nat} {k X n : Int} {s : List UInt8} {vT : AV} {as_ : List Atom} {ls : List Core} {A A' : Heap} (h : OutJ B b8 k X n s vT as_ ls A) (hk : ∀ c cs, A c = some (.cells cs) → Mine cs → A' c = some (.cells cs)) : OutJ B b8 k X n s vT as_ ls A' := by
  obtain ⟨nb, vA, vL, h1, h2, h3⟩ := h
  refine ⟨nb, vA, vL, hk _ _ h1 out_mine, ?_, ?_⟩
  · rcases h2 with h | ⟨b, h, hb, h0, hne⟩
    · exact .inl h
    · exact .inr ⟨b, h, hk _ _ hb (atoms_mine hne), h0, hne⟩
  · rcases h3 with h | ⟨b, h, hb, h0, hne⟩
    · exact .inl h
    · exact .inr ⟨b, h, hk _ _ hb (cores_mine hne), h0, hne⟩
end Go.NL

set_option linter.unusedVariables false

set_option maxRecDepth 10000
namespace Go.NL
open Go.Proofs
end Go.NL

set_option linter.unusedVariables false

set_option maxRecDepth 10000
namespace Go.NL
open Go.Proofs
theorem free_range {c : Core} (hv : c.vars = true) : (∀ x ∈ c.free, 0 ≤ x ∧ x ≤ 1048575) ∧ c.free.length ≤ c.atoms := by
  have h := Core.unb_ok c 0 [] [] (.nil _) hv
  refine ⟨fun x hx => ?_, ?_⟩
  · simp only [Core.free, List.mem_mergeSort] at hx
    exact h.rg x hx
  · have := h.ln
    simp only [Core.free, List.length_mergeSort, List.length_map]
    omega
end Go.NL

set_option linter.unusedVariables false

set_option maxRecDepth 10000
namespace Go.NL
open Go.Proofs
theorem PartJ.mono {B : Heap} {bm bf mt : Nat} {s : MS} {A A' : Heap} (h : PartJ B bm bf mt s A) (hle : A.le A') : PartJ B bm bf mt s A' := h.move (h.mj.le.trans hle) fun c y hc _ => hle.get c y hc
theorem ints_mine {l : List Int} (h : l ≠ []) : Mine (ints l) := .inr ⟨l, h, rfl⟩
theorem OutI.grown {A0 A A' : Heap} {v : AV} {l : List Int} (ho : OutI A0 A v l) (hfr : ∀ c y, A c = some y → (∀ e o n k, v ≠ .slice e c o n k) → A' c = some y) : ∀ c y, A c = some y → (∀ cs, y = .cells cs → ¬ Mine cs) → A' c = some y := by
  intro c y hc hy
  refine hfr c y hc fun e' o n k hv => ?_
  rcases ho with ⟨h, _⟩ | ⟨b, h, hb, h0, hne⟩
  · rw [h] at hv; cases hv
  · rw [h] at hv
    cases hv
    rw [hb] at hc
    cases hc
    exact hy _ rfl (ints_mine hne)
/-- A group's block is no list of numbers. -/
theorem OutI.ne7 {A0 A : Heap} {v : AV} {l : List Int} (ho : OutI A0 A v l) {b : Nat} {x y z : AV} {s : List UInt8} {r : List AV} (hb : A b = some (.cells (x :: y :: z :: .str s :: r))) : ∀ e b' o n k, v = .slice e b' o n k → b' ≠ b := by
  intro e b' o n k hv he
  subst he
  rcases ho with ⟨h, _⟩ | ⟨b', h, h', _, hne⟩
  · rw [h] at hv; cases hv
  · rw [h] at hv
    cases hv
    rw [hb] at h'
    injection h' with h'
    injection h' with h'
    have h4 := congrArg (fun cs => cs[3]?) h'
    simp only [List.getElem?_cons_succ, List.getElem?_cons_zero, ints, List.getElem?_map] at h4
    cases hq : l[3]? with
    | none => rw [hq] at h4; cases h4
    | some q => rw [hq] at h4; cases h4
end Go.NL
