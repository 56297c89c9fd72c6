/- THE N-LOGIC, part T: how a text is walked. -/
import Derived.Test.YtdeboephmbaihaaGreatNS
set_option linter.unusedVariables false
set_option linter.unusedSimpArgs false
namespace Go.NL

theorem guarded_mono {f : Fr} {g : Option (Nat × Bool)} {a b a' b' : Prop} (h1 : a → a') (h2 : b → b') (h : guarded f g a b) : guarded f g a' b' := by
  unfold guarded at h ⊢
  split at h
  · exact h1 h
  · split at h
    · exact h1 h
    · exact h2 h
    · exact h

theorem nrun_mono {P : Program} {Q Q' : Fr → Heap → Prop} (hq : ∀ f A, Q f A → Q' f A) : ∀ (is : List NI) {f : Fr} {A : Heap}, nrun P Q is f A → nrun P Q' is f A
  | [], f, A, h => hq f A h
  | i :: is, f, A, h => guarded_mono (cop_mono fun v A' hv => ⟨hv.1, nrun_mono hq is hv.2⟩) (fun h => ⟨h.1, nrun_mono hq is h.2⟩) h

theorem nwp_mono {P : Program} : ∀ (c : NC) {Q Q' : Post} (hq : ∀ e f A, Q e f A → Q' e f A) {f : Fr} {A : Heap}, nwp P c Q f A → nwp P c Q' f A := by
  intro c
  induction c with
  | skip => intro Q Q' hq f A h; exact hq _ _ _ h
  | region is more => intro Q Q' hq f A h; exact ⟨nrun_mono (hq _) _ h.1, fun x hx => nrun_mono (hq _) _ (h.2 x hx)⟩
  | seq a b iha ihb =>
    intro Q Q' hq f A h
    refine iha (fun e f A he => ?_) h
    cases e with
    | normal => exact ihb hq he
    | exit id => exact hq _ _ _ he
    | ret => exact hq _ _ _ he
  | cond c a b iha ihb =>
    intro Q Q' hq f A h
    simp only [nwp] at h ⊢
    split at h
    · exact iha hq h
    · exact ihb hq h
    · exact h
  | block id c ih =>
    intro Q Q' hq f A h
    refine ih (fun e f A he => ?_) h
    cases e with
    | normal => exact hq _ _ _ he
    | exit id' =>
      simp only [blockP] at he ⊢
      split
      · rename_i h'; rw [if_pos h'] at he; exact hq _ _ _ he
      · rename_i h'; rw [if_neg h'] at he; exact hq _ _ _ he
    | ret => exact hq _ _ _ he
  | loop c ih =>
    intro Q Q' hq f A h
    obtain ⟨n, h⟩ := h
    refine ⟨n, ?_⟩
    induction n generalizing f A with
    | zero => exact h
    | succ n ihn =>
      refine ih (fun e f A he => ?_) h
      cases e with
      | normal => exact ihn he
      | exit id => exact hq _ _ _ he
      | ret => exact hq _ _ _ he
  | exit id => intro Q Q' hq f A h; exact hq _ _ _ h
  | ret => intro Q Q' hq f A h; exact hq _ _ _ h

theorem nloop_more {P : Program} {c : NC} {Q : Post} : ∀ {n k : Nat}, n ≤ k → ∀ {f : Fr} {A : Heap}, nloop (nwp P c) Q n f A → nloop (nwp P c) Q k f A
  | 0, k, _, f, A, h => h.elim
  | n + 1, 0, hk, f, A, h => by omega
  | n + 1, k + 1, hk, f, A, h => nwp_mono c (fun e f A he => by
      cases e with
      | normal => exact nloop_more (Nat.le_of_succ_le_succ hk) he
      | exit id => exact he
      | ret => exact he) h

/-- A loop, by what holds at the head of each round, and a number that falls. -/
theorem nwp_loop {P : Program} {c : NC} {Q : Post} (I : Nat → Fr → Heap → Prop) {f : Fr} {A : Heap} {n : Nat} (h0 : I n f A) (round : ∀ n f A, I n f A → nwp P c (thenP (fun f' A' => ∃ m, m < n ∧ I m f' A') Q) f A) : nwp P (.loop c) Q f A := by
  refine ⟨n + 1, ?_⟩
  have key : ∀ n f A, I n f A → nloop (nwp P c) Q (n + 1) f A := by
    intro n
    induction n using Nat.strongRecOn with
    | _ n ih =>
      intro f A h
      refine nwp_mono c (fun e f A he => ?_) (round n f A h)
      cases e with
      | normal =>
        obtain ⟨m, hm, hI⟩ := he
        exact nloop_more hm (ih m hm f A hI)
      | exit id => exact he
      | ret => exact he
  exact key n f A h0

theorem nwp_seq {P : Program} {a b : NC} {Q : Post} {f : Fr} {A : Heap} (h : ∀ K : Fr → Heap → Prop, (∀ f A, nwp P b Q f A → K f A) → nwp P a (thenP K Q) f A) : nwp P (.seq a b) Q f A := h _ fun _ _ h => h

theorem nwp_region {P : Program} {is : List NI} {Q : Post} {f : Fr} {A : Heap} (h : nrun P (Q .normal) is f A) : nwp P (.region is []) Q f A := ⟨h, fun x hx => by cases hx⟩

theorem nwp_block {P : Program} {id : Nat} {c : NC} {Q : Post} {f : Fr} {A : Heap} (h : nwp P c (blockP id Q) f A) : nwp P (.block id c) Q f A := h

theorem nwp_true {P : Program} {c : Opd} {a b : NC} {Q : Post} {f : Fr} {A : Heap} (hc : evalOpd f c = .bool true) (h : nwp P a Q f A) : nwp P (.cond c a b) Q f A := by simp only [nwp, hc]; exact h
theorem nwp_false {P : Program} {c : Opd} {a b : NC} {Q : Post} {f : Fr} {A : Heap} (hc : evalOpd f c = .bool false) (h : nwp P b Q f A) : nwp P (.cond c a b) Q f A := by simp only [nwp, hc]; exact h
theorem nwp_cond {P : Program} {c : Opd} {a b : NC} {Q : Post} {f : Fr} {A : Heap} {x : Bool} (hc : evalOpd f c = .bool x) (h1 : x = true → nwp P a Q f A) (h2 : x = false → nwp P b Q f A) : nwp P (.cond c a b) Q f A := by
  cases x
  · exact nwp_false hc (h2 rfl)
  · exact nwp_true hc (h1 rfl)

theorem NPure.call {P : Program} {f : FuncId} {args : List AV} {v : AV} (h : NPure P f args v) {A : Heap} {K : AV → Heap → Prop} (hk : K v A) : NCalls P f args A K :=
  (h A).mono fun v' A' ⟨h1, h2⟩ => by subst h1; subst h2; exact hk

theorem NCalls.go {P : Program} {f : FuncId} {args : List AV} {A : Heap} {K K' : AV → Heap → Prop} (h : NCalls P f args A K) (hk : ∀ v A', K v A' → K' v A') : NCalls P f args A K' := h.mono hk

/-- A function that leaves all blocks alone. -/
theorem NPure.of_body {P : Program} {f : FuncId} {nf : NFn} (hc : compFn P f = some nf) {args : List AV} (hl : args.length ≤ nf.slots) {v : AV}
    (h : ∀ A, nwp P nf.body (retP nf.results fun v' A' => v' = v ∧ A' = A) (fr0 args) A) : NPure P f args v := fun A => .of_body hc hl (h A)

theorem wk_same {A A' : Heap} {v : AV} (h : ∀ b x, A' b = some x → A b = some x) {K : AV → Heap → Prop} (hk : K v A') : ∃ A' v', Wk A v A' v' ∧ K v' A' := ⟨A', v, .sub h, hk⟩

@[simp] theorem Heap.set_same (A : Heap) (b : Nat) (x : Blk) : (A.set b x) b = some x := by simp [Heap.set]
theorem Heap.set_other (A : Heap) {b c : Nat} (x : Blk) (h : c ≠ b) : (A.set b x) c = A c := by simp [Heap.set, h]
theorem Heap.set_set (A : Heap) (b : Nat) (x y : Blk) : (A.set b x).set b y = A.set b y := by
  funext c
  unfold Heap.set
  split <;> rfl
theorem Heap.ne_of {A : Heap} {b c : Nat} {x : Blk} (h : A b = some x) (h' : A c = none) : c ≠ b := by
  intro e
  subst e
  rw [h] at h'
  cases h'
theorem Heap.none_set {A : Heap} {b c : Nat} {x : Blk} (h : (A.set b x) c = none) : c ≠ b ∧ A c = none := by
  unfold Heap.set at h
  split at h
  · cases h
  · rename_i hne; exact ⟨hne, h⟩
theorem Heap.sub_set {A A' : Heap} {b : Nat} {x : Blk} (hb : A b = none) (h : ∀ c y, A' c = some y → A c = some y) : ∀ c y, A' c = some y → (A.set b x) c = some y := by
  intro c y hy
  have := h c y hy
  have hne : c ≠ b := by
    intro e
    subst e
    rw [hb] at this
    cases this
  rw [Heap.set_other _ _ hne]
  exact this

/-! the laws of a step -/
theorem Fr.set_none (f : Fr) (v : AV) : f.set none v = f := rfl
theorem Fr.set_get (f : Fr) (d : Nat) (v : AV) (t : Nat) : (f.set (some d) v) t = if t = d then v else f t := rfl
theorem evalOpd_tmp (f : Fr) (t : Nat) : evalOpd f (.tmp t) = f t := rfl
theorem evalOpd_const (f : Fr) (v : AV) : evalOpd f (.const v) = v := rfl
theorem fr0_zero (v : AV) (l : List AV) : fr0 (v :: l) 0 = v := rfl
theorem fr0_succ (v : AV) (l : List AV) (n : Nat) : fr0 (v :: l) (n + 1) = fr0 l n := rfl
theorem one_bool (b : Bool) : (AV.bool b).one = true := rfl
theorem one_int (k : IntKind) (n : Int) : (AV.int k n).one = true := rfl
theorem one_str (s : List UInt8) : (AV.str s).one = true := rfl
theorem one_nilptr : AV.nilptr.one = true := rfl
theorem one_ptr (b o : Nat) : (AV.ptr b o).one = true := rfl
theorem one_iptr (b : List AV) (o : Nat) : (AV.iptr b o).one = true := rfl
theorem one_nilslice : AV.nilslice.one = true := rfl
theorem one_slice (e b o l : Nat) (c : Cap) : (AV.slice e b o l c).one = true := rfl
theorem one_islice (e : Nat) (b : List AV) (x : Bool) : (AV.islice e b x).one = true := rfl
theorem one_nilmap : AV.nilmap.one = true := rfl
theorem one_map (b : Nat) : (AV.map b).one = true := rfl
theorem one_nilfunc : AV.nilfunc.one = true := rfl
theorem one_func (f : FuncId) (a b : List AV) : (AV.func f a b).one = true := rfl
theorem one_iface (t : TypeId) (v : AV) : (AV.iface t v).one = true := rfl
theorem cells_agg (cs : List AV) : (AV.agg cs).cells = cs := rfl
theorem cells_int (k : IntKind) (n : Int) : (AV.int k n).cells = [.int k n] := rfl
theorem cells_bool (b : Bool) : (AV.bool b).cells = [.bool b] := rfl
theorem cells_str (s : List UInt8) : (AV.str s).cells = [.str s] := rfl
theorem cells_nilslice : AV.nilslice.cells = [.nilslice] := rfl
theorem cells_slice (e b o l : Nat) (c : Cap) : (AV.slice e b o l c).cells = [.slice e b o l c] := rfl
theorem cells_islice (e : Nat) (b : List AV) (x : Bool) : (AV.islice e b x).cells = [.islice e b x] := rfl
theorem cells_ptr (b o : Nat) : (AV.ptr b o).cells = [.ptr b o] := rfl
theorem cells_iptr (b : List AV) (o : Nat) : (AV.iptr b o).cells = [.iptr b o] := rfl
theorem cells_nilptr : AV.nilptr.cells = [.nilptr] := rfl
theorem cells_map (b : Nat) : (AV.map b).cells = [.map b] := rfl
theorem cells_func (f : FuncId) (a b : List AV) : (AV.func f a b).cells = [.func f a b] := rfl
theorem cells_nilfunc : AV.nilfunc.cells = [.nilfunc] := rfl
theorem cells_nilmap : AV.nilmap.cells = [.nilmap] := rfl
theorem cells_iface (t : TypeId) (v : AV) : (AV.iface t v).cells = [.iface t v] := rfl
/-- A value in one cell. -/
theorem cells_one {v : AV} (h : v.one = true) : v.cells = [v] := by cases v <;> first | rfl | (simp [AV.one] at h)

theorem load_ptr {A : Heap} {b : Nat} {cs : List AV} (h : A b = some (.cells cs)) (agg : Option Nat) (off : Nat) : loadAV A agg (.ptr b off) = takeAV agg cs off := by simp only [loadAV, h]
theorem load_iptr (A : Heap) (agg : Option Nat) (cs : List AV) (off : Nat) : loadAV A agg (.iptr cs off) = takeAV agg cs off := rfl
theorem take_none (cs : List AV) (off : Nat) : takeAV none cs off = cs[off]? := rfl
theorem take_some (n : Nat) (cs : List AV) (off : Nat) : takeAV (some n) cs off = if off + n ≤ cs.length then some (.agg ((cs.drop off).take n)) else none := rfl


/-! the laws of the operations -/
def ifSome (o : Option AV) (K : AV → Prop) : Prop :=
  match o with
  | some v => K v
  | none => False
theorem ifSome_some (v : AV) (K : AV → Prop) : ifSome (some v) K = K v := rfl
theorem ifSome_intro {o : Option AV} {v : AV} {K : AV → Prop} (h : o = some v) (hk : K v) : ifSome o K := by rw [h]; exact hk
def ifBool (v : AV) (K : Bool → Prop) : Prop :=
  match v with
  | .bool b => K b
  | _ => False
theorem ifBool_bool (b : Bool) (K : Bool → Prop) : ifBool (.bool b) K = K b := rfl
def ifInt (v : AV) (K : Int → Prop) : Prop :=
  match v with
  | .int _ n => K n
  | _ => False
theorem ifInt_int (k : IntKind) (n : Int) (K : Int → Prop) : ifInt (.int k n) K = K n := rfl
def ifCells (A : Heap) (b : Nat) (K : List AV → Prop) : Prop :=
  match A b with
  | some (.cells cs) => K cs
  | _ => False
theorem ifCells_of {A : Heap} {b : Nat} {cs : List AV} (h : A b = some (.cells cs)) (K : List AV → Prop) : ifCells A b K = K cs := by simp only [ifCells, h]
theorem ifCells_same (A : Heap) (b : Nat) (cs : List AV) (K : List AV → Prop) : ifCells (A.set b (.cells cs)) b K = K cs := ifCells_of (Heap.set_same _ _ _) K
theorem ifCells_other (A : Heap) {b c : Nat} (x : Blk) (K : List AV → Prop) (h : c ≠ b) : ifCells (A.set b x) c K = ifCells A c K := by simp only [ifCells, Heap.set_other _ _ h]
def asRef : AV → Option AV
  | .ptr b o => some (.ptr b o)
  | .iptr cs o => some (.iptr cs o)
  | .func f a b => some (.func f a b)
  | _ => none
theorem asRef_ptr (b o : Nat) : asRef (.ptr b o) = some (.ptr b o) := rfl
theorem asRef_iptr (cs : List AV) (o : Nat) : asRef (.iptr cs o) = some (.iptr cs o) := rfl
theorem asRef_func (f : FuncId) (a b : List AV) : asRef (.func f a b) = some (.func f a b) := rfl
def unAV (op : UnOp) (x : AV) : Option AV := match op, x with
    | .neg, .int k n => some (.int k (k.wrap (0 - n)))
    | .xor, .int k n => some (.int k (k.wrap (BitVec.ofInt k.bits (if k.signed then -1 else k.max) ^^^ BitVec.ofInt k.bits n).toNat))
    | .not, .bool b => some (.bool (!b))
    | _, _ => none
theorem unAV_not (b : Bool) : unAV .not (.bool b) = some (.bool (!b)) := rfl
theorem unAV_neg (k : IntKind) (n : Int) : unAV .neg (.int k n) = some (.int k (k.wrap (0 - n))) := rfl
def convAV (k : IntKind) : AV → Option AV
  | .int _ n => some (.int k (k.wrap n))
  | _ => none
theorem convAV_int (k k' : IntKind) (n : Int) : convAV k (.int k' n) = some (.int k (k.wrap n)) := rfl
def strAV : AV → Option AV
  | .str s => some (.str s)
  | _ => none
theorem strAV_str (s : List UInt8) : strAV (.str s) = some (.str s) := rfl
def fieldAV (off : Nat) : AV → Option AV
  | .ptr b o => some (.ptr b (o + off))
  | .iptr cs o => some (.iptr cs (o + off))
  | _ => none
theorem fieldAV_ptr (off b o : Nat) : fieldAV off (.ptr b o) = some (.ptr b (o + off)) := rfl
theorem fieldAV_iptr (off : Nat) (cs : List AV) (o : Nat) : fieldAV off (.iptr cs o) = some (.iptr cs (o + off)) := rfl
def partAV (agg : Option Nat) (off : Nat) : AV → Option AV
  | .agg cs => takeAV agg cs off
  | _ => none
theorem partAV_agg (agg : Option Nat) (off : Nat) (cs : List AV) : partAV agg off (.agg cs) = takeAV agg cs off := rfl
def idxStr (x : AV) (n : Int) : Option AV := match x with
  | .str s => if 0 ≤ n then (s[n.toNat]?).map fun b => .int .u8 b.toNat else none
  | _ => none
theorem idxStr_str (s : List UInt8) (n : Int) : idxStr (.str s) n = if 0 ≤ n then (s[n.toNat]?).map fun b => .int .u8 b.toNat else none := rfl
def idxArr (agg : Option Nat) (esz len : Nat) (x : AV) (n : Int) : Option AV := match x with
  | .agg cs => if 0 ≤ n ∧ n < len then takeAV agg cs (n.toNat * esz) else none
  | _ => none
theorem idxArr_agg (agg : Option Nat) (esz len : Nat) (cs : List AV) (n : Int) : idxArr agg esz len (.agg cs) n = if 0 ≤ n ∧ n < len then takeAV agg cs (n.toNat * esz) else none := rfl
def tupAV (i : Nat) : AV → Option AV
  | .tuple vs => vs[i]?
  | _ => none
theorem tupAV_tuple (i : Nat) (vs : List AV) : tupAV i (.tuple vs) = vs[i]? := rfl
def maxAV (x y : AV) : Option AV := match x, y with
    | .int k a, .int k' b => if k = k' then some (.int k (if a < b then b else a)) else none
    | _, _ => none
theorem maxAV_int (k : IntKind) (a b : Int) : maxAV (.int k a) (.int k b) = some (.int k (if a < b then b else a)) := by simp [maxAV]
def minAV (x y : AV) : Option AV := match x, y with
    | .int k a, .int k' b => if k = k' then some (.int k (if b < a then b else a)) else none
    | _, _ => none
theorem minAV_int (k : IntKind) (a b : Int) : minAV (.int k a) (.int k b) = some (.int k (if b < a then b else a)) := by simp [minAV]
def storeN (A : Heap) (K : Heap → Prop) (n : Nat) (x : AV) (vs : List AV) : Prop := match x with
  | .ptr b off => ifCells A b fun cs => off + n ≤ cs.length ∧ K (A.set b (.cells (over cs off vs)))
  | _ => False
theorem storeN_ptr (A : Heap) (K : Heap → Prop) (n b off : Nat) (vs : List AV) : storeN A K n (.ptr b off) vs = ifCells A b fun cs => off + n ≤ cs.length ∧ K (A.set b (.cells (over cs off vs))) := rfl
def callN (P : Program) (A : Heap) (K : AV → Heap → Prop) (args : List AV) : AV → Prop
  | .func f first caps => NCalls P f (first ++ args ++ caps) A K
  | _ => False
theorem callN_func (P : Program) (A : Heap) (K : AV → Heap → Prop) (args : List AV) (f : FuncId) (first caps : List AV) : callN P A K args (.func f first caps) = NCalls P f (first ++ args ++ caps) A K := rfl
def sliceN (A : Heap) (K : AV → Heap → Prop) (e l : Nat) (o : Option (List AV)) : Prop := match o with
  | some cs => ∀ b, A b = none → K (.slice e b 0 l (.eq l)) (A.set b (.cells cs))
  | none => False
theorem sliceN_some (A : Heap) (K : AV → Heap → Prop) (e l : Nat) (cs : List AV) : sliceN A K e l (some cs) = ∀ b, A b = none → K (.slice e b 0 l (.eq l)) (A.set b (.cells cs)) := rfl
def makeSliceN (A : Heap) (K : AV → Heap → Prop) (esz bytes : Nat) (z : List AV) (l c : AV) : Prop := match l, c with
    | .int .i64 l, .int .i64 c => 0 ≤ l ∧ l ≤ c ∧ c * bytes ≤ 140737488355328 ∧ c ≤ 4611686018427387904 ∧
      ∀ b, A b = none → K (.slice esz b 0 l.toNat (.eq c.toNat)) (A.set b (.cells (List.replicate c.toNat z).flatten))
    | _, _ => False
theorem makeSliceN_int (A : Heap) (K : AV → Heap → Prop) (esz bytes : Nat) (z : List AV) (l c : Int) : makeSliceN A K esz bytes z (.int .i64 l) (.int .i64 c) = (0 ≤ l ∧ l ≤ c ∧ c * bytes ≤ 140737488355328 ∧ c ≤ 4611686018427387904 ∧
      ∀ b, A b = none → K (.slice esz b 0 l.toNat (.eq c.toNat)) (A.set b (.cells (List.replicate c.toNat z).flatten))) := rfl

theorem guarded_none (f : Fr) (a b : Prop) : guarded f none a b = a := rfl
/-- What hangs on a value; 'no' where the value was not made. -/
def ifGuard (v : AV) (K : Bool → Prop) (no : Prop) : Prop :=
  match v with
  | .bool b => K b
  | .tuple [] => no
  | _ => False
theorem ifGuard_bool (b : Bool) (K : Bool → Prop) (no : Prop) : ifGuard (.bool b) K no = ifBool (.bool b) K := rfl
theorem ifGuard_undef (K : Bool → Prop) (no : Prop) : ifGuard (.tuple []) K no = no := rfl
theorem guarded_some (f : Fr) (s : Nat) (w : Bool) (a b : Prop) : guarded f (some (s, w)) a b = ifGuard (f s) (fun x => if x = w then a else b) b := by
  unfold guarded ifGuard gval
  simp only
  cases f s with
  | bool x =>
    simp only
    by_cases h : x = w
    · simp [h]
    · simp [h]
  | tuple vs => cases vs <;> rfl
  | _ => rfl

theorem nrun_nil (P : Program) (Q : Fr → Heap → Prop) (f : Fr) (A : Heap) : nrun P Q [] f A = Q f A := rfl
theorem nrun_plain (P : Program) (Q : Fr → Heap → Prop) (i : Nat) (d : Option Nat) (op : NOp) (is : List NI) (f : Fr) (A : Heap) : nrun P Q (⟨i, d, none, op, []⟩ :: is) f A = cop P (evalOpd f) A (fun v A' => nrun P Q is (f.set d v) A') op := by
  simp only [nrun, guarded_none, reAll, true_and]
theorem nrun_guard (P : Program) (Q : Fr → Heap → Prop) (i s : Nat) (w : Bool) (d : Option Nat) (op : NOp) (is : List NI) (f : Fr) (A : Heap) : nrun P Q (⟨i, d, some (s, w), op, []⟩ :: is) f A = ifGuard (f s) (fun x => if x = w then cop P (evalOpd f) A (fun v A' => nrun P Q is (f.set d v) A') op else nrun P Q is (f.set d .undef) A) (nrun P Q is (f.set d .undef) A) := by
  simp only [nrun, guarded_some, reAll, true_and]
theorem nrun_plain_re (P : Program) (Q : Fr → Heap → Prop) (i : Nat) (d : Option Nat) (op : NOp) (r : Option Nat × Option (Nat × Bool) × NOp) (re : List (Option Nat × Option (Nat × Bool) × NOp)) (is : List NI) (f : Fr) (A : Heap) : nrun P Q (⟨i, d, none, op, r :: re⟩ :: is) f A = cop P (evalOpd f) A (fun v A' => reAll A' (f.set d v) (r :: re) ∧ nrun P Q is (f.set d v) A') op := by
  simp only [nrun, guarded_none]
theorem nrun_guard_re (P : Program) (Q : Fr → Heap → Prop) (i s : Nat) (w : Bool) (d : Option Nat) (op : NOp) (r : Option Nat × Option (Nat × Bool) × NOp) (re : List (Option Nat × Option (Nat × Bool) × NOp)) (is : List NI) (f : Fr) (A : Heap) : nrun P Q (⟨i, d, some (s, w), op, r :: re⟩ :: is) f A = ifGuard (f s) (fun x => if x = w then cop P (evalOpd f) A (fun v A' => reAll A' (f.set d v) (r :: re) ∧ nrun P Q is (f.set d v) A') op else reAll A (f.set d .undef) (r :: re) ∧ nrun P Q is (f.set d .undef) A) (reAll A (f.set d .undef) (r :: re) ∧ nrun P Q is (f.set d .undef) A) := by
  simp only [nrun, guarded_some]

section
variable (P : Program) (σ : Opd → AV) (A : Heap) (K : AV → Heap → Prop)
theorem cop_move (x : Opd) : cop P σ A K (.move x) = ifSome (some (σ x)) (K · A) := rfl
theorem cop_pick (c a b : Opd) : cop P σ A K (.pick c a b) = ifBool (σ c) fun t => ifSome (some (if t then σ a else σ b)) (K · A) := by
  simp only [cop, qop, ifBool]; cases σ c <;> rfl
theorem cop_zero (cs : List AV) : cop P σ A K (.zero cs) = ∀ b, A b = none → K (.ptr b 0) (A.set b (.cells cs)) := rfl
theorem cop_box (x : Opd) : cop P σ A K (.box x) = ((σ x).cells.all AV.one = true ∧ ∀ b, A b = none → K (.ptr b 0) (A.set b (.cells (σ x).cells))) := rfl
theorem cop_build (z : List AV) (ps : List (Nat × Nat × Opd)) : cop P σ A K (.build z ps) = ifSome ((fillAV z (ps.map fun (o, n, x) => (o, n, σ x))).map .agg) (K · A) := rfl
theorem cop_buildSlice (e l : Nat) (z : List AV) (ps : List (Nat × Nat × Opd)) : cop P σ A K (.buildSlice e l z ps) = sliceN A K e l (fillAV z (ps.map fun (o, n, x) => (o, n, σ x))) := by
  simp only [cop, sliceN]; cases fillAV z (ps.map fun (o, n, x) => (o, n, σ x)) <;> rfl
theorem cop_load (agg : Option Nat) (x : Opd) : cop P σ A K (.load agg x) = ifSome (loadAV A agg (σ x)) (K · A) := rfl
theorem cop_store (n : Nat) (x v : Opd) : cop P σ A K (.store n x v) = ((σ v).cells.length = n ∧ (σ v).cells.all AV.one = true ∧ storeN A (K .undef) n (σ x) (σ v).cells) := by
  simp only [cop, storeN, ifCells]; cases σ x <;> simp only []
  rename_i b off
  cases A b with
  | none => rfl
  | some x => cases x <;> rfl
theorem cop_nilCheck (x : Opd) : cop P σ A K (.nilCheck x) = ifSome (asRef (σ x)) (K · A) := by simp only [cop, qop]; cases σ x <;> rfl
theorem cop_bin (op : BinOp) (k : Option EqK) (x y : Opd) : cop P σ A K (.bin op k x y) = ifSome (binAV op k (σ x) (σ y)) (K · A) := rfl
theorem cop_un (op : UnOp) (x : Opd) : cop P σ A K (.un op x) = ifSome (unAV op (σ x)) (K · A) := rfl
theorem cop_convInt (k : IntKind) (x : Opd) : cop P σ A K (.convInt k x) = ifSome (convAV k (σ x)) (K · A) := by simp only [cop, qop]; cases σ x <;> rfl
theorem cop_convSame (x : Opd) : cop P σ A K (.convSame x) = ifSome (strAV (σ x)) (K · A) := by simp only [cop, qop]; cases σ x <;> rfl
theorem cop_fieldAddr (off : Nat) (x : Opd) : cop P σ A K (.fieldAddr off x) = ifSome (fieldAV off (σ x)) (K · A) := by simp only [cop, qop]; cases σ x <;> rfl
theorem cop_field (agg : Option Nat) (off : Nat) (x : Opd) : cop P σ A K (.field agg off x) = ifSome (partAV agg off (σ x)) (K · A) := by simp only [cop, qop]; cases σ x <;> rfl
theorem cop_indexAddr (esz : Nat) (arr : Option Nat) (x i : Opd) : cop P σ A K (.indexAddr esz arr x i) = ifInt (σ i) fun n => ifSome (indexAddrAV esz arr (σ x) n) (K · A) := by simp only [cop, qop, ifInt]; cases σ i <;> rfl
theorem cop_indexStr (x i : Opd) : cop P σ A K (.indexStr x i) = ifInt (σ i) fun n => ifSome (idxStr (σ x) n) (K · A) := by simp only [cop, qop, ifInt]; cases σ i <;> cases σ x <;> rfl
theorem cop_indexArr (agg : Option Nat) (esz len : Nat) (x i : Opd) : cop P σ A K (.indexArr agg esz len x i) = ifInt (σ i) fun n => ifSome (idxArr agg esz len (σ x) n) (K · A) := by simp only [cop, qop, ifInt]; cases σ i <;> cases σ x <;> rfl
theorem cop_slice (esz : Option Nat) (x : Opd) (lo hi mx : Option Opd) : cop P σ A K (.slice esz x lo hi mx) = ifSome (sliceAV esz (lo.map σ) (hi.map σ) (mx.map σ) (σ x)) (K · A) := rfl
theorem cop_lookup (str : Bool) (z : AV) (ok : Bool) (x k : Opd) : cop P σ A K (.lookup str z ok x k) = ifSome (if keyOk str (σ k) = false then none else (mapFind A (σ k) (σ x)).map (lookRes z ok)) (K · A) := rfl
theorem cop_mapUpdate (str : Bool) (m k v : Opd) : cop P σ A K (.mapUpdate str m k v) = (keyOk str (σ k) = true ∧ mapUpd A (K .undef) (σ k) (σ v) (σ m)) := rfl
theorem cop_makeMap : cop P σ A K .makeMap = ∀ b, A b = none → K (.map b) (A.set b (.map [] 0)) := rfl
theorem cop_makeSlice (e b : Nat) (z : List AV) (l c : Opd) : cop P σ A K (.makeSlice e b z l c) = makeSliceN A K e b z (σ l) (σ c) := rfl
theorem cop_makeFunc (f : FuncId) (a c : List Opd) : cop P σ A K (.makeFunc f a c) = ifSome (some (.func f (a.map σ) (c.map σ))) (K · A) := rfl
theorem cop_makeIface (t : TypeId) (x : Opd) : cop P σ A K (.makeIface t x) = ifSome (some (.iface t (σ x))) (K · A) := rfl
theorem cop_extract (x : Opd) (i : Nat) : cop P σ A K (.extract x i) = ifSome (tupAV i (σ x)) (K · A) := by simp only [cop, qop]; cases σ x <;> rfl
theorem cop_len (k : LenK) (x : Opd) : cop P σ A K (.len k x) = ifSome ((lenAV A k (σ x)).map fun (n : Nat) => AV.int .i64 n) (K · A) := rfl
theorem cop_append (str : Bool) (e b : Nat) (s x : Opd) : cop P σ A K (.append str e b s x) = appendN A K str e b (σ s) (σ x) := rfl
theorem cop_max (x y : Opd) : cop P σ A K (.max x y) = ifSome (maxAV (σ x) (σ y)) (K · A) := rfl
theorem cop_min (x y : Opd) : cop P σ A K (.min x y) = ifSome (minAV (σ x) (σ y)) (K · A) := rfl
theorem cop_call (f : Opd) (args : List Opd) : cop P σ A K (.call f args) = callN P A K (args.map σ) (σ f) := by simp only [cop]; cases σ f <;> rfl
end

theorem load_same (A : Heap) (b : Nat) (cs : List AV) (agg : Option Nat) (off : Nat) : loadAV (A.set b (.cells cs)) agg (.ptr b off) = takeAV agg cs off := load_ptr (Heap.set_same _ _ _) agg off
theorem load_other (A : Heap) {b c : Nat} (x : Blk) (agg : Option Nat) (off : Nat) (h : c ≠ b) : loadAV (A.set b x) agg (.ptr c off) = loadAV A agg (.ptr c off) := by simp only [loadAV, Heap.set_other _ _ h]

theorem len_str (A : Heap) (s : List UInt8) : lenAV A .str (.str s) = some s.length := rfl
theorem len_nil (A : Heap) : lenAV A .slice .nilslice = some 0 := rfl
theorem len_slice (A : Heap) (e b o n : Nat) (c : Cap) : lenAV A .slice (.slice e b o n c) = some n := rfl
theorem len_islice (A : Heap) (e : Nat) (es : List AV) (x : Bool) : lenAV A .slice (.islice e es x) = some es.length := rfl

/-! sums and comparisons -/
section
variable (ek : Option EqK) (k : IntKind) (a b : Int) (s t : List UInt8)
theorem bin_add : binAV .add ek (.int k a) (.int k b) = some (.int k (k.wrap (a + b))) := by simp [binAV, binInt]
theorem bin_sub : binAV .sub ek (.int k a) (.int k b) = some (.int k (k.wrap (a - b))) := by simp [binAV, binInt]
theorem bin_mul : binAV .mul ek (.int k a) (.int k b) = some (.int k (k.wrap (a * b))) := by simp [binAV, binInt]
theorem bin_eql : binAV .eql ek (.int k a) (.int k b) = some (.bool (decide (a = b))) := by simp [binAV, binInt]
theorem bin_neq : binAV .neq ek (.int k a) (.int k b) = some (.bool (!decide (a = b))) := by simp [binAV, binInt]
theorem bin_lss : binAV .lss ek (.int k a) (.int k b) = some (.bool (decide (a < b))) := by simp [binAV, binInt]
theorem bin_leq : binAV .leq ek (.int k a) (.int k b) = some (.bool (decide (a ≤ b))) := by simp [binAV, binInt]
theorem bin_gtr : binAV .gtr ek (.int k a) (.int k b) = some (.bool (decide (b < a))) := by simp [binAV, binInt]
theorem bin_geq : binAV .geq ek (.int k a) (.int k b) = some (.bool (decide (b ≤ a))) := by simp [binAV, binInt]
theorem bin_quo (h : b ≠ 0) : binAV .quo ek (.int k a) (.int k b) = some (.int k (k.wrap (a.tdiv b))) := by simp [binAV, binInt, h]
theorem bin_rem (h : b ≠ 0) : binAV .rem ek (.int k a) (.int k b) = some (.int k (a.tmod b)) := by simp [binAV, binInt, h]
theorem bin_seql : binAV .eql ek (.str s) (.str t) = some (.bool (decide (s = t))) := by simp [binAV, binStr]
theorem bin_sneq : binAV .neq ek (.str s) (.str t) = some (.bool (!decide (s = t))) := by simp [binAV, binStr]
theorem bin_beql (x y : Bool) : binAV .eql (some .bool) (.bool x) (.bool y) = some (.bool (x == y)) := by simp [binAV, eqAV]
theorem bin_bneq (x y : Bool) : binAV .neq (some .bool) (.bool x) (.bool y) = some (.bool (!(x == y))) := by simp [binAV, eqAV]
theorem bin_struct_eql (fs : List (Nat × EqK0)) (xs ys : List AV) : binAV .eql (some (.struct fs)) (.agg xs) (.agg ys) = (eqFields xs ys fs).map .bool := by simp [binAV, eqAV]
theorem bin_struct_neq (fs : List (Nat × EqK0)) (xs ys : List AV) : binAV .neq (some (.struct fs)) (.agg xs) (.agg ys) = (eqFields xs ys fs).map fun r => .bool (!r) := by simp [binAV, eqAV]
end

/-- (So that what follows is left alone, be the value new or not.) -/
def mark {α : Type} (a : α) : α := a
theorem mark_eq {α : Type} (a : α) : mark a = a := Eq.symm (Eq.trans (Eq.symm (by simp only [mark])) (Eq.refl a))
@[congr] theorem ifSome_congr {o o' : Option AV} {K : AV → Prop} (h : mark o = o') : ifSome o K = ifSome o' K := by simp only [mark] at *; subst_vars; rfl --h]
@[congr] theorem ifGuard_congr {o o' : AV} {K : Bool → Prop} {no : Prop} (h : mark o = o') : ifGuard o K no = ifGuard o' K no := by simp only [mark] at *; subst_vars; rfl
@[congr] theorem ifBool_congr {o o' : AV} {K : Bool → Prop} (h : mark o = o') : ifBool o K = ifBool o' K := by simp only [mark] at *; subst_vars; rfl --h]
@[congr] theorem ifInt_congr {o o' : AV} {K : Int → Prop} (h : mark o = o') : ifInt o K = ifInt o' K := by simp only [mark] at *; subst_vars; rfl --h]
@[congr] theorem ifCells_congr {A A' : Heap} {b b' : Nat} {K : List AV → Prop} (h : mark b = b') (hA : A = A') : ifCells A b K = ifCells A' b' K := by simp only [mark] at *; subst_vars; rfl --h, hA]
@[congr] theorem storeN_congr {A : Heap} {K : Heap → Prop} {n : Nat} {x x' : AV} {vs vs' : List AV} (h : mark x = x') (h' : vs = vs') : storeN A K n x vs = storeN A K n x' vs' := by simp only [mark] at *; subst_vars; rfl --h, h']
@[congr] theorem callN_congr {P : Program} {A : Heap} {K : AV → Heap → Prop} {args args' : List AV} {x x' : AV} (h : mark x = x') (h' : args = args') : callN P A K args x = callN P A K args' x' := by simp only [mark] at *; subst_vars; rfl --h, h']
@[congr] theorem NCalls_congr {P : Program} {f : FuncId} {A : Heap} {K : AV → Heap → Prop} {args args' : List AV} (h' : mark args = args') : NCalls P f args A K = NCalls P f args' A K := by simp only [mark] at *; subst_vars; rfl --h']
@[congr] theorem sliceN_congr {A : Heap} {K : AV → Heap → Prop} {e l : Nat} {o o' : Option (List AV)} (h : mark o = o') : sliceN A K e l o = sliceN A K e l o' := by simp only [mark] at *; subst_vars; rfl --h]
@[congr] theorem makeSliceN_congr {A : Heap} {K : AV → Heap → Prop} {e b : Nat} {z : List AV} {l c l' c' : AV} (h : mark l = l') (h' : c = c') : makeSliceN A K e b z l c = makeSliceN A K e b z l' c' := by simp only [mark] at *; subst_vars; rfl --h, h']
@[congr] theorem appendN_congr {A : Heap} {K : AV → Heap → Prop} {st : Bool} {e b : Nat} {s x s' x' : AV} (h : mark s = s') (h' : x = x') : appendN A K st e b s x = appendN A K st e b s' x' := by simp only [mark] at *; subst_vars; rfl --h, h']
@[congr] theorem mapUpd_congr {A : Heap} {K : Heap → Prop} {k v m k' v' m' : AV} (h : mark k = k') (h' : v = v') (h'' : m = m') : mapUpd A K k v m = mapUpd A K k' v' m' := by simp only [mark] at *; subst_vars; rfl --h, h', h'']

attribute [go_sem ↓] ifGuard_bool ifGuard_undef evalOpd_tmp evalOpd_const Fr.set_none Fr.set_get nrun_nil nrun_plain nrun_guard nrun_plain_re nrun_guard_re cop_move cop_pick cop_zero cop_box cop_build cop_buildSlice cop_load cop_store cop_nilCheck cop_bin cop_un cop_convInt cop_convSame cop_fieldAddr cop_field cop_indexAddr cop_indexStr cop_indexArr cop_slice cop_lookup cop_mapUpdate cop_makeMap cop_makeSlice cop_makeFunc cop_makeIface cop_extract cop_len cop_append cop_max cop_min cop_call reAll
attribute [go_sem] mark_eq reOne load_iptr take_none take_some fillAV over fr0_zero fr0_succ AV.undef
  ifSome_some ifInt_int asRef_ptr asRef_iptr asRef_func unAV_not unAV_neg convAV_int strAV_str fieldAV_ptr fieldAV_iptr partAV_agg idxStr_str idxArr_agg tupAV_tuple maxAV_int minAV_int storeN_ptr callN_func sliceN_some makeSliceN_int
  one_bool one_int one_str one_nilptr one_ptr one_iptr one_nilslice one_slice one_islice one_nilmap one_map one_nilfunc one_func one_iface
  cells_agg cells_int cells_bool cells_str cells_nilslice cells_slice cells_islice cells_ptr cells_iptr cells_nilptr cells_map cells_func cells_nilfunc cells_nilmap cells_iface
  len_str len_nil len_slice len_islice
  bin_add bin_sub bin_mul bin_eql bin_neq bin_lss bin_leq bin_gtr bin_geq bin_seql bin_sneq bin_beql bin_bneq bin_struct_eql bin_struct_neq eqFields eq0
attribute [go_sem] List.all_cons List.all_nil Bool.and_true Bool.true_and true_and and_true List.length_cons List.length_nil List.take_succ_cons List.take_zero List.drop_succ_cons List.drop_zero List.getElem?_cons_zero List.getElem?_cons_succ List.map_cons List.map_nil List.append_nil List.nil_append List.cons_append if_true if_false Option.map_some Option.map_none Nat.zero_add Nat.add_zero

end Go.NL
