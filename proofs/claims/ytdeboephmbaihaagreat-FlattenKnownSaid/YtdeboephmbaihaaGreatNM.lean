/- THE N-LOGIC, part M: code; how it is made out of a function's text. -/
import Derived.Test.YtdeboephmbaihaaGreatNL
set_option linter.unusedVariables false
set_option linter.unusedSimpArgs false
namespace Go.NL

/-- An instruction: where it stands in its region, where its value goes, the slot that it hangs on, what it does; which values that were read must still be the same behind it (slots, operations, what those hang on). -/
structure NI where
  at_ : Nat
  dst : Option Nat
  guard : Option (Nat × Bool)
  op : NOp
  re : List (Option Nat × Option (Nat × Bool) × NOp)

inductive NC where
  | skip
  | region (is : List NI) (more : List (List NI))
  | seq (a b : NC)
  | cond (c : Opd) (a b : NC)
  | block (id : Nat) (c : NC)
  | loop (c : NC)
  | exit (id : Nat)
  | ret

/-- Does the operation leave memory alone? -/
def NOp.quiet : NOp → Bool
  | .zero _ | .box _ | .buildSlice _ _ _ _ | .store _ _ _ | .mapUpdate _ _ _ _ | .makeMap | .makeSlice _ _ _ _ _ | .append _ _ _ _ _ | .call _ _ => false
  | _ => true

/-- Does it read memory that may change? -/
def NOp.reads : NOp → Bool
  | .load _ _ | .lookup _ _ _ _ _ | .len .map _ | .bytesStr _ => true
  | _ => false

def NOp.opds : NOp → List Opd
  | .move x | .box x | .load _ x | .nilCheck x | .un _ x | .convInt _ x | .convSame x | .bytesStr x | .fieldAddr _ x | .field _ _ x | .makeIface _ x | .extract x _ | .len _ x => [x]
  | .pick c a b => [c, a, b]
  | .zero _ | .makeMap => []
  | .build _ ps | .buildSlice _ _ _ ps => ps.map (·.2.2)
  | .store _ x v => [x, v]
  | .bin _ _ x y | .max x y | .min x y => [x, y]
  | .indexAddr _ _ x i | .indexStr x i | .indexArr _ _ _ x i => [x, i]
  | .slice _ x lo hi mx => x :: (lo.toList ++ hi.toList ++ mx.toList)
  | .lookup _ _ _ x k => [x, k]
  | .mapUpdate _ m k v => [m, k, v]
  | .makeSlice _ _ _ l c => [l, c]
  | .makeFunc _ f c => f ++ c
  | .append _ _ _ s x => [s, x]
  | .call f args => f :: args

def Opd.slots : Opd → List Nat
  | .tmp t => [t]
  | .const _ => []

/-- The slots that an operation looks at, and the one that it hangs on. -/
def slotsOf (P : Program) (ops : Array Oper) (i : Nat) : List Nat :=
  match ops[i]? with
  | none => []
  | some o => (match compOp P o.op with | some nop => nop.opds.flatMap Opd.slots | none => []) ++
    (match o.guard with
     | some (g, _) => ((ops[g]?).bind (·.dst)).toList
     | none => [])

def compGuard (ops : Array Oper) : Option (Nat × Bool) → Option (Option (Nat × Bool))
  | none => some none
  | some (j, want) => ((ops[j]?).bind (·.dst)).map fun d => some (d, want)

def compNI (P : Program) (m : Nat) (ops : Array Oper) (i : Nat) (re : List (Option Nat × Option (Nat × Bool) × NOp)) : Option NI :=
  match ops[i]? with
  | none => none
  | some o =>
    match compOp P o.op, compGuard ops o.guard with
    | some nop, some g => if o.dst.all (· < m) then some ⟨i, o.dst, g, nop, re⟩ else none
    | _, _ => none

/-- The operations of a region that are done in one order: those that write, and those that write a slot which others read ahead of them. -/
def chainOf (P : Program) (ops : Array Oper) (B : Array Nat) (j : Nat) : Bool :=
  match ops[j]? with
  | none => false
  | some o =>
    match compOp P o.op with
    | none => true
    | some nop => !nop.quiet || (List.range ops.size).any fun i => i != j && !(B.getD i 0).testBit j && (match o.dst with | some d => (slotsOf P ops i).contains d | none => false)

/-- All orders of some operations that go with what must stand ahead of what. -/
def linExts (B : Array Nat) : Nat → List Nat → List (List Nat)
  | 0, _ => [[]]
  | n + 1, l => if l.isEmpty then [[]] else (l.filter fun c => l.all fun d => d == c || !(B.getD c 0).testBit d).flatMap fun c => (linExts B n (l.erase c)).map (c :: ·)

def bitsIn (b : Nat) (n : Nat) (l : List Nat) : Bool := (List.range n).all fun j => !b.testBit j || l.contains j

/-- Quiet operations that may be done now, as many as there are. -/
def quietNow (B : Array Nat) (n : Nat) (chain : Nat → Bool) : Nat → List Nat → List Nat
  | 0, done => done
  | k + 1, done => match (List.range n).find? fun i => !done.contains i && !chain i && bitsIn (B.getD i 0) n done with
    | some i => quietNow B n chain k (done ++ [i])
    | none => done

def orderOf (B : Array Nat) (n : Nat) (chain : Nat → Bool) : List Nat → List Nat → List Nat
  | [], done => quietNow B n chain n done
  | c :: cs, done => orderOf B n chain cs (quietNow B n chain n done ++ [c])

/-- What is read again behind a chain's operation c, those in 'pre' having been done. -/
def reOf (P : Program) (ops : Array Oper) (B : Array Nat) (chain : Nat → Bool) (pre : List Nat) (c : Nat) : Option (List (Option Nat × Option (Nat × Bool) × NOp)) :=
  if chain c then
    (pre.filter fun q => !chain q && !(B.getD c 0).testBit q).foldr (fun q acc => do
      let acc ← acc
      let o ← ops[q]?
      let nop ← compOp P o.op
      let g ← compGuard ops o.guard
      if nop.reads then some ((o.dst, g, nop) :: acc) else some acc) (some [])
  else some []

def compSeq (P : Program) (m : Nat) (ops : Array Oper) (B : Array Nat) (chain : Nat → Bool) : List Nat → List Nat → Option (List NI)
  | _, [] => some []
  | pre, i :: rest => do
    let re ← reOf P ops B chain pre i
    let ni ← compNI P m ops i re
    let r ← compSeq P m ops B chain (pre ++ [i]) rest
    some (ni :: r)

/-- Is an order of a region fit to stand for all orders with the same chain? -/
def orderOk (ops : Array Oper) (B : Array Nat) (chain : Nat → Bool) : List Nat → List Nat → Bool
  | pre, [] => (List.range ops.size).all fun i => pre.contains i
  | pre, i :: rest => decide (i < ops.size) && !pre.contains i && bitsIn (B.getD i 0) ops.size pre &&
      (!chain i || rest.all fun q => chain q || (i :: rest).any fun c => chain c && (B.getD q 0).testBit c) && orderOk ops B chain (pre ++ [i]) rest

def dstOf (ops : Array Oper) (i : Nat) : Option Nat := (ops[i]?).bind (·.dst)

/-- What holds of a region, whatever the order. -/
def regionOk (P : Program) (ops : Array Oper) (B : Array Nat) (chain : Nat → Bool) : Bool :=
  (List.range ops.size).all fun i =>
    let es := ((ops[i]?).map (·.after.toList)).getD []
    -- what must stand ahead
    (es.all fun e => !Region.binds .any e || decide (e.on < i)) &&
    ((List.range ops.size).all fun j => !(B.getD i 0).testBit j || es.any fun e => Region.binds .any e && (e.on == j || (B.getD e.on 0).testBit j)) &&
    -- slots
    (match dstOf ops i with
     | some d => chain i || !(slotsOf P ops i).contains d
     | none => true) &&
    (List.range ops.size).all fun j => j == i ||
      (match dstOf ops j with
       | some d => dstOf ops i != some d && (!(slotsOf P ops i).contains d || (B.getD i 0).testBit j || ((B.getD j 0).testBit i && chain j))
       | none => true)

def compRegion (P : Program) (m : Nat) (ops : Array Oper) (draw : Bool) : Option NC :=
  if draw then
    let B := Region.before ops
    let chain := chainOf P ops B
    let cs := (List.range ops.size).filter chain
    let exts := linExts B ops.size cs
    let orders := exts.map fun co => orderOf B ops.size chain co []
    if P.follows .mixedOrders && regionOk P ops B chain && orders.all (orderOk ops B chain []) && (exts.zip orders).all (fun (e, o) => o.filter chain == e) then
      match orders.mapM fun o => compSeq P m ops B chain [] o with
      | some (s :: ss) => some (.region s ss)
      | _ => none
    else none
  else ((List.range ops.size).mapM fun i => compNI P m ops i []).map fun l => .region l []

def compCode (P : Program) (m : Nat) : Code → Option NC
  | .skip | .label _ => some .skip
  | .region _ ops draw => compRegion P m ops draw
  | .seq a b => match compCode P m a, compCode P m b with
    | some a, some b => some (.seq a b)
    | _, _ => none
  | .cond c a b => match compOpd c, compCode P m a, compCode P m b with
    | some c, some a, some b => some (.cond c a b)
    | _, _, _ => none
  | .block id c => (compCode P m c).map (.block id)
  | .loop c => (compCode P m c).map .loop
  | .exit id => some (.exit id)
  | .ret => some .ret
  | _ => none

/-- A function: how many slots, its results (slots, or cells with what type they have), its code. -/
inductive NRes where
  | slot (t : Nat)
  | cell (t : Nat) (agg : Option Nat)

structure NFn where
  nargs : Nat
  slots : Nat
  results : List NRes
  body : NC

def compRes (P : Program) : ResultVar → Option NRes
  | .tmp t => some (.slot t)
  | .cell a t => (aggOf P t).map (.cell a)

def compFn (P : Program) (f : FuncId) : Option NFn :=
  match P.funcs[f]? with
  | none => none
  | some fn => match fn.body with
    | none => none
    | some c => match fn.results.toList.mapM (compRes P), compCode P fn.ntmps c with
      | some rs, some b => if enters P f then some ⟨fn.params.size + fn.nfree, fn.ntmps, rs, b⟩ else none
      | _, _ => none

/-! ## what code does -/

abbrev Fr := Nat → AV

def Fr.set (f : Fr) (d : Option Nat) (v : AV) : Fr :=
  match d with
  | some d => fun t => if t = d then v else f t
  | none => f

/-- A value that was read is still the same. -/
def reOne (A : Heap) (f : Fr) (d : Option Nat) (op : NOp) : Prop :=
  match d with
  | some d => qop A (evalOpd f) op = some (f d)
  | none => (qop A (evalOpd f) op).isSome = true

/-- Whether what hangs on a value is wanted: a value that was not made wants nothing. -/
def gval (v : AV) (want : Bool) : Option Bool :=
  match v with
  | .bool b => some (decide (b = want))
  | .tuple [] => some false
  | _ => none

def reAll (A : Heap) (f : Fr) : List (Option Nat × Option (Nat × Bool) × NOp) → Prop
  | [] => True
  | (d, g, op) :: r => (match g with
      | some (s, want) => (match gval (f s) want with | some true => reOne A f d op | some false => True | none => False)
      | none => reOne A f d op) ∧ reAll A f r

/-- What hangs on a slot. -/
def guarded (f : Fr) (g : Option (Nat × Bool)) (yes no : Prop) : Prop :=
  match g with
  | none => yes
  | some (s, want) => match gval (f s) want with
    | some true => yes
    | some false => no
    | none => False

def nrun (P : Program) (Q : Fr → Heap → Prop) : List NI → Fr → Heap → Prop
  | [], f, A => Q f A
  | i :: is, f, A => guarded f i.guard
      (cop P (evalOpd f) A (fun v A' => reAll A' (f.set i.dst v) i.re ∧ nrun P Q is (f.set i.dst v) A') i.op)
      (reAll A (f.set i.dst .undef) i.re ∧ nrun P Q is (f.set i.dst .undef) A)

inductive Ex where
  | normal
  | exit (id : Nat)
  | ret

abbrev Post := Ex → Fr → Heap → Prop

def thenP (K : Fr → Heap → Prop) (Q : Post) : Post
  | .normal, f, A => K f A
  | e, f, A => Q e f A

def blockP (id : Nat) (Q : Post) : Post
  | .exit id', f, A => if id' = id then Q .normal f A else Q (.exit id') f A
  | e, f, A => Q e f A

def nloop (body : Post → Fr → Heap → Prop) (Q : Post) : Nat → Fr → Heap → Prop
  | 0, _, _ => False
  | n + 1, f, A => body (thenP (nloop body Q n) Q) f A

def nwp (P : Program) : NC → Post → Fr → Heap → Prop
  | .skip, Q, f, A => Q .normal f A
  | .region is more, Q, f, A => nrun P (Q .normal) is f A ∧ ∀ x ∈ more, nrun P (Q .normal) x f A
  | .seq a b, Q, f, A => nwp P a (thenP (nwp P b Q) Q) f A
  | .cond c a b, Q, f, A => match evalOpd f c with
    | .bool true => nwp P a Q f A
    | .bool false => nwp P b Q f A
    | _ => False
  | .block id c, Q, f, A => nwp P c (blockP id Q) f A
  | .loop c, Q, f, A => ∃ n, nloop (nwp P c) Q n f A
  | .exit id, Q, f, A => Q (.exit id) f A
  | .ret, Q, f, A => Q .ret f A

end Go.NL
