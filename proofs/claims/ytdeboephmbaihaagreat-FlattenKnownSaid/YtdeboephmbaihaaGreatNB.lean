/- THE N-LOGIC, part B: operations, with what the program's tables say laid into them. -/
import Derived.Test.YtdeboephmbaihaaGreatNA
namespace Go.NL

inductive Opd where
  | tmp (t : Nat)
  | const (v : AV)

def evalOpd (f : Nat → AV) : Opd → AV
  | .tmp t => f t
  | .const v => v

def simpleAV : Value → Option AV
  | .bool b => some (.bool b)
  | .int k n => some (.int k n)
  | .string s => some (.str s.data.toList)
  | .pointer none => some .nilptr
  | .slice none 0 0 => some .nilslice
  | .map none => some .nilmap
  | .nilFunc => some .nilfunc
  | .nilIface => some .nilIface
  | .func (.func f) a b => if a.size = 0 ∧ b.size = 0 then some (.func f [] []) else none
  | _ => none

def constAV : Value → Option AV
  | .agg cs => (cs.toList.mapM simpleAV).map .agg
  | v => simpleAV v

theorem simpleAV_rel {g : G} {V : Value} {v : AV} (h : simpleAV V = some v) : Rel g v V ∧ v.one = true := by
  unfold simpleAV at h
  split at h <;> first | (cases h; exact ⟨by constructor, rfl⟩) | skip
  · split at h
    · rename_i a b hab
      cases h
      obtain ⟨ha, hb⟩ := hab
      refine ⟨.func _ [] [] _ _ (by simp [ha]) (by simp [hb]) (fun i h => by simp at h) (fun i h => by simp at h), rfl⟩
    · cases h
  · cases h

theorem simples_rel {g : G} : ∀ {Vs : List Value} {vs : List AV}, Vs.mapM simpleAV = some vs → RelL g vs Vs.toArray ∧ ∀ v ∈ vs, v.one = true
  | [], vs, h => by simp at h; subst h; exact ⟨.nil, by simp⟩
  | V :: Vs, vs, h => by
    simp only [List.mapM_cons, Option.bind_eq_bind, Option.bind_eq_some_iff, Option.pure_def, Option.some.injEq] at h
    obtain ⟨v, hv, ws, hw, rfl⟩ := h
    obtain ⟨h1, h2⟩ := simples_rel (g := g) hw
    have := simpleAV_rel (g := g) hv
    exact ⟨.cons this.1 h1, by intro x hx; cases hx with | head => exact this.2 | tail _ hx => exact h2 x hx⟩

theorem constAV_rel {g : G} {V : Value} {v : AV} (h : constAV V = some v) : Rel g v V := by
  unfold constAV at h
  split at h
  · simp only [Option.map_eq_some_iff] at h
    obtain ⟨vs, hv, rfl⟩ := h
    obtain ⟨h1, h2⟩ := simples_rel (g := g) hv
    exact RelL.agg (by simpa using h1) h2
  · exact (simpleAV_rel h).1

/-- The cells of a value that is known whole. -/
def constCells (V : Value) : Option (List AV) := V.cells.toList.mapM simpleAV

def compOpd : Operand → Option Opd
  | .tmp t => some (.tmp t)
  | .const v => (constAV v).map .const
  | .func f => some (.const (.func f [] []))
  | .global _ => none

/-- How values of a type are compared. -/
inductive EqK0 where
  | bool | int | str
inductive EqK where
  | bool | int | str | ptr | slice | map | func | iface
  | struct (fs : List (Nat × EqK0))

def eqk0 (P : Program) (t : TypeId) : Option EqK0 :=
  match P.underlying t with
  | some .bool => some .bool
  | some (.int _) => some .int
  | some .string => some .str
  | _ => none

def eqk (P : Program) (t : TypeId) : Option EqK :=
  match P.underlying t with
  | some .bool => some .bool
  | some (.int _) => some .int
  | some .string => some .str
  | some (.pointer _) => some .ptr
  | some (.slice _) => some .slice
  | some (.map _ _) => some .map
  | some (.func _ _ _) => some .func
  | some (.interface _) => some .iface
  | some (.struct fs) =>
    if P.stoodInHeld t || P.eqGuardType P.depth t || fs.toList.any (fun f => f.name == "_") then none
    else (fs.toList.mapM fun f => (eqk0 P f.type).map fun k => (f.offset, k)).map .struct
  | _ => none

def eq0 : EqK0 → AV → AV → Option Bool
  | .bool, .bool a, .bool b => some (a == b)
  | .int, .int k a, .int k' b => if k = k' then some (decide (a = b)) else none
  | .str, .str a, .str b => some (decide (a = b))
  | _, _, _ => none

def eqFields (xs ys : List AV) : List (Nat × EqK0) → Option Bool
  | [] => some true
  | (o, k) :: fs => match xs[o]?, ys[o]? with
    | some a, some b => match eq0 k a b, eqFields xs ys fs with
      | some r, some s => some (r && s)
      | _, _ => none
    | _, _ => none

def eqAV : EqK → AV → AV → Option Bool
  | .bool, .bool a, .bool b => some (a == b)
  | .int, .int k a, .int k' b => if k = k' then some (decide (a = b)) else none
  | .str, .str a, .str b => some (decide (a = b))
  | .ptr, .nilptr, .nilptr => some true
  | .ptr, .nilptr, .ptr _ _ | .ptr, .nilptr, .iptr _ _ | .ptr, .ptr _ _, .nilptr | .ptr, .iptr _ _, .nilptr => some false
  | .slice, .nilslice, .nilslice => some true
  | .slice, .nilslice, .slice _ _ _ _ _ | .slice, .nilslice, .islice _ _ _ | .slice, .slice _ _ _ _ _, .nilslice | .slice, .islice _ _ _, .nilslice => some false
  | .map, .nilmap, .nilmap => some true
  | .map, .nilmap, .map _ | .map, .map _, .nilmap => some false
  | .func, .nilfunc, .nilfunc => some true
  | .func, .nilfunc, .func _ _ _ | .func, .func _ _ _, .nilfunc => some false
  | .iface, .iface _ _, .nilIface | .iface, .nilIface, .iface _ _ => some false
  | .struct fs, .agg xs, .agg ys => eqFields xs ys fs
  | _, _, _ => none

def binInt (op : BinOp) (k : IntKind) (a b : Int) : Option AV :=
  match op with
  | .add => some (.int k (k.wrap (a + b)))
  | .sub => some (.int k (k.wrap (a - b)))
  | .mul => some (.int k (k.wrap (a * b)))
  | .quo => if b = 0 then none else some (.int k (k.wrap (a.tdiv b)))
  | .rem => if b = 0 then none else some (.int k (a.tmod b))
  | .and => some (.int k (k.wrap (BitVec.ofInt k.bits a &&& BitVec.ofInt k.bits b).toNat))
  | .or => some (.int k (k.wrap (BitVec.ofInt k.bits a ||| BitVec.ofInt k.bits b).toNat))
  | .xor => some (.int k (k.wrap (BitVec.ofInt k.bits a ^^^ BitVec.ofInt k.bits b).toNat))
  | .andNot => some (.int k (k.wrap (BitVec.ofInt k.bits a &&& ~~~(BitVec.ofInt k.bits b)).toNat))
  | .eql => some (.bool (decide (a = b)))
  | .neq => some (.bool (!decide (a = b)))
  | .lss => some (.bool (decide (a < b)))
  | .leq => some (.bool (decide (a ≤ b)))
  | .gtr => some (.bool (decide (b < a)))
  | .geq => some (.bool (decide (b ≤ a)))
  | _ => none

def binStr (op : BinOp) (a b : List UInt8) : Option AV :=
  match op with
  | .add => if a.length + b.length ≤ 4611686018427387904 then some (.str (a ++ b)) else none
  | .eql => some (.bool (decide (a = b)))
  | .neq => some (.bool (!decide (a = b)))
  | .lss => some (.bool (Op.bytesLess a b))
  | .leq => some (.bool (Op.bytesLess a b || decide (a = b)))
  | .gtr => some (.bool (!(Op.bytesLess a b || decide (a = b))))
  | .geq => some (.bool (!Op.bytesLess a b))
  | _ => none

def binAV (op : BinOp) (ek : Option EqK) : AV → AV → Option AV
  | .int k a, .int k' b =>
    match op with
    | .shl => if b < 0 then none else some (.int k (k.wrap (a * 2 ^ (min b.toNat k.bits))))
    | .shr => if b < 0 then none else some (.int k (a.fdiv (2 ^ (min b.toNat k.bits))))
    | op => if k = k' then binInt op k a b else none
  | .str a, .str b => binStr op a b
  | x, y =>
    match op, ek with
    | .eql, some e => (eqAV e x y).map .bool
    | .neq, some e => (eqAV e x y).map fun r => .bool (!r)
    | _, _ => none

/-- A value of a type that takes 'size' cells, out of cells. -/
def takeAV (agg : Option Nat) (cs : List AV) (off : Nat) : Option AV :=
  match agg with
  | some n => if off + n ≤ cs.length then some (.agg ((cs.drop off).take n)) else none
  | none => cs[off]?

def loadAV (A : Heap) (agg : Option Nat) : AV → Option AV
  | .ptr b off => match A b with
    | some (.cells cs) => takeAV agg cs off
    | _ => none
  | .iptr cs off => takeAV agg cs off
  | _ => none

def intOf? : AV → Option Int
  | .int _ n => some n
  | _ => none

/-- A bound of a slice expression. -/
def boundAV (d : Nat) (top : Nat) : Option AV → Option Nat
  | none => some d
  | some (.int _ n) => if 0 ≤ n ∧ n ≤ top then some n.toNat else none
  | some _ => none

def Cap.low : Cap → Nat
  | .ge k | .eq k => k

def Cap.less : Cap → Nat → Cap
  | .ge k, l => .ge (k - l)
  | .eq k, l => .eq (k - l)

/-- x[lo:hi:mx] -/
def sliceAV (esz : Option Nat) (lo hi mx : Option AV) : AV → Option AV
  | .str s => if esz.isSome then none else
    match mx with
    | some _ => none
    | none => match boundAV s.length s.length hi with
      | none => none
      | some h => match boundAV 0 h lo with
        | none => none
        | some l => some (.str ((s.drop l).take (h - l)))
  | .nilslice => if esz.isNone || (mx.isSome && hi.isNone) then none else
    match boundAV 0 0 mx, boundAV 0 0 hi, boundAV 0 0 lo with
    | some _, some _, some _ => some .nilslice
    | _, _, _ => none
  | .slice e b off len cap => if esz ≠ some e then none else
    match mx with
    | none => match boundAV len cap.low hi with
      | none => none
      | some h => match boundAV 0 h lo with
        | none => none
        | some l => some (.slice e b (off + l * e) (h - l) (cap.less l))
    | some _ => match boundAV 0 cap.low mx with
      | none => none
      | some m => match hi with
        | none => none
        | some _ => match boundAV 0 m hi with
          | none => none
          | some h => match boundAV 0 h lo with
            | none => none
            | some l => some (.slice e b (off + l * e) (h - l) (.eq (m - l)))
  | .islice e es exact => if esz ≠ some e then none else
    match mx with
    | none => match boundAV es.length es.length hi with
      | none => none
      | some h => match boundAV 0 h lo with
        | none => none
        | some l => some (.islice e ((es.drop l).take (h - l)) (exact && h == es.length))
    | some _ => match boundAV 0 es.length mx with
      | none => none
      | some m => match hi with
        | none => none
        | some _ => match boundAV 0 m hi with
          | none => none
          | some h => match boundAV 0 h lo with
            | none => none
            | some l => some (.islice e ((es.drop l).take (h - l)) (h == m))
  | _ => none

def indexAddrAV (esz : Nat) (arr : Option Nat) (x : AV) (i : Int) : Option AV :=
  match arr with
  | some n => if 0 ≤ i ∧ i < n then
      match x with
      | .ptr b off => some (.ptr b (off + i.toNat * esz))
      | .iptr cs off => some (.iptr cs (off + i.toNat * esz))
      | _ => none
    else none
  | none => match x with
    | .slice e b off len _ => if e = esz ∧ 0 ≤ i ∧ i < len then some (.ptr b (off + i.toNat * esz)) else none
    | .islice e es _ => if e = esz ∧ 0 ≤ i then (es[i.toNat]?).map fun v => .iptr v.cells 0 else none
    | _ => none

inductive LenK where
  | str | slice | map

def lenAV (A : Heap) : LenK → AV → Option Nat
  | .str, .str s => some s.length
  | .slice, .nilslice => some 0
  | .slice, .slice _ _ _ n _ => some n
  | .slice, .islice _ es _ => some es.length
  | .map, .nilmap => some 0
  | .map, .map b => match A b with
    | some (.map es _) => some es.length
    | _ => none
  | _, _ => none

/-- A byte. -/
def byteAV : AV → Option UInt8
  | .int .u8 n => some (UInt8.ofNat n.toNat)
  | _ => none

/-- The bytes of a slice of bytes. -/
def bytesAV (A : Heap) : AV → Option (List UInt8)
  | .nilslice => some []
  | .slice e b off len _ => if e = 1 then
      match A b with
      | some (.cells cs) => if off + len ≤ cs.length then ((cs.drop off).take len).mapM byteAV else none
      | _ => none
    else none
  | .islice e es _ => if e = 1 then es.mapM byteAV else none
  | _ => none

def keyEq : AV → AV → Option Bool
  | .int k a, .int k' b => if k = k' then some (decide (a = b)) else none
  | .str a, .str b => some (decide (a = b))
  | _, _ => none

/-- The key is of the kind that the map's type asks for. -/
def keyOk : Bool → AV → Bool
  | false, .int _ _ => true
  | true, .str _ => true
  | _, _ => false

def findE (k : AV) : List (AV × AV × Nat) → Nat → Option (Option (Nat × AV))
  | [], _ => some none
  | (k', v, _) :: es, i => match keyEq k k' with
    | some true => some (some (i, v))
    | some false => findE k es (i + 1)
    | none => none

def mapFind (A : Heap) (k : AV) : AV → Option (Option (Nat × AV))
  | .nilmap => some none
  | .map b => match A b with
    | some (.map es _) => findE k es 0
    | _ => none
  | _ => none

def lookRes (z : AV) (ok : Bool) : Option (Nat × AV) → AV
  | some (_, v) => if ok then .tuple [v, .bool true] else v
  | none => if ok then .tuple [z, .bool false] else z

/-- What an append's second argument yields: how many elements, their cells. -/
def srcAV (A : Heap) (str : Bool) (esz : Nat) : AV → Option (Nat × List AV)
  | .nilslice => if str then none else some (0, [])
  | .islice e es _ => if str = false ∧ e = esz then some (es.length, es.flatMap AV.cells) else none
  | .slice e b off len _ => if str = false ∧ e = esz then
      match A b with
      | some (.cells cs) => if off + len * esz ≤ cs.length then some (len, (cs.drop off).take (len * esz)) else none
      | _ => none
    else none
  | .str s => if str = true ∧ esz = 1 then some (s.length, s.map fun b => .int .u8 b.toNat) else none
  | _ => none

/-- cells, with others from a place on. -/
def over (cs : List AV) (off : Nat) (vs : List AV) : List AV := cs.take off ++ vs ++ cs.drop (off + vs.length)

def fillAV (cs : List AV) : List (Nat × Nat × AV) → Option (List AV)
  | [] => some cs
  | (off, size, v) :: ps => if v.cells.length = size ∧ off + size ≤ cs.length ∧ v.cells.all AV.one then fillAV (over cs off v.cells) ps else none

inductive NOp where
  | move (x : Opd)
  | pick (c a b : Opd)
  | zero (cells : List AV)
  | box (x : Opd)
  | build (zero : List AV) (parts : List (Nat × Nat × Opd))
  | buildSlice (esz len : Nat) (zero : List AV) (parts : List (Nat × Nat × Opd))
  | load (agg : Option Nat) (x : Opd)
  | store (size : Nat) (x v : Opd)
  | nilCheck (x : Opd)
  | bin (op : BinOp) (ek : Option EqK) (x y : Opd)
  | un (op : UnOp) (x : Opd)
  | convInt (k : IntKind) (x : Opd)
  | convSame (x : Opd)
  | bytesStr (x : Opd)
  | fieldAddr (off : Nat) (x : Opd)
  | field (agg : Option Nat) (off : Nat) (x : Opd)
  | indexAddr (esz : Nat) (arr : Option Nat) (x i : Opd)
  | indexStr (x i : Opd)
  | indexArr (agg : Option Nat) (esz len : Nat) (x i : Opd)
  | slice (esz : Option Nat) (x : Opd) (lo hi mx : Option Opd)
  | lookup (str : Bool) (zero : AV) (ok : Bool) (x k : Opd)
  | mapUpdate (str : Bool) (m k v : Opd)
  | makeMap
  | makeSlice (esz bytes : Nat) (zero : List AV) (l c : Opd)
  | makeFunc (f : FuncId) (first caps : List Opd)
  | makeIface (t : TypeId) (x : Opd)
  | extract (x : Opd) (i : Nat)
  | len (k : LenK) (x : Opd)
  | append (str : Bool) (esz bytes : Nat) (s x : Opd)
  | max (x y : Opd)
  | min (x y : Opd)
  | call (f : Opd) (args : List Opd)

def aggOf (P : Program) (t : TypeId) : Option (Option Nat) :=
  match P.underlying t, P.info? t with
  | some (.struct _), some i | some (.array _ _), some i => some (some i.size)
  | some _, some _ => some none
  | _, _ => none

def zeroCellsOf (P : Program) (t : TypeId) : Option (List AV) := do
  let i ← P.info? t
  let z ← i.zero
  let cs ← constCells z
  if cs.length = i.size then some cs else none

def compOpds (xs : Array Operand) : Option (List Opd) := xs.toList.mapM compOpd

def optOpd : Option Operand → Option (Option Opd)
  | none => some none
  | some x => (compOpd x).map some

def compParts (P : Program) (place : Nat → Option (Nat × Nat)) (parts : Array (Nat × Operand)) : Option (List (Nat × Nat × Opd)) :=
  parts.toList.mapM fun (i, x) => do
    let (off, size) ← place i
    let y ← compOpd x
    some (off, size, y)

def compCall (P : Program) : Callee → List Operand → List TypeId → Option NOp
  | .builtin .len, [x], [t] => do
    match P.underlying t with
    | some .string => some (.len .str (← compOpd x))
    | some (.slice _) => some (.len .slice (← compOpd x))
    | some (.map _ _) => some (.len .map (← compOpd x))
    | _ => none
  | .builtin .append, [s, x], [t, tx] => do
    let some (.slice e) := P.underlying t | none
    let i ← P.info? e
    let _ ← zeroCellsOf P e
    if i.size = 0 then none
    match P.underlying tx with
    | some (.slice _) => some (.append false i.size i.bytes (← compOpd s) (← compOpd x))
    | some .string => some (.append true i.size i.bytes (← compOpd s) (← compOpd x))
    | _ => none
  | .builtin .max, [x, y], _ => do some (.max (← compOpd x) (← compOpd y))
  | .builtin .min, [x, y], _ => do some (.min (← compOpd x) (← compOpd y))
  | .value x, args, _ => do some (.call (← compOpd x) (← args.mapM compOpd))
  | _, _, _ => none

def compOp (P : Program) : Op → Option NOp
  | .move x | .assign x => (compOpd x).map .move
  | .pick c a b => do some (.pick (← compOpd c) (← compOpd a) (← compOpd b))
  | .alloc t => (zeroCellsOf P t).map .zero
  | .box _ x => (compOpd x).map .box
  | .build t parts => do
    let z ← zeroCellsOf P t
    match P.underlying t with
    | some (.struct fs) =>
      let places ← fs.toList.mapM fun f => (P.info? f.type).map fun i => (f.offset, i.size)
      some (.build z (← compParts P (places[·]?) parts))
    | some (.array _ e) =>
      let i ← P.info? e
      some (.build z (← compParts P (fun j => some (j * i.size, i.size)) parts))
    | _ => none
  | .buildSlice t len parts => do
    let some (.slice e) := P.underlying t | none
    let i ← P.info? e
    let z ← zeroCellsOf P e
    if len * i.size > 2 ^ 24 then none
    if i.size = 0 then none
    some (.buildSlice i.size len ((List.replicate len z).flatten) (← compParts P (fun j => some (j * i.size, i.size)) parts))
  | .load t x => do some (.load (← aggOf P t) (← compOpd x))
  | .store t x v => do
    let i ← P.info? t
    some (.store i.size (← compOpd x) (← compOpd v))
  | .nilCheck x => (compOpd x).map .nilCheck
  | .binOp op t x y _ => do some (.bin op (eqk P t) (← compOpd x) (← compOpd y))
  | .unOp op _ x => (compOpd x).map (.un op)
  | .convert src dst x => do
    match P.underlying src, P.underlying dst with
    | some _, some (.int k) => some (.convInt k (← compOpd x))
    | some .string, some .string => some (.convSame (← compOpd x))
    | some (.slice e), some .string => do
      let some (.int .u8) := P.underlying e | none
      some (.bytesStr (← compOpd x))
    | _, _ => none
  | .fieldAddr s x n => do
    let some (.struct fs) := P.underlying s | none
    let f ← fs[n]?
    let i ← P.info? f.type
    if i.size = 0 then none
    some (.fieldAddr f.offset (← compOpd x))
  | .field s x n => do
    let some (.struct fs) := P.underlying s | none
    let f ← fs[n]?
    some (.field (← aggOf P f.type) f.offset (← compOpd x))
  | .indexAddr t x i => do
    match P.underlying t with
    | some (.slice e) =>
      let j ← P.info? e
      some (.indexAddr j.size none (← compOpd x) (← compOpd i))
    | some (.array n e) =>
      let j ← P.info? e
      some (.indexAddr j.size (some n) (← compOpd x) (← compOpd i))
    | _ => none
  | .index t x i => do
    match P.underlying t with
    | some .string => some (.indexStr (← compOpd x) (← compOpd i))
    | some (.array n e) =>
      let j ← P.info? e
      some (.indexArr (← aggOf P e) j.size n (← compOpd x) (← compOpd i))
    | _ => none
  | .slice t x lo hi mx => do
    match P.underlying t with
    | some .string => some (.slice none (← compOpd x) (← optOpd lo) (← optOpd hi) (← optOpd mx))
    | some (.slice e) => do
      let j ← P.info? e
      some (.slice (some j.size) (← compOpd x) (← optOpd lo) (← optOpd hi) (← optOpd mx))
    | _ => none
  | .lookup t x k ok => do
    let some (.map kt e) := P.underlying t | none
    let z ← (P.info? e).bind (·.zero)
    let zv ← constAV z
    match P.underlying kt with
    | some (.int _) => some (.lookup false zv ok (← compOpd x) (← compOpd k))
    | some .string => some (.lookup true zv ok (← compOpd x) (← compOpd k))
    | _ => none
  | .mapUpdate t m k v | .insert t m k v => do
    let some (.map kt _) := P.underlying t | none
    match P.underlying kt with
    | some (.int _) => some (.mapUpdate false (← compOpd m) (← compOpd k) (← compOpd v))
    | some .string => some (.mapUpdate true (← compOpd m) (← compOpd k) (← compOpd v))
    | _ => none
  | .makeMap _ none => some .makeMap
  | .makeSlice t l c => do
    let some (.slice e) := P.underlying t | none
    let i ← P.info? e
    let z ← zeroCellsOf P e
    if i.size = 0 then none
    some (.makeSlice i.size i.bytes z (← compOpd l) (← compOpd c))
  | .makeFunc (.func f) first caps => do some (.makeFunc f (← compOpds first) (← compOpds caps))
  | .makeInterface t x => do
    if P.concrete t then some (.makeIface t (← compOpd x)) else none
  | .extract x i => do some (.extract (← compOpd x) i)
  | .call c => compCall P c.callee c.args.toList c.argTypes.toList
  | _ => none

/-- Operations that leave memory alone. -/
def qop (A : Heap) (σ : Opd → AV) : NOp → Option AV
  | .move x => some (σ x)
  | .pick c a b => match σ c with
    | .bool c => some (if c then σ a else σ b)
    | _ => none
  | .build z ps => (fillAV z (ps.map fun (o, n, x) => (o, n, σ x))).map .agg
  | .load agg x => loadAV A agg (σ x)
  | .nilCheck x => match σ x with
    | .ptr b o => some (.ptr b o)
    | .iptr cs o => some (.iptr cs o)
    | .func f a b => some (.func f a b)
    | _ => none
  | .bin op ek x y => binAV op ek (σ x) (σ y)
  | .un op x => match op, σ x with
    | .neg, .int k n => some (.int k (k.wrap (0 - n)))
    | .xor, .int k n => some (.int k (k.wrap (BitVec.ofInt k.bits (if k.signed then -1 else k.max) ^^^ BitVec.ofInt k.bits n).toNat))
    | .not, .bool b => some (.bool (!b))
    | _, _ => none
  | .convInt k x => match σ x with
    | .int _ n => some (.int k (k.wrap n))
    | _ => none
  | .convSame x => match σ x with
    | .str s => some (.str s)
    | _ => none
  | .bytesStr x => (bytesAV A (σ x)).map .str
  | .fieldAddr off x => match σ x with
    | .ptr b o => some (.ptr b (o + off))
    | .iptr cs o => some (.iptr cs (o + off))
    | _ => none
  | .field agg off x => match σ x with
    | .agg cs => takeAV agg cs off
    | _ => none
  | .indexAddr esz arr x i => match σ i with
    | .int _ n => indexAddrAV esz arr (σ x) n
    | _ => none
  | .indexStr x i => match σ x, σ i with
    | .str s, .int _ n => if 0 ≤ n then (s[n.toNat]?).map fun b => .int .u8 b.toNat else none
    | _, _ => none
  | .indexArr agg esz len x i => match σ x, σ i with
    | .agg cs, .int _ n => if 0 ≤ n ∧ n < len then takeAV agg cs (n.toNat * esz) else none
    | _, _ => none
  | .slice esz x lo hi mx => sliceAV esz (lo.map σ) (hi.map σ) (mx.map σ) (σ x)
  | .lookup str z ok x k => if keyOk str (σ k) = false then none else
    (mapFind A (σ k) (σ x)).map (lookRes z ok)
  | .makeFunc f first caps => some (.func f (first.map σ) (caps.map σ))
  | .makeIface t x => some (.iface t (σ x))
  | .extract x i => match σ x with
    | .tuple vs => vs[i]?
    | _ => none
  | .len k x => (lenAV A k (σ x)).map fun (n : Nat) => AV.int .i64 n
  | .max x y => match σ x, σ y with
    | .int k a, .int k' b => if k = k' then some (.int k (if a < b then b else a)) else none
    | _, _ => none
  | .min x y => match σ x, σ y with
    | .int k a, .int k' b => if k = k' then some (.int k (if b < a then b else a)) else none
    | _, _ => none
  | _ => none

end Go.NL
