/- The data of layers 25 and 26, and how they are seen. -/
import Derived.Test.YtdeboephmbaihaaGreatNU
set_option linter.unusedVariables false
namespace Go.NL

structure Atom where
  kind : Int
  n : Int
  s : List UInt8
  deriving DecidableEq

/-- A part of a program; na, nt, nl: is the list nil, if it is empty? -/
inductive Core where
  | mk (kind x n : Int) (s : List UInt8) (na : Bool) (a : List Atom) (nt : Bool) (tags : List Int) (nl : Bool) (l : List Core)

def Core.kind : Core → Int | .mk k _ _ _ _ _ _ _ _ _ => k
def Core.x : Core → Int | .mk _ x _ _ _ _ _ _ _ _ => x
def Core.n : Core → Int | .mk _ _ n _ _ _ _ _ _ _ => n
def Core.s : Core → List UInt8 | .mk _ _ _ s _ _ _ _ _ _ => s
def Core.a : Core → List Atom | .mk _ _ _ _ _ a _ _ _ _ => a
def Core.tags : Core → List Int | .mk _ _ _ _ _ _ _ t _ _ => t
def Core.l : Core → List Core | .mk _ _ _ _ _ _ _ _ _ l => l

/-- A list that never changes. -/
def encSl (nil : Bool) (esz : Nat) (es : List AV) : AV := if nil = true ∧ es = [] then .nilslice else .islice esz es false

def encInt (n : Int) : AV := .int .i64 n
def Atom.enc (a : Atom) : AV := .agg [.int .i64 a.kind, .int .i64 a.n, .str a.s]

mutual
def Core.enc : Core → AV
  | .mk k x n s na a nt t nl l => .agg [.int .i64 k, .int .i64 x, .int .i64 n, .str s, encSl na 3 (a.map Atom.enc), encSl nt 1 (t.map encInt), encSl nl 7 (Core.encs l)]
def Core.encs : List Core → List AV
  | [] => []
  | c :: cs => c.enc :: Core.encs cs
end

theorem Core.encs_eq : ∀ l : List Core, Core.encs l = l.map Core.enc
  | [] => rfl
  | c :: cs => by rw [Core.encs, Core.encs_eq cs]; rfl

@[go_sem] theorem lenAV_encSl (A : Heap) (b : Bool) (e : Nat) (es : List AV) : lenAV A .slice (encSl b e es) = some es.length := by
  unfold encSl
  split
  · rename_i h; rw [h.2]; rfl
  · rfl

theorem indexAddr_encSl (b : Bool) (e : Nat) (es : List AV) (i : Nat) (v : AV) (h : es[i]? = some v) : indexAddrAV e none (encSl b e es) (i : Int) = some (.iptr v.cells 0) := by
  unfold encSl
  rw [if_neg (by rintro ⟨_, rfl⟩; simp at h)]
  simp [indexAddrAV, h]

theorem srcAV_encSl (A : Heap) (b : Bool) (e : Nat) (es : List AV) : srcAV A false e (encSl b e es) = some (es.length, es.flatMap AV.cells) := by
  unfold encSl
  split
  · rename_i h; rw [h.2]; rfl
  · simp [srcAV]

theorem oneSl (b : Bool) (e : Nat) (es : List AV) : (encSl b e es).one = true := by
  unfold encSl
  split <;> rfl

attribute [go_sem] oneSl

theorem Atom.enc_cells (a : Atom) : a.enc.cells = [.int .i64 a.kind, .int .i64 a.n, .str a.s] := rfl
theorem Core.enc_cells : ∀ c : Core, c.enc.cells.length = 7
  | .mk .. => rfl

mutual
/-- How many parts there are. -/
def Core.size : Core → Nat
  | .mk _ _ _ _ _ _ _ _ _ l => 1 + Core.sizes l
def Core.sizes : List Core → Nat
  | [] => 0
  | c :: cs => c.size + Core.sizes cs
end

mutual
/-- How many functions. -/
def Core.funs : Core → Nat
  | .mk k _ _ _ _ _ _ _ _ l => (if k = 7 then 1 else 0) + Core.funsL l
def Core.funsL : List Core → Nat
  | [] => 0
  | c :: cs => c.funs + Core.funsL cs
end
mutual
/-- Has a CoreRec too many? -/
def Core.wide : Core → Bool
  | .mk k _ _ _ _ _ _ _ _ l => (decide (k = 8) && decide (1024 < (l.length : Int) - 1)) || Core.wideL l
def Core.wideL : List Core → Bool
  | [] => false
  | c :: cs => c.wide || Core.wideL cs
end

end Go.NL
