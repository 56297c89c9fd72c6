/- THE N-LOGIC, part A: values seen from outside memory, and how they stand in a world. -/
import Derived.WalkKit
import Derived.Orders
import Derived.KernelRfl
namespace Go.NL

/-- What is known of a slice's capacity. -/
inductive Cap where
  | ge (k : Nat)
  | eq (k : Nat)
  deriving DecidableEq

/-- Values as the N-logic sees them: numbers, texts, and what lies in rows that never change are seen as data; a block that may change is seen by a name. -/
inductive AV where
  | bool (b : Bool)
  | int (k : IntKind) (n : Int)
  | str (s : List UInt8)
  | nilptr
  | ptr (b off : Nat)
  | iptr (cells : List AV) (off : Nat)
  | nilslice
  | slice (esz b off len : Nat) (cap : Cap)
  | islice (esz : Nat) (elems : List AV) (exact : Bool)
  | nilmap
  | map (b : Nat)
  | nilfunc
  | func (f : FuncId) (first caps : List AV)
  | nilIface
  | iface (t : TypeId) (v : AV)
  | agg (cells : List AV)
  | tuple (vs : List AV)
  deriving Inhabited

def AV.undef : AV := .tuple []

def AV.cells : AV → List AV
  | .agg cs => cs
  | v => [v]

/-- A value that lies in one cell. -/
def AV.one : AV → Bool
  | .agg _ | .tuple _ => false
  | _ => true

/-- A block that may change. -/
inductive Blk where
  | cells (cs : List AV)
  | map (es : List (AV × AV × Nat)) (clock : Nat)

abbrev Heap := Nat → Option Blk

def Heap.set (A : Heap) (b : Nat) (x : Blk) : Heap := fun i => if i = b then some x else A i
def Heap.del (A : Heap) (b : Nat) : Heap := fun i => if i = b then none else A i

/-- How names and rows stand in memory: n: how many names were given; mb: of a name the block, its first cell, how many cells the block has; im: what a cell that never changes may be seen as. -/
structure G where
  n : Nat
  mb : Nat → Option (Nat × Nat × Nat)
  im : Nat → Nat → AV → Prop

inductive Rel (g : G) : AV → Value → Prop where
  | bool (b : Bool) : Rel g (.bool b) (.bool b)
  | int (k : IntKind) (n : Int) : Rel g (.int k n) (.int k n)
  | str (s : ByteArray) : Rel g (.str s.data.toList) (.string s)
  | nilptr : Rel g .nilptr (.pointer none)
  | ptr (b off : Nat) (a : Addr) (hb : b < g.n) (h : ∀ cb sh top, g.mb b = some (cb, sh, top) → a = ⟨cb, sh + off, none⟩) : Rel g (.ptr b off) (.pointer (some a))
  | iptr (cells : List AV) (off cb o : Nat) (h : ∀ (j : Nat) (v : AV), cells[j]? = some v → g.im cb (o + j) v) : Rel g (.iptr cells off) (.pointer (some ⟨cb, o + off, none⟩))
  | nilslice : Rel g .nilslice (.slice none 0 0)
  | slice (esz b off len : Nat) (cap : Cap) (a : Addr) (c : Nat) (hb : b < g.n) (hlc : len ≤ c) (hcap : match cap with | .ge k => k ≤ c | .eq k => c = k) (hsp : a.spot = none)
      (h : c ≠ 0 → ∀ cb sh top, g.mb b = some (cb, sh, top) → a = ⟨cb, sh + off, none⟩ ∧ sh + off + c * esz ≤ top) : Rel g (.slice esz b off len cap) (.slice (some a) len c)
  | islice (esz : Nat) (elems : List AV) (exact : Bool) (cb o c : Nat) (hlc : elems.length ≤ c) (hex : exact = true → c = elems.length)
      (h : ∀ (i : Nat) (e : AV), elems[i]? = some e → e.cells.length = esz ∧ ∀ (j : Nat) (v : AV), e.cells[j]? = some v → g.im cb (o + i * esz + j) v) :
      Rel g (.islice esz elems exact) (.slice (some ⟨cb, o, none⟩) elems.length c)
  | nilmap : Rel g .nilmap (.map none)
  | map (b cb : Nat) (hb : b < g.n) (h : ∀ cb' sh top, g.mb b = some (cb', sh, top) → cb' = cb) : Rel g (.map b) (.map (some cb))
  | nilfunc : Rel g .nilfunc .nilFunc
  | func (f : FuncId) (first caps : List AV) (fs cs : Array Value) (hf : first.length = fs.size) (hc : caps.length = cs.size)
      (h1 : ∀ (i : Nat) (h : i < first.length) (h' : i < fs.size), Rel g first[i] fs[i]) (h2 : ∀ (i : Nat) (h : i < caps.length) (h' : i < cs.size), Rel g caps[i] cs[i]) : Rel g (.func f first caps) (.func (.func f) fs cs)
  | nilIface : Rel g .nilIface .nilIface
  | iface (t : TypeId) (v : AV) (V : Value) (h : Rel g v V) : Rel g (.iface t v) (.iface t V)
  | agg (cs : List AV) (vs : Array Value) (hl : cs.length = vs.size) (hone : ∀ c ∈ cs, c.one = true) (h : ∀ (i : Nat) (h : i < cs.length) (h' : i < vs.size), Rel g cs[i] vs[i]) : Rel g (.agg cs) (.agg vs)
  | tuple (cs : List AV) (vs : Array Value) (hl : cs.length = vs.size) (h : ∀ (i : Nat) (h : i < cs.length) (h' : i < vs.size), Rel g cs[i] vs[i]) : Rel g (.tuple cs) (.tuple vs)

/-- Lists of values. -/
structure RelL (g : G) (cs : List AV) (vs : Array Value) : Prop where
  len : cs.length = vs.size
  rel : ∀ (i : Nat) (c : AV) (v : Value), cs[i]? = some c → vs[i]? = some v → Rel g c v

theorem RelL.mk' {g : G} {cs : List AV} {vs : Array Value} (hl : cs.length = vs.size) (h : ∀ (i : Nat) (h : i < cs.length) (h' : i < vs.size), Rel g cs[i] vs[i]) : RelL g cs vs :=
  ⟨hl, fun i c v hc hv => by
    obtain ⟨h1, rfl⟩ := List.getElem?_eq_some_iff.1 hc
    obtain ⟨h2, rfl⟩ := Array.getElem?_eq_some_iff.1 hv
    exact h i h1 h2⟩

theorem RelL.get {g : G} {cs : List AV} {vs : Array Value} (h : RelL g cs vs) (i : Nat) (h1 : i < cs.length) (h2 : i < vs.size) : Rel g cs[i] vs[i] :=
  h.rel i _ _ (List.getElem?_eq_getElem h1) (Array.getElem?_eq_getElem h2)

theorem RelL.get? {g : G} {cs : List AV} {vs : Array Value} (h : RelL g cs vs) {i : Nat} {c : AV} (hc : cs[i]? = some c) : ∃ v, vs[i]? = some v ∧ Rel g c v := by
  obtain ⟨h1, rfl⟩ := List.getElem?_eq_some_iff.1 hc
  have h2 : i < vs.size := h.len ▸ h1
  exact ⟨vs[i], Array.getElem?_eq_getElem h2, h.get i h1 h2⟩

theorem RelL.nil {g : G} : RelL g [] #[] := ⟨rfl, fun i c v h => by simp at h⟩

theorem RelL.cons {g : G} {c : AV} {cs : List AV} {v : Value} {vs : List Value} (h : Rel g c v) (hs : RelL g cs vs.toArray) : RelL g (c :: cs) (v :: vs).toArray :=
  ⟨by have := hs.len; simp at this ⊢; omega, fun i d u hd hu => by
    cases i with
    | zero => simp at hd hu; subst hd; subst hu; exact h
    | succ i => simp at hd hu; exact hs.rel i d u hd (by simpa using hu)⟩

theorem RelL.append {g : G} {cs ds : List AV} {vs us : Array Value} (h : RelL g cs vs) (h' : RelL g ds us) : RelL g (cs ++ ds) (vs ++ us) :=
  ⟨by simp [h.len, h'.len], fun i c v hc hv => by
    by_cases hi : i < cs.length
    · rw [List.getElem?_append_left hi] at hc
      rw [Array.getElem?_append_left (by have := h.len; omega)] at hv
      exact h.rel i c v hc hv
    · rw [List.getElem?_append_right (by omega)] at hc
      rw [Array.getElem?_append_right (by have := h.len; omega)] at hv
      exact h'.rel _ c v hc (by rw [h.len]; exact hv)⟩

theorem rel_agg {g : G} {cs : List AV} {V : Value} (h : Rel g (.agg cs) V) : ∃ vs, V = .agg vs ∧ RelL g cs vs ∧ ∀ c ∈ cs, c.one = true := by
  cases h with
  | agg _ vs hl hone h => exact ⟨vs, rfl, .mk' hl h, hone⟩

theorem rel_tuple {g : G} {cs : List AV} {V : Value} (h : Rel g (.tuple cs) V) : ∃ vs, V = .tuple vs ∧ RelL g cs vs := by
  cases h with
  | tuple _ vs hl h => exact ⟨vs, rfl, .mk' hl h⟩

theorem RelL.agg {g : G} {cs : List AV} {vs : Array Value} (h : RelL g cs vs) (hone : ∀ c ∈ cs, c.one = true) : Rel g (.agg cs) (.agg vs) := .agg _ _ h.len hone fun i h1 h2 => h.get i h1 h2
theorem RelL.tuple {g : G} {cs : List AV} {vs : Array Value} (h : RelL g cs vs) : Rel g (.tuple cs) (.tuple vs) := .tuple _ _ h.len fun i h1 h2 => h.get i h1 h2

theorem rel_undef {g : G} : Rel g .undef undef := RelL.nil.tuple

theorem rel_one {g : G} {v : AV} {V : Value} (h : Rel g v V) (hv : v.one = true) : V.oneCell' = true := by
  cases h <;> first | rfl | simp [AV.one] at hv

/-- The cells of a value. -/
theorem rel_cells {g : G} {v : AV} {V : Value} (h : Rel g v V) : RelL g v.cells V.cells := by
  cases h <;> first
    | exact RelL.cons (vs := []) (by assumption) RelL.nil
    | (simp only [AV.cells, Value.cells]; exact RelL.mk' (by assumption) (by assumption))
    | skip
  all_goals (simp only [AV.cells, Value.cells]; exact RelL.cons (vs := []) (by constructor <;> assumption) RelL.nil)

/-- What a block holds. -/
def BlkOk (g : G) (w : World) (cb sh top : Nat) : Blk → Prop
  | .cells cs => ∃ c e, w.heap[cb]? = some (.cells c e (0, 0)) ∧ c.size = top ∧ sh + cs.length ≤ top ∧ ∀ (i : Nat) (v : AV), cs[i]? = some v → v.one = true ∧ ∃ V, c[sh + i]? = some V ∧ Rel g v V
  | .map es clock => ∃ ces, w.heap[cb]? = some (.map ces clock) ∧ ces.size = es.length ∧
      ∀ (i : Nat) (k v : AV) (born : Nat) (e : MapEntry), es[i]? = some (k, v, born) → ces[i]? = some e → Rel g k e.key ∧ Rel g v e.val ∧ e.born = born

structure Sim (g : G) (A : Heap) (w : World) : Prop where
  fresh : ∀ b, g.n ≤ b → g.mb b = none ∧ A b = none
  blk : ∀ b x, A b = some x → ∃ cb sh top, g.mb b = some (cb, sh, top) ∧ BlkOk g w cb sh top x
  inj : ∀ b b' cb sh top sh' top', g.mb b = some (cb, sh, top) → g.mb b' = some (cb, sh', top') → b = b'
  own : ∀ b cb sh top o v, g.mb b = some (cb, sh, top) → g.im cb o v → o < sh
  lt : ∀ b cb sh top, g.mb b = some (cb, sh, top) → cb < w.heap.size
  imm : ∀ cb o v, g.im cb o v → ∃ V, w.cell? ⟨cb, o, none⟩ = some V ∧ Rel g v V ∧ v.one = true

/-- What a part of a run leaves. -/
structure Ext (g : G) (w : World) (g' : G) (w' : World) : Prop where
  n : g.n ≤ g'.n
  im : ∀ cb o v, g.im cb o v → g'.im cb o v
  mb : ∀ b x, b < g.n → g'.mb b = some x → g.mb b = some x
  new : ∀ b cb sh top, g.n ≤ b → g'.mb b = some (cb, sh, top) → w.heap.size ≤ cb ∨ ∃ b0 sh0 top0, b0 < g.n ∧ g.mb b0 = some (cb, sh0, top0)
  heap : ∀ cb, cb < w.heap.size → (∀ b sh top, g.mb b ≠ some (cb, sh, top)) → w'.heap[cb]? = w.heap[cb]?
  frozen : ∀ a : Addr, a.block < w.heap.size → w'.frozen? a = w.frozen? a
  size : w.heap.size ≤ w'.heap.size
  os : w'.os = w.os
  tape : w'.tape = w.tape
  output : w'.output = w.output


theorem Ext.refl {g : G} {A : Heap} {w : World} (hs : Sim g A w) : Ext g w g w where
  n := Nat.le_refl _
  im _ _ _ h := h
  mb _ _ _ h := h
  new b cb sh top h h' := by
    rw [(hs.fresh b h).1] at h'
    cases h'
  heap _ _ _ := rfl
  frozen _ _ := rfl
  size := Nat.le_refl _
  os := rfl
  tape := rfl
  output := rfl

theorem Ext.trans {g g1 g2 : G} {w w1 w2 : World} (h : Ext g w g1 w1) (h' : Ext g1 w1 g2 w2) : Ext g w g2 w2 where
  n := Nat.le_trans h.n h'.n
  im cb o v hh := h'.im _ _ _ (h.im _ _ _ hh)
  mb b x hb hx := h.mb _ _ hb (h'.mb _ _ (Nat.lt_of_lt_of_le hb h.n) hx)
  new b cb sh top hb hx := by
    rcases Nat.lt_or_ge b g1.n with hlt | hge
    · exact h.new b cb sh top hb (h'.mb _ _ hlt hx)
    · rcases h'.new b cb sh top hge hx with hn | ⟨b0, sh0, top0, hb0, hx0⟩
      · exact .inl (Nat.le_trans h.size hn)
      · rcases Nat.lt_or_ge b0 g.n with hlt | hge0
        · exact .inr ⟨b0, sh0, top0, hlt, h.mb _ _ hlt hx0⟩
        · exact h.new b0 cb sh0 top0 hge0 hx0
  heap cb hlt hno := by
    rw [h'.heap cb (Nat.lt_of_lt_of_le hlt h.size) ?_, h.heap cb hlt hno]
    intro b sh top hb
    rcases Nat.lt_or_ge b g.n with hl | hg
    · exact hno b sh top (h.mb _ _ hl hb)
    · rcases h.new b cb sh top hg hb with hn | ⟨b0, sh0, top0, _, hx0⟩
      · omega
      · exact hno _ _ _ hx0
  frozen a ha := (h'.frozen a (Nat.lt_of_lt_of_le ha h.size)).trans (h.frozen a ha)
  size := Nat.le_trans h.size h'.size
  os := h'.os.trans h.os
  tape := h'.tape.trans h.tape
  output := h'.output.trans h.output

theorem Rel.ext {g g' : G} {v : AV} {V : Value} (h : Rel g v V) (hn : g.n ≤ g'.n) (him : ∀ cb o v, g.im cb o v → g'.im cb o v) (hmb : ∀ b x, b < g.n → g'.mb b = some x → g.mb b = some x) : Rel g' v V := by
  induction h with
  | bool b => exact .bool b
  | int k n => exact .int k n
  | str s => exact .str s
  | nilptr => exact .nilptr
  | ptr b off a hb h => exact .ptr b off a (Nat.lt_of_lt_of_le hb hn) fun cb sh top hx => h cb sh top (hmb _ _ hb hx)
  | iptr cells off cb o h => exact .iptr cells off cb o fun j v hv => him _ _ _ (h j v hv)
  | nilslice => exact .nilslice
  | slice esz b off len cap a c hb hlc hcap hsp h => exact .slice esz b off len cap a c (Nat.lt_of_lt_of_le hb hn) hlc hcap hsp fun hc cb sh top hx => h hc cb sh top (hmb _ _ hb hx)
  | islice esz elems exact cb o c hlc hex h => exact .islice esz elems exact cb o c hlc hex fun i e he => ⟨(h i e he).1, fun j v hv => him _ _ _ ((h i e he).2 j v hv)⟩
  | nilmap => exact .nilmap
  | map b cb hb h => exact .map b cb (Nat.lt_of_lt_of_le hb hn) fun cb' sh top hx => h cb' sh top (hmb _ _ hb hx)
  | nilfunc => exact .nilfunc
  | func f first caps fs cs hf hc h1 h2 ih1 ih2 => exact .func f first caps fs cs hf hc ih1 ih2
  | nilIface => exact .nilIface
  | iface t v V h ih => exact .iface t v V ih
  | agg cs vs hl hone h ih => exact .agg cs vs hl hone ih
  | tuple cs vs hl h ih => exact .tuple cs vs hl ih

theorem Rel.of_ext {g g' : G} {w w' : World} {v : AV} {V : Value} (h : Rel g v V) (e : Ext g w g' w') : Rel g' v V := h.ext e.n e.im e.mb
theorem RelL.of_ext {g g' : G} {w w' : World} {v : List AV} {V : Array Value} (h : RelL g v V) (e : Ext g w g' w') : RelL g' v V := ⟨h.len, fun i c u hc hu => (h.rel i c u hc hu).of_ext e⟩

/-- w' is w but for what block cb holds. -/
structure Upd (w w' : World) (cb : Nat) (o : Obj) : Prop where
  other : ∀ k, k ≠ cb → w'.heap[k]? = w.heap[k]?
  here : w'.heap[cb]? = some o
  size : w'.heap.size = w.heap.size
  os : w'.os = w.os
  tape : w'.tape = w.tape
  output : w'.output = w.output

theorem BlkOk.ext {g g' : G} {w w' : World} {cb sh top : Nat} {x : Blk} (h : BlkOk g w cb sh top x) (hn : g.n ≤ g'.n) (him : ∀ cb o v, g.im cb o v → g'.im cb o v) (hmb : ∀ b x, b < g.n → g'.mb b = some x → g.mb b = some x)
    (hw : w'.heap[cb]? = w.heap[cb]?) : BlkOk g' w' cb sh top x := by
  cases x with
  | cells cs =>
    obtain ⟨c, e, h1, h2, h3, h4⟩ := h
    exact ⟨c, e, hw.trans h1, h2, h3, fun i v hv => let ⟨ho, V, h5, h6⟩ := h4 i v hv; ⟨ho, V, h5, h6.ext hn him hmb⟩⟩
  | map es clock =>
    obtain ⟨ces, h1, h2, h3⟩ := h
    exact ⟨ces, hw.trans h1, h2, fun i k v born e hi he => let ⟨a, b, c⟩ := h3 i k v born e hi he; ⟨a.ext hn him hmb, b.ext hn him hmb, c⟩⟩

theorem cell?_of_heap {w w' : World} {a : Addr} (h : w'.heap[a.block]? = w.heap[a.block]?) : w'.cell? a = w.cell? a := by simp [World.cell?, h]
theorem frozen?_of_heap {w w' : World} {a : Addr} (h : w'.heap[a.block]? = w.heap[a.block]?) : w'.frozen? a = w.frozen? a := by simp [World.frozen?, h]

/-- The cells of a block of the run's own are written: what stands ahead of them stays. -/
theorem Sim.upd {g : G} {A : Heap} {w w' : World} (hs : Sim g A w) {b cb sh top : Nat} {c c' : Array Value} {e : TypeId} {cs' : List AV} (hb : g.mb b = some (cb, sh, top))
    (hc : w.heap[cb]? = some (.cells c e (0, 0))) (hu : Upd w w' cb (.cells c' e (0, 0))) (hlow : ∀ i, i < sh → c'[i]? = c[i]?) (htop : c'.size = top) (hlen : sh + cs'.length ≤ top)
    (hcs : ∀ (i : Nat) (v : AV), cs'[i]? = some v → v.one = true ∧ ∃ V, c'[sh + i]? = some V ∧ Rel g v V) : Sim g (A.set b (.cells cs')) w' ∧ Ext g w g w' := by
  refine ⟨⟨?_, ?_, hs.inj, hs.own, ?_, ?_⟩, ⟨Nat.le_refl _, fun _ _ _ h => h, fun _ _ _ h => h, ?_, ?_, ?_, by rw [hu.size]; exact Nat.le_refl _, hu.os, hu.tape, hu.output⟩⟩
  · intro b' hb'
    refine ⟨(hs.fresh b' hb').1, ?_⟩
    have : b' ≠ b := fun h => by subst h; rw [(hs.fresh b' hb').1] at hb; cases hb
    simp [Heap.set, this, (hs.fresh b' hb').2]
  · intro b' x hx
    by_cases h : b' = b
    · subst h
      simp [Heap.set] at hx
      subst hx
      exact ⟨cb, sh, top, hb, c', e, hu.here, htop, hlen, hcs⟩
    · simp [Heap.set, h] at hx
      obtain ⟨cb', sh', top', hm, hok⟩ := hs.blk b' x hx
      refine ⟨cb', sh', top', hm, hok.ext (Nat.le_refl _) (fun _ _ _ h => h) (fun _ _ _ h => h) (hu.other _ ?_)⟩
      intro he
      subst he
      exact h (hs.inj _ _ _ _ _ _ _ hm hb)
  · intro b' cb' sh' top' hm
    rw [hu.size]
    exact hs.lt _ _ _ _ hm
  · intro cb' o v hv
    obtain ⟨V, h1, h2, h3⟩ := hs.imm cb' o v hv
    refine ⟨V, ?_, h2, h3⟩
    by_cases he : cb' = cb
    · subst he
      have ho := hs.own _ _ _ _ _ _ hb hv
      simp only [World.cell?, hc] at h1
      simp only [World.cell?, hu.here]
      rw [hlow o ho]
      exact h1
    · rw [cell?_of_heap (hu.other _ he)]
      exact h1
  · intro b' cb' sh' top' hg hm
    rw [(hs.fresh b' hg).1] at hm
    cases hm
  · intro cb' _ hno
    exact hu.other _ fun he => hno b sh top (he ▸ hb)
  · intro a _
    by_cases he : a.block = cb
    · have h1 : w'.heap[a.block]? = some (.cells c' e (0, 0)) := he ▸ hu.here
      have h2 : w.heap[a.block]? = some (.cells c e (0, 0)) := he ▸ hc
      simp [World.frozen?, h1, h2]
    · exact frozen?_of_heap (hu.other _ he)

/-- A map of the run's own is written. -/
theorem Sim.updMap {g : G} {A : Heap} {w w' : World} (hs : Sim g A w) {b cb sh top : Nat} {ces ces' : Array MapEntry} {ck ck' : Nat} {es' : List (AV × AV × Nat)} (hb : g.mb b = some (cb, sh, top))
    (hc : w.heap[cb]? = some (.map ces ck)) (hu : Upd w w' cb (.map ces' ck')) (hlen : ces'.size = es'.length)
    (hes : ∀ (i : Nat) (k v : AV) (born : Nat) (e : MapEntry), es'[i]? = some (k, v, born) → ces'[i]? = some e → Rel g k e.key ∧ Rel g v e.val ∧ e.born = born) :
    Sim g (A.set b (.map es' ck')) w' ∧ Ext g w g w' := by
  refine ⟨⟨?_, ?_, hs.inj, hs.own, ?_, ?_⟩, ⟨Nat.le_refl _, fun _ _ _ h => h, fun _ _ _ h => h, ?_, ?_, ?_, by rw [hu.size]; exact Nat.le_refl _, hu.os, hu.tape, hu.output⟩⟩
  · intro b' hb'
    refine ⟨(hs.fresh b' hb').1, ?_⟩
    have : b' ≠ b := fun h => by subst h; rw [(hs.fresh b' hb').1] at hb; cases hb
    simp [Heap.set, this, (hs.fresh b' hb').2]
  · intro b' x hx
    by_cases h : b' = b
    · subst h
      simp [Heap.set] at hx
      subst hx
      exact ⟨cb, sh, top, hb, ces', hu.here, hlen, hes⟩
    · simp [Heap.set, h] at hx
      obtain ⟨cb', sh', top', hm, hok⟩ := hs.blk b' x hx
      refine ⟨cb', sh', top', hm, hok.ext (Nat.le_refl _) (fun _ _ _ h => h) (fun _ _ _ h => h) (hu.other _ ?_)⟩
      intro he
      subst he
      exact h (hs.inj _ _ _ _ _ _ _ hm hb)
  · intro b' cb' sh' top' hm
    rw [hu.size]
    exact hs.lt _ _ _ _ hm
  · intro cb' o v hv
    obtain ⟨V, h1, h2, h3⟩ := hs.imm cb' o v hv
    refine ⟨V, ?_, h2, h3⟩
    by_cases he : cb' = cb
    · subst he
      simp [World.cell?, hc] at h1
    · rw [cell?_of_heap (hu.other _ he)]
      exact h1
  · intro b' cb' sh' top' hg hm
    rw [(hs.fresh b' hg).1] at hm
    cases hm
  · intro cb' _ hno
    exact hu.other _ fun he => hno b sh top (he ▸ hb)
  · intro a _
    by_cases he : a.block = cb
    · have h1 : w'.heap[a.block]? = some (.map ces' ck') := he ▸ hu.here
      have h2 : w.heap[a.block]? = some (.map ces ck) := he ▸ hc
      simp [World.frozen?, h1, h2]
    · exact frozen?_of_heap (hu.other _ he)

theorem heap_new (w : World) (o : Obj) : (w.alloc o).heap[w.heap.size]? = some o := by
  show (w.heap.push o)[w.heap.size]? = some o
  simp
theorem heap_old (w : World) (o : Obj) {k : Nat} (h : k ≠ w.heap.size) : (w.alloc o).heap[k]? = w.heap[k]? := by
  show (w.heap.push o)[k]? = _
  simp only [Array.getElem?_push]
  simp [h]

/-- The standing when one more name is given, to a new block. -/
def G.more (g : G) (cb top : Nat) : G := { g with n := g.n + 1, mb := fun b => if b = g.n then some (cb, 0, top) else g.mb b }

theorem G.more_ext {g : G} (cb top : Nat) : g.n ≤ (g.more cb top).n ∧ (∀ cb' o v, g.im cb' o v → (g.more cb top).im cb' o v) ∧ (∀ b x, b < g.n → (g.more cb top).mb b = some x → g.mb b = some x) := by
  refine ⟨Nat.le_succ _, fun _ _ _ h => h, fun b x hb hx => ?_⟩
  have : b ≠ g.n := by omega
  simpa [G.more, this] using hx

/-- A new block. -/
theorem Sim.alloc {g : G} {A : Heap} {w : World} (hs : Sim g A w) {o : Obj} {x : Blk} {top : Nat} (hfz : ∀ i, (w.alloc o).frozen? ⟨w.heap.size, i, none⟩ = false)
    (hx : BlkOk (g.more w.heap.size top) (w.alloc o) w.heap.size 0 top x) : Sim (g.more w.heap.size top) (A.set g.n x) (w.alloc o) ∧ Ext g w (g.more w.heap.size top) (w.alloc o) := by
  obtain ⟨e1, e2, e3⟩ := G.more_ext (g := g) w.heap.size top
  have hne : ∀ b cb sh t, g.mb b = some (cb, sh, t) → cb ≠ w.heap.size := fun b cb sh t h he => by have := hs.lt _ _ _ _ h; omega
  have hmb : ∀ b cb sh t, (g.more w.heap.size top).mb b = some (cb, sh, t) → (b = g.n ∧ cb = w.heap.size ∧ sh = 0 ∧ t = top) ∨ (b ≠ g.n ∧ g.mb b = some (cb, sh, t)) := by
    intro b cb sh t h
    by_cases hb : b = g.n
    · simp [G.more, hb] at h
      exact .inl ⟨hb, by omega, by omega, by omega⟩
    · simp [G.more, hb] at h
      exact .inr ⟨hb, h⟩
  refine ⟨⟨?_, ?_, ?_, ?_, ?_, ?_⟩, ⟨e1, e2, e3, ?_, ?_, ?_, by simp, rfl, rfl, rfl⟩⟩
  · intro b hb
    have hb : g.n + 1 ≤ b := hb
    have h1 : b ≠ g.n := by omega
    have h2 := hs.fresh b (by omega)
    simp [G.more, Heap.set, h1, h2]
  · intro b y hy
    by_cases hb : b = g.n
    · subst hb
      simp [Heap.set] at hy
      subst hy
      exact ⟨w.heap.size, 0, top, by simp [G.more], hx⟩
    · simp [Heap.set, hb] at hy
      obtain ⟨cb, sh, t, hm, hok⟩ := hs.blk b y hy
      exact ⟨cb, sh, t, by simp [G.more, hb, hm], hok.ext e1 e2 e3 (heap_old w o (hne _ _ _ _ hm))⟩
  · intro b b' cb sh t sh' t' h h'
    rcases hmb _ _ _ _ h with ⟨h1, h2, _⟩ | ⟨h1, h2⟩ <;> rcases hmb _ _ _ _ h' with ⟨h3, h4, _⟩ | ⟨h3, h4⟩
    · omega
    · exact absurd h2 (hne _ _ _ _ h4)
    · exact absurd h4 (hne _ _ _ _ h2)
    · exact hs.inj _ _ _ _ _ _ _ h2 h4
  · intro b cb sh t o' v h hv
    rcases hmb _ _ _ _ h with ⟨h1, h2, _⟩ | ⟨h1, h2⟩
    · obtain ⟨V, hV, _⟩ := hs.imm _ _ _ hv
      have := World.block_lt_of_cell? _ _ hV
      simp at this
      omega
    · exact hs.own _ _ _ _ _ _ h2 hv
  · intro b cb sh t h
    rcases hmb _ _ _ _ h with ⟨h1, h2, _⟩ | ⟨h1, h2⟩
    · simp [h2]
    · have := hs.lt _ _ _ _ h2
      simp
      omega
  · intro cb o' v hv
    obtain ⟨V, hV, hR, h1⟩ := hs.imm _ _ _ hv
    refine ⟨V, ?_, hR.ext e1 e2 e3, h1⟩
    have := World.block_lt_of_cell? _ _ hV
    simp at this
    rw [cell?_of_heap (heap_old w o (by show cb ≠ _; omega))]
    exact hV
  · intro b cb sh t hb h
    rcases hmb _ _ _ _ h with ⟨h1, h2, _⟩ | ⟨h1, h2⟩
    · exact .inl (by omega)
    · rw [(hs.fresh b hb).1] at h2; cases h2
  · intro cb hlt _
    exact heap_old w o (by omega)
  · intro a _
    by_cases ha : a.block = w.heap.size
    · have hold : w.frozen? a = false := by
        have : w.heap[a.block]? = none := by rw [ha]; simp
        simp [World.frozen?, this]
      rw [hold]
      have := hfz a.off
      simpa [World.frozen?, ha] using this
    · exact frozen?_of_heap (heap_old w o ha)

theorem Sim.drew {g : G} {A : Heap} {w : World} (hs : Sim g A w) : Sim g A w.drew ∧ Ext g w g w.drew := by
  refine ⟨⟨hs.fresh, ?_, hs.inj, hs.own, hs.lt, hs.imm⟩, ⟨Nat.le_refl _, fun _ _ _ h => h, fun _ _ _ h => h, ?_, fun _ _ _ => rfl, fun _ _ => rfl, Nat.le_refl _, rfl, rfl, rfl⟩⟩
  · intro b x hx
    obtain ⟨cb, sh, top, h1, h2⟩ := hs.blk b x hx
    exact ⟨cb, sh, top, h1, h2.ext (Nat.le_refl _) (fun _ _ _ h => h) (fun _ _ _ h => h) rfl⟩
  · intro b cb sh t hb h
    rw [(hs.fresh b hb).1] at h; cases h

/-- Blocks may be forgotten. -/
theorem Sim.sub {g : G} {A A' : Heap} {w : World} (hs : Sim g A w) (h : ∀ b x, A' b = some x → A b = some x) : Sim g A' w :=
  ⟨fun b hb => ⟨(hs.fresh b hb).1, by
    cases hA : A' b with
    | none => rfl
    | some x => have := h b x hA; rw [(hs.fresh b hb).2] at this; cases this⟩, fun b x hx => hs.blk b x (h b x hx), hs.inj, hs.own, hs.lt, hs.imm⟩

end Go.NL
