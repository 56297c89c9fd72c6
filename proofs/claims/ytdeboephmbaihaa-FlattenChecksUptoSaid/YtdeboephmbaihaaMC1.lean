import Derived.WalkKit
import Derived.Orders
import Derived.KernelRfl
import Derived.Laws.BytesString
import Derived.WalkSpells
import Derived.Deep.AppendSrc
namespace Go.NL
/-- What is known of a slice's capacity. -/
inductive Cap where
  | ge (k : Nat)
  | eq (k : Nat)
  deriving DecidableEq
/-- Values as the N-logic sees them: numbers, texts, and what lies in rows that never change are seen as data; a block that may change is seen by a name. -/
inductive AV where
  | bool (b : Bool)
  | int (k : IntKind) (n : Int)
  | str (s : List UInt8)
  | nilptr
  | ptr (b off : Nat)
  | iptr (cells : List AV) (off : Nat)
  | nilslice
  | slice (esz b off len : Nat) (cap : Cap)
  | islice (esz : Nat) (elems : List AV) (exact : Bool)
  | nilmap
  | map (b : Nat)
  | nilfunc
  | func (f : FuncId) (first caps : List AV)
  | nilIface
  | iface (t : TypeId) (v : AV)
  | agg (cells : List AV)
  | tuple (vs : List AV)
  deriving Inhabited
def AV.undef : AV := .tuple []
def AV.cells : AV → List AV
  | .agg cs => cs
  | v => [v]
/-- A value that lies in one cell. -/
def AV.one : AV → Bool
  | .agg _ | .tuple _ => false
  | _ => true
/-- A block that may change. -/
inductive Blk where
  | cells (cs : List AV)
  | map (es : List (AV × AV × Nat)) (clock : Nat)
abbrev Heap := Nat → Option Blk
def Heap.set (A : Heap) (b : Nat) (x : Blk) : Heap := fun i => if i = b then some x else A i
def Heap.del (A : Heap) (b : Nat) : Heap := fun i => if i = b then none else A i
/-- How names and rows stand in memory: n: how many names were given; mb: of a name the block, its first cell, how many cells the block has; im: what a cell that never changes may be seen as. -/
structure G where
  n : Nat
  mb : Nat → Option (Nat × Nat × Nat)
  im : Nat → Nat → AV → Prop
inductive Rel (g : G) : AV → Value → Prop where
  | bool (b : Bool) : Rel g (.bool b) (.bool b)
  | int (k : IntKind) (n : Int) : Rel g (.int k n) (.int k n)
  | str (s : ByteArray) : Rel g (.str s.data.toList) (.string s)
  | nilptr : Rel g .nilptr (.pointer none)
  | ptr (b off : Nat) (a : Addr) (hb : b < g.n) (h : ∀ cb sh top, g.mb b = some (cb, sh, top) → a = ⟨cb, sh + off, none⟩) : Rel g (.ptr b off) (.pointer (some a))
  | iptr (cells : List AV) (off cb o : Nat) (h : ∀ (j : Nat) (v : AV), cells[j]? = some v → g.im cb (o + j) v) : Rel g (.iptr cells off) (.pointer (some ⟨cb, o + off, none⟩))
  | nilslice : Rel g .nilslice (.slice none 0 0)
  | slice (esz b off len : Nat) (cap : Cap) (a : Addr) (c : Nat) (hb : b < g.n) (hlc : len ≤ c) (hcap : match cap with | .ge k => k ≤ c | .eq k => c = k) (hsp : a.spot = none)
      (h : c ≠ 0 → ∀ cb sh top, g.mb b = some (cb, sh, top) → a = ⟨cb, sh + off, none⟩ ∧ sh + off + c * esz ≤ top) : Rel g (.slice esz b off len cap) (.slice (some a) len c)
  | islice (esz : Nat) (elems : List AV) (exact : Bool) (cb o c : Nat) (hlc : elems.length ≤ c) (hex : exact = true → c = elems.length)
      (h : ∀ (i : Nat) (e : AV), elems[i]? = some e → e.cells.length = esz ∧ ∀ (j : Nat) (v : AV), e.cells[j]? = some v → g.im cb (o + i * esz + j) v) :
      Rel g (.islice esz elems exact) (.slice (some ⟨cb, o, none⟩) elems.length c)
  | islice0 (esz : Nat) (exact : Bool) (a : Addr) : Rel g (.islice esz [] exact) (.slice (some a) 0 0)
  | nilmap : Rel g .nilmap (.map none)
  | map (b cb : Nat) (hb : b < g.n) (h : ∀ cb' sh top, g.mb b = some (cb', sh, top) → cb' = cb) : Rel g (.map b) (.map (some cb))
  | nilfunc : Rel g .nilfunc .nilFunc
  | func (f : FuncId) (first caps : List AV) (fs cs : Array Value) (hf : first.length = fs.size) (hc : caps.length = cs.size)
      (h1 : ∀ (i : Nat) (h : i < first.length) (h' : i < fs.size), Rel g first[i] fs[i]) (h2 : ∀ (i : Nat) (h : i < caps.length) (h' : i < cs.size), Rel g caps[i] cs[i]) : Rel g (.func f first caps) (.func (.func f) fs cs)
  | nilIface : Rel g .nilIface .nilIface
  | iface (t : TypeId) (v : AV) (V : Value) (h : Rel g v V) : Rel g (.iface t v) (.iface t V)
  | agg (cs : List AV) (vs : Array Value) (hl : cs.length = vs.size) (hone : ∀ c ∈ cs, c.one = true) (h : ∀ (i : Nat) (h : i < cs.length) (h' : i < vs.size), Rel g cs[i] vs[i]) : Rel g (.agg cs) (.agg vs)
  | tuple (cs : List AV) (vs : Array Value) (hl : cs.length = vs.size) (h : ∀ (i : Nat) (h : i < cs.length) (h' : i < vs.size), Rel g cs[i] vs[i]) : Rel g (.tuple cs) (.tuple vs)
/-- Lists of values. -/
structure RelL (g : G) (cs : List AV) (vs : Array Value) : Prop where
  len : cs.length = vs.size
  rel : ∀ (i : Nat) (c : AV) (v : Value), cs[i]? = some c → vs[i]? = some v → Rel g c v
theorem RelL.mk' {g : G} {cs : List AV} {vs : Array Value} (hl : cs.length = vs.size) (h : ∀ (i : Nat) (h : i < cs.length) (h' : i < vs.size), Rel g cs[i] vs[i]) : RelL g cs vs :=
  ⟨hl, fun i c v hc hv => by
    obtain ⟨h1, rfl⟩ := List.getElem?_eq_some_iff.1 hc
    obtain ⟨h2, rfl⟩ := Array.getElem?_eq_some_iff.1 hv
    exact h i h1 h2⟩
theorem RelL.get {g : G} {cs : List AV} {vs : Array Value} (h : RelL g cs vs) (i : Nat) (h1 : i < cs.length) (h2 : i < vs.size) : Rel g cs[i] vs[i] :=
  h.rel i _ _ (List.getElem?_eq_getElem h1) (Array.getElem?_eq_getElem h2)
theorem RelL.get? {g : G} {cs : List AV} {vs : Array Value} (h : RelL g cs vs) {i : Nat} {c : AV} (hc : cs[i]? = some c) : ∃ v, vs[i]? = some v ∧ Rel g c v := by
  obtain ⟨h1, rfl⟩ := List.getElem?_eq_some_iff.1 hc
  have h2 : i < vs.size := h.len ▸ h1
  exact ⟨vs[i], Array.getElem?_eq_getElem h2, h.get i h1 h2⟩
theorem RelL.nil {g : G} : RelL g [] #[] := ⟨rfl, fun i c v h => by simp at h⟩
theorem RelL.cons {g : G} {c : AV} {cs : List AV} {v : Value} {vs : List Value} (h : Rel g c v) (hs : RelL g cs vs.toArray) : RelL g (c :: cs) (v :: vs).toArray :=
  ⟨by have := hs.len; simp at this ⊢; omega, fun i d u hd hu => by
    cases i with
    | zero => simp at hd hu; subst hd; subst hu; exact h
    | succ i => simp at hd hu; exact hs.rel i d u hd (by simpa using hu)⟩
theorem RelL.append {g : G} {cs ds : List AV} {vs us : Array Value} (h : RelL g cs vs) (h' : RelL g ds us) : RelL g (cs ++ ds) (vs ++ us) :=
  ⟨by simp [h.len, h'.len], fun i c v hc hv => by
    by_cases hi : i < cs.length
    · rw [List.getElem?_append_left hi] at hc
      rw [Array.getElem?_append_left (by have := h.len; omega)] at hv
      exact h.rel i c v hc hv
    · rw [List.getElem?_append_right (by omega)] at hc
      rw [Array.getElem?_append_right (by have := h.len; omega)] at hv
      exact h'.rel _ c v hc (by rw [h.len]; exact hv)⟩
theorem rel_agg {g : G} {cs : List AV} {V : Value} (h : Rel g (.agg cs) V) : ∃ vs, V = .agg vs ∧ RelL g cs vs ∧ ∀ c ∈ cs, c.one = true := by
  cases h with
  | agg _ vs hl hone h => exact ⟨vs, rfl, .mk' hl h, hone⟩
theorem rel_tuple {g : G} {cs : List AV} {V : Value} (h : Rel g (.tuple cs) V) : ∃ vs, V = .tuple vs ∧ RelL g cs vs := by
  cases h with
  | tuple _ vs hl h => exact ⟨vs, rfl, .mk' hl h⟩
theorem RelL.agg {g : G} {cs : List AV} {vs : Array Value} (h : RelL g cs vs) (hone : ∀ c ∈ cs, c.one = true) : Rel g (.agg cs) (.agg vs) := .agg _ _ h.len hone fun i h1 h2 => h.get i h1 h2
theorem RelL.tuple {g : G} {cs : List AV} {vs : Array Value} (h : RelL g cs vs) : Rel g (.tuple cs) (.tuple vs) := .tuple _ _ h.len fun i h1 h2 => h.get i h1 h2
theorem rel_islice {g : G} {esz : Nat} {es : List AV} {ex : Bool} {V : Value} (h : Rel g (.islice esz es ex) V) :
    (∃ cb o c, es.length ≤ c ∧ (ex = true → c = es.length) ∧ (∀ (i : Nat) (e : AV), es[i]? = some e → e.cells.length = esz ∧ ∀ (j : Nat) (v : AV), e.cells[j]? = some v → g.im cb (o + i * esz + j) v) ∧ V = .slice (some ⟨cb, o, none⟩) es.length c) ∨
    (es = [] ∧ ∃ a, V = .slice (some a) 0 0) := by
  cases h with
  | islice _ _ _ cb o c h1 h2 h3 => exact .inl ⟨cb, o, c, h1, h2, h3, rfl⟩
  | islice0 _ _ a => exact .inr ⟨rfl, a, rfl⟩
theorem rel_undef {g : G} : Rel g .undef undef := RelL.nil.tuple
theorem rel_one {g : G} {v : AV} {V : Value} (h : Rel g v V) (hv : v.one = true) : V.oneCell' = true := by
  cases h <;> first | rfl | simp [AV.one] at hv
/-- The cells of a value. -/
theorem rel_cells {g : G} {v : AV} {V : Value} (h : Rel g v V) : RelL g v.cells V.cells := by
  cases h <;> first
    | exact RelL.cons (vs := []) (by assumption) RelL.nil
    | (simp only [AV.cells, Value.cells]; exact RelL.mk' (by assumption) (by assumption))
    | skip
  all_goals (simp only [AV.cells, Value.cells]; exact RelL.cons (vs := []) (by constructor <;> assumption) RelL.nil)
/-- What a block holds. -/
def BlkOk (g : G) (w : World) (cb sh top : Nat) : Blk → Prop
  | .cells cs => ∃ c e, w.heap[cb]? = some (.cells c e (0, 0)) ∧ c.size = top ∧ sh + cs.length ≤ top ∧ ∀ (i : Nat) (v : AV), cs[i]? = some v → v.one = true ∧ ∃ V, c[sh + i]? = some V ∧ Rel g v V
  | .map es clock => ∃ ces, w.heap[cb]? = some (.map ces clock) ∧ ces.size = es.length ∧
      ∀ (i : Nat) (k v : AV) (born : Nat) (e : MapEntry), es[i]? = some (k, v, born) → ces[i]? = some e → Rel g k e.key ∧ Rel g v e.val ∧ e.born = born
structure Sim (g : G) (A : Heap) (w : World) : Prop where
  fresh : ∀ b, g.n ≤ b → g.mb b = none ∧ A b = none
  blk : ∀ b x, A b = some x → ∃ cb sh top, g.mb b = some (cb, sh, top) ∧ BlkOk g w cb sh top x
  inj : ∀ b b' cb sh top sh' top', g.mb b = some (cb, sh, top) → g.mb b' = some (cb, sh', top') → b = b'
  own : ∀ b cb sh top o v, g.mb b = some (cb, sh, top) → g.im cb o v → o < sh
  lt : ∀ b cb sh top, g.mb b = some (cb, sh, top) → cb < w.heap.size
  imm : ∀ cb o v, g.im cb o v → ∃ V, w.cell? ⟨cb, o, none⟩ = some V ∧ Rel g v V ∧ v.one = true
/-- What a part of a run leaves. -/
structure Ext (g : G) (w : World) (g' : G) (w' : World) : Prop where
  n : g.n ≤ g'.n
  im : ∀ cb o v, g.im cb o v → g'.im cb o v
  mb : ∀ b x, b < g.n → g'.mb b = some x → g.mb b = some x
  new : ∀ b cb sh top, g.n ≤ b → g'.mb b = some (cb, sh, top) → w.heap.size ≤ cb ∨ ∃ b0 sh0 top0, b0 < g.n ∧ g.mb b0 = some (cb, sh0, top0)
  heap : ∀ cb, cb < w.heap.size → (∀ b sh top, g.mb b ≠ some (cb, sh, top)) → w'.heap[cb]? = w.heap[cb]?
  frozen : ∀ a : Addr, a.block < w.heap.size → w'.frozen? a = w.frozen? a
  size : w.heap.size ≤ w'.heap.size
  os : w'.os = w.os
  tape : w'.tape = w.tape
  output : w'.output = w.output
theorem Ext.refl {g : G} {A : Heap} {w : World} (hs : Sim g A w) : Ext g w g w where
  n := Nat.le_refl _
  im _ _ _ h := h
  mb _ _ _ h := h
  new b cb sh top h h' := by
    rw [(hs.fresh b h).1] at h'
    cases h'
  heap _ _ _ := rfl
  frozen _ _ := rfl
  size := Nat.le_refl _
  os := rfl
  tape := rfl
  output := rfl
theorem Ext.trans {g g1 g2 : G} {w w1 w2 : World} (h : Ext g w g1 w1) (h' : Ext g1 w1 g2 w2) : Ext g w g2 w2 where
  n := Nat.le_trans h.n h'.n
  im cb o v hh := h'.im _ _ _ (h.im _ _ _ hh)
  mb b x hb hx := h.mb _ _ hb (h'.mb _ _ (Nat.lt_of_lt_of_le hb h.n) hx)
  new b cb sh top hb hx := by
    rcases Nat.lt_or_ge b g1.n with hlt | hge
    · exact h.new b cb sh top hb (h'.mb _ _ hlt hx)
    · rcases h'.new b cb sh top hge hx with hn | ⟨b0, sh0, top0, hb0, hx0⟩
      · exact .inl (Nat.le_trans h.size hn)
      · rcases Nat.lt_or_ge b0 g.n with hlt | hge0
        · exact .inr ⟨b0, sh0, top0, hlt, h.mb _ _ hlt hx0⟩
        · exact h.new b0 cb sh0 top0 hge0 hx0
  heap cb hlt hno := by
    rw [h'.heap cb (Nat.lt_of_lt_of_le hlt h.size) ?_, h.heap cb hlt hno]
    intro b sh top hb
    rcases Nat.lt_or_ge b g.n with hl | hg
    · exact hno b sh top (h.mb _ _ hl hb)
    · rcases h.new b cb sh top hg hb with hn | ⟨b0, sh0, top0, _, hx0⟩
      · omega
      · exact hno _ _ _ hx0
  frozen a ha := (h'.frozen a (Nat.lt_of_lt_of_le ha h.size)).trans (h.frozen a ha)
  size := Nat.le_trans h.size h'.size
  os := h'.os.trans h.os
  tape := h'.tape.trans h.tape
  output := h'.output.trans h.output
theorem Rel.ext {g g' : G} {v : AV} {V : Value} (h : Rel g v V) (hn : g.n ≤ g'.n) (him : ∀ cb o v, g.im cb o v → g'.im cb o v) (hmb : ∀ b x, b < g.n → g'.mb b = some x → g.mb b = some x) : Rel g' v V := by
  induction h with
  | bool b => exact .bool b
  | int k n => exact .int k n
  | str s => exact .str s
  | nilptr => exact .nilptr
  | ptr b off a hb h => exact .ptr b off a (Nat.lt_of_lt_of_le hb hn) fun cb sh top hx => h cb sh top (hmb _ _ hb hx)
  | iptr cells off cb o h => exact .iptr cells off cb o fun j v hv => him _ _ _ (h j v hv)
  | nilslice => exact .nilslice
  | slice esz b off len cap a c hb hlc hcap hsp h => exact .slice esz b off len cap a c (Nat.lt_of_lt_of_le hb hn) hlc hcap hsp fun hc cb sh top hx => h hc cb sh top (hmb _ _ hb hx)
  | islice esz elems exact cb o c hlc hex h => exact .islice esz elems exact cb o c hlc hex fun i e he => ⟨(h i e he).1, fun j v hv => him _ _ _ ((h i e he).2 j v hv)⟩
  | islice0 esz exact a => exact .islice0 esz exact a
  | nilmap => exact .nilmap
  | map b cb hb h => exact .map b cb (Nat.lt_of_lt_of_le hb hn) fun cb' sh top hx => h cb' sh top (hmb _ _ hb hx)
  | nilfunc => exact .nilfunc
  | func f first caps fs cs hf hc h1 h2 ih1 ih2 => exact .func f first caps fs cs hf hc ih1 ih2
  | nilIface => exact .nilIface
  | iface t v V h ih => exact .iface t v V ih
  | agg cs vs hl hone h ih => exact .agg cs vs hl hone ih
  | tuple cs vs hl h ih => exact .tuple cs vs hl ih
theorem Rel.of_ext {g g' : G} {w w' : World} {v : AV} {V : Value} (h : Rel g v V) (e : Ext g w g' w') : Rel g' v V := h.ext e.n e.im e.mb
theorem RelL.of_ext {g g' : G} {w w' : World} {v : List AV} {V : Array Value} (h : RelL g v V) (e : Ext g w g' w') : RelL g' v V := ⟨h.len, fun i c u hc hu => (h.rel i c u hc hu).of_ext e⟩
/-- w' is w but for what block cb holds. -/
structure Upd (w w' : World) (cb : Nat) (o : Obj) : Prop where
  other : ∀ k, k ≠ cb → w'.heap[k]? = w.heap[k]?
  here : w'.heap[cb]? = some o
  size : w'.heap.size = w.heap.size
  os : w'.os = w.os
  tape : w'.tape = w.tape
  output : w'.output = w.output
theorem BlkOk.ext {g g' : G} {w w' : World} {cb sh top : Nat} {x : Blk} (h : BlkOk g w cb sh top x) (hn : g.n ≤ g'.n) (him : ∀ cb o v, g.im cb o v → g'.im cb o v) (hmb : ∀ b x, b < g.n → g'.mb b = some x → g.mb b = some x)
    (hw : w'.heap[cb]? = w.heap[cb]?) : BlkOk g' w' cb sh top x := by
  cases x with
  | cells cs =>
    obtain ⟨c, e, h1, h2, h3, h4⟩ := h
    exact ⟨c, e, hw.trans h1, h2, h3, fun i v hv => let ⟨ho, V, h5, h6⟩ := h4 i v hv; ⟨ho, V, h5, h6.ext hn him hmb⟩⟩
  | map es clock =>
    obtain ⟨ces, h1, h2, h3⟩ := h
    exact ⟨ces, hw.trans h1, h2, fun i k v born e hi he => let ⟨a, b, c⟩ := h3 i k v born e hi he; ⟨a.ext hn him hmb, b.ext hn him hmb, c⟩⟩
theorem cell?_of_heap {w w' : World} {a : Addr} (h : w'.heap[a.block]? = w.heap[a.block]?) : w'.cell? a = w.cell? a := by simp [World.cell?, h]
theorem frozen?_of_heap {w w' : World} {a : Addr} (h : w'.heap[a.block]? = w.heap[a.block]?) : w'.frozen? a = w.frozen? a := by simp [World.frozen?, h]
/-- The cells of a block of the run's own are written: what stands ahead of them stays. -/
theorem Sim.upd {g : G} {A : Heap} {w w' : World} (hs : Sim g A w) {b cb sh top : Nat} {c c' : Array Value} {e : TypeId} {cs' : List AV} (hb : g.mb b = some (cb, sh, top))
    (hc : w.heap[cb]? = some (.cells c e (0, 0))) (hu : Upd w w' cb (.cells c' e (0, 0))) (hlow : ∀ i, i < sh → c'[i]? = c[i]?) (htop : c'.size = top) (hlen : sh + cs'.length ≤ top)
    (hcs : ∀ (i : Nat) (v : AV), cs'[i]? = some v → v.one = true ∧ ∃ V, c'[sh + i]? = some V ∧ Rel g v V) : Sim g (A.set b (.cells cs')) w' ∧ Ext g w g w' := by
  refine ⟨⟨?_, ?_, hs.inj, hs.own, ?_, ?_⟩, ⟨Nat.le_refl _, fun _ _ _ h => h, fun _ _ _ h => h, ?_, ?_, ?_, by rw [hu.size]; exact Nat.le_refl _, hu.os, hu.tape, hu.output⟩⟩
  · intro b' hb'
    refine ⟨(hs.fresh b' hb').1, ?_⟩
    have : b' ≠ b := fun h => by subst h; rw [(hs.fresh b' hb').1] at hb; cases hb
    simp [Heap.set, this, (hs.fresh b' hb').2]
  · intro b' x hx
    by_cases h : b' = b
    · subst h
      simp [Heap.set] at hx
      subst hx
      exact ⟨cb, sh, top, hb, c', e, hu.here, htop, hlen, hcs⟩
    · simp [Heap.set, h] at hx
      obtain ⟨cb', sh', top', hm, hok⟩ := hs.blk b' x hx
      refine ⟨cb', sh', top', hm, hok.ext (Nat.le_refl _) (fun _ _ _ h => h) (fun _ _ _ h => h) (hu.other _ ?_)⟩
      intro he
      subst he
      exact h (hs.inj _ _ _ _ _ _ _ hm hb)
  · intro b' cb' sh' top' hm
    rw [hu.size]
    exact hs.lt _ _ _ _ hm
  · intro cb' o v hv
    obtain ⟨V, h1, h2, h3⟩ := hs.imm cb' o v hv
    refine ⟨V, ?_, h2, h3⟩
    by_cases he : cb' = cb
    · subst he
      have ho := hs.own _ _ _ _ _ _ hb hv
      simp only [World.cell?, hc] at h1
      simp only [World.cell?, hu.here]
      rw [hlow o ho]
      exact h1
    · rw [cell?_of_heap (hu.other _ he)]
      exact h1
  · intro b' cb' sh' top' hg hm
    rw [(hs.fresh b' hg).1] at hm
    cases hm
  · intro cb' _ hno
    exact hu.other _ fun he => hno b sh top (he ▸ hb)
  · intro a _
    by_cases he : a.block = cb
    · have h1 : w'.heap[a.block]? = some (.cells c' e (0, 0)) := he ▸ hu.here
      have h2 : w.heap[a.block]? = some (.cells c e (0, 0)) := he ▸ hc
      simp [World.frozen?, h1, h2]
    · exact frozen?_of_heap (hu.other _ he)
/-- A map of the run's own is written. -/
theorem Sim.updMap {g : G} {A : Heap} {w w' : World} (hs : Sim g A w) {b cb sh top : Nat} {ces ces' : Array MapEntry} {ck ck' : Nat} {es' : List (AV × AV × Nat)} (hb : g.mb b = some (cb, sh, top))
    (hc : w.heap[cb]? = some (.map ces ck)) (hu : Upd w w' cb (.map ces' ck')) (hlen : ces'.size = es'.length)
    (hes : ∀ (i : Nat) (k v : AV) (born : Nat) (e : MapEntry), es'[i]? = some (k, v, born) → ces'[i]? = some e → Rel g k e.key ∧ Rel g v e.val ∧ e.born = born) :
    Sim g (A.set b (.map es' ck')) w' ∧ Ext g w g w' := by
  refine ⟨⟨?_, ?_, hs.inj, hs.own, ?_, ?_⟩, ⟨Nat.le_refl _, fun _ _ _ h => h, fun _ _ _ h => h, ?_, ?_, ?_, by rw [hu.size]; exact Nat.le_refl _, hu.os, hu.tape, hu.output⟩⟩
  · intro b' hb'
    refine ⟨(hs.fresh b' hb').1, ?_⟩
    have : b' ≠ b := fun h => by subst h; rw [(hs.fresh b' hb').1] at hb; cases hb
    simp [Heap.set, this, (hs.fresh b' hb').2]
  · intro b' x hx
    by_cases h : b' = b
    · subst h
      simp [Heap.set] at hx
      subst hx
      exact ⟨cb, sh, top, hb, ces', hu.here, hlen, hes⟩
    · simp [Heap.set, h] at hx
      obtain ⟨cb', sh', top', hm, hok⟩ := hs.blk b' x hx
      refine ⟨cb', sh', top', hm, hok.ext (Nat.le_refl _) (fun _ _ _ h => h) (fun _ _ _ h => h) (hu.other _ ?_)⟩
      intro he
      subst he
      exact h (hs.inj _ _ _ _ _ _ _ hm hb)
  · intro b' cb' sh' top' hm
    rw [hu.size]
    exact hs.lt _ _ _ _ hm
  · intro cb' o v hv
    obtain ⟨V, h1, h2, h3⟩ := hs.imm cb' o v hv
    refine ⟨V, ?_, h2, h3⟩
    by_cases he : cb' = cb
    · subst he
      simp [World.cell?, hc] at h1
    · rw [cell?_of_heap (hu.other _ he)]
      exact h1
  · intro b' cb' sh' top' hg hm
    rw [(hs.fresh b' hg).1] at hm
    cases hm
  · intro cb' _ hno
    exact hu.other _ fun he => hno b sh top (he ▸ hb)
  · intro a _
    by_cases he : a.block = cb
    · have h1 : w'.heap[a.block]? = some (.map ces' ck') := he ▸ hu.here
      have h2 : w.heap[a.block]? = some (.map ces ck) := he ▸ hc
      simp [World.frozen?, h1, h2]
    · exact frozen?_of_heap (hu.other _ he)
theorem heap_new (w : World) (o : Obj) : (w.alloc o).heap[w.heap.size]? = some o := by
  show (w.heap.push o)[w.heap.size]? = some o
  simp
theorem heap_old (w : World) (o : Obj) {k : Nat} (h : k ≠ w.heap.size) : (w.alloc o).heap[k]? = w.heap[k]? := by
  show (w.heap.push o)[k]? = _
  simp only [Array.getElem?_push]
  simp [h]
/-- The standing when one more name is given, to a new block. -/
def G.more (g : G) (cb top : Nat) : G := { g with n := g.n + 1, mb := fun b => if b = g.n then some (cb, 0, top) else g.mb b }
theorem G.more_ext {g : G} (cb top : Nat) : g.n ≤ (g.more cb top).n ∧ (∀ cb' o v, g.im cb' o v → (g.more cb top).im cb' o v) ∧ (∀ b x, b < g.n → (g.more cb top).mb b = some x → g.mb b = some x) := by
  refine ⟨Nat.le_succ _, fun _ _ _ h => h, fun b x hb hx => ?_⟩
  have : b ≠ g.n := by omega
  simpa [G.more, this] using hx
/-- A new block. -/
theorem Sim.alloc {g : G} {A : Heap} {w : World} (hs : Sim g A w) {o : Obj} {x : Blk} {top : Nat} (hfz : ∀ i, (w.alloc o).frozen? ⟨w.heap.size, i, none⟩ = false)
    (hx : BlkOk (g.more w.heap.size top) (w.alloc o) w.heap.size 0 top x) : Sim (g.more w.heap.size top) (A.set g.n x) (w.alloc o) ∧ Ext g w (g.more w.heap.size top) (w.alloc o) := by
  obtain ⟨e1, e2, e3⟩ := G.more_ext (g := g) w.heap.size top
  have hne : ∀ b cb sh t, g.mb b = some (cb, sh, t) → cb ≠ w.heap.size := fun b cb sh t h he => by have := hs.lt _ _ _ _ h; omega
  have hmb : ∀ b cb sh t, (g.more w.heap.size top).mb b = some (cb, sh, t) → (b = g.n ∧ cb = w.heap.size ∧ sh = 0 ∧ t = top) ∨ (b ≠ g.n ∧ g.mb b = some (cb, sh, t)) := by
    intro b cb sh t h
    by_cases hb : b = g.n
    · simp [G.more, hb] at h
      exact .inl ⟨hb, by omega, by omega, by omega⟩
    · simp [G.more, hb] at h
      exact .inr ⟨hb, h⟩
  refine ⟨⟨?_, ?_, ?_, ?_, ?_, ?_⟩, ⟨e1, e2, e3, ?_, ?_, ?_, by simp, rfl, rfl, rfl⟩⟩
  · intro b hb
    have hb : g.n + 1 ≤ b := hb
    have h1 : b ≠ g.n := by omega
    have h2 := hs.fresh b (by omega)
    simp [G.more, Heap.set, h1, h2]
  · intro b y hy
    by_cases hb : b = g.n
    · subst hb
      simp [Heap.set] at hy
      subst hy
      exact ⟨w.heap.size, 0, top, by simp [G.more], hx⟩
    · simp [Heap.set, hb] at hy
      obtain ⟨cb, sh, t, hm, hok⟩ := hs.blk b y hy
      exact ⟨cb, sh, t, by simp [G.more, hb, hm], hok.ext e1 e2 e3 (heap_old w o (hne _ _ _ _ hm))⟩
  · intro b b' cb sh t sh' t' h h'
    rcases hmb _ _ _ _ h with ⟨h1, h2, _⟩ | ⟨h1, h2⟩ <;> rcases hmb _ _ _ _ h' with ⟨h3, h4, _⟩ | ⟨h3, h4⟩
    · omega
    · exact absurd h2 (hne _ _ _ _ h4)
    · exact absurd h4 (hne _ _ _ _ h2)
    · exact hs.inj _ _ _ _ _ _ _ h2 h4
  · intro b cb sh t o' v h hv
    rcases hmb _ _ _ _ h with ⟨h1, h2, _⟩ | ⟨h1, h2⟩
    · obtain ⟨V, hV, _⟩ := hs.imm _ _ _ hv
      have := World.block_lt_of_cell? _ _ hV
      simp at this
      omega
    · exact hs.own _ _ _ _ _ _ h2 hv
  · intro b cb sh t h
    rcases hmb _ _ _ _ h with ⟨h1, h2, _⟩ | ⟨h1, h2⟩
    · simp [h2]
    · have := hs.lt _ _ _ _ h2
      simp
      omega
  · intro cb o' v hv
    obtain ⟨V, hV, hR, h1⟩ := hs.imm _ _ _ hv
    refine ⟨V, ?_, hR.ext e1 e2 e3, h1⟩
    have := World.block_lt_of_cell? _ _ hV
    simp at this
    rw [cell?_of_heap (heap_old w o (by show cb ≠ _; omega))]
    exact hV
  · intro b cb sh t hb h
    rcases hmb _ _ _ _ h with ⟨h1, h2, _⟩ | ⟨h1, h2⟩
    · exact .inl (by omega)
    · rw [(hs.fresh b hb).1] at h2; cases h2
  · intro cb hlt _
    exact heap_old w o (by omega)
  · intro a _
    by_cases ha : a.block = w.heap.size
    · have hold : w.frozen? a = false := by
        have : w.heap[a.block]? = none := by rw [ha]; simp
        simp [World.frozen?, this]
      rw [hold]
      have := hfz a.off
      simpa [World.frozen?, ha] using this
    · exact frozen?_of_heap (heap_old w o ha)
theorem Sim.drew {g : G} {A : Heap} {w : World} (hs : Sim g A w) : Sim g A w.drew ∧ Ext g w g w.drew := by
  refine ⟨⟨hs.fresh, ?_, hs.inj, hs.own, hs.lt, hs.imm⟩, ⟨Nat.le_refl _, fun _ _ _ h => h, fun _ _ _ h => h, ?_, fun _ _ _ => rfl, fun _ _ => rfl, Nat.le_refl _, rfl, rfl, rfl⟩⟩
  · intro b x hx
    obtain ⟨cb, sh, top, h1, h2⟩ := hs.blk b x hx
    exact ⟨cb, sh, top, h1, h2.ext (Nat.le_refl _) (fun _ _ _ h => h) (fun _ _ _ h => h) rfl⟩
  · intro b cb sh t hb h
    rw [(hs.fresh b hb).1] at h; cases h
/-- Blocks may be forgotten. -/
theorem Sim.sub {g : G} {A A' : Heap} {w : World} (hs : Sim g A w) (h : ∀ b x, A' b = some x → A b = some x) : Sim g A' w :=
  ⟨fun b hb => ⟨(hs.fresh b hb).1, by
    cases hA : A' b with
    | none => rfl
    | some x => have := h b x hA; rw [(hs.fresh b hb).2] at this; cases this⟩, fun b x hx => hs.blk b x (h b x hx), hs.inj, hs.own, hs.lt, hs.imm⟩
end Go.NL

namespace Go.NL
inductive Opd where
  | tmp (t : Nat)
  | const (v : AV)
def evalOpd (f : Nat → AV) : Opd → AV
  | .tmp t => f t
  | .const v => v
def simpleAV : Value → Option AV
  | .bool b => some (.bool b)
  | .int k n => some (.int k n)
  | .string s => some (.str s.data.toList)
  | .pointer none => some .nilptr
  | .slice none 0 0 => some .nilslice
  | .map none => some .nilmap
  | .nilFunc => some .nilfunc
  | .nilIface => some .nilIface
  | .func (.func f) a b => if a.size = 0 ∧ b.size = 0 then some (.func f [] []) else none
  | _ => none
def constAV : Value → Option AV
  | .agg cs => (cs.toList.mapM simpleAV).map .agg
  | v => simpleAV v
theorem simpleAV_rel {g : G} {V : Value} {v : AV} (h : simpleAV V = some v) : Rel g v V ∧ v.one = true := by
  unfold simpleAV at h
  split at h <;> first | (cases h; exact ⟨by constructor, rfl⟩) | skip
  · split at h
    · rename_i a b hab
      cases h
      obtain ⟨ha, hb⟩ := hab
      refine ⟨.func _ [] [] _ _ (by simp [ha]) (by simp [hb]) (fun i h => by simp at h) (fun i h => by simp at h), rfl⟩
    · cases h
  · cases h
theorem simples_rel {g : G} : ∀ {Vs : List Value} {vs : List AV}, Vs.mapM simpleAV = some vs → RelL g vs Vs.toArray ∧ ∀ v ∈ vs, v.one = true
  | [], vs, h => by simp at h; subst h; exact ⟨.nil, by simp⟩
  | V :: Vs, vs, h => by
    simp only [List.mapM_cons, Option.bind_eq_bind, Option.bind_eq_some_iff, Option.pure_def, Option.some.injEq] at h
    obtain ⟨v, hv, ws, hw, rfl⟩ := h
    obtain ⟨h1, h2⟩ := simples_rel (g := g) hw
    have := simpleAV_rel (g := g) hv
    exact ⟨.cons this.1 h1, by intro x hx; cases hx with | head => exact this.2 | tail _ hx => exact h2 x hx⟩
theorem constAV_rel {g : G} {V : Value} {v : AV} (h : constAV V = some v) : Rel g v V := by
  unfold constAV at h
  split at h
  · simp only [Option.map_eq_some_iff] at h
    obtain ⟨vs, hv, rfl⟩ := h
    obtain ⟨h1, h2⟩ := simples_rel (g := g) hv
    exact RelL.agg (by simpa using h1) h2
  · exact (simpleAV_rel h).1
/-- The cells of a value that is known whole. -/
def constCells (V : Value) : Option (List AV) := V.cells.toList.mapM simpleAV
def compOpd : Operand → Option Opd
  | .tmp t => some (.tmp t)
  | .const v => (constAV v).map .const
  | .func f => some (.const (.func f [] []))
  | .global _ => none
/-- How values of a type are compared. -/
inductive EqK0 where
  | bool | int | str
inductive EqK where
  | bool | int | str | ptr | slice | map | func | iface
  | struct (fs : List (Nat × EqK0))
def eqk0 (P : Program) (t : TypeId) : Option EqK0 :=
  match P.underlying t with
  | some .bool => some .bool
  | some (.int _) => some .int
  | some .string => some .str
  | _ => none
def eqk (P : Program) (t : TypeId) : Option EqK :=
  match P.underlying t with
  | some .bool => some .bool
  | some (.int _) => some .int
  | some .string => some .str
  | some (.pointer _) => some .ptr
  | some (.slice _) => some .slice
  | some (.map _ _) => some .map
  | some (.func _ _ _) => some .func
  | some (.interface _) => some .iface
  | some (.struct fs) =>
    if P.stoodInHeld t || P.eqGuardType P.depth t || fs.toList.any (fun f => f.name == "_") then none
    else (fs.toList.mapM fun f => (eqk0 P f.type).map fun k => (f.offset, k)).map .struct
  | _ => none
def eq0 : EqK0 → AV → AV → Option Bool
  | .bool, .bool a, .bool b => some (a == b)
  | .int, .int k a, .int k' b => if k = k' then some (decide (a = b)) else none
  | .str, .str a, .str b => some (decide (a = b))
  | _, _, _ => none
def eqFields (xs ys : List AV) : List (Nat × EqK0) → Option Bool
  | [] => some true
  | (o, k) :: fs => match xs[o]?, ys[o]? with
    | some a, some b => match eq0 k a b, eqFields xs ys fs with
      | some r, some s => some (r && s)
      | _, _ => none
    | _, _ => none
def eqAV : EqK → AV → AV → Option Bool
  | .bool, .bool a, .bool b => some (a == b)
  | .int, .int k a, .int k' b => if k = k' then some (decide (a = b)) else none
  | .str, .str a, .str b => some (decide (a = b))
  | .ptr, .nilptr, .nilptr => some true
  | .ptr, .nilptr, .ptr _ _ | .ptr, .nilptr, .iptr _ _ | .ptr, .ptr _ _, .nilptr | .ptr, .iptr _ _, .nilptr => some false
  | .slice, .nilslice, .nilslice => some true
  | .slice, .nilslice, .slice _ _ _ _ _ | .slice, .nilslice, .islice _ _ _ | .slice, .slice _ _ _ _ _, .nilslice | .slice, .islice _ _ _, .nilslice => some false
  | .map, .nilmap, .nilmap => some true
  | .map, .nilmap, .map _ | .map, .map _, .nilmap => some false
  | .func, .nilfunc, .nilfunc => some true
  | .func, .nilfunc, .func _ _ _ | .func, .func _ _ _, .nilfunc => some false
  | .iface, .iface _ _, .nilIface | .iface, .nilIface, .iface _ _ => some false
  | .struct fs, .agg xs, .agg ys => eqFields xs ys fs
  | _, _, _ => none
def binInt (op : BinOp) (k : IntKind) (a b : Int) : Option AV :=
  match op with
  | .add => some (.int k (k.wrap (a + b)))
  | .sub => some (.int k (k.wrap (a - b)))
  | .mul => some (.int k (k.wrap (a * b)))
  | .quo => if b = 0 then none else some (.int k (k.wrap (a.tdiv b)))
  | .rem => if b = 0 then none else some (.int k (a.tmod b))
  | .and => some (.int k (k.wrap (BitVec.ofInt k.bits a &&& BitVec.ofInt k.bits b).toNat))
  | .or => some (.int k (k.wrap (BitVec.ofInt k.bits a ||| BitVec.ofInt k.bits b).toNat))
  | .xor => some (.int k (k.wrap (BitVec.ofInt k.bits a ^^^ BitVec.ofInt k.bits b).toNat))
  | .andNot => some (.int k (k.wrap (BitVec.ofInt k.bits a &&& ~~~(BitVec.ofInt k.bits b)).toNat))
  | .eql => some (.bool (decide (a = b)))
  | .neq => some (.bool (!decide (a = b)))
  | .lss => some (.bool (decide (a < b)))
  | .leq => some (.bool (decide (a ≤ b)))
  | .gtr => some (.bool (decide (b < a)))
  | .geq => some (.bool (decide (b ≤ a)))
  | _ => none
def binStr (op : BinOp) (a b : List UInt8) : Option AV :=
  match op with
  | .add => if a.length + b.length ≤ 4611686018427387904 then some (.str (a ++ b)) else none
  | .eql => some (.bool (decide (a = b)))
  | .neq => some (.bool (!decide (a = b)))
  | .lss => some (.bool (Op.bytesLess a b))
  | .leq => some (.bool (Op.bytesLess a b || decide (a = b)))
  | .gtr => some (.bool (!(Op.bytesLess a b || decide (a = b))))
  | .geq => some (.bool (!Op.bytesLess a b))
  | _ => none
def binAV (op : BinOp) (ek : Option EqK) : AV → AV → Option AV
  | .int k a, .int k' b =>
    match op with
    | .shl => if b < 0 then none else some (.int k (k.wrap (a * 2 ^ (min b.toNat k.bits))))
    | .shr => if b < 0 then none else some (.int k (a.fdiv (2 ^ (min b.toNat k.bits))))
    | op => if k = k' then binInt op k a b else none
  | .str a, .str b => binStr op a b
  | x, y =>
    match op, ek with
    | .eql, some e => (eqAV e x y).map .bool
    | .neq, some e => (eqAV e x y).map fun r => .bool (!r)
    | _, _ => none
/-- A value of a type that takes 'size' cells, out of cells. -/
def takeAV (agg : Option Nat) (cs : List AV) (off : Nat) : Option AV :=
  match agg with
  | some n => if off + n ≤ cs.length then some (.agg ((cs.drop off).take n)) else none
  | none => cs[off]?
def loadAV (A : Heap) (agg : Option Nat) : AV → Option AV
  | .ptr b off => match A b with
    | some (.cells cs) => takeAV agg cs off
    | _ => none
  | .iptr cs off => takeAV agg cs off
  | _ => none
/-- A bound of a slice expression. -/
def boundAV (d : Nat) (top : Nat) : Option AV → Option Nat
  | none => some d
  | some (.int _ n) => if 0 ≤ n ∧ n ≤ top then some n.toNat else none
  | some _ => none
def Cap.low : Cap → Nat
  | .ge k | .eq k => k
def Cap.less : Cap → Nat → Cap
  | .ge k, l => .ge (k - l)
  | .eq k, l => .eq (k - l)
/-- x[lo:hi:mx] -/
def sliceAV (esz : Option Nat) (lo hi mx : Option AV) : AV → Option AV
  | .str s => if esz.isSome then none else
    match mx with
    | some _ => none
    | none => match boundAV s.length s.length hi with
      | none => none
      | some h => match boundAV 0 h lo with
        | none => none
        | some l => some (.str ((s.drop l).take (h - l)))
  | .nilslice => if esz.isNone || (mx.isSome && hi.isNone) then none else
    match boundAV 0 0 mx, boundAV 0 0 hi, boundAV 0 0 lo with
    | some _, some _, some _ => some .nilslice
    | _, _, _ => none
  | .slice e b off len cap => if esz ≠ some e then none else
    match mx with
    | none => match boundAV len cap.low hi with
      | none => none
      | some h => match boundAV 0 h lo with
        | none => none
        | some l => some (.slice e b (off + l * e) (h - l) (cap.less l))
    | some _ => match boundAV 0 cap.low mx with
      | none => none
      | some m => match hi with
        | none => none
        | some _ => match boundAV 0 m hi with
          | none => none
          | some h => match boundAV 0 h lo with
            | none => none
            | some l => some (.slice e b (off + l * e) (h - l) (.eq (m - l)))
  | .islice e es exact => if esz ≠ some e then none else
    match mx with
    | none => match boundAV es.length es.length hi with
      | none => none
      | some h => match boundAV 0 h lo with
        | none => none
        | some l => some (.islice e ((es.drop l).take (h - l)) (exact && h == es.length))
    | some _ => match boundAV 0 es.length mx with
      | none => none
      | some m => match hi with
        | none => none
        | some _ => match boundAV 0 m hi with
          | none => none
          | some h => match boundAV 0 h lo with
            | none => none
            | some l => some (.islice e ((es.drop l).take (h - l)) (h == m))
  | _ => none
def indexAddrAV (esz : Nat) (arr : Option Nat) (x : AV) (i : Int) : Option AV :=
  match arr with
  | some n => if 0 ≤ i ∧ i < n then
      match x with
      | .ptr b off => some (.ptr b (off + i.toNat * esz))
      | .iptr cs off => some (.iptr cs (off + i.toNat * esz))
      | _ => none
    else none
  | none => match x with
    | .slice e b off len _ => if e = esz ∧ 0 ≤ i ∧ i < len then some (.ptr b (off + i.toNat * esz)) else none
    | .islice e es _ => if e = esz ∧ 0 ≤ i then (es[i.toNat]?).map fun v => .iptr v.cells 0 else none
    | _ => none
inductive LenK where
  | str | slice | map
def lenAV (A : Heap) : LenK → AV → Option Nat
  | .str, .str s => some s.length
  | .slice, .nilslice => some 0
  | .slice, .slice _ _ _ n _ => some n
  | .slice, .islice _ es _ => some es.length
  | .map, .nilmap => some 0
  | .map, .map b => match A b with
    | some (.map es _) => some es.length
    | _ => none
  | _, _ => none
/-- A byte. -/
def byteAV : AV → Option UInt8
  | .int .u8 n => some (UInt8.ofNat n.toNat)
  | _ => none
/-- The bytes of a slice of bytes. -/
def bytesAV (A : Heap) : AV → Option (List UInt8)
  | .nilslice => some []
  | .slice e b off len _ => if e = 1 then
      match A b with
      | some (.cells cs) => if off + len ≤ cs.length then ((cs.drop off).take len).mapM byteAV else none
      | _ => none
    else none
  | .islice e es _ => if e = 1 then es.mapM byteAV else none
  | _ => none
def keyEq : AV → AV → Option Bool
  | .int k a, .int k' b => if k = k' then some (decide (a = b)) else none
  | .str a, .str b => some (decide (a = b))
  | _, _ => none
/-- The key is of the kind that the map's type asks for. -/
def keyOk : Bool → AV → Bool
  | false, .int _ _ => true
  | true, .str _ => true
  | _, _ => false
def findE (k : AV) : List (AV × AV × Nat) → Nat → Option (Option (Nat × AV))
  | [], _ => some none
  | (k', v, _) :: es, i => match keyEq k k' with
    | some true => some (some (i, v))
    | some false => findE k es (i + 1)
    | none => none
def mapFind (A : Heap) (k : AV) : AV → Option (Option (Nat × AV))
  | .nilmap => some none
  | .map b => match A b with
    | some (.map es _) => findE k es 0
    | _ => none
  | _ => none
def lookRes (z : AV) (ok : Bool) : Option (Nat × AV) → AV
  | some (_, v) => if ok then .tuple [v, .bool true] else v
  | none => if ok then .tuple [z, .bool false] else z
/-- What an append's second argument yields: how many elements, their cells. -/
def srcAV (A : Heap) (str : Bool) (esz : Nat) : AV → Option (Nat × List AV)
  | .nilslice => if str then none else some (0, [])
  | .islice e es _ => if str = false ∧ e = esz then some (es.length, es.flatMap AV.cells) else none
  | .slice e b off len _ => if str = false ∧ e = esz then
      match A b with
      | some (.cells cs) => if off + len * esz ≤ cs.length then some (len, (cs.drop off).take (len * esz)) else none
      | _ => none
    else none
  | .str s => if str = true ∧ esz = 1 then some (s.length, s.map fun b => .int .u8 b.toNat) else none
  | _ => none
/-- cells, with others from a place on. -/
def over (cs : List AV) (off : Nat) (vs : List AV) : List AV := cs.take off ++ vs ++ cs.drop (off + vs.length)
def fillAV (cs : List AV) : List (Nat × Nat × AV) → Option (List AV)
  | [] => some cs
  | (off, size, v) :: ps => if v.cells.length = size ∧ off + size ≤ cs.length ∧ v.cells.all AV.one then fillAV (over cs off v.cells) ps else none
inductive NOp where
  | move (x : Opd)
  | pick (c a b : Opd)
  | zero (cells : List AV)
  | box (x : Opd)
  | build (zero : List AV) (parts : List (Nat × Nat × Opd))
  | buildSlice (esz len : Nat) (zero : List AV) (parts : List (Nat × Nat × Opd))
  | load (agg : Option Nat) (x : Opd)
  | store (size : Nat) (x v : Opd)
  | nilCheck (x : Opd)
  | bin (op : BinOp) (ek : Option EqK) (x y : Opd)
  | un (op : UnOp) (x : Opd)
  | convInt (k : IntKind) (x : Opd)
  | convSame (x : Opd)
  | bytesStr (x : Opd)
  | fieldAddr (off : Nat) (x : Opd)
  | field (agg : Option Nat) (off : Nat) (x : Opd)
  | indexAddr (esz : Nat) (arr : Option Nat) (x i : Opd)
  | indexStr (x i : Opd)
  | indexArr (agg : Option Nat) (esz len : Nat) (x i : Opd)
  | slice (esz : Option Nat) (x : Opd) (lo hi mx : Option Opd)
  | lookup (str : Bool) (zero : AV) (ok : Bool) (x k : Opd)
  | mapUpdate (str : Bool) (m k v : Opd)
  | makeMap
  | makeSlice (esz bytes : Nat) (zero : List AV) (l c : Opd)
  | makeFunc (f : FuncId) (first caps : List Opd)
  | makeIface (t : TypeId) (x : Opd)
  | extract (x : Opd) (i : Nat)
  | len (k : LenK) (x : Opd)
  | append (str : Bool) (esz bytes : Nat) (s x : Opd)
  | max (x y : Opd)
  | min (x y : Opd)
  | call (f : Opd) (args : List Opd)
def aggOf (P : Program) (t : TypeId) : Option (Option Nat) :=
  match P.underlying t, P.info? t with
  | some (.struct _), some i | some (.array _ _), some i => some (some i.size)
  | some _, some _ => some none
  | _, _ => none
def zeroCellsOf (P : Program) (t : TypeId) : Option (List AV) := do
  let i ← P.info? t
  let z ← i.zero
  let cs ← constCells z
  if cs.length = i.size then some cs else none
def compOpds (xs : Array Operand) : Option (List Opd) := xs.toList.mapM compOpd
def optOpd : Option Operand → Option (Option Opd)
  | none => some none
  | some x => (compOpd x).map some
def compParts (P : Program) (place : Nat → Option (Nat × Nat)) (parts : Array (Nat × Operand)) : Option (List (Nat × Nat × Opd)) :=
  parts.toList.mapM fun (i, x) => do
    let (off, size) ← place i
    let y ← compOpd x
    some (off, size, y)
def compCall (P : Program) : Callee → List Operand → List TypeId → Option NOp
  | .builtin .len, [x], [t] => do
    match P.underlying t with
    | some .string => some (.len .str (← compOpd x))
    | some (.slice _) => some (.len .slice (← compOpd x))
    | some (.map _ _) => some (.len .map (← compOpd x))
    | _ => none
  | .builtin .append, [s, x], [t, tx] => do
    let some (.slice e) := P.underlying t | none
    let i ← P.info? e
    let _ ← zeroCellsOf P e
    if i.size = 0 then none
    match P.underlying tx with
    | some (.slice _) => some (.append false i.size i.bytes (← compOpd s) (← compOpd x))
    | some .string => some (.append true i.size i.bytes (← compOpd s) (← compOpd x))
    | _ => none
  | .builtin .max, [x, y], _ => do some (.max (← compOpd x) (← compOpd y))
  | .builtin .min, [x, y], _ => do some (.min (← compOpd x) (← compOpd y))
  | .value x, args, _ => do some (.call (← compOpd x) (← args.mapM compOpd))
  | _, _, _ => none
def compOp (P : Program) : Op → Option NOp
  | .move x | .assign x => (compOpd x).map .move
  | .pick c a b => do some (.pick (← compOpd c) (← compOpd a) (← compOpd b))
  | .alloc t => (zeroCellsOf P t).map .zero
  | .box _ x => (compOpd x).map .box
  | .build t parts => do
    let z ← zeroCellsOf P t
    match P.underlying t with
    | some (.struct fs) =>
      let places ← fs.toList.mapM fun f => (P.info? f.type).map fun i => (f.offset, i.size)
      some (.build z (← compParts P (places[·]?) parts))
    | some (.array _ e) =>
      let i ← P.info? e
      some (.build z (← compParts P (fun j => some (j * i.size, i.size)) parts))
    | _ => none
  | .buildSlice t len parts => do
    let some (.slice e) := P.underlying t | none
    let i ← P.info? e
    let z ← zeroCellsOf P e
    if len * i.size > 2 ^ 24 then none
    if i.size = 0 then none
    some (.buildSlice i.size len ((List.replicate len z).flatten) (← compParts P (fun j => some (j * i.size, i.size)) parts))
  | .load t x => do some (.load (← aggOf P t) (← compOpd x))
  | .store t x v => do
    let i ← P.info? t
    some (.store i.size (← compOpd x) (← compOpd v))
  | .nilCheck x => (compOpd x).map .nilCheck
  | .binOp op t x y _ => do some (.bin op (eqk P t) (← compOpd x) (← compOpd y))
  | .unOp op _ x => (compOpd x).map (.un op)
  | .convert src dst x => do
    match P.underlying src, P.underlying dst with
    | some _, some (.int k) => some (.convInt k (← compOpd x))
    | some .string, some .string => some (.convSame (← compOpd x))
    | some (.slice e), some .string => do
      let some (.int .u8) := P.underlying e | none
      some (.bytesStr (← compOpd x))
    | _, _ => none
  | .fieldAddr s x n => do
    let some (.struct fs) := P.underlying s | none
    let f ← fs[n]?
    let i ← P.info? f.type
    if i.size = 0 then none
    some (.fieldAddr f.offset (← compOpd x))
  | .field s x n => do
    let some (.struct fs) := P.underlying s | none
    let f ← fs[n]?
    some (.field (← aggOf P f.type) f.offset (← compOpd x))
  | .indexAddr t x i => do
    match P.underlying t with
    | some (.slice e) =>
      let j ← P.info? e
      some (.indexAddr j.size none (← compOpd x) (← compOpd i))
    | some (.array n e) =>
      let j ← P.info? e
      some (.indexAddr j.size (some n) (← compOpd x) (← compOpd i))
    | _ => none
  | .index t x i => do
    match P.underlying t with
    | some .string => some (.indexStr (← compOpd x) (← compOpd i))
    | some (.array n e) =>
      let j ← P.info? e
      some (.indexArr (← aggOf P e) j.size n (← compOpd x) (← compOpd i))
    | _ => none
  | .slice t x lo hi mx => do
    match P.underlying t with
    | some .string => some (.slice none (← compOpd x) (← optOpd lo) (← optOpd hi) (← optOpd mx))
    | some (.slice e) => do
      let j ← P.info? e
      some (.slice (some j.size) (← compOpd x) (← optOpd lo) (← optOpd hi) (← optOpd mx))
    | _ => none
  | .lookup t x k ok => do
    let some (.map kt e) := P.underlying t | none
    let z ← (P.info? e).bind (·.zero)
    let zv ← constAV z
    match P.underlying kt with
    | some (.int _) => some (.lookup false zv ok (← compOpd x) (← compOpd k))
    | some .string => some (.lookup true zv ok (← compOpd x) (← compOpd k))
    | _ => none
  | .mapUpdate t m k v | .insert t m k v => do
    let some (.map kt _) := P.underlying t | none
    match P.underlying kt with
    | some (.int _) => some (.mapUpdate false (← compOpd m) (← compOpd k) (← compOpd v))
    | some .string => some (.mapUpdate true (← compOpd m) (← compOpd k) (← compOpd v))
    | _ => none
  | .makeMap _ none => some .makeMap
  | .makeSlice t l c => do
    let some (.slice e) := P.underlying t | none
    let i ← P.info? e
    let z ← zeroCellsOf P e
    if i.size = 0 then none
    some (.makeSlice i.size i.bytes z (← compOpd l) (← compOpd c))
  | .makeFunc (.func f) first caps => do some (.makeFunc f (← compOpds first) (← compOpds caps))
  | .makeInterface t x => do
    if P.concrete t then some (.makeIface t (← compOpd x)) else none
  | .extract x i => do some (.extract (← compOpd x) i)
  | .call c => compCall P c.callee c.args.toList c.argTypes.toList
  | _ => none
/-- Operations that leave memory alone. -/
def qop (A : Heap) (σ : Opd → AV) : NOp → Option AV
  | .move x => some (σ x)
  | .pick c a b => match σ c with
    | .bool c => some (if c then σ a else σ b)
    | _ => none
  | .build z ps => (fillAV z (ps.map fun (o, n, x) => (o, n, σ x))).map .agg
  | .load agg x => loadAV A agg (σ x)
  | .nilCheck x => match σ x with
    | .ptr b o => some (.ptr b o)
    | .iptr cs o => some (.iptr cs o)
    | .func f a b => some (.func f a b)
    | _ => none
  | .bin op ek x y => binAV op ek (σ x) (σ y)
  | .un op x => match op, σ x with
    | .neg, .int k n => some (.int k (k.wrap (0 - n)))
    | .xor, .int k n => some (.int k (k.wrap (BitVec.ofInt k.bits (if k.signed then -1 else k.max) ^^^ BitVec.ofInt k.bits n).toNat))
    | .not, .bool b => some (.bool (!b))
    | _, _ => none
  | .convInt k x => match σ x with
    | .int _ n => some (.int k (k.wrap n))
    | _ => none
  | .convSame x => match σ x with
    | .str s => some (.str s)
    | _ => none
  | .bytesStr x => (bytesAV A (σ x)).map .str
  | .fieldAddr off x => match σ x with
    | .ptr b o => some (.ptr b (o + off))
    | .iptr cs o => some (.iptr cs (o + off))
    | _ => none
  | .field agg off x => match σ x with
    | .agg cs => takeAV agg cs off
    | _ => none
  | .indexAddr esz arr x i => match σ i with
    | .int _ n => indexAddrAV esz arr (σ x) n
    | _ => none
  | .indexStr x i => match σ x, σ i with
    | .str s, .int _ n => if 0 ≤ n then (s[n.toNat]?).map fun b => .int .u8 b.toNat else none
    | _, _ => none
  | .indexArr agg esz len x i => match σ x, σ i with
    | .agg cs, .int _ n => if 0 ≤ n ∧ n < len then takeAV agg cs (n.toNat * esz) else none
    | _, _ => none
  | .slice esz x lo hi mx => sliceAV esz (lo.map σ) (hi.map σ) (mx.map σ) (σ x)
  | .lookup str z ok x k => if keyOk str (σ k) = false then none else
    (mapFind A (σ k) (σ x)).map (lookRes z ok)
  | .makeFunc f first caps => some (.func f (first.map σ) (caps.map σ))
  | .makeIface t x => some (.iface t (σ x))
  | .extract x i => match σ x with
    | .tuple vs => vs[i]?
    | _ => none
  | .len k x => (lenAV A k (σ x)).map fun (n : Nat) => AV.int .i64 n
  | .max x y => match σ x, σ y with
    | .int k a, .int k' b => if k = k' then some (.int k (if a < b then b else a)) else none
    | _, _ => none
  | .min x y => match σ x, σ y with
    | .int k a, .int k' b => if k = k' then some (.int k (if b < a then b else a)) else none
    | _, _ => none
  | _ => none
end Go.NL

set_option linter.unusedVariables false

namespace Go.NL
/-- The operands stand alike. -/
def Ops (g : G) (σ : Opd → AV) (ρ : Operand → Value) : Prop := ∀ x y, compOpd x = some y → Rel g (σ y) (ρ x)
def Yields (P : Program) (g : G) (w : World) (o : Oper) (ρ : Operand → Value) (v : AV) : Prop := ∃ V, (execOp ρ o).run P w = .ok (.value V) w ∧ Rel g v V
theorem ops_list {g : G} {σ : Opd → AV} {ρ : Operand → Value} (h : Ops g σ ρ) : ∀ {xs : List Operand} {ys : List Opd}, xs.mapM compOpd = some ys → RelL g (ys.map σ) (xs.map ρ).toArray
  | [], ys, hx => by simp at hx; subst hx; exact .nil
  | x :: xs, ys, hx => by
    simp only [List.mapM_cons, Option.bind_eq_bind, Option.bind_eq_some_iff, Option.pure_def, Option.some.injEq] at hx
    obtain ⟨y, hy, zs, hz, rfl⟩ := hx
    exact .cons (h x y hy) (ops_list h hz)
theorem ops_arr {g : G} {σ : Opd → AV} {ρ : Operand → Value} (h : Ops g σ ρ) {xs : Array Operand} {ys : List Opd} (hx : compOpds xs = some ys) : RelL g (ys.map σ) (xs.map ρ) := by
  have := ops_list h hx
  have e : xs.map ρ = (xs.toList.map ρ).toArray := by apply Array.ext'; simp
  rw [e]
  exact this
theorem rel_bool {g : G} {b : Bool} {V : Value} (h : Rel g (.bool b) V) : V = .bool b := by cases h; rfl
theorem rel_int {g : G} {k : IntKind} {n : Int} {V : Value} (h : Rel g (.int k n) V) : V = .int k n := by cases h; rfl
theorem rel_str {g : G} {s : List UInt8} {V : Value} (h : Rel g (.str s) V) : ∃ b : ByteArray, V = .string b ∧ b.data.toList = s := by cases h with | str b => exact ⟨b, rfl, rfl⟩
theorem rel_str_mk {g : G} (s : ByteArray) (l : List UInt8) (h : s.data.toList = l) : Rel g (.str l) (.string s) := h ▸ .str s
theorem drop_take_get {α : Type} (l : List α) (a n j : Nat) (h : j < n) : ((l.drop a).take n)[j]? = l[a + j]? := by
  rw [List.getElem?_take, if_pos h, List.getElem?_drop]
theorem aggOf_some {P : Program} {t : TypeId} {n : Nat} (h : aggOf P t = some (some n)) : (∃ i, P.info? t = some i ∧ i.size = n) ∧ ∀ w, (isAgg t).run P w = .ok true w := by
  unfold aggOf at h
  split at h
  · rename_i hu hi
    cases h
    exact ⟨⟨_, hi, rfl⟩, fun w => by simp [isAgg, run_underlying hu]⟩
  · rename_i hu hi
    cases h
    exact ⟨⟨_, hi, rfl⟩, fun w => by simp [isAgg, run_underlying hu]⟩
  · cases h
  · cases h
theorem aggOf_none {P : Program} {t : TypeId} (h : aggOf P t = some none) : (∃ i, P.info? t = some i) ∧ ∀ w, (isAgg t).run P w = .ok false w := by
  unfold aggOf at h
  split at h
  · cases h
  · cases h
  · rename_i d i h1 h2 hu hi
    refine ⟨⟨_, hi⟩, fun w => ?_⟩
    cases d with
    | struct fs => simp_all
    | array n e => simp_all
    | _ => simp [isAgg, run_underlying hu]
  · cases h
/-- Reading a value of a type at an address, where the cells are known. -/
theorem run_loadVar_cells {P : Program} {g : G} {w : World} {t : TypeId} {agg : Option Nat} (hag : aggOf P t = some agg) {cs : List AV} {off cb o : Nat} {v : AV} (hv : takeAV agg cs off = some v)
    (hc : ∀ (j : Nat) (u : AV), cs[j]? = some u → u.one = true ∧ ∃ V, w.cell? ⟨cb, o + j, none⟩ = some V ∧ Rel g u V) :
    ∃ V, (loadVar t ⟨cb, o + off, none⟩).run P w = .ok V w ∧ Rel g v V := by
  cases agg with
  | none =>
    obtain ⟨⟨i, hi⟩, hagg⟩ := aggOf_none hag
    obtain ⟨_, V, h1, h2⟩ := hc off v hv
    exact ⟨V, by simp [loadVar, hagg, h1], h2⟩
  | some n =>
    obtain ⟨⟨i, hi, hn⟩, hagg⟩ := aggOf_some hag
    simp only [takeAV] at hv
    split at hv
    · rename_i hle
      cases hv
      have hget : ∀ j, j < n → ∃ u V, cs[off + j]? = some u ∧ u.one = true ∧ w.cell? ⟨cb, o + off + j, none⟩ = some V ∧ Rel g u V := by
        intro j hj
        have hlt : off + j < cs.length := by omega
        obtain ⟨h1, V, h2, h3⟩ := hc (off + j) _ (List.getElem?_eq_getElem hlt)
        exact ⟨_, V, List.getElem?_eq_getElem hlt, h1, by rw [Nat.add_assoc]; exact h2, h3⟩
      let f : Nat → Value := fun j => (w.cell? ⟨cb, o + off + j, none⟩).getD undef
      have hf : ∀ j, j < n → w.cell? ((⟨cb, o + off, none⟩ : Addr).add j) = some (f j) := by
        intro j hj
        obtain ⟨u, V, _, _, h2, _⟩ := hget j hj
        have ha : (⟨cb, o + off, none⟩ : Addr).add j = ⟨cb, o + off + j, none⟩ := by unfold Addr.add; split <;> simp_all
        rw [ha]
        simp only [f, h2, Option.getD_some]
      have hl := run_loadCells (P := P) w ⟨cb, o + off, none⟩ n f hf
      refine ⟨.agg ((List.range n).map f).toArray, by simp [loadVar, hagg, sizeOf, typeInfo, hi, hn, hl], ?_⟩
      refine RelL.agg ⟨by simp; omega, fun j c u hj hu => ?_⟩ ?_
      · have hjn : j < n := by
          rcases Nat.lt_or_ge j n with h | h
          · exact h
          · rw [List.getElem?_take, if_neg (by omega)] at hj; cases hj
        rw [drop_take_get _ _ _ _ hjn] at hj
        obtain ⟨u', V, h1, _, h2, h3⟩ := hget j hjn
        rw [h1] at hj
        cases hj
        simp [hjn, f, h2] at hu
        subst hu
        exact h3
      · intro c hcm
        obtain ⟨j, hj, hjc⟩ := List.getElem_of_mem hcm
        have hjn : j < n := by
          have := hj
          simp at this
          omega
        obtain ⟨u', V, h1, h4, _⟩ := hget j hjn
        have hj' : ((cs.drop off).take n)[j]? = some c := by rw [List.getElem?_eq_getElem hj, hjc]
        rw [drop_take_get _ _ _ _ hjn, h1] at hj'
        cases hj'
        exact h4
    · cases hv
theorem sound_load {P : Program} {g : G} {A : Heap} {w : World} (hs : Sim g A w) {t : TypeId} {agg : Option Nat} (hag : aggOf P t = some agg) {x v : AV} {X : Value} (hx : Rel g x X) (hv : loadAV A agg x = some v) :
    ∃ V, (Instr.loadAt t X).run P w = .ok V w ∧ Rel g v V := by
  unfold loadAV at hv
  split at hv
  · rename_i b off
    split at hv
    · rename_i cs hb
      obtain ⟨cb, sh, top, hm, c, e, hh, htop, hlen, hcs⟩ := hs.blk _ _ hb
      cases hx with
      | ptr _ _ a hbn ha =>
        have := ha _ _ _ hm
        subst this
        obtain ⟨V, h1, h2⟩ := run_loadVar_cells (P := P) (g := g) (w := w) hag hv (cb := cb) (o := sh) (fun j u hu => by
          obtain ⟨h1, V, h2, h3⟩ := hcs j u hu
          exact ⟨h1, V, by simp [World.cell?, hh, h2], h3⟩)
        exact ⟨V, by simp [Instr.loadAt, Instr.sureAddr, h1], h2⟩
    · cases hv
  · rename_i cs off
    cases hx with
    | iptr _ _ cb o h =>
      obtain ⟨V, h1, h2⟩ := run_loadVar_cells (P := P) (g := g) (w := w) hag hv (cb := cb) (o := o) (fun j u hu => by
        obtain ⟨V, h2, h3, h4⟩ := hs.imm _ _ _ (h j u hu)
        exact ⟨h4, V, h2, h3⟩)
      exact ⟨V, by simp [Instr.loadAt, Instr.sureAddr, h1], h2⟩
  · cases hv
theorem push_bytes (ns : List Int) : ∀ s : ByteArray, (ns.foldl (fun r n => r.push (UInt8.ofNat n.toNat)) s).data.toList = s.data.toList ++ ns.map fun n => UInt8.ofNat n.toNat := by
  induction ns with
  | nil => intro s; simp
  | cons n ns ih =>
    intro s
    rw [List.foldl_cons, ih]
    simp [ByteArray.push]
theorem mapM_bytes : ∀ {l : List AV} {s : List UInt8}, l.mapM byteAV = some s → ∃ ns : List Int, l = ns.map (AV.int .u8) ∧ s = ns.map fun n => UInt8.ofNat n.toNat
  | [], s, h => by simp at h; subst h; exact ⟨[], rfl, rfl⟩
  | v :: l, s, h => by
    simp only [List.mapM_cons, Option.bind_eq_bind, Option.bind_eq_some_iff, Option.pure_def, Option.some.injEq] at h
    obtain ⟨b, hb, s', hs, rfl⟩ := h
    obtain ⟨ns, rfl, rfl⟩ := mapM_bytes hs
    unfold byteAV at hb
    split at hb
    · rename_i n
      cases hb
      exact ⟨n :: ns, rfl, rfl⟩
    · cases hb
theorem run_bytes {P : Program} {g : G} {w : World} {cb o c : Nat} (ns : List Int) (h : ∀ (j : Nat) (n : Int), ns[j]? = some n → ∃ V, w.cell? ⟨cb, o + j, none⟩ = some V ∧ Rel g (.int .u8 n) V) :
    ∃ s : ByteArray, (Conv.bytesToString (.slice (some ⟨cb, o, none⟩) ns.length c)).run P w = .ok (.string s) w ∧ s.data.toList = ns.map fun n => UInt8.ofNat n.toNat := by
  have hl := run_loadCells (P := P) w ⟨cb, o, none⟩ ns.length (fun j => Value.int .u8 (ns.getD j 0)) (fun j hj => by
    obtain ⟨V, h1, h2⟩ := h j _ (List.getElem?_eq_getElem hj)
    have ha : (⟨cb, o, none⟩ : Addr).add j = ⟨cb, o + j, none⟩ := by unfold Addr.add; split <;> simp_all
    rw [ha, h1, rel_int h2, List.getD_eq_getElem?_getD, List.getElem?_eq_getElem hj]
    rfl)
  have he : ((List.range ns.length).map fun j => Value.int .u8 (ns.getD j 0)) = ns.map (Value.int .u8) := by
    apply List.ext_getElem
    · simp
    · intro i h1 h2
      simp at h1 h2
      simp [List.getD_eq_getElem?_getD, h1]
  rw [he] at hl
  exact ⟨_, run_bytesToString w _ _ c ns hl, by rw [push_bytes]; rfl⟩
theorem sound_bytes {P : Program} {g : G} {A : Heap} {w : World} (hs : Sim g A w) {x : AV} {X : Value} (hx : Rel g x X) {s : List UInt8} (h : bytesAV A x = some s) : ∃ b : ByteArray, (Conv.bytesToString X).run P w = .ok (.string b) w ∧ b.data.toList = s := by
  unfold bytesAV at h
  split at h
  · cases h
    cases hx
    exact ⟨.empty, by simp [Conv.bytesToString], rfl⟩
  · rename_i e b off len cap
    split at h
    · rename_i he
      subst he
      split at h
      · rename_i cs hA
        split at h
        · rename_i hle
          obtain ⟨ns, h1, rfl⟩ := mapM_bytes h
          obtain ⟨cb, sh, top, hm, c, e, hh, htop, hlen, hcs⟩ := hs.blk _ _ hA
          have hnl : ns.length = len := by
            have := congrArg List.length h1
            simp at this
            omega
          subst hnl
          cases hx with
          | slice _ _ _ _ _ a c' hb hlc hcap hsp hlive =>
            cases ns with
            | nil =>
              refine ⟨.empty, ?_, rfl⟩
              have hl := run_loadCells (P := P) w a 0 (fun _ => undef) (fun j hj => by omega)
              exact run_bytesToString w a 0 c' [] (by simpa using hl)
            | cons n0 ns =>
              obtain ⟨rfl, _⟩ := hlive (by simp at hlc; omega) _ _ _ hm
              refine run_bytes (g := g) (n0 :: ns) fun j n hj => ?_
              have hjl := (List.getElem?_eq_some_iff.1 hj).1
              have h2 : ((cs.drop off).take (n0 :: ns).length)[j]? = some (.int .u8 n) := by rw [h1, List.getElem?_map, hj]; rfl
              rw [drop_take_get _ _ _ _ hjl] at h2
              obtain ⟨_, V, h3, h4⟩ := hcs _ _ h2
              exact ⟨V, by simp [World.cell?, hh, Nat.add_assoc, h3], h4⟩
        · cases h
      · cases h
    · cases h
  · rename_i e es ex
    split at h
    · rename_i he
      subst he
      obtain ⟨ns, rfl, rfl⟩ := mapM_bytes h
      rcases rel_islice hx with ⟨cb, o, c, hlc, hex, him, rfl⟩ | ⟨h0, a, rfl⟩
      · have := run_bytes (P := P) (g := g) (w := w) (cb := cb) (o := o) (c := c) ns (fun j n hj => by
          obtain ⟨_, q⟩ := him j (.int .u8 n) (by rw [List.getElem?_map, hj]; rfl)
          obtain ⟨V, h3, h4, _⟩ := hs.imm _ _ _ (q 0 (.int .u8 n) rfl)
          refine ⟨V, ?_, h4⟩
          simpa using h3)
        simpa using this
      · have h1 : ns = [] := by simpa using h0
        subst h1
        refine ⟨.empty, ?_, rfl⟩
        have hl := run_loadCells (P := P) w a 0 (fun _ => undef) (fun j hj => by omega)
        exact run_bytesToString w a 0 0 [] (by simpa using hl)
    · cases h
  · cases h
theorem sound_part {P : Program} {g : G} {w : World} {t : TypeId} {agg : Option Nat} (hag : aggOf P t = some agg) {cs : List AV} {vs : Array Value} (hr : RelL g cs vs) (hone : ∀ c ∈ cs, c.one = true) {off : Nat} {v : AV} (hv : takeAV agg cs off = some v) :
    ∃ V, (part t vs off).run P w = .ok V w ∧ Rel g v V := by
  cases agg with
  | none =>
    obtain ⟨⟨i, hi⟩, hagg⟩ := aggOf_none hag
    obtain ⟨V, h1, h2⟩ := hr.get? (i := off) (c := v) hv
    exact ⟨V, by simp [part, hagg, h1], h2⟩
  | some n =>
    obtain ⟨⟨i, hi, hn⟩, hagg⟩ := aggOf_some hag
    simp only [takeAV] at hv
    split at hv
    · rename_i hle
      cases hv
      refine ⟨.agg (vs.extract off (off + n)), by simp [part, hagg, sizeOf, typeInfo, hi, hn], ?_⟩
      refine RelL.agg ⟨by have := hr.len; simp; omega, fun j c u hj hu => ?_⟩ fun c hc => hone c (List.mem_of_mem_drop (List.mem_of_mem_take hc))
      have hjn : j < n := by
        rcases Nat.lt_or_ge j n with h | h
        · exact h
        · rw [List.getElem?_take, if_neg (by omega)] at hj; cases hj
      rw [drop_take_get _ _ _ _ hjn] at hj
      refine hr.rel (off + j) c u hj ?_
      simp only [Array.getElem?_extract] at hu
      split at hu
      · exact hu
      · cases hu
    · cases hv
end Go.NL

set_option linter.unusedVariables false

namespace Go.NL
theorem bytes_eq (a b : ByteArray) : (a == b) = decide (a.data.toList = b.data.toList) := by
  rw [beq_toListBytes, ByteArray.toList_eq, ByteArray.toList_eq]
  rw [Bool.eq_iff_iff]
  simp
theorem toList_beq (a b : ByteArray) : (a.toList == b.toList) = decide (a.data.toList = b.data.toList) := by
  rw [← beq_toListBytes, bytes_eq]
theorem eqk0_spec {P : Program} {t : TypeId} {k : EqK0} (h : eqk0 P t = some k) : match k with
    | .bool => P.underlying t = some .bool
    | .int => ∃ k', P.underlying t = some (.int k')
    | .str => P.underlying t = some .string := by
  unfold eqk0 at h
  split at h <;> cases h <;> simp_all
theorem sound_eq0 {P : Program} {g : G} {w : World} {t : TypeId} {k : EqK0} (h : eqk0 P t = some k) (d : Nat) {x y : AV} {X Y : Value} (hx : Rel g x X) (hy : Rel g y Y) {r : Bool} (hr : eq0 k x y = some r) :
    (Op.equalIn (d + 1) t X Y).run P w = .ok r w := by
  have hu := eqk0_spec h
  unfold eq0 at hr
  split at hr
  · cases hr
    rw [rel_bool hx, rel_bool hy]
    exact run_equalIn_bool w d t _ _ hu
  · split at hr
    · rename_i hk
      cases hr
      subst hk
      rw [rel_int hx, rel_int hy]
      obtain ⟨k', hu⟩ := hu
      rw [run_equalIn_int w d t _ k' _ _ hu]
      rfl
    · cases hr
  · cases hr
    obtain ⟨a, rfl, rfl⟩ := rel_str hx
    obtain ⟨b, rfl, rfl⟩ := rel_str hy
    rw [run_equalIn_string w d t _ _ hu, toList_beq]
  · cases hr
theorem sound_eqFields {P : Program} {g : G} {w : World} (d : Nat) {xs ys : List AV} {Xs Ys : Array Value} (hx : RelL g xs Xs) (hy : RelL g ys Ys) :
    ∀ {fs : List Field} {ks : List (Nat × EqK0)} (hk : (fs.mapM fun f => (eqk0 P f.type).map fun k => (f.offset, k)) = some ks) (hn : fs.any (fun f => f.name == "_") = false) (hone : ∀ f ∈ fs, aggOf P f.type = some none) {r : Bool} (hr : eqFields xs ys ks = some r),
      (Op.eqFields (d + 1) Xs Ys fs).run P w = .ok r w
  | [], ks, hk, _, _, r, hr => by
    simp at hk
    subst hk
    simp [eqFields] at hr
    subst hr
    simp [Op.eqFields]
  | f :: fs, ks, hk, hn, hone, r, hr => by
    simp only [List.mapM_cons, Option.bind_eq_bind, Option.bind_eq_some_iff, Option.pure_def, Option.some.injEq, Option.map_eq_some_iff] at hk
    obtain ⟨⟨o, k⟩, ⟨k', hk0, hk1⟩, ks', hks, rfl⟩ := hk
    cases hk1
    simp only [List.any_cons, Bool.or_eq_false_iff] at hn
    simp only [eqFields] at hr
    split at hr
    · rename_i a b ha hb
      split at hr
      · rename_i r0 s hr0 hs0
        cases hr
        obtain ⟨A, hA, hRA⟩ := hx.get? ha
        obtain ⟨B, hB, hRB⟩ := hy.get? hb
        have hag := hone f (by simp)
        obtain ⟨_, hagg⟩ := aggOf_none hag
        have hpa : (part f.type Xs f.offset).run P w = .ok A w := by simp [part, hagg, hA]
        have hpb : (part f.type Ys f.offset).run P w = .ok B w := by simp [part, hagg, hB]
        have he := sound_eq0 (w := w) hk0 d hRA hRB hr0
        have ih := sound_eqFields (w := w) d hx hy hks hn.2 (fun f hf => hone f (by simp [hf])) hs0
        have hne : f.name ≠ "_" := by
          have := hn.1
          simpa using this
        simp only [Op.eqFields, if_pos hne, Sem.run_bind, hpa, hpb, he, Result.andThen_ok]
        cases r0 <;> simp [ih]
      · cases hr
    · cases hr
theorem aggOf_of_eqk0 {P : Program} {t : TypeId} {k : EqK0} (h : eqk0 P t = some k) (hi : (P.info? t).isSome = true) : aggOf P t = some none := by
  have hu := eqk0_spec h
  obtain ⟨i, hi⟩ := Option.isSome_iff_exists.1 hi
  cases k
  · simp only at hu; simp [aggOf, hu, hi]
  · obtain ⟨k', hu⟩ := hu; simp [aggOf, hu, hi]
  · simp only at hu; simp [aggOf, hu, hi]
theorem info_of_underlying {P : Program} {t : TypeId} {d : TypeDesc} (h : P.underlying t = some d) : (P.info? t).isSome = true := by
  unfold Program.underlying at h
  split at h
  · rename_i hi; simp [hi]
  · rename_i hi; simp [hi]
  · cases h
theorem eqk0_info {P : Program} {t : TypeId} {k : EqK0} (h : eqk0 P t = some k) : (P.info? t).isSome = true := by
  have hu := eqk0_spec h
  cases k
  · exact info_of_underlying hu
  · exact info_of_underlying hu.choose_spec
  · exact info_of_underlying hu
theorem eqk_spec {P : Program} {t : TypeId} {k : EqK} (h : eqk P t = some k) : match k with
    | .bool => P.underlying t = some .bool
    | .int => ∃ k', P.underlying t = some (.int k')
    | .str => P.underlying t = some .string
    | .ptr => ∃ e, P.underlying t = some (.pointer e)
    | .slice => ∃ e, P.underlying t = some (.slice e)
    | .map => ∃ k e, P.underlying t = some (.map k e)
    | .func => ∃ a b c, P.underlying t = some (.func a b c)
    | .iface => ∃ ms, P.underlying t = some (.interface ms)
    | .struct ks => ∃ fs, P.underlying t = some (.struct fs) ∧ P.stoodInHeld t = false ∧ P.eqGuardType P.depth t = false ∧ fs.toList.any (fun f => f.name == "_") = false ∧ (fs.toList.mapM fun f => (eqk0 P f.type).map fun k => (f.offset, k)) = some ks := by
  unfold eqk at h
  split at h
  case h_9 fs hu =>
    split at h
    · cases h
    · rename_i hc
      simp only [Option.map_eq_some_iff] at h
      obtain ⟨ks, hk, rfl⟩ := h
      simp only [Bool.or_eq_true, not_or, Bool.not_eq_true] at hc
      exact ⟨fs, hu, hc.1.1, hc.1.2, hc.2, hk⟩
  all_goals first | (cases h; done) | (cases h; exact ⟨_, _, _, by assumption⟩) | (cases h; exact ⟨_, _, by assumption⟩) | (cases h; exact ⟨_, by assumption⟩) | (cases h; assumption)
theorem mapM_all {α β : Type} {f : α → Option β} : ∀ {l : List α} {r : List β}, l.mapM f = some r → ∀ a ∈ l, ∃ b, f a = some b
  | [], _, _, a, h => by cases h
  | x :: l, r, hr, a, h => by
    simp only [List.mapM_cons, Option.bind_eq_bind, Option.bind_eq_some_iff, Option.pure_def, Option.some.injEq] at hr
    obtain ⟨b, hb, rs, hrs, rfl⟩ := hr
    cases h with
    | head => exact ⟨b, hb⟩
    | tail _ h => exact mapM_all hrs a h
set_option maxHeartbeats 1000000 in
theorem sound_eq {P : Program} {g : G} {w : World} {t : TypeId} {k : EqK} (h : eqk P t = some k) {x y : AV} {X Y : Value} (hx : Rel g x X) (hy : Rel g y Y) {r : Bool} (hr : eqAV k x y = some r) :
    (Op.equal t X Y).run P w = .ok r w ∧ ∀ op xo yo, (eqGuard op t xo yo X Y).run P w = .ok () w := by
  have hu := eqk_spec h
  unfold Op.equal Op.maxDepth
  unfold eqAV at hr
  split at hr
  · cases hr; cases hx; cases hy
    exact ⟨run_equalIn_bool w _ t _ _ hu, fun op _ _ => by cases op <;> rfl⟩
  · split at hr
    · rename_i hk
      cases hr; cases hk; cases hx; cases hy
      obtain ⟨k', hu⟩ := hu
      refine ⟨?_, fun op _ _ => by cases op <;> rfl⟩
      rw [run_equalIn_int w _ t _ k' _ _ hu]
      rfl
    · cases hr
  · cases hr
    obtain ⟨a, rfl, rfl⟩ := rel_str hx
    obtain ⟨b, rfl, rfl⟩ := rel_str hy
    refine ⟨?_, fun op _ _ => by cases op <;> rfl⟩
    rw [run_equalIn_string w _ t _ _ hu, toList_beq]
  case h_22 =>
    obtain ⟨Xs, rfl, hX, _⟩ := rel_agg hx
    obtain ⟨Ys, rfl, hY, _⟩ := rel_agg hy
    obtain ⟨fs, hu, h1, h2, h3, h4⟩ := hu
    have hf : P.fieldsOf t = fs := by simp [Program.fieldsOf, hu]
    refine ⟨?_, fun op xo yo => run_eqGuard_agg w op t xo yo _ _ h2⟩
    rw [run_equalIn_struct w _ t _ _ (by rw [hf]; exact hu) h1, hf]
    refine sound_eqFields _ hX hY h4 h3 (fun f hfm => ?_) hr
    obtain ⟨b, hb⟩ := mapM_all h4 f hfm
    simp only [Option.map_eq_some_iff] at hb
    obtain ⟨k, hk, _⟩ := hb
    exact aggOf_of_eqk0 hk (eqk0_info hk)
  all_goals first | (cases hr; done) | skip
  all_goals (cases hr; cases hx <;> cases hy <;> refine ⟨?_, fun op _ _ => by cases op <;> rfl⟩)
  all_goals (rw [show (10000 : Nat) = 9999 + 1 from rfl]; generalize (9999 : Nat) = d)
  all_goals first
    | (obtain ⟨e, hu⟩ := hu; simp [Op.equalIn, run_underlying hu]; done)
    | (obtain ⟨k, e, hu⟩ := hu; simp [Op.equalIn, run_underlying hu]; done)
    | (obtain ⟨a, b, c, hu⟩ := hu; simp [Op.equalIn, run_underlying hu]; done)
theorem sound_binInt {P : Program} {g : G} {w : World} {op : BinOp} {t : TypeId} {k : IntKind} {a b : Int} {v : AV} (hv : binInt op k a b = some v) (h1 : op ≠ .shl) (h2 : op ≠ .shr) :
    ∃ V, (binOp op t (.int k a) (.int k b)).run P w = .ok V w ∧ Rel g v V := by
  have hbo : binOp op t (.int k a) (.int k b) = (match op with
    | .add | .sub | .mul => Op.intArith op k a b
    | .quo | .rem => Op.intDiv op k a b
    | .and | .or | .xor | .andNot => Op.intBits op k a b
    | .shl | .shr => Op.shift op k a k b
    | _ => Op.intCmp op a b) := by cases op <;> simp [binOp]
  rw [hbo]
  unfold binInt at hv
  cases op <;> simp only [reduceCtorEq] at hv
  case quo =>
    split at hv
    · cases hv
    · rename_i h; cases hv; exact ⟨_, by simp only [Op.intDiv, if_neg h, Sem.run_pure], .int _ _⟩
  case rem =>
    split at hv
    · cases hv
    · rename_i h; cases hv; exact ⟨_, by simp only [Op.intDiv, if_neg h, Sem.run_pure], .int _ _⟩
  all_goals cases hv
  all_goals first
    | (refine ⟨_, ?_, .int _ _⟩; rfl)
    | (refine ⟨_, ?_, .bool _⟩; rfl)
theorem sound_binStr {P : Program} {g : G} {w : World} {op : BinOp} {t : TypeId} {a b : ByteArray} {v : AV} (hv : binStr op a.data.toList b.data.toList = some v) :
    ∃ V, (binOp op t (.string a) (.string b)).run P w = .ok V w ∧ Rel g v V := by
  have hbo : binOp op t (.string a) (.string b) = Op.stringOp op a b := by cases op <;> rfl
  rw [hbo]
  have hsz : ∀ s : ByteArray, s.size = s.data.toList.length := fun s => by rw [Array.length_toList]; rfl
  have heq : (a.data.toList == b.data.toList) = decide (a.data.toList = b.data.toList) := by rw [Bool.eq_iff_iff]; simp
  have ha : a.toList = a.data.toList := ByteArray.toList_eq _
  have hb : b.toList = b.data.toList := ByteArray.toList_eq _
  unfold binStr at hv
  cases op <;> simp only [reduceCtorEq, Option.some.injEq] at hv
  case add =>
    split at hv
    · rename_i h
      cases hv
      have hle : ¬ (((a.size + b.size : Nat) : Int) > (IntKind.max .i64)) := by
        rw [hsz a, hsz b]
        simp only [IntKind.max, IntKind.signed, IntKind.bits]
        simp only [if_true]
        omega
      refine ⟨.string (a ++ b), by simp only [Op.stringOp, if_neg hle, Sem.run_pure], rel_str_mk _ _ ?_⟩
      simp
    · cases hv
  all_goals subst hv
  all_goals (simp only [Op.stringOp, ha, hb, heq, Sem.run_pure]; exact ⟨_, rfl, .bool _⟩)
theorem sound_bin {P : Program} {g : G} {w : World} {op : BinOp} {t : TypeId} {x y : AV} {X Y : Value} (hx : Rel g x X) (hy : Rel g y Y) {v : AV} (hv : binAV op (eqk P t) x y = some v) (xo yo : Operand) :
    ∃ V, (do eqGuard op t xo yo X Y; binOp op t X Y : Sem Value).run P w = .ok V w ∧ Rel g v V := by
  unfold binAV at hv
  split at hv
  · rename_i k a k' b
    rw [rel_int hx, rel_int hy]
    have hg : ∀ w, (eqGuard op t xo yo (.int k a) (.int k' b)).run P w = .ok () w := fun w => by cases op <;> rfl
    simp only [Sem.run_bind, hg, Result.andThen_ok]
    split at hv
    · split at hv
      · cases hv
      · rename_i h
        cases hv
        exact ⟨_, by simp [binOp, Op.shift, h], .int _ _⟩
    · split at hv
      · cases hv
      · rename_i h
        cases hv
        exact ⟨_, by simp [binOp, Op.shift, h], .int _ _⟩
    · rename_i h1 h2
      split at hv
      · rename_i hk
        subst hk
        exact sound_binInt hv (fun h => h1 h) (fun h => h2 h)
      · cases hv
  · obtain ⟨a, rfl, rfl⟩ := rel_str hx
    obtain ⟨b, rfl, rfl⟩ := rel_str hy
    have hg : ∀ w, (eqGuard op t xo yo (.string a) (.string b)).run P w = .ok () w := fun w => by cases op <;> rfl
    simp only [Sem.run_bind, hg, Result.andThen_ok]
    exact sound_binStr hv
  · rename_i hn1 hn2
    split at hv
    · rename_i e he
      simp only [Option.map_eq_some_iff] at hv
      obtain ⟨r, hr, rfl⟩ := hv
      obtain ⟨h1, h2⟩ := sound_eq (w := w) he hx hy hr
      refine ⟨.bool r, ?_, .bool _⟩
      simp only [Sem.run_bind, h2, Result.andThen_ok]
      have hb : binOp .eql t X Y = (do pure (.bool (← Op.equal t X Y))) := by
        cases hx <;> cases hy <;> first | rfl | (exfalso; exact hn1 _ _ _ _ rfl rfl) | (exfalso; exact hn2 _ _ rfl rfl)
      rw [hb]
      simp [h1]
    · rename_i e he
      simp only [Option.map_eq_some_iff] at hv
      obtain ⟨r, hr, rfl⟩ := hv
      obtain ⟨h1, h2⟩ := sound_eq (w := w) he hx hy hr
      refine ⟨.bool (!r), ?_, .bool _⟩
      simp only [Sem.run_bind, h2, Result.andThen_ok]
      have hb : binOp .neq t X Y = (do pure (.bool (!(← Op.equal t X Y)))) := by
        cases hx <;> cases hy <;> first | rfl | (exfalso; exact hn1 _ _ _ _ rfl rfl) | (exfalso; exact hn2 _ _ rfl rfl)
      rw [hb]
      simp [h1]
    · cases hv
end Go.NL

set_option linter.unusedVariables false

namespace Go.NL
theorem over_length (cs : List AV) (off : Nat) (vs : List AV) (h : off + vs.length ≤ cs.length) : (over cs off vs).length = cs.length := by
  simp [over]; omega
theorem over_get (cs : List AV) (off : Nat) (vs : List AV) (h : off + vs.length ≤ cs.length) (i : Nat) : (over cs off vs)[i]? = if off ≤ i ∧ i < off + vs.length then vs[i - off]? else cs[i]? := by
  unfold over
  rw [List.append_assoc]
  have hl : (cs.take off).length = off := by simp; omega
  by_cases h1 : i < off
  · rw [List.getElem?_append_left (by omega), List.getElem?_take, if_pos h1, if_neg (by omega)]
  · rw [List.getElem?_append_right (by omega), hl]
    by_cases h2 : i - off < vs.length
    · rw [List.getElem?_append_left h2, if_pos (by omega)]
    · rw [List.getElem?_append_right (by omega), List.getElem?_drop, if_neg (by omega)]
      congr 1
      omega
/-- Writing values one behind the other into an array, as the model's 'fill' does. -/
theorem foldl_set_size (off : Nat) : ∀ (l : List (Value × Nat)) (arr : Array Value), (l.foldl (fun cs (x : Value × Nat) => cs.setIfInBounds (off + x.2) x.1) arr).size = arr.size
  | [], arr => rfl
  | x :: l, arr => by rw [List.foldl_cons, foldl_set_size off l]; simp
theorem foldl_set_get (off : Nat) : ∀ (l : List Value) (k : Nat) (arr : Array Value) (i : Nat), off + k + l.length ≤ arr.size →
    ((l.zipIdx k).foldl (fun cs (x : Value × Nat) => cs.setIfInBounds (off + x.2) x.1) arr)[i]? = if off + k ≤ i ∧ i < off + k + l.length then l[i - (off + k)]? else arr[i]?
  | [], k, arr, i, _ => by simp; omega
  | x :: l, k, arr, i, h => by
    simp only [List.zipIdx_cons, List.foldl_cons]
    simp only [List.length_cons] at h
    rw [foldl_set_get off l (k + 1) _ i (by simp; omega)]
    by_cases h1 : off + (k + 1) ≤ i ∧ i < off + (k + 1) + l.length
    · rw [if_pos h1, if_pos (by simp; omega)]
      have : i - (off + k) = i - (off + (k + 1)) + 1 := by omega
      rw [this, List.getElem?_cons_succ]
    · rw [if_neg h1]
      by_cases h2 : i = off + k
      · subst h2
        rw [if_pos (by simp), Nat.sub_self, List.getElem?_cons_zero, Array.getElem?_setIfInBounds_self_of_lt (by omega)]
      · rw [if_neg (by simp; omega), Array.getElem?_setIfInBounds_ne (by omega)]
theorem sound_fill {g : G} {place : Nat → Option (Nat × Nat)} {σ : Opd → AV} {ρ : Operand → Value} (hσ : Ops g σ ρ) :
    ∀ {parts : List (Nat × Operand)} {qs : List (Nat × Nat × Opd)} (hp : (parts.mapM fun (i, x) => do let (off, size) ← place i; let y ← compOpd x; some (off, size, y)) = some qs)
      {cs : List AV} {vs : Array Value} (hr : RelL g cs vs) (hone : ∀ c ∈ cs, c.one = true) {r : List AV} (hf : fillAV cs (qs.map fun (o, n, x) => (o, n, σ x)) = some r),
      ∃ R, Instr.fill place vs (parts.map fun (i, x) => (i, ρ x)) = some R ∧ RelL g r R ∧ ∀ c ∈ r, c.one = true
  | [], qs, hp, cs, vs, hr, hone, r, hf => by
    simp at hp
    subst hp
    simp [fillAV] at hf
    subst hf
    exact ⟨vs, rfl, hr, hone⟩
  | (i, x) :: parts, qs, hp, cs, vs, hr, hone, r, hf => by
    simp only [List.mapM_cons, Option.bind_eq_bind, Option.bind_eq_some_iff, Option.pure_def, Option.some.injEq] at hp
    obtain ⟨q, ⟨⟨off, size⟩, hpl, y, hy, rfl⟩, qs', hqs, rfl⟩ := hp
    simp only [List.map_cons, fillAV] at hf
    split at hf
    · rename_i hc
      obtain ⟨h1, h2, h3⟩ := hc
      have hrel := hσ x y hy
      have hcells := rel_cells hrel
      have hsz : (ρ x).cells.size = size := by rw [← hcells.len]; exact h1
      have hvs := hr.len
      have hnew : RelL g (over cs off (σ y).cells) (((ρ x).cells.zipIdx).foldl (fun cs (c, j) => cs.setIfInBounds (off + j) c) vs) := by
        have hfold : ((ρ x).cells.zipIdx).foldl (fun cs (c, j) => cs.setIfInBounds (off + j) c) vs = (((ρ x).cells.toList.zipIdx 0).foldl (fun cs (x : Value × Nat) => cs.setIfInBounds (off + x.2) x.1) vs) := by
          rw [← Array.foldl_toList]
          simp [Array.toList_zipIdx]
        rw [hfold]
        have hlen : (ρ x).cells.toList.length = size := by simpa using hsz
        refine ⟨?_, ?_⟩
        · rw [over_length _ _ _ (by omega), foldl_set_size, hvs]
        · intro j c v hc hv
          rw [over_get _ _ _ (by omega)] at hc
          rw [foldl_set_get off _ 0 _ j (by omega)] at hv
          simp only [Nat.add_zero, hlen] at hv
          rw [h1] at hc
          split at hc
          · rename_i hj
            rw [if_pos hj] at hv
            exact hcells.rel (j - off) c v hc (by simpa using hv)
          · rename_i hj
            rw [if_neg hj] at hv
            exact hr.rel j c v hc hv
      have hone' : ∀ c ∈ over cs off (σ y).cells, c.one = true := by
        intro c hc
        simp only [over, List.mem_append] at hc
        rcases hc with (hc | hc) | hc
        · exact hone c (List.mem_of_mem_take hc)
        · simp only [List.all_eq_true] at h3; exact h3 c hc
        · exact hone c (List.mem_of_mem_drop hc)
      obtain ⟨R, hR, hR1, hR2⟩ := sound_fill hσ hqs hnew hone' hf
      refine ⟨R, ?_, hR1, hR2⟩
      simp only [List.map_cons, Instr.fill, hpl]
      rw [if_neg (by
        simp only [ne_eq, Bool.or_eq_true, decide_eq_true_eq, not_or]
        constructor
        · simp [hsz]
        · omega)]
      exact hR
    · cases hf
theorem zeroCells_rel {P : Program} {g : G} {t : TypeId} {z : List AV} (h : zeroCellsOf P t = some z) : ∃ i Z, P.info? t = some i ∧ i.zero = some Z ∧ RelL g z Z.cells ∧ z.length = i.size ∧ ∀ c ∈ z, c.one = true := by
  unfold zeroCellsOf at h
  simp only [Option.bind_eq_bind, Option.bind_eq_some_iff] at h
  obtain ⟨i, hi, Z, hZ, cs, hcs, h⟩ := h
  split at h
  · cases h
    obtain ⟨h1, h2⟩ := simples_rel (g := g) hcs
    exact ⟨i, Z, hi, hZ, by simpa using h1, by assumption, h2⟩
  · cases h
theorem sound_build {P : Program} {g : G} {w : World} {σ : Opd → AV} {ρ : Operand → Value} (hσ : Ops g σ ρ) {t : TypeId} {parts : Array (Nat × Operand)} {z : List AV} {qs : List (Nat × Nat × Opd)}
    (hc : compOp P (.build t parts) = some (.build z qs)) {r : List AV} (hf : fillAV z (qs.map fun (o, n, x) => (o, n, σ x)) = some r) :
    ∃ V, (Instr.build t (parts.map fun (i, x) => (i, ρ x))).run P w = .ok V w ∧ Rel g (.agg r) V := by
  simp only [compOp, Option.bind_eq_bind, Option.bind_eq_some_iff] at hc
  obtain ⟨z', hz, hc⟩ := hc
  obtain ⟨i, Z, hi, hZ, hrz, hlz, honez⟩ := zeroCells_rel (g := g) hz
  split at hc
  · rename_i fs hu
    simp only [Option.bind_eq_some_iff, Option.some.injEq, NOp.build.injEq] at hc
    obtain ⟨places, hpl, qs', hqs, rfl, rfl⟩ := hc
    obtain ⟨R, hR, hR1, hR2⟩ := sound_fill hσ (place := (places[·]?)) hqs hrz honez hf
    refine ⟨.agg R, ?_, hR1.agg hR2⟩
    have hplaces : (fs.mapM fun f => do pure (f.offset, ← sizeOf f.type) : Sem (Array (Nat × Nat))).run P w = .ok places.toArray w := by
      rw [Array.mapM_eq_mapM_toList]
      have : ∀ (l : List Field) (ps : List (Nat × Nat)), (l.mapM fun f => (P.info? f.type).map fun i => (f.offset, i.size)) = some ps →
          (l.mapM fun f => do pure (f.offset, ← sizeOf f.type) : Sem (List (Nat × Nat))).run P w = .ok ps w := by
        intro l
        induction l with
        | nil => intro ps h; simp at h; subst h; simp
        | cons f l ih =>
          intro ps h
          simp only [List.mapM_cons, Option.bind_eq_bind, Option.bind_eq_some_iff, Option.pure_def, Option.some.injEq, Option.map_eq_some_iff] at h
          obtain ⟨p, ⟨j, hj, rfl⟩, ps', hps, rfl⟩ := h
          have h1 : (do pure (f.offset, ← sizeOf f.type) : Sem (Nat × Nat)).run P w = .ok (f.offset, j.size) w := by simp [sizeOf, typeInfo, hj]
          rw [List.mapM_cons, Sem.run_bind, h1, Result.andThen_ok, Sem.run_bind, ih ps' hps]
          rfl
      rw [Sem.run_map, this _ _ hpl]
      rfl
    simp only [Instr.build, Sem.run_bind, zeroValue, typeInfo, run_program, Result.andThen_ok, hi, Sem.run_pure, hZ, run_underlying hu, hplaces]
    have e1 : (fun (x : Nat) => places.toArray[x]?) = (fun x => places[x]?) := by funext x; simp
    have e2 : (Array.map (fun (x : Nat × Operand) => (x.1, ρ x.2)) parts).toList = parts.toList.map (fun (x : Nat × Operand) => (x.1, ρ x.2)) := by simp
    simp only [e1, e2, hR, Sem.run_pure]
  · rename_i n e hu
    simp only [Option.bind_eq_some_iff, Option.some.injEq, NOp.build.injEq] at hc
    obtain ⟨j, hj, qs', hqs, rfl, rfl⟩ := hc
    obtain ⟨R, hR, hR1, hR2⟩ := sound_fill hσ (place := fun k => some (k * j.size, j.size)) hqs hrz honez hf
    refine ⟨.agg R, ?_, hR1.agg hR2⟩
    simp only [Instr.build, Sem.run_bind, zeroValue, typeInfo, run_program, Result.andThen_ok, hi, Sem.run_pure, hZ, run_underlying hu, sizeOf, hj]
    have e2 : (Array.map (fun (x : Nat × Operand) => (x.1, ρ x.2)) parts).toList = parts.toList.map (fun (x : Nat × Operand) => (x.1, ρ x.2)) := by simp
    simp only [e2, hR, Sem.run_pure]
  · cases hc
end Go.NL

set_option linter.unusedVariables false

namespace Go.NL
theorem add_mk (cb o k : Nat) : (⟨cb, o, none⟩ : Addr).add k = ⟨cb, o + k, none⟩ := by unfold Addr.add; split <;> simp_all
theorem add_spot {a : Addr} (h : a.spot = none) (k : Nat) : (a.add k).spot = none := by unfold Addr.add; split <;> simp_all
theorem run_slice_slice {P : Program} {w : World} {t e : TypeId} {i : TypeInfo} (hu : P.underlying t = some (.slice e)) (hi : P.info? e = some i) {a : Option Addr} {len cap : Nat} {lo hi' mx : Option Value} {l h m : Nat}
    (hb : (Instr.sliceBounds true len cap lo hi' mx).run P w = .ok (l, h, m) w) : (Instr.sliceAt t (.slice a len cap) lo hi' mx).run P w = .ok (.slice (if m = l then a else a.map (·.add (l * i.size))) (h - l) (m - l)) w := by
  simp only [Instr.sliceAt, Sem.run_bind, run_underlying hu, Result.andThen_ok, Instr.slice, hb, sizeOf, typeInfo, run_program, hi, Sem.run_pure]
/-- What the three bounds come to. -/
theorem run_bounds {P : Program} {w : World} {sl : Bool} {len cap : Nat} {lo hi mx : Option Value} {l h m : Nat}
    (hm : (mx = none ∧ m = cap) ∨ ∃ V, mx = some V ∧ ∀ code, (Instr.sliceBound V cap code).run P w = .ok m w)
    (hh : (hi = none ∧ mx = none ∧ h = len) ∨ ∃ V, hi = some V ∧ ∀ code, (Instr.sliceBound V m code).run P w = .ok h w)
    (hl : (lo = none ∧ l = 0) ∨ ∃ V, lo = some V ∧ ∀ code, (Instr.sliceBound V h code).run P w = .ok l w) : (Instr.sliceBounds sl len cap lo hi mx).run P w = .ok (l, h, m) w := by
  unfold Instr.sliceBounds
  rcases hm with ⟨rfl, rfl⟩ | ⟨M, rfl, hM⟩
  · rcases hh with ⟨rfl, _, rfl⟩ | ⟨H, rfl, hH⟩
    · rcases hl with ⟨rfl, rfl⟩ | ⟨L, rfl, hL⟩
      · simp
      · simp [hL]
    · rcases hl with ⟨rfl, rfl⟩ | ⟨L, rfl, hL⟩
      · simp [hH]
      · simp [hH, hL]
  · rcases hh with ⟨_, hno, _⟩ | ⟨H, rfl, hH⟩
    · cases hno
    · rcases hl with ⟨rfl, rfl⟩ | ⟨L, rfl, hL⟩
      · simp [hM, hH]
      · simp [hM, hH, hL]
theorem low_le {cap : Cap} {c : Nat} (h : match cap with | .ge k => k ≤ c | .eq k => c = k) : cap.low ≤ c := by cases cap <;> simp_all [Cap.low]
/-- The optional operands of a slice expression. -/
def OptOk (g : G) (x : Option AV) (X : Option Value) : Prop := (x = none ∧ X = none) ∨ ∃ v V, x = some v ∧ X = some V ∧ Rel g v V
theorem boundAV_spec {P : Program} {g : G} {w : World} {x : Option AV} {X : Option Value} (hx : OptOk g x X) {d top r : Nat} (h : boundAV d top x = some r) :
    (x = none ∧ X = none ∧ r = d) ∨ (x.isSome = true ∧ r ≤ top ∧ ∃ V, X = some V ∧ ∀ top' code, top ≤ top' → (Instr.sliceBound V top' code).run P w = .ok r w) := by
  rcases hx with ⟨rfl, rfl⟩ | ⟨v, V, rfl, rfl, hR⟩
  · simp only [boundAV, Option.some.injEq] at h
    exact .inl ⟨rfl, rfl, h.symm⟩
  · cases hR <;> simp only [boundAV, reduceCtorEq] at h
    rename_i k n
    split at h
    · rename_i hc
      cases h
      exact .inr ⟨rfl, by omega, _, rfl, fun top' code ht => run_sliceBound _ k n top' code hc.1 (by omega)⟩
    · cases h
theorem extract_list (s : ByteArray) (l h : Nat) : (s.extract l h).data.toList = (s.data.toList.drop l).take (h - l) := by
  rw [ByteArray.data_extract]
  simp [List.extract_eq_take_drop]
theorem sound_slice {P : Program} {g : G} {w : World} {t : TypeId} {esz : Option Nat} (ht : (esz = none ∧ P.underlying t = some .string) ∨ ∃ e i, P.underlying t = some (.slice e) ∧ P.info? e = some i ∧ esz = some i.size)
    {lo hi mx : Option AV} {Lo Hi Mx : Option Value} (h1 : OptOk g lo Lo) (h2 : OptOk g hi Hi) (h3 : OptOk g mx Mx) {x : AV} {X : Value} (hx : Rel g x X) {v : AV} (hv : sliceAV esz lo hi mx x = some v) :
    ∃ V, (Instr.sliceAt t X Lo Hi Mx).run P w = .ok V w ∧ Rel g v V := by
  unfold sliceAV at hv
  split at hv
  · -- a text
    rename_i s
    split at hv
    · cases hv
    · rename_i he
      rcases ht with ⟨_, hu⟩ | ⟨e, i, _, _, rfl⟩
      · split at hv
        · cases hv
        · split at hv
          · cases hv
          · rename_i h hh
            split at hv
            · cases hv
            · rename_i l hl
              cases hv
              obtain ⟨b, rfl, rfl⟩ := rel_str hx
              have hMx : Mx = none := by
                rcases h3 with ⟨_, h⟩ | ⟨v, V, h, _⟩
                · exact h
                · cases h
              subst hMx
              have hbs : b.size = b.data.toList.length := by rw [Array.length_toList]; rfl
              have hb : (Instr.sliceBounds false b.size b.size Lo Hi none).run P w = .ok (l, h, b.size) w := by
                refine run_bounds (.inl ⟨rfl, rfl⟩) ?_ ?_
                · rcases boundAV_spec (P := P) (w := w) h2 hh with ⟨_, hH, hr⟩ | ⟨_, hle, V, hV, hr⟩
                  · exact .inl ⟨hH, rfl, by rw [hr, hbs]⟩
                  · exact .inr ⟨V, hV, fun code => hr _ _ (by rw [hbs]; exact Nat.le_refl _)⟩
                · rcases boundAV_spec (P := P) (w := w) h1 hl with ⟨_, hH, hr⟩ | ⟨_, hle, V, hV, hr⟩
                  · exact .inl ⟨hH, hr⟩
                  · exact .inr ⟨V, hV, fun code => hr _ _ (Nat.le_refl _)⟩
              refine ⟨.string (b.extract l h), ?_, rel_str_mk _ _ (extract_list _ _ _)⟩
              simp only [Instr.sliceAt, Sem.run_bind, run_underlying hu, Result.andThen_ok, Instr.slice, Option.isSome_none, Bool.false_eq_true, if_false, hb, Sem.run_pure]
      · simp at he
  · -- nil
    split at hv
    · cases hv
    · rename_i he
      simp only [Bool.or_eq_true, Bool.and_eq_true, not_or, not_and, Bool.not_eq_true] at he
      split at hv
      · rename_i m h l hm hh hl
        cases hv
        rcases ht with ⟨rfl, hu⟩ | ⟨e, i, hu, hi', rfl⟩
        · simp at he
        · cases hx
          have hm0 : m = 0 := by
            rcases boundAV_spec (P := P) (w := w) h3 hm with ⟨_, _, hr⟩ | ⟨_, hle, _⟩ <;> omega
          have hh0 : h = 0 := by
            rcases boundAV_spec (P := P) (w := w) h2 hh with ⟨_, _, hr⟩ | ⟨_, hle, _⟩ <;> omega
          have hl0 : l = 0 := by
            rcases boundAV_spec (P := P) (w := w) h1 hl with ⟨_, _, hr⟩ | ⟨_, hle, _⟩ <;> omega
          subst hm0
          subst hh0
          subst hl0
          have hb : (Instr.sliceBounds true 0 0 Lo Hi Mx).run P w = .ok (0, 0, 0) w := by
            refine run_bounds ?_ ?_ ?_
            · rcases boundAV_spec (P := P) (w := w) h3 hm with ⟨_, hH, hr⟩ | ⟨_, hle, V, hV, hr⟩
              · exact .inl ⟨hH, rfl⟩
              · exact .inr ⟨V, hV, fun code => hr _ _ (Nat.le_refl _)⟩
            · rcases boundAV_spec (P := P) (w := w) h2 hh with ⟨hn, hH, hr⟩ | ⟨_, hle, V, hV, hr⟩
              · refine .inl ⟨hH, ?_, rfl⟩
                rcases h3 with ⟨_, h⟩ | ⟨v, V, h, _⟩
                · exact h
                · subst h; subst hn; simp at he
              · exact .inr ⟨V, hV, fun code => hr _ _ (Nat.le_refl _)⟩
            · rcases boundAV_spec (P := P) (w := w) h1 hl with ⟨_, hH, hr⟩ | ⟨_, hle, V, hV, hr⟩
              · exact .inl ⟨hH, rfl⟩
              · exact .inr ⟨V, hV, fun code => hr _ _ (Nat.le_refl _)⟩
          refine ⟨_, run_slice_slice hu hi' hb, ?_⟩
          simp
          exact .nilslice
      · cases hv
  · -- a block that may change
    rename_i e b off len cap
    split at hv
    · cases hv
    · rename_i he
      rcases ht with ⟨rfl, hu⟩ | ⟨e', i, hu, hi', rfl⟩
      · simp at he
      · simp only [ne_eq, Option.some.injEq, Classical.not_not] at he
        subst he
        cases hx with
        | slice _ _ _ _ _ a c hb hlc hcap hsp hlive =>
          have hlow := low_le hcap
          split at hv
          · -- no third bound
            have hMx : Mx = none := by
              rcases h3 with ⟨_, h⟩ | ⟨v, V, h, _⟩
              · exact h
              · cases h
            subst hMx
            split at hv
            · cases hv
            · rename_i h hh
              split at hv
              · cases hv
              · rename_i l hl
                cases hv
                have hlh : l ≤ h ∧ h ≤ c := by
                  constructor
                  · rcases boundAV_spec (P := P) (w := w) h1 hl with ⟨_, _, hr⟩ | ⟨_, hle, _⟩ <;> omega
                  · rcases boundAV_spec (P := P) (w := w) h2 hh with ⟨_, _, hr⟩ | ⟨_, hle, _⟩ <;> omega
                have hb' : (Instr.sliceBounds true len c Lo Hi none).run P w = .ok (l, h, c) w := by
                  refine run_bounds (.inl ⟨rfl, rfl⟩) ?_ ?_
                  · rcases boundAV_spec (P := P) (w := w) h2 hh with ⟨_, hH, hr⟩ | ⟨_, hle, V, hV, hr⟩
                    · exact .inl ⟨hH, rfl, hr⟩
                    · exact .inr ⟨V, hV, fun code => hr _ _ hlow⟩
                  · rcases boundAV_spec (P := P) (w := w) h1 hl with ⟨_, hH, hr⟩ | ⟨_, hle, V, hV, hr⟩
                    · exact .inl ⟨hH, hr⟩
                    · exact .inr ⟨V, hV, fun code => hr _ _ (Nat.le_refl _)⟩
                refine ⟨_, run_slice_slice hu hi' hb', ?_⟩
                have hcap' : match cap.less l with | .ge k => k ≤ c - l | .eq k => c - l = k := by
                  cases cap <;> simp only [Cap.less] at hcap ⊢ <;> omega
                by_cases hcl : c = l
                · rw [if_pos hcl]
                  exact .slice _ _ _ _ _ _ _ hb (by omega) hcap' hsp (fun hne => by omega)
                · rw [if_neg hcl]
                  refine .slice _ _ _ _ _ _ _ hb (by omega) hcap' (add_spot hsp _) (fun hne cb sh top hm => ?_)
                  obtain ⟨rfl, h4⟩ := hlive (by omega) _ _ _ hm
                  refine ⟨(add_mk _ _ _).trans (by rw [Nat.add_assoc]), ?_⟩
                  have : (l + (c - l)) * i.size = c * i.size := by rw [Nat.add_sub_cancel' (by omega)]
                  rw [Nat.add_mul] at this
                  omega
          · -- three bounds
            rename_i mv
            split at hv
            · cases hv
            · rename_i m hm
              split at hv
              · cases hv
              · rename_i hv'
                split at hv
                · cases hv
                · rename_i h hh
                  split at hv
                  · cases hv
                  · rename_i l hl
                    cases hv
                    have hlh : l ≤ h ∧ h ≤ m ∧ m ≤ c := by
                      refine ⟨?_, ?_, ?_⟩
                      · rcases boundAV_spec (P := P) (w := w) h1 hl with ⟨_, _, hr⟩ | ⟨_, hle, _⟩ <;> omega
                      · rcases boundAV_spec (P := P) (w := w) h2 hh with ⟨hn, _, hr⟩ | ⟨_, hle, _⟩
                        · cases hn
                        · omega
                      · rcases boundAV_spec (P := P) (w := w) h3 hm with ⟨hn, _, hr⟩ | ⟨_, hle, _⟩
                        · cases hn
                        · omega
                    have hb' : (Instr.sliceBounds true len c Lo Hi Mx).run P w = .ok (l, h, m) w := by
                      refine run_bounds ?_ ?_ ?_
                      · rcases boundAV_spec (P := P) (w := w) h3 hm with ⟨hn, _, hr⟩ | ⟨_, hle, V, hV, hr⟩
                        · cases hn
                        · exact .inr ⟨V, hV, fun code => hr _ _ hlow⟩
                      · rcases boundAV_spec (P := P) (w := w) h2 hh with ⟨hn, _, hr⟩ | ⟨_, hle, V, hV, hr⟩
                        · cases hn
                        · exact .inr ⟨V, hV, fun code => hr _ _ (Nat.le_refl _)⟩
                      · rcases boundAV_spec (P := P) (w := w) h1 hl with ⟨_, hH, hr⟩ | ⟨_, hle, V, hV, hr⟩
                        · exact .inl ⟨hH, hr⟩
                        · exact .inr ⟨V, hV, fun code => hr _ _ (Nat.le_refl _)⟩
                    refine ⟨_, run_slice_slice hu hi' hb', ?_⟩
                    by_cases hcl : m = l
                    · rw [if_pos hcl]
                      exact .slice _ _ _ _ _ _ _ hb (by omega) rfl hsp (fun hne => by omega)
                    · rw [if_neg hcl]
                      refine .slice _ _ _ _ _ _ _ hb (by omega) rfl (add_spot hsp _) (fun hne cb sh top hm' => ?_)
                      obtain ⟨rfl, h4⟩ := hlive (by omega) _ _ _ hm'
                      refine ⟨(add_mk _ _ _).trans (by rw [Nat.add_assoc]), ?_⟩
                      have : (l + (m - l)) * i.size = m * i.size := by rw [Nat.add_sub_cancel' (by omega)]
                      have h5 : m * i.size ≤ c * i.size := Nat.mul_le_mul_right _ (by omega)
                      rw [Nat.add_mul] at this
                      omega
  · -- what does not change
    rename_i e es ex
    split at hv
    · cases hv
    · rename_i he
      rcases ht with ⟨rfl, hu⟩ | ⟨e', i, hu, hi', rfl⟩
      · simp at he
      · simp only [ne_eq, Option.some.injEq, Classical.not_not] at he
        subst he
        rcases rel_islice hx with ⟨cb, o, c, hlc, hex, him, rfl⟩ | ⟨h0, a, rfl⟩
        · have hsub : ∀ (l h : Nat), l ≤ h → h ≤ es.length → ∀ (k : Nat) (el : AV), ((es.drop l).take (h - l))[k]? = some el → el.cells.length = i.size ∧ ∀ (j : Nat) (u : AV), el.cells[j]? = some u → g.im cb (o + l * i.size + k * i.size + j) u := by
            intro l h hlh hhl k el hk
            have hkl : k < h - l := by
              rcases Nat.lt_or_ge k (h - l) with h' | h'
              · exact h'
              · rw [List.getElem?_take, if_neg (by omega)] at hk; cases hk
            rw [drop_take_get _ _ _ _ hkl] at hk
            obtain ⟨q1, q2⟩ := him _ _ hk
            refine ⟨q1, fun j u hu => ?_⟩
            have := q2 j u hu
            rw [Nat.add_mul, ← Nat.add_assoc] at this
            exact this
          have hlen : ∀ (l h : Nat), h ≤ es.length → ((es.drop l).take (h - l)).length = h - l := by intro l h hh; simp; omega
          split at hv
          · have hMx : Mx = none := by
              rcases h3 with ⟨_, h⟩ | ⟨v, V, h, _⟩
              · exact h
              · cases h
            subst hMx
            split at hv
            · cases hv
            · rename_i h hh
              split at hv
              · cases hv
              · rename_i l hl
                cases hv
                have hlh : l ≤ h ∧ h ≤ es.length := by
                  constructor
                  · rcases boundAV_spec (P := P) (w := w) h1 hl with ⟨_, _, hr⟩ | ⟨_, hle, _⟩ <;> omega
                  · rcases boundAV_spec (P := P) (w := w) h2 hh with ⟨_, _, hr⟩ | ⟨_, hle, _⟩ <;> omega
                have hb' : (Instr.sliceBounds true es.length c Lo Hi none).run P w = .ok (l, h, c) w := by
                  refine run_bounds (.inl ⟨rfl, rfl⟩) ?_ ?_
                  · rcases boundAV_spec (P := P) (w := w) h2 hh with ⟨_, hH, hr⟩ | ⟨_, hle, V, hV, hr⟩
                    · exact .inl ⟨hH, rfl, hr⟩
                    · exact .inr ⟨V, hV, fun code => hr _ _ hlc⟩
                  · rcases boundAV_spec (P := P) (w := w) h1 hl with ⟨_, hH, hr⟩ | ⟨_, hle, V, hV, hr⟩
                    · exact .inl ⟨hH, hr⟩
                    · exact .inr ⟨V, hV, fun code => hr _ _ (Nat.le_refl _)⟩
                have hrun := run_slice_slice (a := some ⟨cb, o, none⟩) hu hi' hb'
                have hex' : (ex && h == es.length) = true → c - l = h - l := by
                  intro hh'
                  simp only [Bool.and_eq_true, beq_iff_eq] at hh'
                  have := hex hh'.1
                  omega
                by_cases hcl : c = l
                · rw [if_pos hcl] at hrun
                  refine ⟨_, hrun, ?_⟩
                  have h0 : h - l = 0 := by omega
                  have hR := Rel.islice (g := g) i.size ((es.drop l).take (h - l)) (ex && h == es.length) cb o (c - l) (by rw [hlen l h hlh.2]; omega) (by rw [hlen l h hlh.2]; exact hex') (by rw [h0]; simp)
                  rw [hlen l h hlh.2] at hR
                  exact hR
                · rw [if_neg hcl] at hrun
                  refine ⟨_, hrun, ?_⟩
                  simp only [Option.map_some, add_mk]
                  have hR := Rel.islice (g := g) i.size ((es.drop l).take (h - l)) (ex && h == es.length) cb (o + l * i.size) (c - l) (by rw [hlen l h hlh.2]; omega) (by rw [hlen l h hlh.2]; exact hex') (hsub l h hlh.1 hlh.2)
                  rw [hlen l h hlh.2] at hR
                  exact hR
          · rename_i mv
            split at hv
            · cases hv
            · rename_i m hm
              split at hv
              · cases hv
              · rename_i hv'
                split at hv
                · cases hv
                · rename_i h hh
                  split at hv
                  · cases hv
                  · rename_i l hl
                    cases hv
                    have hlh : l ≤ h ∧ h ≤ m ∧ m ≤ es.length := by
                      refine ⟨?_, ?_, ?_⟩
                      · rcases boundAV_spec (P := P) (w := w) h1 hl with ⟨_, _, hr⟩ | ⟨_, hle, _⟩ <;> omega
                      · rcases boundAV_spec (P := P) (w := w) h2 hh with ⟨hn, _, hr⟩ | ⟨_, hle, _⟩
                        · cases hn
                        · omega
                      · rcases boundAV_spec (P := P) (w := w) h3 hm with ⟨hn, _, hr⟩ | ⟨_, hle, _⟩
                        · cases hn
                        · omega
                    have hb' : (Instr.sliceBounds true es.length c Lo Hi Mx).run P w = .ok (l, h, m) w := by
                      refine run_bounds ?_ ?_ ?_
                      · rcases boundAV_spec (P := P) (w := w) h3 hm with ⟨hn, _, hr⟩ | ⟨_, hle, V, hV, hr⟩
                        · cases hn
                        · exact .inr ⟨V, hV, fun code => hr _ _ hlc⟩
                      · rcases boundAV_spec (P := P) (w := w) h2 hh with ⟨hn, _, hr⟩ | ⟨_, hle, V, hV, hr⟩
                        · cases hn
                        · exact .inr ⟨V, hV, fun code => hr _ _ (Nat.le_refl _)⟩
                      · rcases boundAV_spec (P := P) (w := w) h1 hl with ⟨_, hH, hr⟩ | ⟨_, hle, V, hV, hr⟩
                        · exact .inl ⟨hH, hr⟩
                        · exact .inr ⟨V, hV, fun code => hr _ _ (Nat.le_refl _)⟩
                    have hrun := run_slice_slice (a := some ⟨cb, o, none⟩) hu hi' hb'
                    have hex' : (h == m) = true → m - l = h - l := by
                      intro hh'
                      simp only [beq_iff_eq] at hh'
                      omega
                    by_cases hcl : m = l
                    · rw [if_pos hcl] at hrun
                      refine ⟨_, hrun, ?_⟩
                      have h0 : h - l = 0 := by omega
                      have hR := Rel.islice (g := g) i.size ((es.drop l).take (h - l)) (h == m) cb o (m - l) (by rw [hlen l h (by omega)]; omega) (by rw [hlen l h (by omega)]; exact hex') (by rw [h0]; simp)
                      rw [hlen l h (by omega)] at hR
                      exact hR
                    · rw [if_neg hcl] at hrun
                      refine ⟨_, hrun, ?_⟩
                      simp only [Option.map_some, add_mk]
                      have hR := Rel.islice (g := g) i.size ((es.drop l).take (h - l)) (h == m) cb (o + l * i.size) (m - l) (by rw [hlen l h (by omega)]; omega) (by rw [hlen l h (by omega)]; exact hex') (hsub l h hlh.1 (by omega))
                      rw [hlen l h (by omega)] at hR
                      exact hR
        · -- an empty one, wherever it is said to lie
          subst h0
          simp only [List.drop_nil, List.take_nil, List.length_nil] at hv
          split at hv
          · have hMx : Mx = none := by
              rcases h3 with ⟨_, h⟩ | ⟨v, V, h, _⟩
              · exact h
              · cases h
            subst hMx
            split at hv
            · cases hv
            · rename_i h hh
              split at hv
              · cases hv
              · rename_i l hl
                cases hv
                have hlh : l = 0 ∧ h = 0 := by
                  have a1 : h ≤ 0 := by rcases boundAV_spec (P := P) (w := w) h2 hh with ⟨_, _, hr⟩ | ⟨_, hle, _⟩ <;> omega
                  have a2 : l ≤ h := by rcases boundAV_spec (P := P) (w := w) h1 hl with ⟨_, _, hr⟩ | ⟨_, hle, _⟩ <;> omega
                  omega
                obtain ⟨rfl, rfl⟩ := hlh
                have hb' : (Instr.sliceBounds true 0 0 Lo Hi none).run P w = .ok (0, 0, 0) w := by
                  refine run_bounds (.inl ⟨rfl, rfl⟩) ?_ ?_
                  · rcases boundAV_spec (P := P) (w := w) h2 hh with ⟨_, hH, hr⟩ | ⟨_, hle, V, hV, hr⟩
                    · exact .inl ⟨hH, rfl, hr⟩
                    · exact .inr ⟨V, hV, fun code => hr _ _ (Nat.le_refl _)⟩
                  · rcases boundAV_spec (P := P) (w := w) h1 hl with ⟨_, hH, hr⟩ | ⟨_, hle, V, hV, hr⟩
                    · exact .inl ⟨hH, hr⟩
                    · exact .inr ⟨V, hV, fun code => hr _ _ (Nat.le_refl _)⟩
                have hrun := run_slice_slice (a := some a) hu hi' hb'
                rw [if_pos rfl] at hrun
                exact ⟨_, hrun, .islice0 _ _ _⟩
          · rename_i mv
            split at hv
            · cases hv
            · rename_i m hm
              split at hv
              · cases hv
              · rename_i hv'
                split at hv
                · cases hv
                · rename_i h hh
                  split at hv
                  · cases hv
                  · rename_i l hl
                    cases hv
                    have hlh : l = 0 ∧ h = 0 ∧ m = 0 := by
                      have a1 : m ≤ 0 := by
                        rcases boundAV_spec (P := P) (w := w) h3 hm with ⟨hn, _, hr⟩ | ⟨_, hle, _⟩
                        · cases hn
                        · omega
                      have a2 : h ≤ m := by
                        rcases boundAV_spec (P := P) (w := w) h2 hh with ⟨hn, _, hr⟩ | ⟨_, hle, _⟩
                        · cases hn
                        · omega
                      have a3 : l ≤ h := by rcases boundAV_spec (P := P) (w := w) h1 hl with ⟨_, _, hr⟩ | ⟨_, hle, _⟩ <;> omega
                      omega
                    obtain ⟨rfl, rfl, rfl⟩ := hlh
                    have hb' : (Instr.sliceBounds true 0 0 Lo Hi Mx).run P w = .ok (0, 0, 0) w := by
                      refine run_bounds ?_ ?_ ?_
                      · rcases boundAV_spec (P := P) (w := w) h3 hm with ⟨hn, _, hr⟩ | ⟨_, hle, V, hV, hr⟩
                        · cases hn
                        · exact .inr ⟨V, hV, fun code => hr _ _ (Nat.le_refl _)⟩
                      · rcases boundAV_spec (P := P) (w := w) h2 hh with ⟨hn, _, hr⟩ | ⟨_, hle, V, hV, hr⟩
                        · cases hn
                        · exact .inr ⟨V, hV, fun code => hr _ _ (Nat.le_refl _)⟩
                      · rcases boundAV_spec (P := P) (w := w) h1 hl with ⟨_, hH, hr⟩ | ⟨_, hle, V, hV, hr⟩
                        · exact .inl ⟨hH, hr⟩
                        · exact .inr ⟨V, hV, fun code => hr _ _ (Nat.le_refl _)⟩
                    have hrun := run_slice_slice (a := some a) hu hi' hb'
                    rw [if_pos rfl] at hrun
                    exact ⟨_, hrun, .islice0 _ _ _⟩
  · cases hv
end Go.NL

set_option linter.unusedVariables false

namespace Go.NL
theorem sound_indexAddr {P : Program} {g : G} {w : World} {t e : TypeId} {j : TypeInfo} {arr : Option Nat} (hj : P.info? e = some j)
    (ht : (arr = none ∧ P.underlying t = some (.slice e)) ∨ ∃ n, arr = some n ∧ P.underlying t = some (.array n e)) {x v : AV} {X : Value} (hx : Rel g x X) {k : IntKind} {n : Int} (hv : indexAddrAV j.size arr x n = some v) :
    ∃ V, (Instr.indexAt t X (.int k n)).run P w = .ok V w ∧ Rel g v V := by
  unfold indexAddrAV at hv
  split at hv
  · rename_i len
    rcases ht with ⟨h, _⟩ | ⟨m, h, hu⟩
    · cases h
    · cases h
      split at hv
      · rename_i hn
        split at hv
        · rename_i b off
          cases hv
          cases hx with
          | ptr _ _ a hb h =>
            refine ⟨.pointer (some (a.add (n.toNat * j.size))), ?_, .ptr _ _ _ hb fun cb sh top hm => ?_⟩
            · simp [Instr.indexAt, asIntOf, run_underlying hu, Instr.sureAddr, hn, sizeOf, typeInfo, hj]
            · rw [h _ _ _ hm, add_mk, Nat.add_assoc]
        · rename_i cs off
          cases hv
          cases hx with
          | iptr _ _ cb o h =>
            refine ⟨.pointer (some ⟨cb, o + (off + n.toNat * j.size), none⟩), ?_, .iptr _ _ _ _ h⟩
            simp [Instr.indexAt, asIntOf, run_underlying hu, Instr.sureAddr, hn, sizeOf, typeInfo, hj, add_mk, Nat.add_assoc]
        · cases hv
      · cases hv
  · rcases ht with ⟨_, hu⟩ | ⟨m, h, hu⟩
    · split at hv
      · rename_i e' b off len cap
        split at hv
        · rename_i hc
          obtain ⟨rfl, h0, hlt⟩ := hc
          cases hv
          cases hx with
          | slice _ _ _ _ _ a c hb hlc hcap hsp h =>
            refine ⟨.pointer (some (a.add (n.toNat * j.size))), ?_, .ptr _ _ _ hb fun cb sh top hm => ?_⟩
            · simp [Instr.indexAt, asIntOf, run_underlying hu, h0, hlt, sizeOf, typeInfo, hj]
            · have hc0 : c ≠ 0 := by omega
              rw [(h hc0 _ _ _ hm).1, add_mk, Nat.add_assoc]
        · cases hv
      · rename_i e' es ex
        split at hv
        · rename_i hc
          obtain ⟨rfl, h0⟩ := hc
          simp only [Option.map_eq_some_iff] at hv
          obtain ⟨el, hel, rfl⟩ := hv
          rcases rel_islice hx with ⟨cb, o, c, hlc, hex, h, rfl⟩ | ⟨h1, a, rfl⟩
          · obtain ⟨h1, h2⟩ := h _ _ hel
            have hlt : n < es.length := by
              have := (List.getElem?_eq_some_iff.1 hel).1
              omega
            refine ⟨.pointer (some ⟨cb, o + n.toNat * j.size + 0, none⟩), ?_, .iptr _ _ _ _ h2⟩
            simp [Instr.indexAt, asIntOf, run_underlying hu, h0, hlt, sizeOf, typeInfo, hj, add_mk]
          · simp [h1] at hel
        · cases hv
      · cases hv
    · cases h
theorem sound_len {P : Program} {g : G} {A : Heap} {w : World} (hs : Sim g A w) {t ty : TypeId} {k : LenK}
    (ht : match k with | .str => P.underlying t = some .string | .slice => ∃ e, P.underlying t = some (.slice e) | .map => ∃ a b, P.underlying t = some (.map a b)) {x : AV} {X : Value} (hx : Rel g x X) {n : Nat} (hn : lenAV A k x = some n) :
    (Builtin.len_ #[t] ty #[X]).run P w = .ok (.int .i64 n) w := by
  unfold lenAV at hn
  split at hn
  · cases hn
    obtain ⟨b, rfl, rfl⟩ := rel_str hx
    have hbs : b.size = b.data.toList.length := by rw [Array.length_toList]; rfl
    rw [← hbs]
    simp [Builtin.len_, run_underlying ht, goInt]
  · cases hn; cases hx
    obtain ⟨e, hu⟩ := ht
    simp [Builtin.len_, run_underlying hu, goInt]
  · cases hn; cases hx
    obtain ⟨e, hu⟩ := ht
    simp [Builtin.len_, run_underlying hu, goInt]
  · cases hn; cases hx <;>
    (obtain ⟨e, hu⟩ := ht
     simp [Builtin.len_, run_underlying hu, goInt])
  · cases hn; cases hx
    obtain ⟨a, b, hu⟩ := ht
    simp [Builtin.len_, run_underlying hu, goInt]
  · split at hn
    · rename_i es ck hA
      cases hn
      obtain ⟨cb, sh, top, hm, ces, hh, hlen, _⟩ := hs.blk _ _ hA
      cases hx with
      | map _ cb' hb h =>
        have := h _ _ _ hm
        subst this
        obtain ⟨a, b, hu⟩ := ht
        have hg : (getObj cb).run P w = .ok (.map ces ck) w := by simp only [getObj, Sem.run, hh]
        have h1 : (Builtin.len_ #[t] ty #[.map (some cb)]).run P w = ((getObj cb).run P w).andThen fun o w' => (match o with | .map entries _ => (pure (goInt entries.size) : Sem Value) | _ => stuck "len: map expected").run P w' := by
          simp only [Builtin.len_, List.getElem?_toArray, List.getElem?_cons_zero, Sem.run_bind, run_underlying hu, Result.andThen_ok]
          rfl
        rw [h1, hg, Result.andThen_ok, hlen.symm]
        rfl
    · cases hn
  · cases hn
theorem keyEq_sound {P : Program} {g : G} {d : TypeDesc} (hd : (∃ k, d = .int k) ∨ d = .string) {a b : AV} {A B : Value} (ha : Rel g a A) (hb : Rel g b B) {r : Bool} (h : keyEq a b = some r) (hty : (∃ k n, a = .int k n) ↔ ∃ k, d = .int k) :
    Instr.sameNow d A B = some r := by
  unfold keyEq at h
  split at h
  · split at h
    · rename_i hk
      cases h; cases hk; cases ha; cases hb
      obtain ⟨k, rfl⟩ := hty.1 ⟨_, _, rfl⟩
      simp only [Instr.sameNow, if_true]
      rfl
    · cases h
  · cases h
    obtain ⟨a, rfl, rfl⟩ := rel_str ha
    obtain ⟨b, rfl, rfl⟩ := rel_str hb
    rcases hd with ⟨k, rfl⟩ | rfl
    · obtain ⟨k, n, h⟩ := hty.2 ⟨k, rfl⟩
      cases h
    · simp only [Instr.sameNow]
      rw [bytes_eq]
  · cases h
/-- The key's kind and the map type's. -/
def keyDesc (str : Bool) (d : TypeDesc) : Prop := if str then d = .string else ∃ k, d = .int k
theorem findE_sound {P : Program} {g : G} {d : TypeDesc} {str : Bool} (hd : keyDesc str d) {k : AV} {K : Value} (hk : Rel g k K) (hf : keyOk str k = true) :
    ∀ (es : List (AV × AV × Nat)) (ces : List MapEntry) (i : Nat) (hl : ces.length = es.length)
      (hr : ∀ (j : Nat) (k' v : AV) (born : Nat) (e : MapEntry), es[j]? = some (k', v, born) → ces[j]? = some e → Rel g k' e.key ∧ Rel g v e.val ∧ e.born = born) {r : Option (Nat × AV)} (h : findE k es i = some r),
      ∃ R, Instr.findNow d K ces i = some R ∧ match r with
        | none => R = none
        | some (n, v) => ∃ V, R = some (n, V) ∧ Rel g v V ∧ i ≤ n ∧ ∃ k' born, es[n - i]? = some (k', v, born) ∧ keyEq k k' = some true
  | [], [], i, _, _, r, h => by
    simp only [findE, Option.some.injEq] at h
    subst h
    exact ⟨none, rfl, rfl⟩
  | [], e :: ces, i, hl, _, r, h => by simp at hl
  | x :: es, [], i, hl, _, r, h => by simp at hl
  | (k', v, born) :: es, e :: ces, i, hl, hr, r, h => by
    obtain ⟨h1, h2, h3⟩ := hr 0 k' v born e rfl rfl
    have hd' : (∃ k, d = .int k) ∨ d = .string := by cases str <;> simp only [keyDesc] at hd <;> simp_all
    have hty : (∃ kk n, k = AV.int kk n) ↔ ∃ kk, d = .int kk := by
      cases str <;> simp only [keyDesc, Bool.false_eq_true, if_false, if_true] at hd <;> cases k <;> simp [keyOk] at hf <;> simp_all
    simp only [findE] at h
    split at h
    · rename_i he
      cases h
      have hs := keyEq_sound (P := P) hd' hk h1 he hty
      refine ⟨some (i, e.val), by simp only [Instr.findNow, hs], e.val, rfl, h2, Nat.le_refl _, k', born, by simp, he⟩
    · rename_i he
      have hs := keyEq_sound (P := P) hd' hk h1 he hty
      obtain ⟨R, hR, hm⟩ := findE_sound (P := P) hd hk hf es ces (i + 1) (by simpa using hl) (fun j k'' v' b' e' hj he' => hr (j + 1) k'' v' b' e' (by simpa using hj) (by simpa using he')) h
      refine ⟨R, by simp only [Instr.findNow, hs, hR], ?_⟩
      cases r with
      | none => exact hm
      | some x =>
        obtain ⟨n, v'⟩ := x
        obtain ⟨V, q1, q2, q3, k'', b'', q4, q5⟩ := hm
        refine ⟨V, q1, q2, by omega, k'', b'', ?_, q5⟩
        have : n - i = n - (i + 1) + 1 := by omega
        rw [this, List.getElem?_cons_succ]
        exact q4
    · cases h
theorem checkKey_plain {P : Program} {w : World} {t : TypeId} {d : TypeDesc} (hu : P.underlying t = some d) {str : Bool} (hd : keyDesc str d) (b : Bool) (V : Value) : (Instr.checkKey b 10000 t V).run P w = .ok () w := by
  rw [show (10000 : Nat) = 9999 + 1 from rfl]
  generalize (9999 : Nat) = n
  cases str <;> simp only [keyDesc, Bool.false_eq_true, if_false, if_true] at hd
  · obtain ⟨k, rfl⟩ := hd; simp [Instr.checkKey, run_underlying hu]
  · subst hd; simp [Instr.checkKey, run_underlying hu]
theorem run_findKey {P : Program} {w : World} {t : TypeId} {d : TypeDesc} (hu : P.underlying t = some d) {K : Value} {ces : Array MapEntry} {R : Option (Nat × Value)} (h : Instr.findNow d K ces.toList 0 = some R) :
    (Instr.findKey t K ces.toList).run P w = .ok R w := by
  simp [Instr.findKey, run_underlying hu, h]
theorem run_getMap {P : Program} {w : World} {cb : Nat} {ces : Array MapEntry} {ck : Nat} (h : w.heap[cb]? = some (.map ces ck)) : (getObj cb).run P w = .ok (.map ces ck) w := by
  simp only [getObj, Sem.run, h]
theorem sound_lookup {P : Program} {g : G} {A : Heap} {w : World} (hs : Sim g A w) {t kt e : TypeId} {d : TypeDesc} {str ok : Bool} (hu : P.underlying t = some (.map kt e)) (hk : P.underlying kt = some d) (hd : keyDesc str d)
    {i : TypeInfo} (hi : P.info? e = some i) {Z : Value} (hZ : i.zero = some Z) {z : AV} (hz : Rel g z Z) {x k : AV} {X K : Value} (hx : Rel g x X) (hkr : Rel g k K) (hko : keyOk str k = true) {r : Option (Nat × AV)}
    (hf : mapFind A k x = some r) : ∃ V, (Instr.lookup t X K ok).run P w = .ok V w ∧ Rel g (lookRes z ok r) V := by
  have hzero : ∀ w, (zeroValue e).run P w = .ok Z w := fun w => by simp [zeroValue, typeInfo, hi, hZ]
  have mk : ∀ {a : AV} {A : Value} {b : Bool}, Rel g a A → Rel g (if ok then .tuple [a, .bool b] else a) (if ok then .tuple #[A, .bool b] else A) := by
    intro a A b h
    cases ok
    · exact h
    · exact (RelL.cons (vs := [.bool b]) h (RelL.cons (vs := []) (.bool b) .nil)).tuple
  unfold mapFind at hf
  split at hf
  · cases hf; cases hx
    refine ⟨_, ?_, mk hz⟩
    have hfn : (Instr.findKey kt K []).run P w = .ok none w := run_findKey (ces := #[]) hk rfl
    simp [Instr.lookup, run_underlying hu, checkKey_plain hk hd, hfn, hzero]
  · rename_i b
    split at hf
    · rename_i es ck hA
      obtain ⟨cb, sh, top, hm, ces, hh, hlen, hes⟩ := hs.blk _ _ hA
      cases hx with
      | map _ cb' hb h =>
        have := h _ _ _ hm
        subst this
        obtain ⟨R, hR, hrr⟩ := findE_sound (P := P) hd hkr hko es ces.toList 0 (by simpa using hlen) (fun j k' v' b' e' h1 h2 => hes j k' v' b' e' h1 (by simpa using h2)) hf
        have hfn := run_findKey (P := P) (w := w) hk hR
        have hg := run_getMap (P := P) hh
        cases r with
        | none =>
          simp only at hrr
          subst hrr
          refine ⟨_, ?_, mk hz⟩
          simp [Instr.lookup, run_underlying hu, hg, checkKey_plain hk hd, hfn, hzero]
        | some q =>
          obtain ⟨n, v'⟩ := q
          obtain ⟨V, rfl, hRv, _⟩ := hrr
          refine ⟨_, ?_, mk hRv⟩
          simp [Instr.lookup, run_underlying hu, hg, checkKey_plain hk hd, hfn]
    · cases hf
  · cases hf
end Go.NL

set_option linter.unusedVariables false

namespace Go.NL
theorem optOpd_ok {g : G} {σ : Opd → AV} {ρ : Operand → Value} (hσ : Ops g σ ρ) {x : Option Operand} {y : Option Opd} (h : optOpd x = some y) : OptOk g (y.map σ) (x.map ρ) := by
  cases x with
  | none => simp [optOpd] at h; subst h; exact .inl ⟨rfl, rfl⟩
  | some x =>
    simp only [optOpd, Option.map_eq_some_iff] at h
    obtain ⟨z, hz, rfl⟩ := h
    exact .inr ⟨_, _, rfl, rfl, hσ _ _ hz⟩
theorem lift {P : Program} {w : World} {s : Sem Value} {V : Value} (h : s.run P w = .ok V w) : (do pure (.value (← s)) : Sem Next).run P w = .ok (.value V) w := by
  simp [h]
theorem qop_sound {P : Program} {g : G} {A : Heap} {w : World} (hs : Sim g A w) {o : Oper} {nop : NOp} (hc : compOp P o.op = some nop) {σ : Opd → AV} {ρ : Operand → Value} (hσ : Ops g σ ρ) {v : AV} (hq : qop A σ nop = some v) :
    Yields P g w o ρ v := by
  obtain ⟨dst, op, type, pos, after, guard⟩ := o
  simp only at hc
  unfold Yields
  cases op with
  | move x =>
    simp only [compOp, Option.map_eq_some_iff] at hc
    obtain ⟨y, hy, rfl⟩ := hc
    cases hq
    exact ⟨_, rfl, hσ _ _ hy⟩
  | assign x =>
    simp only [compOp, Option.map_eq_some_iff] at hc
    obtain ⟨y, hy, rfl⟩ := hc
    cases hq
    exact ⟨_, rfl, hσ _ _ hy⟩
  | pick c a b =>
    simp only [compOp, Option.bind_eq_bind, Option.bind_eq_some_iff, Option.some.injEq] at hc
    obtain ⟨c', hc', a', ha, b', hb, rfl⟩ := hc
    simp only [qop] at hq
    split at hq
    · rename_i cb hcb
      cases hq
      have h1 := hσ _ _ hc'
      rw [hcb] at h1
      have := rel_bool h1
      refine ⟨if cb then ρ a else ρ b, by simp [execOp, this, asBool], ?_⟩
      cases cb
      · exact hσ _ _ hb
      · exact hσ _ _ ha
    · cases hq
  | build t parts =>
    have hc0 := hc
    simp only [compOp, Option.bind_eq_bind, Option.bind_eq_some_iff] at hc
    obtain ⟨z, hz, hc⟩ := hc
    have hform : ∃ qs, nop = .build z qs := by
      split at hc
      · simp only [Option.bind_eq_some_iff, Option.some.injEq] at hc
        obtain ⟨_, _, qs, _, rfl⟩ := hc
        exact ⟨_, rfl⟩
      · simp only [Option.bind_eq_some_iff, Option.some.injEq] at hc
        obtain ⟨_, _, qs, _, rfl⟩ := hc
        exact ⟨_, rfl⟩
      · cases hc
    obtain ⟨qs, rfl⟩ := hform
    simp only [qop, Option.map_eq_some_iff] at hq
    obtain ⟨r, hr, rfl⟩ := hq
    obtain ⟨V, h1, h2⟩ := sound_build (w := w) hσ hc0 hr
    exact ⟨V, lift h1, h2⟩
  | load t x =>
    simp only [compOp, Option.bind_eq_bind, Option.bind_eq_some_iff, Option.some.injEq] at hc
    obtain ⟨agg, hag, y, hy, rfl⟩ := hc
    obtain ⟨V, h1, h2⟩ := sound_load hs hag (hσ _ _ hy) hq
    exact ⟨V, lift h1, h2⟩
  | nilCheck x =>
    simp only [compOp, Option.map_eq_some_iff] at hc
    obtain ⟨y, hy, rfl⟩ := hc
    have hx := hσ _ _ hy
    simp only [qop] at hq
    generalize hX : ρ x = X at hx
    split at hq <;> (try (cases hq; done))
    all_goals
      rename_i h
      cases hq
      rw [h] at hx
      refine ⟨X, ?_, hx⟩
      cases hx
      simp only [execOp, hX]
      rfl
  | binOp op t x y yt =>
    simp only [compOp, Option.bind_eq_bind, Option.bind_eq_some_iff, Option.some.injEq] at hc
    obtain ⟨x', hx, y', hy, rfl⟩ := hc
    obtain ⟨V, h1, h2⟩ := sound_bin (P := P) (w := w) (hσ _ _ hx) (hσ _ _ hy) hq x y
    exact ⟨V, lift h1, h2⟩
  | unOp op t x =>
    simp only [compOp, Option.map_eq_some_iff] at hc
    obtain ⟨y, hy, rfl⟩ := hc
    have hx := hσ _ _ hy
    simp only [qop] at hq
    generalize hX : ρ x = X at hx
    split at hq <;> (try (cases hq; done))
    all_goals
      rename_i h
      cases hq
      rw [h] at hx
      cases hx
      first
        | (refine ⟨_, lift (s := Op.unary _ (ρ x)) (by rw [hX]; rfl), ?_⟩; exact .int _ _)
        | (refine ⟨_, lift (s := Op.unary _ (ρ x)) (by rw [hX]; rfl), ?_⟩; exact .bool _)
  | convert src dst x =>
    simp only [compOp, Option.bind_eq_bind] at hc
    split at hc
    · rename_i d k h1 h2
      simp only [Option.bind_eq_some_iff, Option.some.injEq] at hc
      obtain ⟨y, hy, rfl⟩ := hc
      have hx := hσ _ _ hy
      simp only [qop] at hq
      split at hq
      · rename_i h
        cases hq
        rw [h] at hx
        refine ⟨.int k _, lift (s := convert src dst (ρ x)) ?_, .int _ _⟩
        rw [rel_int hx]
        simp [convert, run_underlying h1, run_underlying h2, Conv.intToInt]
      · cases hq
    · rename_i h1 h2
      simp only [Option.bind_eq_some_iff, Option.some.injEq] at hc
      obtain ⟨y, hy, rfl⟩ := hc
      have hx := hσ _ _ hy
      simp only [qop] at hq
      split at hq
      · rename_i h
        cases hq
        rw [h] at hx
        obtain ⟨b, hb, rfl⟩ := rel_str hx
        refine ⟨.string b, lift (s := convert src dst (ρ x)) ?_, .str _⟩
        rw [hb]
        simp [convert, run_underlying h1, run_underlying h2]
      · cases hq
    · rename_i e h1 h2
      split at hc
      · rename_i hu8
        simp only [Option.bind_eq_some_iff, Option.some.injEq] at hc
        obtain ⟨y, hy, rfl⟩ := hc
        have hx := hσ _ _ hy
        simp only [qop, Option.map_eq_some_iff] at hq
        obtain ⟨s, hq, rfl⟩ := hq
        obtain ⟨b, q1, q2⟩ := sound_bytes (P := P) hs hx hq
        have hsl : ∃ a l c, ρ x = .slice a l c := by
          generalize ρ x = X at hx
          unfold bytesAV at hq
          split at hq <;> first | (cases hq; done) | (rename_i hh; rw [hh] at hx; cases hx <;> exact ⟨_, _, _, rfl⟩) | skip
        obtain ⟨a, l, c, he⟩ := hsl
        refine ⟨.string b, lift (s := convert src dst (ρ x)) ?_, rel_str_mk b s q2⟩
        rw [he] at q1 ⊢
        rw [run_convert_bytes_string w src dst e a l c h1 hu8 h2]
        exact q1
      · cases hc
    · cases hc
  | fieldAddr s x n =>
    simp only [compOp, Option.bind_eq_bind] at hc
    split at hc
    · rename_i fs hu
      simp only [Option.bind_eq_some_iff] at hc
      obtain ⟨f, hf, i, hi, hc⟩ := hc
      split at hc
      · cases hc
      · rename_i hsz
        simp only [Option.bind_eq_some_iff, Option.some.injEq] at hc
        obtain ⟨y, hy, rfl⟩ := hc
        have hx := hσ _ _ hy
        generalize hX : ρ x = X at hx
        simp only [qop] at hq
        have hfp : ∀ (a : Addr) (w : World), (fieldPlace a f).run P w = .ok (a.add f.offset) w := fun a w => by simp [fieldPlace, sizeOf, typeInfo, hi, hsz]
        split at hq
        · rename_i b off h
          cases hq
          rw [h] at hx
          cases hx with
          | ptr _ _ a hb ha =>
            refine ⟨.pointer (some (a.add f.offset)), lift (s := Instr.fieldAt s (ρ x) n) ?_, .ptr _ _ _ hb fun cb sh top hm => ?_⟩
            · rw [hX]; simp [Instr.fieldAt, run_underlying hu, hf, Instr.sureAddr, hfp]
            · rw [ha _ _ _ hm, add_mk, Nat.add_assoc]
        · rename_i cs off h
          cases hq
          rw [h] at hx
          cases hx with
          | iptr _ _ cb o ha =>
            refine ⟨.pointer (some ⟨cb, o + (off + f.offset), none⟩), lift (s := Instr.fieldAt s (ρ x) n) ?_, .iptr _ _ _ _ ha⟩
            rw [hX]; simp [Instr.fieldAt, run_underlying hu, hf, Instr.sureAddr, hfp, add_mk, Nat.add_assoc]
        · cases hq
    · cases hc
  | field s x n =>
    simp only [compOp, Option.bind_eq_bind] at hc
    split at hc
    · rename_i fs hu
      simp only [Option.bind_eq_some_iff, Option.some.injEq] at hc
      obtain ⟨f, hf, agg, hag, y, hy, rfl⟩ := hc
      have hx := hσ _ _ hy
      simp only [qop] at hq
      split at hq
      · rename_i cs h
        rw [h] at hx
        obtain ⟨vs, hX, hr, hone⟩ := rel_agg hx
        obtain ⟨V, h1, h2⟩ := sound_part (w := w) hag hr hone hq
        refine ⟨V, lift (s := Instr.field s (ρ x) n) ?_, h2⟩
        rw [hX]
        simp [Instr.field, run_underlying hu, hf, asAgg, h1]
      · cases hq
    · cases hc
  | indexAddr t x i =>
    simp only [compOp, Option.bind_eq_bind] at hc
    split at hc
    · rename_i e hu
      simp only [Option.bind_eq_some_iff, Option.some.injEq] at hc
      obtain ⟨j, hj, x', hx, i', hi, rfl⟩ := hc
      simp only [qop] at hq
      split at hq
      · rename_i k n h
        have h1 := hσ _ _ hi
        rw [h] at h1
        obtain ⟨V, h2, h3⟩ := sound_indexAddr (w := w) (k := k) hj (.inl ⟨rfl, hu⟩) (hσ _ _ hx) hq
        exact ⟨V, lift (s := Instr.indexAt t (ρ x) (ρ i)) (by rw [rel_int h1]; exact h2), h3⟩
      · cases hq
    · rename_i len e hu
      simp only [Option.bind_eq_some_iff, Option.some.injEq] at hc
      obtain ⟨j, hj, x', hx, i', hi, rfl⟩ := hc
      simp only [qop] at hq
      split at hq
      · rename_i k n h
        have h1 := hσ _ _ hi
        rw [h] at h1
        obtain ⟨V, h2, h3⟩ := sound_indexAddr (w := w) (k := k) hj (.inr ⟨_, rfl, hu⟩) (hσ _ _ hx) hq
        exact ⟨V, lift (s := Instr.indexAt t (ρ x) (ρ i)) (by rw [rel_int h1]; exact h2), h3⟩
      · cases hq
    · cases hc
  | index t x i =>
    simp only [compOp, Option.bind_eq_bind] at hc
    split at hc
    · rename_i hu
      simp only [Option.bind_eq_some_iff, Option.some.injEq] at hc
      obtain ⟨x', hx, i', hi, rfl⟩ := hc
      simp only [qop] at hq
      split at hq
      · rename_i s k n h1 h2
        split at hq
        · rename_i h0
          simp only [Option.map_eq_some_iff] at hq
          obtain ⟨b, hb, rfl⟩ := hq
          have r1 := hσ _ _ hx
          have r2 := hσ _ _ hi
          rw [h1] at r1
          rw [h2] at r2
          obtain ⟨bs, hX, rfl⟩ := rel_str r1
          refine ⟨.int .u8 b.toNat, lift (s := Instr.index t (ρ x) (ρ i)) ?_, .int _ _⟩
          rw [hX, rel_int r2]
          have hb' : bs[n.toNat]? = some b := by
            have h3 := List.getElem?_eq_some_iff.1 hb
            obtain ⟨h3, h4⟩ := h3
            have h5 : n.toNat < bs.size := by
              have : bs.size = bs.data.toList.length := by rw [Array.length_toList]; rfl
              omega
            rw [getElem?_pos bs n.toNat h5]
            rw [← h4]
            rfl
          simp [Instr.index, asIntOf, run_underlying hu, h0, hb']
        · cases hq
      · cases hq
    · rename_i len e hu
      simp only [Option.bind_eq_some_iff, Option.some.injEq] at hc
      obtain ⟨j, hj, agg, hag, x', hx, i', hi, rfl⟩ := hc
      simp only [qop] at hq
      split at hq
      · rename_i cs k n h1 h2
        split at hq
        · rename_i hn
          have r1 := hσ _ _ hx
          have r2 := hσ _ _ hi
          rw [h1] at r1
          rw [h2] at r2
          obtain ⟨vs, hX, hr, hone⟩ := rel_agg r1
          obtain ⟨V, h3, h4⟩ := sound_part (w := w) hag hr hone hq
          refine ⟨V, lift (s := Instr.index t (ρ x) (ρ i)) ?_, h4⟩
          rw [hX, rel_int r2]
          simp [Instr.index, asIntOf, run_underlying hu, hn, sizeOf, typeInfo, hj, h3]
        · cases hq
      · cases hq
    · cases hc
  | slice t x lo hi mx =>
    simp only [compOp, Option.bind_eq_bind] at hc
    split at hc
    · rename_i hu
      simp only [Option.bind_eq_some_iff, Option.some.injEq] at hc
      obtain ⟨x', hx, lo', hlo, hi', hhi, mx', hmx, rfl⟩ := hc
      obtain ⟨V, h1, h2⟩ := sound_slice (P := P) (w := w) (.inl ⟨rfl, hu⟩) (optOpd_ok hσ hlo) (optOpd_ok hσ hhi) (optOpd_ok hσ hmx) (hσ _ _ hx) hq
      exact ⟨V, lift h1, h2⟩
    · rename_i e hu
      simp only [Option.bind_eq_some_iff, Option.some.injEq] at hc
      obtain ⟨j, hj, x', hx, lo', hlo, hi', hhi, mx', hmx, rfl⟩ := hc
      obtain ⟨V, h1, h2⟩ := sound_slice (P := P) (w := w) (.inr ⟨_, _, hu, hj, rfl⟩) (optOpd_ok hσ hlo) (optOpd_ok hσ hhi) (optOpd_ok hσ hmx) (hσ _ _ hx) hq
      exact ⟨V, lift h1, h2⟩
    · cases hc
  | lookup t x k ok =>
    simp only [compOp, Option.bind_eq_bind] at hc
    split at hc
    · rename_i kt e hu
      simp only [Option.bind_eq_some_iff] at hc
      obtain ⟨Z, ⟨i, hi, hZ⟩, z, hz, hc⟩ := hc
      split at hc
      · rename_i kk hk
        simp only [Option.bind_eq_some_iff, Option.some.injEq] at hc
        obtain ⟨x', hx, k', hk', rfl⟩ := hc
        simp only [qop] at hq
        split at hq
        · cases hq
        · rename_i hko
          simp only [Option.map_eq_some_iff] at hq
          obtain ⟨r, hr, rfl⟩ := hq
          obtain ⟨V, h1, h2⟩ := sound_lookup (ok := ok) hs hu hk (str := false) ⟨_, rfl⟩ hi hZ (constAV_rel hz) (hσ _ _ hx) (hσ _ _ hk') (by simpa using hko) hr
          exact ⟨V, lift h1, h2⟩
      · rename_i hk
        simp only [Option.bind_eq_some_iff, Option.some.injEq] at hc
        obtain ⟨x', hx, k', hk', rfl⟩ := hc
        simp only [qop] at hq
        split at hq
        · cases hq
        · rename_i hko
          simp only [Option.map_eq_some_iff] at hq
          obtain ⟨r, hr, rfl⟩ := hq
          obtain ⟨V, h1, h2⟩ := sound_lookup (ok := ok) hs hu hk (str := true) rfl hi hZ (constAV_rel hz) (hσ _ _ hx) (hσ _ _ hk') (by simpa using hko) hr
          exact ⟨V, lift h1, h2⟩
      · cases hc
    · cases hc
  | makeFunc fn first caps =>
    cases fn with
    | func f =>
      simp only [compOp, Option.bind_eq_bind, Option.bind_eq_some_iff, Option.some.injEq] at hc
      obtain ⟨fs, hf, cs, hcs, rfl⟩ := hc
      simp only [qop, Option.some.injEq] at hq
      subst hq
      have h1 := ops_arr hσ hf
      have h2 := ops_arr hσ hcs
      exact ⟨_, lift (s := Instr.makeFunc (.func f) (first.map ρ) (caps.map ρ)) rfl, .func _ _ _ _ _ h1.len h2.len (fun i a b => h1.get i a b) (fun i a b => h2.get i a b)⟩
    | _ => simp [compOp] at hc
  | makeInterface t x =>
    simp only [compOp, Option.bind_eq_bind] at hc
    split at hc
    · rename_i hcon
      simp only [Option.bind_eq_some_iff, Option.some.injEq] at hc
      obtain ⟨y, hy, rfl⟩ := hc
      cases hq
      exact ⟨_, lift (run_makeInterface w t (ρ x) hcon), .iface _ _ _ (hσ _ _ hy)⟩
    · cases hc
  | extract x i =>
    simp only [compOp, Option.bind_eq_bind, Option.bind_eq_some_iff, Option.some.injEq] at hc
    obtain ⟨y, hy, rfl⟩ := hc
    have hx := hσ _ _ hy
    simp only [qop] at hq
    split at hq
    · rename_i vs h
      rw [h] at hx
      obtain ⟨Vs, hX, hr⟩ := rel_tuple hx
      obtain ⟨V, h1, h2⟩ := hr.get? hq
      refine ⟨V, lift (s := Instr.extract (ρ x) i) ?_, h2⟩
      rw [hX]
      simp [Instr.extract, h1]
    · cases hq
  | call c =>
    obtain ⟨callee, args, argTypes⟩ := c
    simp only [compOp] at hc
    unfold compCall at hc
    split at hc <;> (try (cases hc; done))
    · -- len
      rename_i x t ha ht
      obtain rfl : args = #[x] := Array.toList_inj.1 ha
      obtain rfl : argTypes = #[t] := Array.toList_inj.1 ht
      simp only [Option.bind_eq_bind] at hc
      have key : ∀ {k : LenK} (ht : match k with | .str => P.underlying t = some .string | .slice => ∃ e, P.underlying t = some (.slice e) | .map => ∃ a b, P.underlying t = some (.map a b)) (hc : ((compOpd x).bind fun y => some (NOp.len k y)) = some nop),
          ∃ V, (execOp ρ { dst := dst, op := .call { callee := .builtin .len, args := #[x], argTypes := #[t] }, type := type, pos := pos, after := after, guard := guard }).run P w = .ok (.value V) w ∧ Rel g v V := by
        intro k ht hc
        simp only [Option.bind_eq_some_iff, Option.some.injEq] at hc
        obtain ⟨y, hy, rfl⟩ := hc
        simp only [qop, Option.map_eq_some_iff] at hq
        obtain ⟨n, hn, rfl⟩ := hq
        have h1 := sound_len (ty := type) hs ht (hσ _ _ hy) hn
        refine ⟨_, ?_, .int _ _⟩
        simp only [execOp, resolve, List.map_toArray, List.map_cons, List.map_nil, Sem.run_bind, Sem.run_pure, Result.andThen_ok, invoke, builtin]
        simp [h1]
      split at hc
      · rename_i hu; exact key (k := .str) hu hc
      · rename_i hu; exact key (k := .slice) ⟨_, hu⟩ hc
      · rename_i hu; exact key (k := .map) ⟨_, _, hu⟩ hc
      · cases hc
    · -- append
      simp only [Option.bind_eq_bind] at hc
      split at hc
      · simp only [Option.bind_eq_some_iff] at hc
        obtain ⟨i, hi, z, hz, hc⟩ := hc
        split at hc
        · cases hc
        · split at hc
          · simp only [Option.bind_eq_some_iff, Option.some.injEq] at hc
            obtain ⟨_, _, _, _, rfl⟩ := hc
            simp [qop] at hq
          · simp only [Option.bind_eq_some_iff, Option.some.injEq] at hc
            obtain ⟨_, _, _, _, rfl⟩ := hc
            simp [qop] at hq
          · cases hc
      · cases hc
    · -- max
      rename_i x y ha
      obtain rfl : args = #[x, y] := Array.toList_inj.1 ha
      simp only [Option.bind_eq_bind, Option.bind_eq_some_iff, Option.some.injEq] at hc
      obtain ⟨x', hx, y', hy, rfl⟩ := hc
      have h1 := hσ _ _ hx
      have h2 := hσ _ _ hy
      simp only [qop] at hq
      split at hq
      · rename_i k a k' b ha hb
        rw [ha] at h1
        rw [hb] at h2
        split at hq
        · rename_i hk
          cases hq
          subst hk
          refine ⟨_, ?_, .int _ _⟩
          simp only [execOp, resolve, List.map_toArray, List.map_cons, List.map_nil, Sem.run_bind, Sem.run_pure, Result.andThen_ok, invoke, builtin, rel_int h1, rel_int h2, Builtin.max_]
          simp only [List.foldlM_cons, List.foldlM_nil, Builtin.max2, Sem.run_bind, Sem.run_pure, Result.andThen_ok]
        · cases hq
      · cases hq
    · -- min
      rename_i x y ha
      obtain rfl : args = #[x, y] := Array.toList_inj.1 ha
      simp only [Option.bind_eq_bind, Option.bind_eq_some_iff, Option.some.injEq] at hc
      obtain ⟨x', hx, y', hy, rfl⟩ := hc
      have h1 := hσ _ _ hx
      have h2 := hσ _ _ hy
      simp only [qop] at hq
      split at hq
      · rename_i k a k' b ha hb
        rw [ha] at h1
        rw [hb] at h2
        split at hq
        · rename_i hk
          cases hq
          subst hk
          refine ⟨_, ?_, .int _ _⟩
          simp only [execOp, resolve, List.map_toArray, List.map_cons, List.map_nil, Sem.run_bind, Sem.run_pure, Result.andThen_ok, invoke, builtin, rel_int h1, rel_int h2, Builtin.min_]
          simp only [List.foldlM_cons, List.foldlM_nil, Builtin.min2, Sem.run_bind, Sem.run_pure, Result.andThen_ok]
        · cases hq
      · cases hq
    · -- a call
      simp only [Option.bind_eq_bind, Option.bind_eq_some_iff, Option.some.injEq] at hc
      obtain ⟨_, _, _, _, rfl⟩ := hc
      simp [qop] at hq
  | alloc t =>
    simp only [compOp, Option.map_eq_some_iff] at hc
    obtain ⟨_, _, rfl⟩ := hc
    simp [qop] at hq
  | box t x =>
    simp only [compOp, Option.map_eq_some_iff] at hc
    obtain ⟨_, _, rfl⟩ := hc
    simp [qop] at hq
  | buildSlice t len parts =>
    exfalso
    have : ∀ a b c d, nop = .buildSlice a b c d → False := by rintro a b c d rfl; simp [qop] at hq
    simp only [compOp, Option.bind_eq_bind] at hc
    split at hc
    · simp only [Option.bind_eq_some_iff] at hc
      obtain ⟨i, hi, z, hz, hc⟩ := hc
      split at hc
      · cases hc
      · split at hc
        · cases hc
        · simp only [Option.bind_eq_some_iff, Option.some.injEq] at hc
          obtain ⟨_, _, rfl⟩ := hc
          exact this _ _ _ _ rfl
    · cases hc
  | store t a x =>
    simp only [compOp, Option.bind_eq_bind, Option.bind_eq_some_iff, Option.some.injEq] at hc
    obtain ⟨_, _, _, _, _, _, rfl⟩ := hc
    simp [qop] at hq
  | mapUpdate t m k x =>
    exfalso
    have : ∀ a b c d, nop = .mapUpdate a b c d → False := by rintro a b c d rfl; simp [qop] at hq
    simp only [compOp, Option.bind_eq_bind] at hc
    split at hc
    · split at hc <;> (try (cases hc; done))
      all_goals
        simp only [Option.bind_eq_some_iff, Option.some.injEq] at hc
        obtain ⟨_, _, _, _, _, _, rfl⟩ := hc
        exact this _ _ _ _ rfl
    · cases hc
  | insert t m k x =>
    exfalso
    have : ∀ a b c d, nop = .mapUpdate a b c d → False := by rintro a b c d rfl; simp [qop] at hq
    simp only [compOp, Option.bind_eq_bind] at hc
    split at hc
    · split at hc <;> (try (cases hc; done))
      all_goals
        simp only [Option.bind_eq_some_iff, Option.some.injEq] at hc
        obtain ⟨_, _, _, _, _, _, rfl⟩ := hc
        exact this _ _ _ _ rfl
    · cases hc
  | makeMap t r =>
    cases r with
    | none => simp only [compOp, Option.some.injEq] at hc; subst hc; simp [qop] at hq
    | some r => simp [compOp] at hc
  | makeSlice t l c =>
    exfalso
    have : ∀ a b c d e, nop = .makeSlice a b c d e → False := by rintro a b c d e rfl; simp [qop] at hq
    simp only [compOp, Option.bind_eq_bind] at hc
    split at hc
    · simp only [Option.bind_eq_some_iff] at hc
      obtain ⟨i, hi, z, hz, hc⟩ := hc
      split at hc
      · cases hc
      · simp only [Option.bind_eq_some_iff, Option.some.injEq] at hc
        obtain ⟨_, _, _, _, rfl⟩ := hc
        exact this _ _ _ _ _ rfl
    · cases hc
  | _ => simp [compOp] at hc
end Go.NL

set_option linter.unusedVariables false

namespace Go.NL
theorem flat_length {g : G} {cb esz : Nat} : ∀ (es : List AV) (o : Nat), (∀ (i : Nat) (e : AV), es[i]? = some e → e.cells.length = esz) → (es.flatMap AV.cells).length = es.length * esz
  | [], o, _ => by simp
  | e :: es, o, h => by
    have h0 := h 0 e rfl
    have ih := flat_length (g := g) (cb := cb) es o (fun i e' he => h (i + 1) e' (by simpa using he))
    rw [List.flatMap_cons, List.length_append, ih, h0, List.length_cons, Nat.add_mul]
    omega
theorem flat_im {g : G} {cb esz : Nat} : ∀ (es : List AV) (o : Nat), (∀ (i : Nat) (e : AV), es[i]? = some e → e.cells.length = esz ∧ ∀ (j : Nat) (v : AV), e.cells[j]? = some v → g.im cb (o + i * esz + j) v) →
    ∀ (k : Nat) (u : AV), (es.flatMap AV.cells)[k]? = some u → g.im cb (o + k) u
  | [], o, _, k, u, h => by simp at h
  | e :: es, o, h, k, u, hu => by
    obtain ⟨h0, h1⟩ := h 0 e rfl
    rw [List.flatMap_cons] at hu
    rcases Nat.lt_or_ge k e.cells.length with hk | hk
    · rw [List.getElem?_append_left hk] at hu
      have := h1 k u hu
      simpa using this
    · rw [List.getElem?_append_right hk] at hu
      have := flat_im es (o + esz) (fun i e' he => by
        obtain ⟨q1, q2⟩ := h (i + 1) e' (by simpa using he)
        refine ⟨q1, fun j v hv => ?_⟩
        have := q2 j v hv
        rw [Nat.add_mul, Nat.one_mul] at this
        rw [show o + esz + i * esz + j = o + (i * esz + esz) + j by omega]
        exact this) (k - e.cells.length) u hu
      rw [show o + esz + (k - e.cells.length) = o + k by omega] at this
      exact this
/-- Cells that stand one behind the other in the world, as a list of values. -/
theorem cells_list {P : Program} {g : G} {w : World} {cb o : Nat} {cs : List AV} (h : ∀ (k : Nat) (u : AV), cs[k]? = some u → u.one = true ∧ ∃ V, w.cell? ⟨cb, o + k, none⟩ = some V ∧ Rel g u V) :
    ∃ N : List Value, N.length = cs.length ∧ (∀ j u, N[j]? = some u → w.cell? ((⟨cb, o, none⟩ : Addr).add j) = some u) ∧ (∀ u ∈ N, u.oneCell' = true) ∧ RelL g cs N.toArray ∧ ∀ c ∈ cs, c.one = true := by
  let f : Nat → Value := fun j => (w.cell? ⟨cb, o + j, none⟩).getD undef
  have hf : ∀ j, j < cs.length → ∃ u, cs[j]? = some u ∧ u.one = true ∧ w.cell? ⟨cb, o + j, none⟩ = some (f j) ∧ Rel g u (f j) := by
    intro j hj
    obtain ⟨h1, V, h2, h3⟩ := h j _ (List.getElem?_eq_getElem hj)
    have : f j = V := by simp only [f, h2, Option.getD_some]
    exact ⟨_, List.getElem?_eq_getElem hj, h1, by rw [this]; exact h2, by rw [this]; exact h3⟩
  have get : ∀ j u, ((List.range cs.length).map f)[j]? = some u → j < cs.length ∧ u = f j := by
    intro j u hu
    rw [List.getElem?_map] at hu
    rcases Nat.lt_or_ge j cs.length with hj | hj
    · rw [List.getElem?_range hj] at hu
      simp at hu
      exact ⟨hj, hu.symm⟩
    · rw [List.getElem?_eq_none (by simpa using hj)] at hu
      cases hu
  refine ⟨(List.range cs.length).map f, by simp, ?_, ?_, ⟨by simp, ?_⟩, ?_⟩
  · intro j u hu
    obtain ⟨hj, rfl⟩ := get j u hu
    obtain ⟨_, _, _, h3, _⟩ := hf j hj
    rw [add_mk]
    exact h3
  · intro u hu
    obtain ⟨j, hj, hju⟩ := List.getElem_of_mem hu
    obtain ⟨hj', rfl⟩ := get j u (by rw [List.getElem?_eq_getElem hj, hju])
    obtain ⟨_, _, h2, _, h4⟩ := hf j hj'
    exact rel_one h4 h2
  · intro j c v hc hv
    obtain ⟨hj, rfl⟩ := get j v (by simpa using hv)
    obtain ⟨u, h1, _, _, h4⟩ := hf j hj
    rw [h1] at hc
    cases hc
    exact h4
  · intro c hc
    obtain ⟨j, hj, hjc⟩ := List.getElem_of_mem hc
    obtain ⟨u, h1, h2, _⟩ := hf j hj
    rw [List.getElem?_eq_getElem hj, hjc] at h1
    cases h1
    exact h2
theorem take_drop_get {α : Type} {l : List α} {a n j : Nat} {u : α} (h : ((l.drop a).take n)[j]? = some u) : j < n ∧ l[a + j]? = some u := by
  rcases Nat.lt_or_ge j n with h' | h'
  · rw [drop_take_get _ _ _ _ h'] at h; exact ⟨h', h⟩
  · rw [List.getElem?_take, if_neg (by omega)] at h; cases h
theorem blk_cells {g : G} {A : Heap} {w : World} (hs : Sim g A w) {b : Nat} {cs : List AV} (h : A b = some (.cells cs)) : ∃ cb sh top c e, g.mb b = some (cb, sh, top) ∧ w.heap[cb]? = some (.cells c e (0, 0)) ∧ c.size = top ∧ sh + cs.length ≤ top ∧
    (∀ (i : Nat) (v : AV), cs[i]? = some v → v.one = true ∧ ∃ V, c[sh + i]? = some V ∧ Rel g v V) ∧ ∀ (i : Nat) (v : AV), cs[i]? = some v → v.one = true ∧ ∃ V, w.cell? ⟨cb, sh + i, none⟩ = some V ∧ Rel g v V := by
  obtain ⟨cb, sh, top, hm, c, e, hh, htop, hlen, hcs⟩ := hs.blk _ _ h
  refine ⟨cb, sh, top, c, e, hm, hh, htop, hlen, hcs, fun i v hv => ?_⟩
  obtain ⟨h1, V, h2, h3⟩ := hcs i v hv
  exact ⟨h1, V, by simp [World.cell?, hh, h2], h3⟩
/-- What is appended. -/
theorem sound_src {P : Program} {g : G} {A : Heap} {w : World} (hs : Sim g A w) {str : Bool} {esz : Nat} {tx : TypeId} (ht : if str then P.underlying tx = some .string else ∃ e, P.underlying tx = some (.slice e)) {x : AV} {X : Value} (hx : Rel g x X) {n : Nat} {news : List AV}
    (h : srcAV A str esz x = some (n, news)) : ∃ N, Src P esz tx X n N w ∧ RelL g news N.toArray ∧ news.length = n * esz ∧ ∀ c ∈ news, c.one = true := by
  unfold srcAV at h
  split at h
  · split at h
    · cases h
    · rename_i hst
      cases h
      cases hx
      rw [if_neg (by simpa using hst)] at ht
      obtain ⟨e, hu⟩ := ht
      exact ⟨[], Src.ofNil w hu 0, .nil, by simp, by simp⟩
  · rename_i e es ex
    split at h
    · rename_i hc
      obtain ⟨rfl, rfl⟩ := hc
      simp only [Option.some.injEq, Prod.mk.injEq] at h
      obtain ⟨rfl, rfl⟩ := h
      simp only [Bool.false_eq_true, if_false] at ht
      obtain ⟨e', hu⟩ := ht
      rcases rel_islice hx with ⟨cb, o, c, hlc, hex, him, rfl⟩ | ⟨h0, a, rfl⟩
      · obtain ⟨N, h1, h2, h3, h4, h5⟩ := cells_list (P := P) (g := g) (w := w) (cb := cb) (o := o) (cs := es.flatMap AV.cells) (fun k u hu => by
          obtain ⟨V, q1, q2, q3⟩ := hs.imm _ _ _ (flat_im es o him k u hu)
          exact ⟨q3, V, q1, q2⟩)
        have hfl := flat_length (g := g) (cb := cb) es o (fun i e he => (him i e he).1)
        exact ⟨N, Src.ofSlice w hu _ _ _ N (by rw [h1, hfl]) h2 h3, h4, hfl, h5⟩
      · subst h0
        exact ⟨[], Src.ofSlice w hu _ _ _ [] (by simp) (by simp) (by simp), .nil, by simp, by simp⟩
    · cases h
  · rename_i e b off len cap
    split at h
    · rename_i hc
      obtain ⟨rfl, rfl⟩ := hc
      simp only [Bool.false_eq_true, if_false] at ht
      obtain ⟨e', hu⟩ := ht
      split at h
      · rename_i cs hA
        split at h
        · rename_i hle
          simp only [Option.some.injEq, Prod.mk.injEq] at h
          obtain ⟨rfl, rfl⟩ := h
          obtain ⟨cb, sh, top, c, el, hm, hh, htop, hlen, _, hcell⟩ := blk_cells hs hA
          cases hx with
          | slice _ _ _ _ _ a cc hb hlc hcap hsp hlive =>
            have hnl : ((cs.drop off).take (len * e)).length = len * e := by simp; omega
            obtain ⟨N, h1, h2, h3, h4, h5⟩ := cells_list (P := P) (g := g) (w := w) (cb := cb) (o := sh + off) (cs := (cs.drop off).take (len * e)) (fun k u hu => by
              obtain ⟨hk, hk2⟩ := take_drop_get hu
              obtain ⟨q1, V, q2, q3⟩ := hcell _ _ hk2
              exact ⟨q1, V, by rw [Nat.add_assoc]; exact q2, q3⟩)
            refine ⟨N, Src.ofSlice w hu _ _ _ N (by rw [h1, hnl]) ?_ h3, h4, hnl, h5⟩
            intro j u hu'
            have hj : j < len * e := by rw [← hnl, ← h1]; exact (List.getElem?_eq_some_iff.1 hu').1
            have hlen0 : len ≠ 0 := by rintro rfl; simp at hj
            have hc0 : cc ≠ 0 := by omega
            rw [(hlive hc0 _ _ _ hm).1]
            exact h2 j u hu'
        · cases h
      · cases h
    · cases h
  · rename_i s
    split at h
    · rename_i hc
      obtain ⟨rfl, rfl⟩ := hc
      simp only [Option.some.injEq, Prod.mk.injEq] at h
      obtain ⟨rfl, rfl⟩ := h
      simp only [if_true] at ht
      obtain ⟨b, rfl, rfl⟩ := rel_str hx
      have hbs : b.size = b.data.toList.length := by rw [Array.length_toList]; rfl
      refine ⟨byteCells b, by rw [← hbs]; exact Src.ofString w ht b, ⟨by simp [byteCells], ?_⟩, by simp, ?_⟩
      · intro i c v hc hv
        simp only [List.getElem?_toArray, byteCells, List.getElem?_map] at hv
        rw [List.getElem?_map] at hc
        cases hq : b.data.toList[i]? with
        | none => rw [hq] at hc; cases hc
        | some q =>
          rw [hq] at hc hv
          cases hc
          cases hv
          exact .int _ _
      · intro c hc
        simp only [List.mem_map] at hc
        obtain ⟨q, _, rfl⟩ := hc
        rfl
    · cases h
  · cases h
end Go.NL

set_option linter.unusedVariables false

namespace Go.NL
/-- The largest number of bytes that an append may ask for here. -/
def roomOk (n bytes : Nat) : Prop := n * bytes ≤ 140737488355328 ∧ n ≤ 4611686018427387904
/-- append(s, x..): K is what must hold of the value and the blocks behind it. -/
def appendN (A : Heap) (K : AV → Heap → Prop) (str : Bool) (esz bytes : Nat) (s x : AV) : Prop :=
  match srcAV A str esz x with
  | none => False
  | some (n, news) =>
    match s with
    | .nilslice => if n = 0 then K .nilslice A else roomOk n bytes ∧ ∀ b, A b = none → K (.slice esz b 0 n (.ge n)) (A.set b (.cells news))
    | .islice e es ex => e = esz ∧ ex = true ∧ if n = 0 then K (.islice e es ex) A else roomOk (es.length + n) bytes ∧ ∀ b, A b = none → K (.slice esz b 0 (es.length + n) (.ge (es.length + n))) (A.set b (.cells (es.flatMap AV.cells ++ news)))
    | .slice e b off len cap => e = esz ∧ match A b with
      | some (.cells cs) => off + len * esz ≤ cs.length ∧
        if n = 0 then K (.slice e b off len cap) A
        else if len + n ≤ cap.low ∧ off + (len + n) * esz ≤ cs.length then K (.slice esz b off (len + n) cap) (A.set b (.cells (over cs (off + len * esz) news)))
        else roomOk (len + n) bytes ∧ match cap with
          | .eq c => c < len + n ∧ ∀ b', A b' = none → K (.slice esz b' 0 (len + n) (.ge (len + n))) (A.set b' (.cells ((cs.drop off).take (len * esz) ++ news)))
          | .ge _ => ∀ b', A b' = none → K (.slice esz b' 0 (len + n) (.ge (len + n))) ((A.del b).set b' (.cells ((cs.drop off).take (len * esz) ++ news)))
      | _ => False
    | _ => False
theorem setCells_upd (b : Nat) : ∀ (vs : List Value) (o : Nat) (w : World) (c : Array Value) (e : TypeId), w.heap[b]? = some (.cells c e (0, 0)) → o + vs.length ≤ c.size →
    ∃ c', Upd w (w.setCells b o vs) b (.cells c' e (0, 0)) ∧ c'.size = c.size ∧ ∀ i, c'[i]? = if o ≤ i ∧ i < o + vs.length then vs[i - o]? else c[i]?
  | [], o, w, c, e, h, hl => ⟨c, ⟨fun _ _ => rfl, h, rfl, rfl, rfl, rfl⟩, rfl, fun i => by simp; omega⟩
  | v :: vs, o, w, c, e, h, hl => by
    simp only [List.length_cons] at hl
    have hsc : w.setCell ⟨b, o, none⟩ v = w.setRow b (c.setIfInBounds o v) := setCell_eq_setRow w b o c e (0, 0) v h
    have hh : (w.setCell ⟨b, o, none⟩ v).heap[b]? = some (.cells (c.setIfInBounds o v) e (0, 0)) := by rw [hsc]; exact setRow_heap w b c _ e _ h
    obtain ⟨c', hu, hsz, hget⟩ := setCells_upd b vs (o + 1) (w.setCell ⟨b, o, none⟩ v) (c.setIfInBounds o v) e hh (by simp; omega)
    refine ⟨c', ⟨fun k hk => ?_, hu.here, ?_, ?_, ?_, ?_⟩, by rw [hsz]; simp, fun i => ?_⟩
    · rw [World.setCells, hu.other k hk, hsc, setRow_other w b k _ hk]
    · rw [World.setCells, hu.size, hsc]; simp
    · rw [World.setCells, hu.os, hsc]; simp
    · rw [World.setCells, hu.tape, hsc]; simp
    · rw [World.setCells, hu.output, hsc]; simp
    · rw [hget i]
      simp only [List.length_cons]
      by_cases h1 : o + 1 ≤ i ∧ i < o + 1 + vs.length
      · rw [if_pos h1, if_pos (by omega)]
        rw [show i - o = i - (o + 1) + 1 by omega, List.getElem?_cons_succ]
      · rw [if_neg h1]
        by_cases h2 : i = o
        · subst h2
          rw [if_pos (by omega), Nat.sub_self, List.getElem?_cons_zero, Array.getElem?_setIfInBounds_self_of_lt (by omega)]
        · rw [if_neg (by omega), Array.getElem?_setIfInBounds_ne (by omega)]
/-- A new row whose first cells are known. -/
theorem alloc_row {g : G} {A : Heap} {w : World} (hs : Sim g A w) {cs : List AV} {vs rest : Array Value} {e : TypeId} (hr : RelL g cs vs) (hone : ∀ c ∈ cs, c.one = true) :
    Sim (g.more w.heap.size (vs ++ rest).size) (A.set g.n (.cells cs)) (w.alloc (.cells (vs ++ rest) e)) ∧ Ext g w (g.more w.heap.size (vs ++ rest).size) (w.alloc (.cells (vs ++ rest) e)) := by
  obtain ⟨e1, e2, e3⟩ := G.more_ext (g := g) w.heap.size (vs ++ rest).size
  refine hs.alloc (fun i => by simp) ⟨vs ++ rest, e, heap_new w _, rfl, by have := hr.len; simp; omega, fun i v hv => ?_⟩
  obtain ⟨V, h1, h2⟩ := hr.get? hv
  refine ⟨hone v (List.mem_of_getElem? hv), V, ?_, h2.ext e1 e2 e3⟩
  rw [Nat.zero_add, Array.getElem?_append_left (Array.getElem?_eq_some_iff.1 h1).1]
  exact h1
theorem alloc_slice_rel {g : G} {w : World} {esz n c top : Nat} (hn : n ≤ c) (htop : c * esz ≤ top) {cap : Cap} (hcap : match cap with | .ge k => k ≤ c | .eq k => c = k) :
    Rel (g.more w.heap.size top) (.slice esz g.n 0 n cap) (.slice (some ⟨w.heap.size, 0, none⟩) n c) := by
  refine .slice _ _ _ _ _ _ _ (Nat.lt_succ_self _) hn hcap rfl fun _ cb sh top' hm => ?_
  simp only [G.more, if_true, Option.some.injEq, Prod.mk.injEq] at hm
  obtain ⟨rfl, rfl, rfl⟩ := hm
  exact ⟨rfl, by omega⟩
/-- A block gets a new name; what stood ahead of a place is given up. -/
def G.ren (g : G) (b cb sh top : Nat) : G := { g with n := g.n + 1, mb := fun b' => if b' = b then none else if b' = g.n then some (cb, sh, top) else g.mb b' }
theorem Sim.rename {g : G} {A : Heap} {w w' : World} (hs : Sim g A w) {b cb sh sh' top : Nat} {c c' : Array Value} {e : TypeId} {cs' : List AV} (hb : g.mb b = some (cb, sh, top))
    (hc : w.heap[cb]? = some (.cells c e (0, 0))) (hu : Upd w w' cb (.cells c' e (0, 0))) (hsh : sh ≤ sh') (hlow : ∀ i, i < sh' → c'[i]? = c[i]?) (htop : c'.size = top) (hlen : sh' + cs'.length ≤ top)
    (hcs : ∀ (i : Nat) (v : AV), cs'[i]? = some v → v.one = true ∧ ∃ V, c'[sh' + i]? = some V ∧ Rel g v V) : Sim (g.ren b cb sh' top) ((A.del b).set g.n (.cells cs')) w' ∧ Ext g w (g.ren b cb sh' top) w' := by
  have hbn : b < g.n := by
    rcases Nat.lt_or_ge b g.n with h | h
    · exact h
    · rw [(hs.fresh b h).1] at hb; cases hb
  have e1 : g.n ≤ (g.ren b cb sh' top).n := Nat.le_succ _
  have e2 : ∀ cb' o v, g.im cb' o v → (g.ren b cb sh' top).im cb' o v := fun _ _ _ h => h
  have e3 : ∀ b' x, b' < g.n → (g.ren b cb sh' top).mb b' = some x → g.mb b' = some x := by
    intro b' x hb' hx
    simp only [G.ren] at hx
    split at hx
    · cases hx
    · rw [if_neg (by omega)] at hx; exact hx
  have hmb : ∀ b' cb' s t, (g.ren b cb sh' top).mb b' = some (cb', s, t) → (b' = g.n ∧ cb' = cb ∧ s = sh' ∧ t = top) ∨ (b' ≠ b ∧ b' ≠ g.n ∧ g.mb b' = some (cb', s, t) ∧ cb' ≠ cb) := by
    intro b' cb' s t h
    simp only [G.ren] at h
    split at h
    · cases h
    · rename_i h1
      split at h
      · rename_i h2
        simp only [Option.some.injEq, Prod.mk.injEq] at h
        exact .inl ⟨h2, h.1.symm, h.2.1.symm, h.2.2.symm⟩
      · rename_i h2
        refine .inr ⟨h1, h2, h, fun hcb => ?_⟩
        subst hcb
        exact h1 (hs.inj _ _ _ _ _ _ _ h hb)
  refine ⟨⟨?_, ?_, ?_, ?_, ?_, ?_⟩, ⟨e1, e2, e3, ?_, ?_, ?_, by rw [hu.size]; exact Nat.le_refl _, hu.os, hu.tape, hu.output⟩⟩
  · intro b' hb'
    have hb' : g.n + 1 ≤ b' := hb'
    have h1 : b' ≠ b := by omega
    have h2 : b' ≠ g.n := by omega
    have h3 := hs.fresh b' (by omega)
    simp [G.ren, Heap.set, Heap.del, h1, h2, h3]
  · intro b' x hx
    simp only [Heap.set, Heap.del] at hx
    split at hx
    · rename_i h
      cases hx
      subst h
      refine ⟨cb, sh', top, ?_, c', e, hu.here, htop, hlen, fun i v hv => ?_⟩
      · have : g.n ≠ b := by omega
        simp [G.ren, this]
      · obtain ⟨q1, V, q2, q3⟩ := hcs i v hv
        exact ⟨q1, V, q2, q3.ext e1 e2 e3⟩
    · rename_i h
      split at hx
      · cases hx
      · rename_i h'
        obtain ⟨cb', s, t, hm, hok⟩ := hs.blk b' x hx
        refine ⟨cb', s, t, by simp [G.ren, h, h', hm], hok.ext e1 e2 e3 (hu.other _ fun he => ?_)⟩
        subst he
        exact h' (hs.inj _ _ _ _ _ _ _ hm hb)
  · intro b1 b2 cb' s t s' t' h1 h2
    rcases hmb _ _ _ _ h1 with ⟨p1, p2, _⟩ | ⟨p1, p2, p3, p4⟩ <;> rcases hmb _ _ _ _ h2 with ⟨q1, q2, _⟩ | ⟨q1, q2, q3, q4⟩
    · omega
    · exact absurd p2 q4
    · exact absurd q2 p4
    · exact hs.inj _ _ _ _ _ _ _ p3 q3
  · intro b' cb' s t o v h hv
    rcases hmb _ _ _ _ h with ⟨_, rfl, rfl, rfl⟩ | ⟨_, _, p3, _⟩
    · have := hs.own _ _ _ _ _ _ hb hv
      omega
    · exact hs.own _ _ _ _ _ _ p3 hv
  · intro b' cb' s t h
    rw [hu.size]
    rcases hmb _ _ _ _ h with ⟨_, rfl, rfl, rfl⟩ | ⟨_, _, p3, _⟩
    · exact hs.lt _ _ _ _ hb
    · exact hs.lt _ _ _ _ p3
  · intro cb' o v hv
    obtain ⟨V, h1, h2, h3⟩ := hs.imm cb' o v hv
    refine ⟨V, ?_, h2.ext e1 e2 e3, h3⟩
    by_cases he : cb' = cb
    · subst he
      have ho := hs.own _ _ _ _ _ _ hb hv
      simp only [World.cell?, hc] at h1
      simp only [World.cell?, hu.here]
      rw [hlow o (by omega)]
      exact h1
    · rw [cell?_of_heap (hu.other _ he)]
      exact h1
  · intro b' cb' s t hg h
    rcases hmb _ _ _ _ h with ⟨_, rfl, rfl, rfl⟩ | ⟨_, _, p3, _⟩
    · exact .inr ⟨b, sh, t, hbn, hb⟩
    · rw [(hs.fresh b' hg).1] at p3; cases p3
  · intro cb' _ hno
    exact hu.other _ fun he => hno b sh top (he ▸ hb)
  · intro a _
    by_cases he : a.block = cb
    · have h1 : w'.heap[a.block]? = some (.cells c' e (0, 0)) := he ▸ hu.here
      have h2 : w.heap[a.block]? = some (.cells c e (0, 0)) := he ▸ hc
      simp [World.frozen?, h1, h2]
    · exact frozen?_of_heap (hu.other _ he)
theorem sound_append {P : Program} {g : G} {A : Heap} {w : World} (hs : Sim g A w) {str : Bool} {t tx ty e : TypeId} {i : TypeInfo} (hu : P.underlying t = some (.slice e)) (hi : P.info? e = some i) {z : List AV} (hz : zeroCellsOf P e = some z) (hsz : i.size ≠ 0)
    (htx : if str then P.underlying tx = some .string else ∃ e, P.underlying tx = some (.slice e)) {s x : AV} {S X : Value} (hS : Rel g s S) (hX : Rel g x X) {K : AV → Heap → Prop} (h : appendN A K str i.size i.bytes s x) :
    ∃ V w' g' v A', (Builtin.append_ #[t, tx] ty #[S, X]).run P w = .ok V w' ∧ Rel g' v V ∧ Sim g' A' w' ∧ Ext g w g' w' ∧ K v A' := by
  unfold appendN at h
  obtain ⟨i', Z, hi', hZ, hzr, hzl, hzo⟩ := zeroCells_rel (g := g) hz
  rw [hi] at hi'
  cases hi'
  have hZs : Z.cells.size = i.size := by rw [← hzr.len, hzl]
  split at h
  · exact h.elim
  · rename_i n news hsrc
    obtain ⟨N, hN, hNr, hNl, hNo⟩ := sound_src (P := P) hs htx hX hsrc
    have hNsz : N.length = n * i.size := by have := hNr.len; simp at this; omega
    -- what a new row comes to
    have grow : ∀ (base : Option Addr) (sLen sCap : Nat) (olds : List Value) (oldsA : List AV), (Builtin.firstCells i.size sLen (.slice base sLen sCap)).run P w.drew = .ok olds.toArray w.drew → RelL g oldsA olds.toArray → (∀ c ∈ oldsA, c.one = true) →
        oldsA.length = sLen * i.size → sCap < sLen + n → roomOk (sLen + n) i.bytes → ∀ A', Sim g A' w → K (.slice i.size g.n 0 (sLen + n) (.ge (sLen + n))) (A'.set g.n (.cells (oldsA ++ news))) →
        ∃ V w' g' v A'', (Builtin.append_ #[t, tx] ty #[.slice base sLen sCap, X]).run P w = .ok V w' ∧ Rel g' v V ∧ Sim g' A'' w' ∧ Ext g w g' w' ∧ K v A'' := by
      intro base sLen sCap olds oldsA hold hor hoo hol hg hroom A' hs' hK
      have hrun := run_append_grow_src (P := P) w t tx ty e i Z hu hi hZ base sLen sCap olds hold X n N hN hg (by have := hroom.2; omega) (growslice_fits hg hroom.1)
      obtain ⟨hsd, hed⟩ := hs'.drew
      have hall : RelL g (oldsA ++ news) (olds ++ N).toArray := by
        have := hor.append hNr
        simpa using this
      obtain ⟨h1, h2⟩ := alloc_row (rest := Builtin.zeroCells Z.cells (grownCap w (sLen + n) sCap e - (sLen + n))) (e := e) hsd hall (by
        intro c hc
        rcases List.mem_append.1 hc with hc | hc
        · exact hoo c hc
        · exact hNo c hc)
      have hge := grownCap_ge w (sLen + n) sCap e
      refine ⟨_, _, _, _, _, hrun, ?_, h1, hed.trans h2, hK⟩
      refine alloc_slice_rel (w := w.drew) hge ?_ hge
      simp only [Array.size_append, List.size_toArray, List.length_append, size_zeroCells, hZs]
      have hol' : olds.length = sLen * i.size := by have := hor.len; simp at this; omega
      rw [hol', hNsz, ← Nat.add_mul, ← Nat.add_mul]
      exact Nat.mul_le_mul_right _ (by omega)
    split at h
    · -- nil
      cases hS
      split at h
      · rename_i hn
        subst hn
        have hN0 : N = [] := List.eq_nil_of_length_eq_zero (by simpa using hNsz)
        refine ⟨_, w, g, _, A, ?_, .nilslice, hs, .refl hs, h⟩
        have hk : (∃ e', P.underlying tx = some (.slice e')) ∨ P.underlying tx = some .string := hN.kind
        have hcells := hN.cells
        subst hN0
        rcases hk with ⟨e', hk⟩ | hk <;> simp [Builtin.append_, run_underlying hu, run_underlying hk, sizeOf, typeInfo, hi, hN.len, hcells]
      · rename_i hn
        obtain ⟨hroom, hK⟩ := h
        refine grow none 0 0 [] [] (by simp [Builtin.firstCells]) .nil (by simp) (by simp) (by omega) (by simpa using hroom) A hs ?_
        have := hK g.n (hs.fresh _ (Nat.le_refl _)).2
        simpa using this
    · -- what does not change
      rename_i e' es ex
      obtain ⟨rfl, rfl, h⟩ := h
      have hS0 := hS
      rcases rel_islice hS with ⟨cb, o, c, hlc, hex, him, rfl⟩ | ⟨h0, a, rfl⟩
      · have hc := hex rfl
        subst hc
        split at h
        · rename_i hn
          subst hn
          have hN0 : N = [] := List.eq_nil_of_length_eq_zero (by simpa using hNsz)
          refine ⟨_, w, g, _, A, ?_, hS0, hs, .refl hs, h⟩
          subst hN0
          have hcells := hN.cells
          rcases hN.kind with ⟨e', hk⟩ | hk <;> simp [Builtin.append_, run_underlying hu, run_underlying hk, sizeOf, typeInfo, hi, hN.len, hcells, storeCells]
        · rename_i hn
          obtain ⟨hroom, hK⟩ := h
          obtain ⟨O, h1, h2, h3, h4, h5⟩ := cells_list (P := P) (g := g) (w := w) (cb := cb) (o := o) (cs := es.flatMap AV.cells) (fun k u hu => by
            obtain ⟨V, q1, q2, q3⟩ := hs.imm _ _ _ (flat_im es o him k u hu)
            exact ⟨q3, V, q1, q2⟩)
          have hfl := flat_length (g := g) (cb := cb) es o (fun i e he => (him i e he).1)
          exact grow _ _ _ O _ (run_firstCells_some w.drew i.size es.length _ _ _ O (by rw [h1, hfl]) (by simpa using h2)) h4 h5 hfl (by omega) hroom A hs (hK _ (hs.fresh _ (Nat.le_refl _)).2)
      · subst h0
        split at h
        · rename_i hn
          subst hn
          have hN0 : N = [] := List.eq_nil_of_length_eq_zero (by simpa using hNsz)
          refine ⟨_, w, g, _, A, ?_, hS0, hs, .refl hs, h⟩
          subst hN0
          have hcells := hN.cells
          rcases hN.kind with ⟨e', hk⟩ | hk <;> simp [Builtin.append_, run_underlying hu, run_underlying hk, sizeOf, typeInfo, hi, hN.len, hcells, storeCells]
        · rename_i hn
          obtain ⟨hroom, hK⟩ := h
          exact grow _ _ _ [] _ (run_firstCells_some w.drew i.size 0 _ _ _ [] (by simp) (by simp)) .nil (by simp) (by simp) (by omega) hroom A hs (hK _ (hs.fresh _ (Nat.le_refl _)).2)
    · -- a block that may change
      rename_i e' b off len cap
      obtain ⟨rfl, h⟩ := h
      split at h
      · rename_i cs hA
        obtain ⟨hle, h⟩ := h
        obtain ⟨cb, sh, top, c, el, hm, hh, htop, hlen, hcs, hcell⟩ := blk_cells hs hA
        have hS0 := hS
        cases hS with
        | slice _ _ _ _ _ a cc hb hlc hcap hsp hlive =>
          split at h
          · rename_i hn
            subst hn
            have hN0 : N = [] := List.eq_nil_of_length_eq_zero (by simpa using hNsz)
            refine ⟨_, w, g, _, A, ?_, hS0, hs, .refl hs, h⟩
            subst hN0
            have hcells := hN.cells
            rcases hN.kind with ⟨e', hk⟩ | hk <;> simp [Builtin.append_, run_underlying hu, run_underlying hk, sizeOf, typeInfo, hi, hN.len, hcells, hlc, storeCells]
          · rename_i hn
            have hlow := low_le hcap
            -- there is room: the cells are written
            have room : len + n ≤ cc → a = ⟨cb, sh + off, none⟩ ∧ sh + off + cc * i.size ≤ top ∧ ∃ c', (Builtin.append_ #[t, tx] ty #[.slice (some a) len cc, X]).run P w = .ok (.slice (some a) (len + n) cc) (w.setCells cb (sh + off + len * i.size) N) ∧
                Upd w (w.setCells cb (sh + off + len * i.size) N) cb (.cells c' el (0, 0)) ∧ c'.size = c.size ∧ ∀ j, c'[j]? = if sh + off + len * i.size ≤ j ∧ j < sh + off + len * i.size + N.length then N[j - (sh + off + len * i.size)]? else c[j]? := by
              intro hroom
              obtain ⟨ha, hfit⟩ := hlive (by omega) _ _ _ hm
              have hmul : (len + n) * i.size ≤ cc * i.size := Nat.mul_le_mul_right _ hroom
              rw [Nat.add_mul] at hmul
              obtain ⟨c', q1, q2, q3⟩ := setCells_upd cb N (sh + off + len * i.size) w c el hh (by omega)
              refine ⟨ha, hfit, c', ?_, q1, q2, q3⟩
              rw [ha]
              refine run_append_room_src (P := P) w t tx ty e i hu hi cb (sh + off) len cc X n N hN hroom (fun j hj => ?_) (fun j hj => ?_)
              · simp only [World.cell?, hh]
                simp
                omega
              · simp [World.frozen?, hh]
            split at h
            · -- known to be there
              rename_i hc
              obtain ⟨ha, hfit, c', hrun, hu', hsz', hget⟩ := room (by omega)
              have hmul : off + len * i.size + n * i.size ≤ cs.length := by have := hc.2; rw [Nat.add_mul] at this; omega
              have hol : (over cs (off + len * i.size) news).length = cs.length := over_length _ _ _ (by omega)
              obtain ⟨h1, h2⟩ := hs.upd (cs' := over cs (off + len * i.size) news) hm hh hu' (fun j hj => by rw [hget j, if_neg (by omega)]) (by omega) (by omega) (fun j v hv => by
                rw [over_get _ _ _ (by omega)] at hv
                rw [hget (sh + j)]
                split at hv
                · rename_i hj
                  rw [if_pos (by omega)]
                  obtain ⟨V, q1, q2⟩ := hNr.get? hv
                  refine ⟨hNo v (List.mem_of_getElem? hv), V, ?_, q2⟩
                  rw [show sh + j - (sh + off + len * i.size) = j - (off + len * i.size) by omega]
                  simpa using q1
                · rename_i hj
                  rw [if_neg (by omega)]
                  exact hcs j v hv)
              refine ⟨_, _, g, _, _, hrun, ?_, h1, h2, h⟩
              exact .slice _ _ _ _ _ _ _ hb (by omega) hcap hsp (fun hne cb' sh' top' hm' => hlive hne _ _ _ hm')
            · rename_i hc
              obtain ⟨hroom, h⟩ := h
              -- the old cells
              obtain ⟨O, h1, h2, h3, h4, h5⟩ := cells_list (P := P) (g := g) (w := w) (cb := cb) (o := sh + off) (cs := (cs.drop off).take (len * i.size)) (fun k u hu => by
                obtain ⟨hk, hk2⟩ := take_drop_get hu
                obtain ⟨q1, V, q2, q3⟩ := hcell _ _ hk2
                exact ⟨q1, V, by rw [Nat.add_assoc]; exact q2, q3⟩)
              have hol : ((cs.drop off).take (len * i.size)).length = len * i.size := by simp; omega
              have hfirst : (Builtin.firstCells i.size len (.slice (some a) len cc)).run P w.drew = .ok O.toArray w.drew := by
                refine run_firstCells_some w.drew i.size len a len cc O (by rw [h1, hol]) (fun j u hu => ?_)
                have hj : j < len * i.size := by rw [← hol, ← h1]; exact (List.getElem?_eq_some_iff.1 hu).1
                have hlen0 : len ≠ 0 := by rintro rfl; simp at hj
                rw [(hlive (by omega) _ _ _ hm).1]
                simpa using h2 j u hu
              split at h
              · -- no room, surely
                obtain ⟨hlt, hK⟩ := h
                simp only at hcap
                exact grow _ _ _ O _ hfirst h4 h5 hol (by omega) hroom A hs (hK _ (hs.fresh _ (Nat.le_refl _)).2)
              · -- nobody knows
                rename_i k
                rcases Nat.lt_or_ge cc (len + n) with hg | hg
                · refine grow _ _ _ O _ hfirst h4 h5 hol hg hroom (A.del b) (hs.sub fun b' x hx => ?_) (h _ (hs.fresh _ (Nat.le_refl _)).2)
                  simp only [Heap.del] at hx
                  split at hx
                  · cases hx
                  · exact hx
                · obtain ⟨ha, hfit, c', hrun, hu', hsz', hget⟩ := room hg
                  have hall : ((cs.drop off).take (len * i.size) ++ news).length = (len + n) * i.size := by rw [List.length_append, hol, hNl, Nat.add_mul]
                  have hmul : (len + n) * i.size ≤ cc * i.size := Nat.mul_le_mul_right _ hg
                  obtain ⟨q1, q2⟩ := hs.rename (cs' := (cs.drop off).take (len * i.size) ++ news) (sh' := sh + off) hm hh hu' (by omega) (fun j hj => by rw [hget j, if_neg (by omega)]) (by omega) (by omega) (fun j v hv => by
                    rw [hget (sh + off + j)]
                    rcases Nat.lt_or_ge j (len * i.size) with hj | hj
                    · rw [List.getElem?_append_left (by omega)] at hv
                      obtain ⟨_, hv⟩ := take_drop_get hv
                      rw [if_neg (by omega), Nat.add_assoc]
                      exact hcs _ v hv
                    · rw [List.getElem?_append_right (by omega), hol] at hv
                      have hjn : j - len * i.size < news.length := (List.getElem?_eq_some_iff.1 hv).1
                      rw [if_pos (by omega)]
                      obtain ⟨V, r1, r2⟩ := hNr.get? hv
                      refine ⟨hNo v (List.mem_of_getElem? hv), V, ?_, r2⟩
                      rw [show sh + off + j - (sh + off + len * i.size) = j - len * i.size by omega]
                      simpa using r1)
                  refine ⟨_, _, _, _, _, hrun, ?_, q1, q2, h _ (hs.fresh _ (Nat.le_refl _)).2⟩
                  refine .slice _ _ _ _ _ _ _ (Nat.lt_succ_self _) (by omega) hg hsp fun _ cb' sh' top' hm' => ?_
                  have hbn : g.n ≠ b := by omega
                  simp only [G.ren, if_neg hbn, if_true, Option.some.injEq, Prod.mk.injEq] at hm'
                  obtain ⟨rfl, rfl, rfl⟩ := hm'
                  exact ⟨ha, by omega⟩
      · exact h.elim
    · exact h.elim
end Go.NL

set_option linter.unusedVariables false

namespace Go.NL
/-- The function has a text that is entered by a call. -/
def enters (P : Program) (f : FuncId) : Bool :=
  match P.funcs[f]? with
  | some fn => fn.body.isSome && !(fn.name == "runtime.NumGoroutine")
  | none => false
/-- A call, as the N-logic sees it: K holds of what it tells and of the blocks behind it. -/
def NCalls (P : Program) (f : FuncId) (args : List AV) (A : Heap) (K : AV → Heap → Prop) : Prop :=
  enters P f = true ∧ ∀ (g : G) (w : World) (cargs : Array Value), Sim g A w → RelL g args cargs →
    Calls P f cargs w fun e w' => ∃ v V A' g', e = .returned V ∧ Rel g' v V ∧ Sim g' A' w' ∧ Ext g w g' w' ∧ K v A'
theorem NCalls.mono {P : Program} {f : FuncId} {args : List AV} {A : Heap} {K K' : AV → Heap → Prop} (h : NCalls P f args A K) (hk : ∀ v A', K v A' → K' v A') : NCalls P f args A K' :=
  ⟨h.1, fun g w cargs hs hr => (h.2 g w cargs hs hr).mono fun e w' ⟨v, V, A', g', h1, h2, h3, h4, h5⟩ => ⟨v, V, A', g', h1, h2, h3, h4, hk _ _ h5⟩⟩
/-- A call that leaves all blocks alone, and tells v. -/
def NPure (P : Program) (f : FuncId) (args : List AV) (v : AV) : Prop := ∀ A, NCalls P f args A fun v' A' => v' = v ∧ A' = A
/-- m[k] = v -/
def mapUpd (A : Heap) (K : Heap → Prop) (k v : AV) : AV → Prop
  | .map b => match A b with
    | some (.map es ck) => match findE k es 0 with
      | some (some (i, _)) => K (A.set b (.map (es.modify i fun e => (k, v, e.2.2)) ck))
      | some none => K (A.set b (.map (es ++ [(k, v, ck)]) (ck + 1)))
      | none => False
    | _ => False
  | _ => False
/-- What must hold ahead of an operation, for K to hold behind it. -/
def cop (P : Program) (σ : Opd → AV) (A : Heap) (K : AV → Heap → Prop) : NOp → Prop
  | .zero cs => ∀ b, A b = none → K (.ptr b 0) (A.set b (.cells cs))
  | .box x => (σ x).cells.all AV.one = true ∧ ∀ b, A b = none → K (.ptr b 0) (A.set b (.cells (σ x).cells))
  | .buildSlice esz len z ps => match fillAV z (ps.map fun (o, n, x) => (o, n, σ x)) with
    | some cs => ∀ b, A b = none → K (.slice esz b 0 len (.eq len)) (A.set b (.cells cs))
    | none => False
  | .store size x v => (σ v).cells.length = size ∧ (σ v).cells.all AV.one = true ∧ match σ x with
    | .ptr b off => match A b with
      | some (.cells cs) => off + size ≤ cs.length ∧ K .undef (A.set b (.cells (over cs off (σ v).cells)))
      | _ => False
    | _ => False
  | .mapUpdate str m k v => keyOk str (σ k) = true ∧ mapUpd A (K .undef) (σ k) (σ v) (σ m)
  | .makeMap => ∀ b, A b = none → K (.map b) (A.set b (.map [] 0))
  | .makeSlice esz bytes z l c => match σ l, σ c with
    | .int .i64 l, .int .i64 c => 0 ≤ l ∧ l ≤ c ∧ c * bytes ≤ 140737488355328 ∧ c ≤ 4611686018427387904 ∧
      ∀ b, A b = none → K (.slice esz b 0 l.toNat (.eq c.toNat)) (A.set b (.cells (List.replicate c.toNat z).flatten))
    | _, _ => False
  | .append str esz bytes s x => appendN A K str esz bytes (σ s) (σ x)
  | .call f args => match σ f with
    | .func f first caps => NCalls P f (first ++ args.map σ ++ caps) A K
    | _ => False
  | nop => match qop A σ nop with
    | some v => K v A
    | none => False
theorem one_all {l : List AV} (h : l.all AV.one = true) : ∀ c ∈ l, c.one = true := by simpa [List.all_eq_true] using h
theorem run_storeVar_cells {P : Program} {g : G} {A : Heap} {w : World} (hs : Sim g A w) {t : TypeId} {i : TypeInfo} (hi : P.info? t = some i) {b off : Nat} {cs : List AV} (hA : A b = some (.cells cs)) {v : AV} {V : Value} (hv : Rel g v V)
    (hl : v.cells.length = i.size) (hone : v.cells.all AV.one = true) (hle : off + i.size ≤ cs.length) {X : Value} (hX : Rel g (.ptr b off) X) :
    ∃ w', (Instr.storeAt t X V).run P w = .ok () w' ∧ Sim g (A.set b (.cells (over cs off v.cells))) w' ∧ Ext g w g w' := by
  obtain ⟨cb, sh, top, c, el, hm, hh, htop, hlen, hcs, hcell⟩ := blk_cells hs hA
  cases hX with
  | ptr _ _ a hb ha =>
    have := ha _ _ _ hm
    subst this
    have hr := rel_cells hv
    have hVs : V.cells.size = i.size := by rw [← hr.len, hl]
    have hst := run_storeCells_at P cb (sh + off) el V.cells.toList 0 c w hh (by simp [hVs]; omega) (by
      intro u hu
      obtain ⟨j, hj, hju⟩ := List.getElem_of_mem hu
      have hj' : j < v.cells.length := by have := hr.len; simp at hj; omega
      have hrel := hr.get j hj' (by simpa using hj)
      have h1 := one_all hone _ (List.getElem_mem hj')
      have : V.cells[j]'(by simpa using hj) = u := by simpa using hju
      rw [← this]
      exact rel_one hrel h1)
    simp only [Nat.add_zero] at hst
    have hlist : V.cells.toList.length = i.size := by simpa using hVs
    refine ⟨w.setRow cb (c.toList.take (sh + off) ++ V.cells.toList ++ c.toList.drop (sh + off + V.cells.toList.length)).toArray, ?_, ?_⟩
    · simp only [Instr.storeAt, Instr.sureAddr, Sem.run_bind, Sem.run_pure, Result.andThen_ok, storeVar, sizeOf, typeInfo, run_program, hi]
      simp only [hVs, ne_eq, not_true_eq_false, if_false]
      exact hst
    · have hup : Upd w (w.setRow cb (c.toList.take (sh + off) ++ V.cells.toList ++ c.toList.drop (sh + off + V.cells.toList.length)).toArray) cb
          (.cells (c.toList.take (sh + off) ++ V.cells.toList ++ c.toList.drop (sh + off + V.cells.toList.length)).toArray el (0, 0)) :=
        ⟨fun k hk => setRow_other w cb k _ hk, setRow_heap w cb c _ el _ hh, by simp, rfl, rfl, rfl⟩
      have hget : ∀ j, (c.toList.take (sh + off) ++ V.cells.toList ++ c.toList.drop (sh + off + V.cells.toList.length)).toArray[j]? = if sh + off ≤ j ∧ j < sh + off + i.size then V.cells[j - (sh + off)]? else c[j]? := by
        intro j
        rw [List.getElem?_toArray, List.append_assoc]
        have hlt : (c.toList.take (sh + off)).length = sh + off := by simp; omega
        by_cases h1 : j < sh + off
        · rw [List.getElem?_append_left (by omega), List.getElem?_take, if_pos h1, if_neg (by omega)]
          simp
        · rw [List.getElem?_append_right (by omega), hlt]
          by_cases h2 : j - (sh + off) < i.size
          · rw [List.getElem?_append_left (by omega), if_pos (by omega)]
            simp
          · rw [List.getElem?_append_right (by omega), List.getElem?_drop, if_neg (by omega), hlist]
            simp
            congr 1
            omega
      refine hs.upd hm hh hup (fun j hj => by rw [hget j, if_neg (by omega)]) (by simp [hVs]; omega) (by rw [over_length _ _ _ (by omega)]; omega) (fun j u hu => ?_)
      rw [over_get _ _ _ (by omega)] at hu
      rw [hget (sh + j)]
      split at hu
      · rename_i hj
        rw [if_pos (by omega)]
        obtain ⟨U, q1, q2⟩ := hr.get? hu
        refine ⟨one_all hone u (List.mem_of_getElem? hu), U, ?_, q2⟩
        rw [show sh + j - (sh + off) = j - off by omega]
        exact q1
      · rename_i hj
        rw [if_neg (by omega)]
        exact hcs j u hu
theorem alloc_var {g : G} {A : Heap} {w : World} (hs : Sim g A w) {cs : List AV} {vs : Array Value} (e : TypeId) (hr : RelL g cs vs) (hone : ∀ c ∈ cs, c.one = true) :
    Sim (g.more w.heap.size vs.size) (A.set g.n (.cells cs)) (w.alloc (.cells vs e)) ∧ Ext g w (g.more w.heap.size vs.size) (w.alloc (.cells vs e)) := by
  have := alloc_row (rest := #[]) (e := e) hs hr hone
  simpa using this
theorem alloc_ptr_rel {g : G} {w : World} {top : Nat} : Rel (g.more w.heap.size top) (.ptr g.n 0) (.pointer (some ⟨w.heap.size, 0, none⟩)) := by
  refine .ptr _ _ _ (Nat.lt_succ_self _) fun cb sh top' hm => ?_
  simp only [G.more, if_true, Option.some.injEq, Prod.mk.injEq] at hm
  obtain ⟨rfl, rfl, rfl⟩ := hm
  rfl
theorem sound_mapUpdate {P : Program} {g : G} {A : Heap} {w : World} (hs : Sim g A w) {t kt e : TypeId} {d : TypeDesc} {str : Bool} (hu : P.underlying t = some (.map kt e)) (hk : P.underlying kt = some d) (hd : keyDesc str d)
    {m k v : AV} {M Kv V : Value} (hm : Rel g m M) (hkr : Rel g k Kv) (hvr : Rel g v V) (hko : keyOk str k = true) {K : Heap → Prop}
    (h : mapUpd A K k v m) : ∃ w' A', (Instr.mapUpdate t M Kv V).run P w = .ok () w' ∧ Sim g A' w' ∧ Ext g w g w' ∧ K A' := by
  unfold mapUpd at h
  cases m <;> simp only at h
  rename_i b
  cases hA : A b with
  | none => rw [hA] at h; exact h.elim
  | some x =>
    rw [hA] at h
    cases x with
    | cells cs => exact h.elim
    | map es ck =>
      simp only at h
      obtain ⟨cb, sh, top, hmb, ces, hh, hlen, hes⟩ := hs.blk _ _ hA
      cases hm with
      | map _ cb' hb hcb =>
        have := hcb _ _ _ hmb
        subst this
        have hg := run_getMap (P := P) hh
        have hck := fun b => checkKey_plain (P := P) (w := w) hk hd b Kv
        cases hf : findE k es 0 with
        | none => rw [hf] at h; exact h.elim
        | some r =>
          rw [hf] at h
          obtain ⟨R, hR, hrr⟩ := findE_sound (P := P) hd hkr hko es ces.toList 0 (by simpa using hlen) (fun j k' v' b' e' h1 h2 => hes j k' v' b' e' h1 (by simpa using h2)) hf
          have hfn := run_findKey (P := P) (w := w) hk hR
          have hset : ∀ (ces' : Array MapEntry) (ck' : Nat), (setObj cb (.map ces' ck')).run P w = .ok () { w with heap := w.heap.setIfInBounds cb (.map ces' ck') } := by
            intro ces' ck'
            simp only [setObj, Sem.run, hh]
          have hupd : ∀ (ces' : Array MapEntry) (ck' : Nat), Upd w { w with heap := w.heap.setIfInBounds cb (.map ces' ck') } cb (.map ces' ck') := by
            intro ces' ck'
            have hlt := (Array.getElem?_eq_some_iff.1 hh).1
            exact ⟨fun k hk => by simp [Array.getElem?_setIfInBounds_ne (Ne.symm hk)], by simp [Array.getElem?_setIfInBounds_self_of_lt hlt], by simp, rfl, rfl, rfl⟩
          cases r with
          | none =>
            simp only at hrr h
            subst hrr
            obtain ⟨q1, q2⟩ := hs.updMap (es' := es ++ [(k, v, ck)]) hmb hh (hupd (ces.push { key := Kv, val := V, born := ck }) (ck + 1)) (by simp [hlen]) (fun j k' v' born e' h1 h2 => by
              rcases Nat.lt_or_ge j es.length with hj | hj
              · rw [List.getElem?_append_left hj] at h1
                rw [Array.getElem?_push_lt (by omega)] at h2
                exact hes j k' v' born e' h1 (by rw [← h2]; exact Array.getElem?_eq_getElem (by omega))
              · rw [List.getElem?_append_right hj] at h1
                have hj0 : j = es.length := by
                  have := (List.getElem?_eq_some_iff.1 h1).1
                  simp at this
                  omega
                subst hj0
                simp only [Nat.sub_self, List.getElem?_cons_zero, Option.some.injEq, Prod.mk.injEq] at h1
                obtain ⟨rfl, rfl, rfl⟩ := h1
                rw [← hlen, Array.getElem?_push_size] at h2
                cases h2
                exact ⟨hkr, hvr, rfl⟩)
            refine ⟨_, _, ?_, q1, q2, h⟩
            simp [Instr.mapUpdate, run_underlying hu, hg, hck, hfn, hset]
          | some q =>
            obtain ⟨n, v0⟩ := q
            obtain ⟨V0, rfl, hRv, _, k', born0, hn, hkeq⟩ := hrr
            simp only [Nat.sub_zero] at hn
            have hnl : n < ces.size := by rw [hlen]; exact (List.getElem?_eq_some_iff.1 hn).1
            obtain ⟨hk'r, hv0, hborn⟩ := hes n k' v0 born0 ces[n] hn (Array.getElem?_eq_getElem hnl)
            have hsame : Instr.sameBits 10000 ces[n].key Kv = true := by
              unfold keyEq at hkeq
              split at hkeq
              · split at hkeq
                · rename_i hkk
                  simp only [Option.some.injEq, decide_eq_true_eq] at hkeq
                  subst hkk; subst hkeq
                  rw [rel_int hk'r, rel_int hkr]
                  simp [Instr.sameBits]
                · cases hkeq
              · simp only [Option.some.injEq, decide_eq_true_eq] at hkeq
                subst hkeq
                obtain ⟨x, hx, hxl⟩ := rel_str hk'r
                obtain ⟨y, hy, hyl⟩ := rel_str hkr
                rw [hx, hy]
                simp only [Instr.sameBits]
                rw [bytes_eq, hxl, hyl]
                simp
              · cases hkeq
            obtain ⟨q1, q2⟩ := hs.updMap (es' := es.modify n fun e => (k, v, e.2.2)) hmb hh (hupd (ces.modify n fun e => { e with key := Kv, val := V }) ck) (by simp [hlen]) (fun j k'' v'' born e' h1 h2 => by
              rw [List.getElem?_modify] at h1
              rw [Array.getElem?_modify] at h2
              by_cases hj : n = j
              · subst hj
                rw [hn] at h1
                rw [if_pos rfl, Array.getElem?_eq_getElem hnl] at h2
                simp only [Option.map_some, if_true, Option.some.injEq] at h1 h2
                obtain ⟨rfl, rfl, rfl⟩ := h1
                subst h2
                exact ⟨hkr, hvr, hborn⟩
              · rw [if_neg hj] at h2
                have h1' : es[j]? = some (k'', v'', born) := by
                  cases hej : es[j]? with
                  | none => rw [hej] at h1; simp at h1
                  | some x => rw [hej] at h1; simpa [hj] using h1
                exact hes j k'' v'' born e' h1' (by simpa using h2))
            refine ⟨_, _, ?_, q1, q2, h⟩
            simp [Instr.mapUpdate, run_underlying hu, hg, hck, hfn, hset, Instr.keyThatStays, hnl, hsame]
end Go.NL

set_option linter.unusedVariables false

namespace Go.NL
/-- What stands behind an operation. -/
def Next (g : G) (w : World) (a : Act) (dst : Option Tmp) (K : AV → Heap → Prop) (a' : Act) (w' : World) : Prop :=
  ∃ g' v V A', a' = a.put dst V ∧ Rel g' v V ∧ Sim g' A' w' ∧ Ext g w g' w' ∧ K v A'
theorem wp_value {P : Program} {g : G} {w w' : World} {o : Oper} {a : Act} {K : AV → Heap → Prop} {Q : Exit → Act → World → Prop} {V : Value} (h : (execOp a.eval o).run P w = .ok (.value V) w') {g' : G} {v : AV} {A' : Heap}
    (h1 : Rel g' v V) (h2 : Sim g' A' w') (h3 : Ext g w g' w') (h4 : K v A') : o.wp P a w (Next g w a o.dst K) Q := by
  unfold Oper.wp
  rw [h]
  exact ⟨g', v, V, A', rfl, h1, h2, h3, h4⟩
theorem wp_skip' {P : Program} {g : G} {w w' : World} {o : Oper} {a : Act} {K : AV → Heap → Prop} {Q : Exit → Act → World → Prop} (h : (execOp a.eval o).run P w = .ok .skip w') {g' : G} {A' : Heap}
    (h2 : Sim g' A' w') (h3 : Ext g w g' w') (h4 : K .undef A') : o.wp P a w (Next g w a o.dst K) Q := by
  unfold Oper.wp
  rw [h]
  exact ⟨g', .undef, undef, A', rfl, rel_undef, h2, h3, h4⟩
theorem wp_quiet {P : Program} {g : G} {A : Heap} {w : World} (hs : Sim g A w) {o : Oper} {nop : NOp} (hc : compOp P o.op = some nop) {σ : Opd → AV} {a : Act} (hσ : Ops g σ a.eval) {K : AV → Heap → Prop} {Q : Exit → Act → World → Prop}
    (h : match qop A σ nop with | some v => K v A | none => False) : o.wp P a w (Next g w a o.dst K) Q := by
  cases hq : qop A σ nop with
  | none => rw [hq] at h; exact h.elim
  | some v =>
    rw [hq] at h
    obtain ⟨V, h1, h2⟩ := qop_sound hs hc hσ hq
    exact wp_value h1 h2 hs (.refl hs) h
theorem callFunc_enters {P : Program} {f : FuncId} (h : enters P f = true) (args : Array Value) (w : World) : (callFunc f args).run P w = .ok (.enter f args) w := by
  unfold enters at h
  split at h
  · rename_i fn hf
    simp only [Bool.and_eq_true, Bool.not_eq_true'] at h
    obtain ⟨b, hb⟩ := Option.isSome_iff_exists.1 h.1
    have hn : ¬ fn.name = "runtime.NumGoroutine" := by simpa using h.2
    simp [callFunc, hf, hn, hb]
  · cases h
theorem zeros_rel {g : G} {z : List AV} {Z : Array Value} (h : RelL g z Z) (hz : z.length ≠ 0) (n : Nat) : RelL g (List.replicate n z).flatten ((Array.range (n * z.length)).map (fun j => Z[j % Z.size]!)) := by
  have hlen : ∀ n, (List.replicate n z).flatten.length = n * z.length := by intro n; simp
  have hZ := h.len
  refine ⟨by simp, fun i c v hc hv => ?_⟩
  have hi : i < n * z.length := by rw [← hlen n]; exact (List.getElem?_eq_some_iff.1 hc).1
  have get : ∀ n i, i < n * z.length → (List.replicate n z).flatten[i]? = z[i % z.length]? := by
    intro n
    induction n with
    | zero => intro i hi; simp at hi
    | succ n ih =>
      intro i hi
      rw [List.replicate_succ, List.flatten_cons]
      rcases Nat.lt_or_ge i z.length with h1 | h1
      · rw [List.getElem?_append_left h1, Nat.mod_eq_of_lt h1]
      · rw [List.getElem?_append_right h1, ih (i - z.length) (by rw [Nat.add_mul] at hi; omega)]
        congr 1
        rw [Nat.mod_eq_sub_mod h1]
  rw [get n i hi] at hc
  have hmod : i % z.length < z.length := Nat.mod_lt _ (by omega)
  have hv' : v = Z[i % Z.size]! := by
    rw [Array.getElem?_map] at hv
    rw [Array.getElem?_range] at hv
    simp [hi] at hv
    exact hv.symm
  subst hv'
  have hlt : i % Z.size < Z.size := by rw [← hZ]; exact hmod
  rw [getElem!_pos Z _ hlt]
  exact h.rel (i % z.length) c _ hc (by rw [hZ]; exact Array.getElem?_eq_getElem hlt)
theorem cop_sound {P : Program} {g : G} {A : Heap} {w : World} (hs : Sim g A w) {o : Oper} {nop : NOp} (hc : compOp P o.op = some nop) {σ : Opd → AV} {a : Act} (hσ : Ops g σ a.eval) {K : AV → Heap → Prop} {Q : Exit → Act → World → Prop}
    (h : cop P σ A K nop) : o.wp P a w (Next g w a o.dst K) Q := by
  have hc0 := hc
  obtain ⟨dst, op, type, pos, after, guard⟩ := o
  simp only at hc
  cases op with
  | alloc t =>
    simp only [compOp, Option.map_eq_some_iff] at hc
    obtain ⟨z, hz, rfl⟩ := hc
    obtain ⟨i, Z, hi, hZ, hzr, hzl, hzo⟩ := zeroCells_rel (g := g) hz
    obtain ⟨h1, h2⟩ := alloc_var hs t hzr hzo
    refine wp_value (V := .pointer (some ⟨w.heap.size, 0, none⟩)) ?_ alloc_ptr_rel h1 h2 (h _ (hs.fresh _ (Nat.le_refl _)).2)
    simp [execOp, Instr.alloc, zeroValue, typeInfo, hi, hZ, newVar, newRow]
  | box t x =>
    simp only [compOp, Option.map_eq_some_iff] at hc
    obtain ⟨y, hy, rfl⟩ := hc
    obtain ⟨ho, h⟩ := h
    obtain ⟨h1, h2⟩ := alloc_var hs t (rel_cells (hσ _ _ hy)) (one_all ho)
    refine wp_value (V := .pointer (some ⟨w.heap.size, 0, none⟩)) ?_ alloc_ptr_rel h1 h2 (h _ (hs.fresh _ (Nat.le_refl _)).2)
    simp [execOp, Instr.box, newVar, newRow]
  | buildSlice t len parts =>
    simp only [compOp, Option.bind_eq_bind] at hc
    split at hc
    · rename_i e hu
      simp only [Option.bind_eq_some_iff] at hc
      obtain ⟨i, hi, z, hz, hc⟩ := hc
      split at hc
      · cases hc
      · rename_i hlim
        split at hc
        · cases hc
        · rename_i hsz
          simp only [Option.bind_eq_some_iff, Option.some.injEq] at hc
          obtain ⟨qs, hqs, rfl⟩ := hc
          simp only [cop] at h
          obtain ⟨i', Z, hi', hZ, hzr, hzl, hzo⟩ := zeroCells_rel (g := g) hz
          rw [hi] at hi'
          cases hi'
          have hz0 : z.length ≠ 0 := by omega
          have hrep := zeros_rel hzr hz0 len
          rw [hzl] at hrep
          split at h
          · rename_i cs hf
            obtain ⟨R, hR, hR1, hR2⟩ := sound_fill hσ (place := fun j => some (j * i.size, i.size)) hqs hrep (by
              intro c hc
              rw [List.mem_flatten] at hc
              obtain ⟨l, hl, hcl⟩ := hc
              rw [List.mem_replicate] at hl
              rw [hl.2] at hcl
              exact hzo c hcl) hf
            obtain ⟨h1, h2⟩ := alloc_var hs e hR1 hR2
            have hRsz : R.size = len * i.size := by
              have hfl : ∀ (ps : List (Nat × Nat × AV)) (c r : List AV), fillAV c ps = some r → r.length = c.length := by
                intro ps
                induction ps with
                | nil => intro c r h; simp [fillAV] at h; rw [h]
                | cons p ps ih =>
                  intro c r h
                  obtain ⟨off, size, v⟩ := p
                  simp only [fillAV] at h
                  split at h
                  · rename_i hc
                    rw [ih _ _ h, over_length _ _ _ (by omega)]
                  · cases h
              rw [← hR1.len, hfl _ _ _ hf]
              simp [hzl]
            refine wp_value (V := .slice (some ⟨w.heap.size, 0, none⟩) len len) ?_ (alloc_slice_rel (Nat.le_refl _) (by rw [hRsz]; exact Nat.le_refl _) rfl) h1 h2 (h _ (hs.fresh _ (Nat.le_refl _)).2)
            have e2 : (Array.map (fun (x : Nat × Operand) => (x.1, a.eval x.2)) parts).toList = parts.toList.map (fun (x : Nat × Operand) => (x.1, a.eval x.2)) := by simp
            have hr0 : ∀ f : Nat → Value, Array.map f (Array.range 0) = #[] := fun f => by simp
            simp only [execOp, Instr.buildSlice, Sem.run_bind, run_underlying hu, Result.andThen_ok, sizeOf, typeInfo, run_program, hi, Sem.run_pure]
            rw [if_neg hlim]
            by_cases h0 : len * i.size = 0
            · rw [h0, hr0] at hR
              rw [if_pos h0, h0]
              simp only [Sem.run_bind, Sem.run_pure, Result.andThen_ok, e2, hr0]
              rw [show Instr.fill (fun j => some (j * i.size, i.size)) #[] (parts.toList.map fun (x : Nat × Operand) => (x.1, a.eval x.2)) = some R from hR]
              rfl
            · rw [if_neg h0]
              simp only [Sem.run_bind, zeroValue, typeInfo, run_program, hi, hZ, Sem.run_pure, Result.andThen_ok, e2]
              rw [show Instr.fill (fun j => some (j * i.size, i.size)) (Array.map (fun x => Z.cells[x % Z.cells.size]!) (Array.range (len * i.size))) (parts.toList.map fun (x : Nat × Operand) => (x.1, a.eval x.2)) = some R from hR]
              rfl
          · exact h.elim
    · cases hc
  | store t x v =>
    simp only [compOp, Option.bind_eq_bind, Option.bind_eq_some_iff, Option.some.injEq] at hc
    obtain ⟨i, hi, x', hx, v', hv, rfl⟩ := hc
    simp only [cop] at h
    obtain ⟨hl, ho, h⟩ := h
    split at h
    · rename_i b off hb
      split at h
      · rename_i cs hA
        obtain ⟨hle, hK⟩ := h
        have hxr := hσ _ _ hx
        rw [hb] at hxr
        obtain ⟨w', h1, h2, h3⟩ := run_storeVar_cells hs hi hA (hσ _ _ hv) hl ho hle hxr
        refine wp_skip' ?_ h2 h3 hK
        simp [execOp, h1]
      · exact h.elim
    · exact h.elim
  | mapUpdate t m k v =>
    simp only [compOp, Option.bind_eq_bind] at hc
    split at hc
    · rename_i kt e hu
      split at hc
      · rename_i kk hk
        simp only [Option.bind_eq_some_iff, Option.some.injEq] at hc
        obtain ⟨m', hm, k', hk', v', hv, rfl⟩ := hc
        obtain ⟨w', A', h1, h2, h3, h4⟩ := sound_mapUpdate hs hu hk (str := false) ⟨_, rfl⟩ (hσ _ _ hm) (hσ _ _ hk') (hσ _ _ hv) h.1 (K := K .undef) h.2
        exact wp_skip' (by simp [execOp, h1]) h2 h3 h4
      · rename_i hk
        simp only [Option.bind_eq_some_iff, Option.some.injEq] at hc
        obtain ⟨m', hm, k', hk', v', hv, rfl⟩ := hc
        obtain ⟨w', A', h1, h2, h3, h4⟩ := sound_mapUpdate hs hu hk (str := true) rfl (hσ _ _ hm) (hσ _ _ hk') (hσ _ _ hv) h.1 (K := K .undef) h.2
        exact wp_skip' (by simp [execOp, h1]) h2 h3 h4
      · cases hc
    · cases hc
  | insert t m k v =>
    simp only [compOp, Option.bind_eq_bind] at hc
    split at hc
    · rename_i kt e hu
      split at hc
      · rename_i kk hk
        simp only [Option.bind_eq_some_iff, Option.some.injEq] at hc
        obtain ⟨m', hm, k', hk', v', hv, rfl⟩ := hc
        obtain ⟨w', A', h1, h2, h3, h4⟩ := sound_mapUpdate hs hu hk (str := false) ⟨_, rfl⟩ (hσ _ _ hm) (hσ _ _ hk') (hσ _ _ hv) h.1 (K := K .undef) h.2
        exact wp_skip' (by simp [execOp, h1]) h2 h3 h4
      · rename_i hk
        simp only [Option.bind_eq_some_iff, Option.some.injEq] at hc
        obtain ⟨m', hm, k', hk', v', hv, rfl⟩ := hc
        obtain ⟨w', A', h1, h2, h3, h4⟩ := sound_mapUpdate hs hu hk (str := true) rfl (hσ _ _ hm) (hσ _ _ hk') (hσ _ _ hv) h.1 (K := K .undef) h.2
        exact wp_skip' (by simp [execOp, h1]) h2 h3 h4
      · cases hc
    · cases hc
  | makeMap t r =>
    cases r with
    | some r => simp [compOp] at hc
    | none =>
      simp only [compOp, Option.some.injEq] at hc
      subst hc
      obtain ⟨h1, h2⟩ := hs.alloc (o := .map #[] 0) (x := .map [] 0) (top := 0) (fun i => by
        have := heap_new w (.map #[] 0)
        simp only [World.frozen?, this]) ⟨#[], heap_new w _, rfl, fun i k v born e hi => by simp at hi⟩
      refine wp_value (V := .map (some w.heap.size)) ?_ (.map _ _ (Nat.lt_succ_self _) fun cb' sh top hm => ?_) h1 h2 (h _ (hs.fresh _ (Nat.le_refl _)).2)
      · simp [execOp, Instr.makeMap]
      · simp only [G.more, if_true, Option.some.injEq, Prod.mk.injEq] at hm
        exact hm.1.symm
  | makeSlice t l c =>
    simp only [compOp, Option.bind_eq_bind] at hc
    split at hc
    · rename_i e hu
      simp only [Option.bind_eq_some_iff] at hc
      obtain ⟨i, hi, z, hz, hc⟩ := hc
      split at hc
      · cases hc
      · rename_i hsz
        simp only [Option.bind_eq_some_iff, Option.some.injEq] at hc
        obtain ⟨l', hl, c', hc', rfl⟩ := hc
        simp only [cop] at h
        split at h
        · rename_i ln cn hln hcn
          obtain ⟨h0, hlc, hroom, hbig, h⟩ := h
          have hlr := hσ _ _ hl
          have hcr := hσ _ _ hc'
          rw [hln] at hlr
          rw [hcn] at hcr
          obtain ⟨i', Z, hi', hZ, hzr, hzl, hzo⟩ := zeroCells_rel (g := g) hz
          rw [hi] at hi'
          cases hi'
          have hrep := zeros_rel hzr (by omega) cn.toNat
          rw [hzl] at hrep
          obtain ⟨h1, h2⟩ := alloc_var hs e hrep (by
            intro c hc
            rw [List.mem_flatten] at hc
            obtain ⟨l, hl, hcl⟩ := hc
            rw [List.mem_replicate] at hl
            rw [hl.2] at hcl
            exact hzo c hcl)
          refine wp_value (V := .slice (some ⟨w.heap.size, 0, none⟩) ln.toNat cn.toNat) ?_ (alloc_slice_rel (by omega) (by simp) rfl) h1 h2 (h _ (hs.fresh _ (Nat.le_refl _)).2)
          have w1 : IntKind.i64.wrap ln = ln := IntWalk.i64_in _ (by omega)
          have w2 : IntKind.i64.wrap cn = cn := IntWalk.i64_in _ (by omega)
          have hb : ¬ (2 ^ 48 : Int) < i.bytes * cn := by rw [Int.mul_comm]; omega
          have hr0 : ∀ f : Nat → Value, Array.map f (Array.range 0) = #[] := fun f => by simp
          have hcond : ((decide (cn < 0) || decide (i.bytes * cn > 2 ^ 48)) || decide (ln < 0) || decide (ln > cn)) = false := by
            simp only [Bool.or_eq_false_iff, decide_eq_false_iff_not]
            omega
          simp only [execOp, Instr.makeSlice, Sem.run_bind, run_underlying hu, Result.andThen_ok, rel_int hlr, rel_int hcr, asInt, asIntOf, Sem.run_pure, typeInfo, run_program, hi, w1, w2]
          simp only [hcond, Bool.false_eq_true, if_false, Sem.run_bind, run_askRoom, Result.andThen_ok, sizeOf, typeInfo, run_program, hi, Sem.run_pure]
          by_cases h0 : cn.toNat * i.size = 0
          · rw [if_pos h0, h0]
            simp only [Sem.run_bind, Sem.run_pure, Result.andThen_ok, hr0]
            rfl
          · rw [if_neg h0]
            simp only [Sem.run_bind, zeroValue, typeInfo, run_program, hi, hZ, Sem.run_pure, Result.andThen_ok]
            rfl
        · exact h.elim
    · cases hc
  | call c =>
    obtain ⟨callee, args, argTypes⟩ := c
    simp only [compOp] at hc
    unfold compCall at hc
    split at hc <;> (try (cases hc; done))
    · -- len
      simp only [Option.bind_eq_bind] at hc
      have : ∃ k y, nop = .len k y := by
        split at hc <;> (try (cases hc; done))
        all_goals
          simp only [Option.bind_eq_some_iff, Option.some.injEq] at hc
          obtain ⟨y, _, rfl⟩ := hc
          exact ⟨_, _, rfl⟩
      obtain ⟨k, y, rfl⟩ := this
      exact wp_quiet hs hc0 hσ h
    · -- append
      rename_i s x t tx ha ht
      obtain rfl : args = #[s, x] := Array.toList_inj.1 ha
      obtain rfl : argTypes = #[t, tx] := Array.toList_inj.1 ht
      simp only [Option.bind_eq_bind] at hc
      split at hc
      · rename_i e hu
        simp only [Option.bind_eq_some_iff] at hc
        obtain ⟨i, hi, z, hz, hc⟩ := hc
        split at hc
        · cases hc
        · rename_i hsz
          split at hc
          · rename_i e' htx
            simp only [Option.bind_eq_some_iff, Option.some.injEq] at hc
            obtain ⟨s', hs', x', hx, rfl⟩ := hc
            obtain ⟨V, w', g', v, A', h1, h2, h3, h4, h5⟩ := sound_append (ty := type) hs hu hi hz hsz (str := false) (tx := tx) (by simpa using ⟨_, htx⟩) (hσ _ _ hs') (hσ _ _ hx) h
            refine wp_value (V := V) ?_ h2 h3 h4 h5
            simp [execOp, resolve, invoke, builtin, h1]
          · rename_i htx
            simp only [Option.bind_eq_some_iff, Option.some.injEq] at hc
            obtain ⟨s', hs', x', hx, rfl⟩ := hc
            obtain ⟨V, w', g', v, A', h1, h2, h3, h4, h5⟩ := sound_append (ty := type) hs hu hi hz hsz (str := true) (tx := tx) (by simpa using htx) (hσ _ _ hs') (hσ _ _ hx) h
            refine wp_value (V := V) ?_ h2 h3 h4 h5
            simp [execOp, resolve, invoke, builtin, h1]
          · cases hc
      · cases hc
    · simp only [Option.bind_eq_bind, Option.bind_eq_some_iff, Option.some.injEq] at hc
      obtain ⟨_, _, _, _, rfl⟩ := hc
      exact wp_quiet hs hc0 hσ h
    · simp only [Option.bind_eq_bind, Option.bind_eq_some_iff, Option.some.injEq] at hc
      obtain ⟨_, _, _, _, rfl⟩ := hc
      exact wp_quiet hs hc0 hσ h
    · -- a call
      rename_i x
      simp only [Option.bind_eq_bind, Option.bind_eq_some_iff, Option.some.injEq] at hc
      obtain ⟨y, hy, zs, hzs, rfl⟩ := hc
      simp only [cop] at h
      split at h
      · rename_i f first caps hf
        have hr := hσ _ _ hy
        rw [hf] at hr
        generalize hX : a.eval x = X at hr
        cases hr with
        | func _ _ _ fs cs hfl hcl h1 h2 =>
          have hargs := ops_arr hσ (xs := args) (ys := zs) hzs
          have hall : RelL g (first ++ zs.map σ ++ caps) (fs ++ args.map a.eval ++ cs) := ((RelL.mk' hfl h1).append hargs).append (RelL.mk' hcl h2)
          have hrun : (execOp a.eval { dst := dst, op := .call { callee := .value x, args := args, argTypes := argTypes }, type := type, pos := pos, after := after, guard := guard }).run P w = .ok (.enter f (fs ++ args.map a.eval ++ cs)) w := by
            simp only [execOp, resolve, Sem.run_bind, hX, Deferred.ofValue, Sem.run_pure, Result.andThen_ok, invoke]
            exact callFunc_enters h.1 _ w
          unfold Oper.wp
          rw [hrun]
          simp only [Oper.upon]
          refine (h.2 g w _ hs hall).mono ?_
          rintro e w' ⟨v, V, A', g', rfl, q1, q2, q3, q4⟩
          exact ⟨g', v, V, A', rfl, q1, q2, q3, q4⟩
      · exact h.elim
  | build t parts =>
    have : ∃ z qs, nop = .build z qs := by
      simp only [compOp, Option.bind_eq_bind, Option.bind_eq_some_iff] at hc
      obtain ⟨z, hz, hc⟩ := hc
      split at hc
      · simp only [Option.bind_eq_some_iff, Option.some.injEq] at hc
        obtain ⟨_, _, qs, _, rfl⟩ := hc
        exact ⟨_, _, rfl⟩
      · simp only [Option.bind_eq_some_iff, Option.some.injEq] at hc
        obtain ⟨_, _, qs, _, rfl⟩ := hc
        exact ⟨_, _, rfl⟩
      · cases hc
    obtain ⟨z, qs, rfl⟩ := this
    exact wp_quiet hs hc0 hσ h
  | makeFunc fn first caps =>
    cases fn with
    | func f =>
      simp only [compOp, Option.bind_eq_bind, Option.bind_eq_some_iff, Option.some.injEq] at hc
      obtain ⟨_, _, _, _, rfl⟩ := hc
      exact wp_quiet hs hc0 hσ h
    | _ => simp [compOp] at hc
  | move x | assign x | nilCheck x | unOp _ _ x =>
    simp only [compOp, Option.map_eq_some_iff] at hc
    obtain ⟨_, _, rfl⟩ := hc
    exact wp_quiet hs hc0 hσ h
  | lookup t x k ok =>
    have : ∃ a b c d e, nop = .lookup a b c d e := by
      simp only [compOp, Option.bind_eq_bind] at hc
      split at hc
      · simp only [Option.bind_eq_some_iff] at hc
        obtain ⟨Z, ⟨i, hi, hZ⟩, z, hz, hc⟩ := hc
        split at hc
        · simp only [Option.bind_eq_some_iff, Option.some.injEq] at hc
          obtain ⟨_, _, _, _, rfl⟩ := hc
          exact ⟨_, _, _, _, _, rfl⟩
        · simp only [Option.bind_eq_some_iff, Option.some.injEq] at hc
          obtain ⟨_, _, _, _, rfl⟩ := hc
          exact ⟨_, _, _, _, _, rfl⟩
        · cases hc
      · cases hc
    obtain ⟨a, b, c, d, e, rfl⟩ := this
    exact wp_quiet hs hc0 hσ h
  | fieldAddr s x n =>
    have : ∃ off y, nop = .fieldAddr off y := by
      simp only [compOp, Option.bind_eq_bind] at hc
      split at hc
      · simp only [Option.bind_eq_some_iff] at hc
        obtain ⟨f, hf, i, hi, hc⟩ := hc
        split at hc
        · cases hc
        · simp only [Option.bind_eq_some_iff, Option.some.injEq] at hc
          obtain ⟨y, hy, rfl⟩ := hc
          exact ⟨_, _, rfl⟩
      · cases hc
    obtain ⟨off, y, rfl⟩ := this
    exact wp_quiet hs hc0 hσ h
  | _ =>
    first
      | (simp [compOp] at hc; done)
      | (have hno : ∀ (K : AV → Heap → Prop), cop P σ A K nop = (match qop A σ nop with | some v => K v A | none => False) := by
          intro K
          simp only [compOp, Option.bind_eq_bind] at hc
          (repeat' split at hc)
          all_goals (try (cases hc; done))
          all_goals (simp only [Option.bind_eq_some_iff, Option.some.injEq] at hc)
          all_goals first
            | (obtain ⟨_, _, rfl⟩ := hc; rfl)
            | (obtain ⟨_, _, _, _, rfl⟩ := hc; rfl)
            | (obtain ⟨_, _, _, _, _, _, rfl⟩ := hc; rfl)
            | (obtain ⟨_, _, _, _, _, _, _, _, rfl⟩ := hc; rfl)
            | (obtain ⟨_, _, _, _, _, _, _, _, _, _, rfl⟩ := hc; rfl)
         rw [hno] at h
         exact wp_quiet hs hc0 hσ h)
end Go.NL

set_option linter.unusedVariables false

namespace Go.NL
/-- An instruction: where it stands in its region, where its value goes, the slot that it hangs on, what it does; which values that were read must still be the same behind it (slots, operations, what those hang on). -/
structure NI where
  at_ : Nat
  dst : Option Nat
  guard : Option (Nat × Bool)
  op : NOp
  re : List (Option Nat × Option (Nat × Bool) × NOp)
inductive NC where
  | skip
  | region (is : List NI) (more : List (List NI))
  | seq (a b : NC)
  | cond (c : Opd) (a b : NC)
  | block (id : Nat) (c : NC)
  | loop (c : NC)
  | exit (id : Nat)
  | ret
/-- Does the operation leave memory alone? -/
def NOp.quiet : NOp → Bool
  | .zero _ | .box _ | .buildSlice _ _ _ _ | .store _ _ _ | .mapUpdate _ _ _ _ | .makeMap | .makeSlice _ _ _ _ _ | .append _ _ _ _ _ | .call _ _ => false
  | _ => true
/-- Does it read memory that may change? -/
def NOp.reads : NOp → Bool
  | .load _ _ | .lookup _ _ _ _ _ | .len .map _ | .bytesStr _ => true
  | _ => false
def NOp.opds : NOp → List Opd
  | .move x | .box x | .load _ x | .nilCheck x | .un _ x | .convInt _ x | .convSame x | .bytesStr x | .fieldAddr _ x | .field _ _ x | .makeIface _ x | .extract x _ | .len _ x => [x]
  | .pick c a b => [c, a, b]
  | .zero _ | .makeMap => []
  | .build _ ps | .buildSlice _ _ _ ps => ps.map (·.2.2)
  | .store _ x v => [x, v]
  | .bin _ _ x y | .max x y | .min x y => [x, y]
  | .indexAddr _ _ x i | .indexStr x i | .indexArr _ _ _ x i => [x, i]
  | .slice _ x lo hi mx => x :: (lo.toList ++ hi.toList ++ mx.toList)
  | .lookup _ _ _ x k => [x, k]
  | .mapUpdate _ m k v => [m, k, v]
  | .makeSlice _ _ _ l c => [l, c]
  | .makeFunc _ f c => f ++ c
  | .append _ _ _ s x => [s, x]
  | .call f args => f :: args
def Opd.slots : Opd → List Nat
  | .tmp t => [t]
  | .const _ => []
/-- The slots that an operation looks at, and the one that it hangs on. -/
def slotsOf (P : Program) (ops : Array Oper) (i : Nat) : List Nat :=
  match ops[i]? with
  | none => []
  | some o => (match compOp P o.op with | some nop => nop.opds.flatMap Opd.slots | none => []) ++
    (match o.guard with
     | some (g, _) => ((ops[g]?).bind (·.dst)).toList
     | none => [])
def compGuard (ops : Array Oper) : Option (Nat × Bool) → Option (Option (Nat × Bool))
  | none => some none
  | some (j, want) => ((ops[j]?).bind (·.dst)).map fun d => some (d, want)
def compNI (P : Program) (m : Nat) (ops : Array Oper) (i : Nat) (re : List (Option Nat × Option (Nat × Bool) × NOp)) : Option NI :=
  match ops[i]? with
  | none => none
  | some o =>
    match compOp P o.op, compGuard ops o.guard with
    | some nop, some g => if o.dst.all (· < m) then some ⟨i, o.dst, g, nop, re⟩ else none
    | _, _ => none
/-- The operations of a region that are done in one order: those that write, and those that write a slot which others read ahead of them. -/
def chainOf (P : Program) (ops : Array Oper) (B : Array Nat) (j : Nat) : Bool :=
  match ops[j]? with
  | none => false
  | some o =>
    match compOp P o.op with
    | none => true
    | some nop => !nop.quiet || (List.range ops.size).any fun i => i != j && !(B.getD i 0).testBit j && (match o.dst with | some d => (slotsOf P ops i).contains d | none => false)
/-- All orders of some operations that go with what must stand ahead of what. -/
def linExts (B : Array Nat) : Nat → List Nat → List (List Nat)
  | 0, _ => [[]]
  | n + 1, l => if l.isEmpty then [[]] else (l.filter fun c => l.all fun d => d == c || !(B.getD c 0).testBit d).flatMap fun c => (linExts B n (l.erase c)).map (c :: ·)
def bitsIn (b : Nat) (n : Nat) (l : List Nat) : Bool := (List.range n).all fun j => !b.testBit j || l.contains j
/-- Quiet operations that may be done now, as many as there are. -/
def quietNow (B : Array Nat) (n : Nat) (chain : Nat → Bool) : Nat → List Nat → List Nat
  | 0, done => done
  | k + 1, done => match (List.range n).find? fun i => !done.contains i && !chain i && bitsIn (B.getD i 0) n done with
    | some i => quietNow B n chain k (done ++ [i])
    | none => done
def orderOf (B : Array Nat) (n : Nat) (chain : Nat → Bool) : List Nat → List Nat → List Nat
  | [], done => quietNow B n chain n done
  | c :: cs, done => orderOf B n chain cs (quietNow B n chain n done ++ [c])
/-- What is read again behind a chain's operation c, those in 'pre' having been done. -/
def reOf (P : Program) (ops : Array Oper) (B : Array Nat) (chain : Nat → Bool) (pre : List Nat) (c : Nat) : Option (List (Option Nat × Option (Nat × Bool) × NOp)) :=
  if chain c then
    (pre.filter fun q => !chain q && !(B.getD c 0).testBit q).foldr (fun q acc => do
      let acc ← acc
      let o ← ops[q]?
      let nop ← compOp P o.op
      let g ← compGuard ops o.guard
      if nop.reads then some ((o.dst, g, nop) :: acc) else some acc) (some [])
  else some []
def compSeq (P : Program) (m : Nat) (ops : Array Oper) (B : Array Nat) (chain : Nat → Bool) : List Nat → List Nat → Option (List NI)
  | _, [] => some []
  | pre, i :: rest => do
    let re ← reOf P ops B chain pre i
    let ni ← compNI P m ops i re
    let r ← compSeq P m ops B chain (pre ++ [i]) rest
    some (ni :: r)
/-- Is an order of a region fit to stand for all orders with the same chain? -/
def orderOk (ops : Array Oper) (B : Array Nat) (chain : Nat → Bool) : List Nat → List Nat → Bool
  | pre, [] => (List.range ops.size).all fun i => pre.contains i
  | pre, i :: rest => decide (i < ops.size) && !pre.contains i && bitsIn (B.getD i 0) ops.size pre &&
      (!chain i || rest.all fun q => chain q || (i :: rest).any fun c => chain c && (B.getD q 0).testBit c) && orderOk ops B chain (pre ++ [i]) rest
def dstOf (ops : Array Oper) (i : Nat) : Option Nat := (ops[i]?).bind (·.dst)
/-- What holds of a region, whatever the order. -/
def regionOk (P : Program) (ops : Array Oper) (B : Array Nat) (chain : Nat → Bool) : Bool :=
  (List.range ops.size).all fun i =>
    let es := ((ops[i]?).map (·.after.toList)).getD []
    -- what must stand ahead
    (es.all fun e => !Region.binds .any e || decide (e.on < i)) &&
    ((List.range ops.size).all fun j => !(B.getD i 0).testBit j || es.any fun e => Region.binds .any e && (e.on == j || (B.getD e.on 0).testBit j)) &&
    -- slots
    (match dstOf ops i with
     | some d => chain i || !(slotsOf P ops i).contains d
     | none => true) &&
    (List.range ops.size).all fun j => j == i ||
      (match dstOf ops j with
       | some d => dstOf ops i != some d && (!(slotsOf P ops i).contains d || (B.getD i 0).testBit j || ((B.getD j 0).testBit i && chain j))
       | none => true)
def compRegion (P : Program) (m : Nat) (ops : Array Oper) (draw : Bool) : Option NC :=
  if draw then
    let B := Region.before ops
    let chain := chainOf P ops B
    let cs := (List.range ops.size).filter chain
    let exts := linExts B ops.size cs
    let orders := exts.map fun co => orderOf B ops.size chain co []
    if P.follows .mixedOrders && regionOk P ops B chain && orders.all (orderOk ops B chain []) && (exts.zip orders).all (fun (e, o) => o.filter chain == e) then
      match orders.mapM fun o => compSeq P m ops B chain [] o with
      | some (s :: ss) => some (.region s ss)
      | _ => none
    else none
  else ((List.range ops.size).mapM fun i => compNI P m ops i []).map fun l => .region l []
def compCode (P : Program) (m : Nat) : Code → Option NC
  | .skip | .label _ => some .skip
  | .region _ ops draw => compRegion P m ops draw
  | .seq a b => match compCode P m a, compCode P m b with
    | some a, some b => some (.seq a b)
    | _, _ => none
  | .cond c a b => match compOpd c, compCode P m a, compCode P m b with
    | some c, some a, some b => some (.cond c a b)
    | _, _, _ => none
  | .block id c => (compCode P m c).map (.block id)
  | .loop c => (compCode P m c).map .loop
  | .exit id => some (.exit id)
  | .ret => some .ret
  | _ => none
/-- A function: how many slots, its results (slots, or cells with what type they have), its code. -/
inductive NRes where
  | slot (t : Nat)
  | cell (t : Nat) (agg : Option Nat)
structure NFn where
  nargs : Nat
  slots : Nat
  results : List NRes
  body : NC
def compRes (P : Program) : ResultVar → Option NRes
  | .tmp t => some (.slot t)
  | .cell a t => (aggOf P t).map (.cell a)
def compFn (P : Program) (f : FuncId) : Option NFn :=
  match P.funcs[f]? with
  | none => none
  | some fn => match fn.body with
    | none => none
    | some c => match fn.results.toList.mapM (compRes P), compCode P fn.ntmps c with
      | some rs, some b => if enters P f then some ⟨fn.params.size + fn.nfree, fn.ntmps, rs, b⟩ else none
      | _, _ => none
abbrev Fr := Nat → AV
def Fr.set (f : Fr) (d : Option Nat) (v : AV) : Fr :=
  match d with
  | some d => fun t => if t = d then v else f t
  | none => f
/-- A value that was read is still the same. -/
def reOne (A : Heap) (f : Fr) (d : Option Nat) (op : NOp) : Prop :=
  match d with
  | some d => qop A (evalOpd f) op = some (f d)
  | none => (qop A (evalOpd f) op).isSome = true
/-- Whether what hangs on a value is wanted: a value that was not made wants nothing. -/
def gval (v : AV) (want : Bool) : Option Bool :=
  match v with
  | .bool b => some (decide (b = want))
  | .tuple [] => some false
  | _ => none
def reAll (A : Heap) (f : Fr) : List (Option Nat × Option (Nat × Bool) × NOp) → Prop
  | [] => True
  | (d, g, op) :: r => (match g with
      | some (s, want) => (match gval (f s) want with | some true => reOne A f d op | some false => True | none => False)
      | none => reOne A f d op) ∧ reAll A f r
/-- What hangs on a slot. -/
def guarded (f : Fr) (g : Option (Nat × Bool)) (yes no : Prop) : Prop :=
  match g with
  | none => yes
  | some (s, want) => match gval (f s) want with
    | some true => yes
    | some false => no
    | none => False
def nrun (P : Program) (Q : Fr → Heap → Prop) : List NI → Fr → Heap → Prop
  | [], f, A => Q f A
  | i :: is, f, A => guarded f i.guard
      (cop P (evalOpd f) A (fun v A' => reAll A' (f.set i.dst v) i.re ∧ nrun P Q is (f.set i.dst v) A') i.op)
      (reAll A (f.set i.dst .undef) i.re ∧ nrun P Q is (f.set i.dst .undef) A)
inductive Ex where
  | normal
  | exit (id : Nat)
  | ret
abbrev Post := Ex → Fr → Heap → Prop
def thenP (K : Fr → Heap → Prop) (Q : Post) : Post
  | .normal, f, A => K f A
  | e, f, A => Q e f A
def blockP (id : Nat) (Q : Post) : Post
  | .exit id', f, A => if id' = id then Q .normal f A else Q (.exit id') f A
  | e, f, A => Q e f A
def nloop (body : Post → Fr → Heap → Prop) (Q : Post) : Nat → Fr → Heap → Prop
  | 0, _, _ => False
  | n + 1, f, A => body (thenP (nloop body Q n) Q) f A
def nwp (P : Program) : NC → Post → Fr → Heap → Prop
  | .skip, Q, f, A => Q .normal f A
  | .region is more, Q, f, A => nrun P (Q .normal) is f A ∧ ∀ x ∈ more, nrun P (Q .normal) x f A
  | .seq a b, Q, f, A => nwp P a (thenP (nwp P b Q) Q) f A
  | .cond c a b, Q, f, A => match evalOpd f c with
    | .bool true => nwp P a Q f A
    | .bool false => nwp P b Q f A
    | _ => False
  | .block id c, Q, f, A => nwp P c (blockP id Q) f A
  | .loop c, Q, f, A => ∃ n, nloop (nwp P c) Q n f A
  | .exit id, Q, f, A => Q (.exit id) f A
  | .ret, Q, f, A => Q .ret f A
end Go.NL

set_option linter.unusedVariables false

namespace Go.NL
/-- A frame stands as f says. -/
structure RelF (g : G) (m : Nat) (f : Fr) (a : Act) : Prop where
  size : a.tmps.size = m
  defers : a.defers = []
  rel : ∀ t, Rel g (f t) (a.tmps.getD t undef)
theorem RelF.ext {g g' : G} {w w' : World} {m : Nat} {f : Fr} {a : Act} (h : RelF g m f a) (e : Ext g w g' w') : RelF g' m f a := ⟨h.size, h.defers, fun t => (h.rel t).of_ext e⟩
theorem RelF.ops {g : G} {m : Nat} {f : Fr} {a : Act} (h : RelF g m f a) : Ops g (evalOpd f) a.eval := by
  intro x y hx
  cases x with
  | tmp t =>
    simp only [compOpd, Option.some.injEq] at hx
    subst hx
    exact h.rel t
  | const v =>
    simp only [compOpd, Option.map_eq_some_iff] at hx
    obtain ⟨c, hc, rfl⟩ := hx
    exact constAV_rel hc
  | func f =>
    simp only [compOpd, Option.some.injEq] at hx
    subst hx
    exact .func _ [] [] #[] #[] rfl rfl (fun i h => by simp at h) (fun i h => by simp at h)
  | global g => simp [compOpd] at hx
theorem RelF.put {g : G} {m : Nat} {f : Fr} {a : Act} (h : RelF g m f a) {d : Option Nat} (hd : d.all (· < m) = true) {v : AV} {V : Value} (hv : Rel g v V) : RelF g m (f.set d v) (a.put d V) := by
  cases d with
  | none => exact h
  | some d =>
    simp only [Option.all_some, decide_eq_true_eq] at hd
    refine ⟨by simp [Act.put, h.size], h.defers, fun t => ?_⟩
    have hsz := h.size
    by_cases ht : t = d
    · subst ht
      have : (a.put (some t) V).tmps.getD t undef = V := by simp [Act.put, hsz, hd]
      rw [this]
      simpa [Fr.set] using hv
    · have : (a.put (some d) V).tmps.getD t undef = a.tmps.getD t undef := by
        simp only [Act.put, Array.getD_eq_getD_getElem?]
        rw [Array.getElem?_setIfInBounds_ne (Ne.symm ht)]
      rw [this]
      simpa [Fr.set, ht] using h.rel t
theorem RelF.guard {g : G} {m : Nat} {f : Fr} {a : Act} (h : RelF g m f a) {ops : Array Oper} {j d : Nat} (hj : ((ops[j]?).bind (·.dst)) = some d) {b : Bool} (hb : f d = .bool b) : yielded ops a.tmps j = some b := by
  have h1 := h.rel d
  rw [hb] at h1
  have h2 := rel_bool h1
  unfold yielded
  rw [hj]
  have h3 : a.tmps[d]? = some (.bool b) := by
    rw [Array.getD_eq_getD_getElem?] at h2
    cases hq : a.tmps[d]? with
    | none => rw [hq] at h2; simp [undef] at h2
    | some v => rw [hq] at h2; simp at h2; rw [h2]
  simp [h3]
theorem gval_true {v : AV} {w : Bool} (h : gval v w = some true) : v = .bool w := by
  unfold gval at h
  split at h
  · simp only [Option.some.injEq, decide_eq_true_eq] at h; rw [h]
  · cases h
  · cases h
theorem gval_false {v : AV} {w : Bool} (h : gval v w = some false) : (∃ b, v = .bool b ∧ b ≠ w) ∨ v = .tuple [] := by
  unfold gval at h
  split at h
  · simp only [Option.some.injEq, decide_eq_false_iff_not] at h; exact .inl ⟨_, rfl, h⟩
  · exact .inr rfl
  · cases h
theorem RelF.unguard {g : G} {m : Nat} {f : Fr} {a : Act} (h : RelF g m f a) {ops : Array Oper} {j d : Nat} (hj : ((ops[j]?).bind (·.dst)) = some d) (hb : f d = .tuple []) : yielded ops a.tmps j = none := by
  have h1 := h.rel d
  rw [hb] at h1
  obtain ⟨vs, h2, _⟩ := rel_tuple h1
  unfold yielded
  rw [hj]
  rw [Array.getD_eq_getD_getElem?] at h2
  cases hq : a.tmps[d]? with
  | none => simp [hq]
  | some v =>
    rw [hq] at h2
    simp only [Option.getD_some] at h2
    subst h2
    simp [hq]
theorem compNI_spec {P : Program} {m : Nat} {ops : Array Oper} {i : Nat} {re : List (Option Nat × Option (Nat × Bool) × NOp)} {ni : NI} (h : compNI P m ops i re = some ni) :
    ∃ o, ops[i]? = some o ∧ ni.at_ = i ∧ ni.dst = o.dst ∧ compOp P o.op = some ni.op ∧ compGuard ops o.guard = some ni.guard ∧ o.dst.all (· < m) = true ∧ ni.re = re := by
  unfold compNI at h
  split at h
  · cases h
  · rename_i o ho
    split at h
    · rename_i nop g hn hg
      split at h
      · rename_i hd
        cases h
        exact ⟨o, ho, rfl, rfl, hn, hg, hd, rfl⟩
      · cases h
    · cases h
/-- One operation of a region is done. -/
theorem step_sound {P : Program} {g : G} {A : Heap} {w : World} {m : Nat} {f : Fr} {a : Act} (hs : Sim g A w) (hf : RelF g m f a) {ops : Array Oper} {i : Nat} {o : Oper} (ho : ops[i]? = some o) {nop : NOp} {gd : Option (Nat × Bool)} (hn : compOp P o.op = some nop)
    (hg : compGuard ops o.guard = some gd) (hd : o.dst.all (· < m) = true) {Q : Exit → Act → World → Prop} {K : Fr → Heap → Prop}
    (h : guarded f gd (cop P (evalOpd f) A (fun v A' => K (f.set o.dst v) A') nop) (K (f.set o.dst .undef) A)) :
    wpOp P ops Q i (fun a' w' => ∃ g' f' A', Sim g' A' w' ∧ RelF g' m f' a' ∧ Ext g w g' w' ∧ K f' A') a w := by
  have done : ∀ (hc : cop P (evalOpd f) A (fun v A' => K (f.set o.dst v) A') nop), o.wp P a w (fun a' w' => ∃ g' f' A', Sim g' A' w' ∧ RelF g' m f' a' ∧ Ext g w g' w' ∧ K f' A') Q := by
    intro hc
    refine Oper.wp_mono ?_ (cop_sound hs hn hf.ops hc)
    rintro a' w' ⟨g', v, V, A', rfl, h1, h2, h3, h4⟩
    exact ⟨g', _, A', h2, (hf.ext h3).put hd h1, h3, h4⟩
  have skip : ∀ (hc : K (f.set o.dst .undef) A), ∃ g' f' A', Sim g' A' w ∧ RelF g' m f' (a.put o.dst undef) ∧ Ext g w g' w ∧ K f' A' := fun hc =>
    ⟨g, _, A, hs, hf.put hd rel_undef, .refl hs, hc⟩
  unfold wpOp
  rw [ho]
  cases hgd : o.guard with
  | none =>
    rw [hgd] at hg
    simp only [compGuard, Option.some.injEq] at hg
    subst hg
    simp only [guarded] at h
    simp only [Region.wanted, hgd, if_true]
    exact .inl (done h)
  | some jw =>
    obtain ⟨j, want⟩ := jw
    rw [hgd] at hg
    simp only [compGuard, Option.map_eq_some_iff] at hg
    obtain ⟨d, hj, rfl⟩ := hg
    simp only [guarded] at h
    split at h
    · rename_i hb
      have hy := hf.guard (ops := ops) hj (gval_true hb)
      simp only [Region.wanted, hgd, hy, BEq.rfl, if_true]
      exact .inl (done h)
    · rename_i hb
      rcases gval_false hb with ⟨b, hb, hbw⟩ | hb
      · have hy := hf.guard (ops := ops) hj hb
        simp only [Region.wanted, hgd, hy]
        rw [if_neg (by simpa using hbw)]
        exact skip h
      · have hy := hf.unguard (ops := ops) hj hb
        simp only [Region.wanted, hgd, hy]
        rw [if_neg (by simp)]
        exact skip h
    · exact h.elim
theorem nrun_sound {P : Program} {m : Nat} {ops : Array Oper} {Q : Exit → Act → World → Prop} {K : Fr → Heap → Prop} : ∀ (is : List NI) (l : List Nat) (hl : List.mapM (fun i => compNI P m ops i []) l = some is)
    {g : G} {A : Heap} {w : World} {f : Fr} {a : Act} (hs : Sim g A w) (hf : RelF g m f a) (h : nrun P K is f A) (hQ : ∀ g' A' w' f' a', Sim g' A' w' → RelF g' m f' a' → Ext g w g' w' → K f' A' → Q .normal a' w'), wpOps P ops Q l a w
  | is, [], hl, g, A, w, f, a, hs, hf, h, hQ => by
    simp at hl
    subst hl
    exact hQ g A w f a hs hf (.refl hs) h
  | is, i :: l, hl, g, A, w, f, a, hs, hf, h, hQ => by
    simp only [List.mapM_cons, Option.bind_eq_bind, Option.bind_eq_some_iff, Option.pure_def, Option.some.injEq] at hl
    obtain ⟨ni, hni, is', his, rfl⟩ := hl
    obtain ⟨o, ho, h1, h2, h3, h4, h5, h6⟩ := compNI_spec hni
    rw [wpOps_cons]
    have hh := h
    simp only [nrun] at hh
    rw [h2] at hh
    refine wpOp_mono ?_ (step_sound (K := fun f' A' => reAll A' f' ni.re ∧ nrun P K is' f' A') (Q := Q) hs hf ho h3 h4 h5 hh)
    rintro a' w' ⟨g', f', A', q1, q2, q3, q4⟩
    exact nrun_sound is' l his q1 q2 q4.2 (fun g'' A'' w'' f'' a'' r1 r2 r3 r4 => hQ g'' A'' w'' f'' a'' r1 r2 (q3.trans r3) r4)
/-- What stands behind code, in the world. -/
def CPost (g : G) (w : World) (m : Nat) (Q : Post) : Exit → Act → World → Prop
  | .normal, a, w' => ∃ g' f A, Sim g' A w' ∧ RelF g' m f a ∧ Ext g w g' w' ∧ Q .normal f A
  | .exit id, a, w' => ∃ g' f A, Sim g' A w' ∧ RelF g' m f a ∧ Ext g w g' w' ∧ Q (.exit id) f A
  | .ret, a, w' => ∃ g' f A, Sim g' A w' ∧ RelF g' m f a ∧ Ext g w g' w' ∧ Q .ret f A
  | _, _, _ => False
theorem CPost.ext {g g' : G} {w w' : World} {m : Nat} {Q : Post} (e : Ext g w g' w') : ∀ x a v, CPost g' w' m Q x a v → CPost g w m Q x a v := by
  intro x a v h
  cases x <;> simp only [CPost] at h ⊢ <;> (try exact h)
  all_goals
    obtain ⟨g2, f, A, h1, h2, h3, h4⟩ := h
    exact ⟨g2, f, A, h1, h2, e.trans h3, h4⟩
end Go.NL

set_option linter.unusedVariables false

namespace Go.NL
theorem opt_map_congr {σ σ' : Opd → AV} {x : Option Opd} (h : ∀ y ∈ x.toList, σ y = σ' y) : x.map σ = x.map σ' := by
  cases x with
  | none => rfl
  | some x => simp [h x (by simp)]
theorem parts_congr {σ σ' : Opd → AV} {ps : List (Nat × Nat × Opd)} (h : ∀ y ∈ ps.map (·.2.2), σ y = σ' y) : (ps.map fun (o, n, x) => (o, n, σ x)) = ps.map fun (o, n, x) => (o, n, σ' x) := by
  apply List.map_congr_left
  rintro ⟨o, n, x⟩ hx
  have : x ∈ ps.map (·.2.2) := List.mem_map.2 ⟨_, hx, rfl⟩
  simp [h x this]
theorem qop_congr {A : Heap} {σ σ' : Opd → AV} {op : NOp} (h : ∀ x ∈ op.opds, σ x = σ' x) : qop A σ op = qop A σ' op := by
  cases op with
  | build z ps => simp only [qop, parts_congr (σ := σ) (σ' := σ') h]
  | slice e x lo hi mx =>
    simp only [NOp.opds, List.mem_cons, List.mem_append] at h
    have h1 : lo.map σ = lo.map σ' := opt_map_congr fun y hy => h y (.inr (.inl (.inl hy)))
    have h2 : hi.map σ = hi.map σ' := opt_map_congr fun y hy => h y (.inr (.inl (.inr hy)))
    have h3 : mx.map σ = mx.map σ' := opt_map_congr fun y hy => h y (.inr (.inr hy))
    simp only [qop, h1, h2, h3, h x (.inl rfl)]
  | makeFunc f first caps =>
    simp only [NOp.opds, List.mem_append] at h
    have h1 : first.map σ = first.map σ' := List.map_congr_left fun y hy => h y (.inl hy)
    have h2 : caps.map σ = caps.map σ' := List.map_congr_left fun y hy => h y (.inr hy)
    simp only [qop, h1, h2]
  | _ =>
    simp only [NOp.opds, List.mem_cons, List.not_mem_nil, or_false, forall_eq_or_imp, forall_eq] at h
    simp_all [qop]
theorem cop_congr {P : Program} {A : Heap} {σ σ' : Opd → AV} {K : AV → Heap → Prop} {op : NOp} (h : ∀ x ∈ op.opds, σ x = σ' x) (hc : cop P σ A K op) : cop P σ' A K op := by
  have hq := qop_congr (A := A) h
  cases op with
  | buildSlice e l z ps =>
    simp only [cop] at hc ⊢
    rw [parts_congr (σ := σ) (σ' := σ') h] at hc
    exact hc
  | call f args =>
    simp only [NOp.opds, List.mem_cons] at h
    have h1 : args.map σ = args.map σ' := List.map_congr_left fun y hy => h y (.inr hy)
    simp only [cop] at hc ⊢
    rw [h f (.inl rfl), h1] at hc
    exact hc
  | zero z => exact hc
  | makeMap => exact hc
  | box x => simp only [NOp.opds, List.mem_singleton, forall_eq] at h; simp only [cop] at hc ⊢; rw [h] at hc; exact hc
  | store n x v => simp only [NOp.opds, List.mem_cons, List.not_mem_nil, or_false, forall_eq_or_imp, forall_eq] at h; simp only [cop] at hc ⊢; rw [h.1, h.2] at hc; exact hc
  | mapUpdate s m k v => simp only [NOp.opds, List.mem_cons, List.not_mem_nil, or_false, forall_eq_or_imp, forall_eq] at h; simp only [cop] at hc ⊢; rw [h.1, h.2.1, h.2.2] at hc; exact hc
  | makeSlice e b z l c => simp only [NOp.opds, List.mem_cons, List.not_mem_nil, or_false, forall_eq_or_imp, forall_eq] at h; simp only [cop] at hc ⊢; rw [h.1, h.2] at hc; exact hc
  | append st e b s x => simp only [NOp.opds, List.mem_cons, List.not_mem_nil, or_false, forall_eq_or_imp, forall_eq] at h; simp only [cop] at hc ⊢; rw [h.1, h.2] at hc; exact hc
  | _ => simp only [cop] at hc ⊢; rw [← hq]; exact hc
theorem evalOpd_congr {f f' : Fr} {op : NOp} (h : ∀ s ∈ op.opds.flatMap Opd.slots, f s = f' s) : ∀ x ∈ op.opds, evalOpd f x = evalOpd f' x := by
  intro x hx
  cases x with
  | tmp t => exact h t (List.mem_flatMap.2 ⟨_, hx, by simp [Opd.slots]⟩)
  | const v => rfl
theorem qop_noreads {A A' : Heap} {σ : Opd → AV} {op : NOp} (h : op.reads = false) : qop A σ op = qop A' σ op := by
  cases op with
  | load a x => simp [NOp.reads] at h
  | bytesStr x => simp [NOp.reads] at h
  | lookup _ _ _ _ _ => simp [NOp.reads] at h
  | len k x =>
    cases k with
    | map => simp [NOp.reads] at h
    | str => simp only [qop]; cases σ x <;> rfl
    | slice => simp only [qop]; cases σ x <;> rfl
  | _ => rfl
theorem cop_quiet {P : Program} {A : Heap} {σ : Opd → AV} {op : NOp} (h : op.quiet = true) (K : AV → Heap → Prop) : cop P σ A K op = (match qop A σ op with | some v => K v A | none => False) := by
  cases op <;> first | rfl | (simp [NOp.quiet] at h)
theorem appendN_mono {A : Heap} {K K' : AV → Heap → Prop} (hk : ∀ v A', K v A' → K' v A') {str : Bool} {esz bytes : Nat} {s x : AV} (h : appendN A K str esz bytes s x) : appendN A K' str esz bytes s x := by
  unfold appendN at h ⊢
  split at h
  · exact h
  · split at h
    · split at h
      · rename_i hn; simp only [hn, if_true]; exact hk _ _ h
      · rename_i hn; simp only [hn, if_false]; exact ⟨h.1, fun b hb => hk _ _ (h.2 b hb)⟩
    · refine ⟨h.1, h.2.1, ?_⟩
      have h := h.2.2
      split at h
      · rename_i hn; rw [if_pos hn]; exact hk _ _ h
      · rename_i hn; rw [if_neg hn]; exact ⟨h.1, fun b hb => hk _ _ (h.2 b hb)⟩
    · refine ⟨h.1, ?_⟩
      have h := h.2
      split at h
      · refine ⟨h.1, ?_⟩
        have h := h.2
        split at h
        · rename_i hn; rw [if_pos hn]; exact hk _ _ h
        · rename_i hn
          rw [if_neg hn]
          split at h
          · rename_i hc; rw [if_pos hc]; exact hk _ _ h
          · rename_i hc
            rw [if_neg hc]
            refine ⟨h.1, ?_⟩
            have h := h.2
            split at h
            · exact ⟨h.1, fun b hb => hk _ _ (h.2 b hb)⟩
            · exact fun b hb => hk _ _ (h b hb)
      · exact h
    · exact h
theorem cop_mono {P : Program} {A : Heap} {σ : Opd → AV} {K K' : AV → Heap → Prop} (hk : ∀ v A', K v A' → K' v A') {op : NOp} (h : cop P σ A K op) : cop P σ A K' op := by
  cases op with
  | zero z => exact fun b hb => hk _ _ (h b hb)
  | box x => exact ⟨h.1, fun b hb => hk _ _ (h.2 b hb)⟩
  | buildSlice e l z ps =>
    simp only [cop] at h ⊢
    split at h
    · exact fun b hb => hk _ _ (h b hb)
    · exact h
  | store n x v =>
    simp only [cop] at h ⊢
    refine ⟨h.1, h.2.1, ?_⟩
    have h := h.2.2
    split at h
    · split at h
      · exact ⟨h.1, hk _ _ h.2⟩
      · exact h
    · exact h
  | mapUpdate s m k v =>
    simp only [cop] at h ⊢
    refine ⟨h.1, ?_⟩
    have h := h.2
    unfold mapUpd at h ⊢
    split at h
    · split at h
      · split at h
        · exact hk _ _ h
        · exact hk _ _ h
        · exact h
      · exact h
    · exact h
  | makeMap => exact fun b hb => hk _ _ (h b hb)
  | makeSlice e b z l c =>
    simp only [cop] at h ⊢
    split at h
    · exact ⟨h.1, h.2.1, h.2.2.1, h.2.2.2.1, fun b hb => hk _ _ (h.2.2.2.2 b hb)⟩
    · exact h
  | append st e b s x => exact appendN_mono hk h
  | call f args =>
    simp only [cop] at h ⊢
    split at h
    · exact h.mono hk
    · exact h
  | _ =>
    simp only [cop] at h ⊢
    split at h
    · exact hk _ _ h
    · exact h
/-- An order of what is left, behind what was done, that goes with what must stand ahead. -/
def Lin (ops : Array Oper) : List Nat → List Nat → Prop
  | done, [] => ∀ i, i < ops.size → i ∈ done
  | done, i :: l => i < ops.size ∧ i ∉ done ∧ (∀ o, ops[i]? = some o → ∀ e ∈ o.after.toList, Region.binds .any e = true → e.on ∈ done) ∧ Lin ops (done ++ [i]) l
theorem filter_shrinks {l : List Nat} {p q : Nat → Bool} (h : ∀ x, q x = true → p x = true) {i : Nat} (hi : i ∈ l) (h1 : p i = true) (h2 : q i = false) : (l.filter q).length < (l.filter p).length := by
  induction l with
  | nil => cases hi
  | cons x l ih =>
    have hle : ∀ l : List Nat, (l.filter q).length ≤ (l.filter p).length := by
      intro l
      induction l with
      | nil => simp
      | cons y l ih =>
        simp only [List.filter_cons]
        by_cases hq : q y = true
        · rw [if_pos hq, if_pos (h y hq)]; simpa using ih
        · rw [if_neg hq]
          split
          · simp; omega
          · exact ih
    simp only [List.filter_cons]
    rcases List.mem_cons.1 hi with rfl | hi
    · rw [if_neg (by simp [h2]), if_pos h1]
      have := hle l
      simp
      omega
    · have := ih hi
      by_cases hq : q x = true
      · rw [if_pos hq, if_pos (h x hq)]; simpa using this
      · rw [if_neg hq]
        split
        · simp; omega
        · exact this
theorem lin_go {ops : Array Oper} (hlt : ∀ i o, ops[i]? = some o → ∀ e ∈ o.after.toList, Region.binds .any e = true → e.on < i) :
    ∀ (fuel t : Nat) (listed : Array Bool) (done : List Nat), (∀ j, listed.getD j true = false ↔ j < ops.size ∧ j ∉ done) → listed.size = ops.size → ((List.range ops.size).filter fun j => !done.contains j).length ≤ fuel →
      Lin ops done (Region.linearise.go .any ops fuel t listed []) := by
  intro fuel
  induction fuel with
  | zero =>
    intro t listed done hl hsz hf
    simp only [Region.linearise.go, List.reverse_nil, Lin]
    intro i hi
    have h0 : ((List.range ops.size).filter fun j => !done.contains j) = [] := List.eq_nil_of_length_eq_zero (by omega)
    have := List.filter_eq_nil_iff.1 h0 i (List.mem_range.2 hi)
    simpa using this
  | succ fuel ih =>
    intro t listed done hl hsz hf
    simp only [Region.linearise.go]
    change Lin ops done (match (Region.ready .any ops listed)[t % (Region.ready .any ops listed).length]? with
      | some i => Region.linearise.go .any ops fuel (t / (Region.ready .any ops listed).length) (listed.setIfInBounds i true) [i]
      | none => [].reverse)
    have hmem : ∀ i, i ∈ Region.ready .any ops listed ↔ i < ops.size ∧ i ∉ done ∧ ∀ o, ops[i]? = some o → ∀ e ∈ o.after.toList, Region.binds .any e = true → e.on ∈ done ∨ ops.size ≤ e.on := by
      intro i
      unfold Region.ready
      rw [List.mem_filter, List.mem_range]
      constructor
      · rintro ⟨h1, h2⟩
        simp only [Bool.and_eq_true, Bool.not_eq_true'] at h2
        refine ⟨h1, ((hl i).1 h2.1).2, fun o ho e he hb => ?_⟩
        rw [ho] at h2
        simp only [Option.map_some, Option.getD_some, Array.all_eq_true', Bool.or_eq_true, Bool.not_eq_true'] at h2
        have := h2.2 e (by simpa using he)
        rcases this with h | h
        · rw [hb] at h; cases h
        · by_cases hd : e.on ∈ done
          · exact .inl hd
          · refine .inr ?_
            rcases Nat.lt_or_ge e.on ops.size with h3 | h3
            · have : listed.getD e.on true = false := (hl e.on).2 ⟨h3, hd⟩
              rw [Array.getD_eq_getD_getElem?] at this h
              rw [Array.getElem?_eq_getElem (by omega)] at this h
              simp at this h
              rw [this] at h
              cases h
            · exact h3
      · rintro ⟨h1, h2, h3⟩
        refine ⟨h1, ?_⟩
        simp only [Bool.and_eq_true, Bool.not_eq_true']
        refine ⟨(hl i).2 ⟨h1, h2⟩, ?_⟩
        rw [Array.getElem?_eq_getElem h1]
        simp only [Option.map_some, Option.getD_some, Array.all_eq_true', Bool.or_eq_true, Bool.not_eq_true']
        intro e he
        by_cases hb : Region.binds .any e = true
        · right
          have hlt' := hlt i _ (Array.getElem?_eq_getElem h1) e (by simpa using he) hb
          rcases h3 _ (Array.getElem?_eq_getElem h1) e (by simpa using he) hb with h | h
          · have hnot : ¬ (listed.getD e.on true = false) := fun hh => ((hl e.on).1 hh).2 h
            rw [Array.getD_eq_getD_getElem?, Array.getElem?_eq_getElem (by omega)] at hnot ⊢
            simpa using hnot
          · omega
        · left; simpa using hb
    cases hi : (Region.ready .any ops listed)[t % (Region.ready .any ops listed).length]? with
    | none =>
      have hnil : Region.ready .any ops listed = [] := by
        cases hr : Region.ready .any ops listed with
        | nil => rfl
        | cons x xs =>
          rw [hr] at hi
          have hlt : t % (x :: xs).length < (x :: xs).length := Nat.mod_lt _ (by simp)
          simp at hi
          simp at hlt
          omega
      simp only [List.reverse_nil, Lin]
      -- the least one that is left would be ready
      intro i
      induction i using Nat.strongRecOn with
      | _ i ihi =>
        intro hi'
        refine Classical.byContradiction fun hnd => ?_
        have : i ∈ Region.ready .any ops listed := (hmem i).2 ⟨hi', hnd, fun o ho e he hb => .inl (ihi e.on (hlt i o ho e he hb) (by have := hlt i o ho e he hb; omega))⟩
        rw [hnil] at this
        cases this
    | some i =>
      have him := (hmem i).1 (List.mem_of_getElem? hi)
      simp only
      rw [linearise_go_acc, List.reverse_singleton, List.singleton_append]
      refine ⟨him.1, him.2.1, fun o ho e he hb => ?_, ?_⟩
      · have := hlt i o ho e he hb
        rcases him.2.2 o ho e he hb with h | h
        · exact h
        · omega
      · refine ih _ _ _ (fun j => ?_) (by simp [hsz]) ?_
        · by_cases hj : j = i
          · subst hj
            simp [Array.getD_eq_getD_getElem?, hsz, him.1]
          · have : (listed.setIfInBounds i true).getD j true = listed.getD j true := by
              simp only [Array.getD_eq_getD_getElem?]
              rw [Array.getElem?_setIfInBounds_ne (Ne.symm hj)]
            rw [this, hl j]
            simp [hj]
        · have := filter_shrinks (l := List.range ops.size) (p := fun j => !done.contains j) (q := fun j => !(done ++ [i]).contains j) (fun x hx => by
            simp at hx ⊢
            exact hx.1) (List.mem_range.2 him.1) (by simpa using him.2.1) (by simp)
          omega
theorem lin_all {ops : Array Oper} (hlt : ∀ i o, ops[i]? = some o → ∀ e ∈ o.after.toList, Region.binds .any e = true → e.on < i) (t : Nat) : Lin ops [] (Region.linearise .any ops t) := by
  unfold Region.linearise
  refine lin_go hlt _ _ _ _ (fun j => ?_) (by simp) (Nat.le_trans (List.length_filter_le _ _) (by simp))
  simp [Array.getD_eq_getD_getElem?, Array.getElem?_replicate]
  by_cases hj : j < ops.size <;> simp [hj]
end Go.NL

set_option linter.unusedVariables false

namespace Go.NL
/-- What 'regionOk' says, piece by piece. -/
structure RegOk (P : Program) (ops : Array Oper) (B : Array Nat) (chain : Nat → Bool) : Prop where
  lt : ∀ i o, ops[i]? = some o → ∀ e ∈ o.after.toList, Region.binds .any e = true → e.on < i
  mask : ∀ i j, i < ops.size → j < ops.size → (B.getD i 0).testBit j = true → ∃ o e, ops[i]? = some o ∧ e ∈ o.after.toList ∧ Region.binds .any e = true ∧ (e.on = j ∨ (B.getD e.on 0).testBit j = true)
  own : ∀ i d, i < ops.size → dstOf ops i = some d → chain i = false → d ∉ slotsOf P ops i
  dst : ∀ i j d, i < ops.size → j < ops.size → j ≠ i → dstOf ops j = some d → dstOf ops i ≠ some d ∧ (d ∈ slotsOf P ops i → (B.getD i 0).testBit j = true ∨ ((B.getD j 0).testBit i = true ∧ chain j = true))
theorem regOk {P : Program} {ops : Array Oper} {B : Array Nat} {chain : Nat → Bool} (h : regionOk P ops B chain = true) : RegOk P ops B chain := by
  unfold regionOk at h
  rw [List.all_eq_true] at h
  have hh : ∀ i, i < ops.size → _ := fun i hi => h i (List.mem_range.2 hi)
  simp only [Bool.and_eq_true, List.all_eq_true] at hh
  refine ⟨?_, ?_, ?_, ?_⟩
  · intro i o ho e he hb
    have hi := (Array.getElem?_eq_some_iff.1 ho).1
    have h1 := (hh i hi).1.1.1 e (by rw [ho]; simpa using he)
    simp only [Bool.or_eq_true, Bool.not_eq_true', decide_eq_true_eq] at h1
    rcases h1 with h1 | h1
    · rw [hb] at h1; cases h1
    · exact h1
  · intro i j hi hj hbit
    have h1 := (hh i hi).1.1.2 j (List.mem_range.2 hj)
    rw [hbit] at h1
    simp only [Bool.not_true, Bool.false_or, List.any_eq_true, Bool.and_eq_true, Bool.or_eq_true, beq_iff_eq] at h1
    obtain ⟨e, he, hb, h2⟩ := h1
    refine ⟨ops[i], e, Array.getElem?_eq_getElem hi, ?_, hb, h2⟩
    rw [Array.getElem?_eq_getElem hi] at he
    simpa using he
  · intro i d hi hd hc
    have h1 := (hh i hi).1.2
    rw [hd] at h1
    simp only [hc, Bool.false_or, Bool.not_eq_true', List.contains_eq_mem, decide_eq_false_iff_not] at h1
    exact h1
  · intro i j d hi hj hne hd
    have h1 := (hh i hi).2 j (List.mem_range.2 hj)
    rw [hd] at h1
    simp only [Bool.or_eq_true, beq_iff_eq, Bool.and_eq_true, bne_iff_ne, ne_eq, Bool.not_eq_true', List.contains_eq_mem, decide_eq_false_iff_not] at h1
    rcases h1 with h1 | ⟨h1, h2⟩
    · exact absurd h1 hne
    · refine ⟨h1, fun hm => ?_⟩
      rcases h2 with (h2 | h2) | h2
      · exact absurd hm h2
      · exact .inl h2
      · exact .inr h2
/-- What was done is closed: with each operation all that must stand ahead of it. -/
def Closed (ops : Array Oper) (B : Array Nat) (done : List Nat) : Prop := ∀ i ∈ done, i < ops.size ∧ ∀ j, j < ops.size → (B.getD i 0).testBit j = true → j ∈ done
theorem closed_ready {P : Program} {ops : Array Oper} {B : Array Nat} {chain : Nat → Bool} (R : RegOk P ops B chain) {done : List Nat} (hc : Closed ops B done) {i : Nat} (hi : i < ops.size)
    (hr : ∀ o, ops[i]? = some o → ∀ e ∈ o.after.toList, Region.binds .any e = true → e.on ∈ done) : ∀ j, j < ops.size → (B.getD i 0).testBit j = true → j ∈ done := by
  intro j hj hb
  obtain ⟨o, e, ho, he, hbi, h⟩ := R.mask i j hi hj hb
  have hon := hr o ho e he hbi
  rcases h with rfl | h
  · exact hon
  · exact (hc _ hon).2 j hj h
theorem closed_snoc {P : Program} {ops : Array Oper} {B : Array Nat} {chain : Nat → Bool} (R : RegOk P ops B chain) {done : List Nat} (hc : Closed ops B done) {i : Nat} (hi : i < ops.size)
    (hr : ∀ o, ops[i]? = some o → ∀ e ∈ o.after.toList, Region.binds .any e = true → e.on ∈ done) : Closed ops B (done ++ [i]) := by
  intro k hk
  rcases List.mem_append.1 hk with hk | hk
  · exact ⟨(hc k hk).1, fun j hj hb => List.mem_append.2 (.inl ((hc k hk).2 j hj hb))⟩
  · simp only [List.mem_singleton] at hk
    subst hk
    exact ⟨hi, fun j hj hb => List.mem_append.2 (.inl (closed_ready R hc hi hr j hj hb))⟩
/-- The chain's order in any order is one of those that were counted. -/
theorem lin_ext {P : Program} {ops : Array Oper} {B : Array Nat} {chain : Nat → Bool} (R : RegOk P ops B chain) : ∀ (l done Rl : List Nat) (k : Nat), Lin ops done l → Closed ops B done → Rl.Nodup → (∀ c, c ∈ Rl ↔ chain c = true ∧ c < ops.size ∧ c ∉ done) → Rl.length ≤ k →
    l.filter chain ∈ linExts B k Rl
  | [], done, Rl, k, hl, hc, hn, hm, hk => by
    have h0 : Rl = [] := by
      cases Rl with
      | nil => rfl
      | cons c r =>
        have := (hm c).1 (by simp)
        exact absurd (hl c this.2.1) this.2.2
    subst h0
    cases k <;> simp [linExts]
  | i :: l, done, Rl, k, hl, hc, hn, hm, hk => by
    obtain ⟨h1, h2, h3, h4⟩ := hl
    have hc' := closed_snoc R hc h1 h3
    by_cases hci : chain i = true
    · rw [List.filter_cons, if_pos hci]
      have hmem : i ∈ Rl := (hm i).2 ⟨hci, h1, h2⟩
      have hne : Rl ≠ [] := fun h => by rw [h] at hmem; cases hmem
      cases k with
      | zero => exact absurd (List.eq_nil_of_length_eq_zero (by omega)) hne
      | succ k =>
        have hlen := List.length_erase_of_mem hmem
        have ih := lin_ext R l (done ++ [i]) (Rl.erase i) k h4 hc' (hn.erase i) (fun c => by
          rw [hn.mem_erase_iff, hm c]
          simp only [List.mem_append, List.mem_singleton, not_or]
          constructor
          · rintro ⟨q1, q2, q3, q4⟩; exact ⟨q2, q3, q4, q1⟩
          · rintro ⟨q2, q3, q4, q1⟩; exact ⟨q1, q2, q3, q4⟩) (by
            have : 0 < Rl.length := List.length_pos_iff.2 hne
            omega)
        simp only [linExts]
        rw [if_neg (by simpa using hne)]
        refine List.mem_flatMap.2 ⟨i, ?_, List.mem_map.2 ⟨_, ih, rfl⟩⟩
        rw [List.mem_filter]
        refine ⟨hmem, ?_⟩
        rw [List.all_eq_true]
        intro d hd
        by_cases hdi : d = i
        · simp [hdi]
        · simp only [Bool.or_eq_true, beq_iff_eq, Bool.not_eq_true']
          right
          cases hb : (B.getD i 0).testBit d with
          | false => rfl
          | true =>
            have := (hm d).1 hd
            exact absurd (closed_ready R hc h1 h3 d this.2.1 hb) this.2.2
    · rw [List.filter_cons, if_neg hci]
      refine lin_ext R l (done ++ [i]) Rl k h4 hc' hn (fun c => ?_) hk
      rw [hm c]
      simp only [List.mem_append, List.mem_singleton, not_or]
      constructor
      · rintro ⟨q1, q2, q3⟩; exact ⟨q1, q2, q3, fun h => hci (h ▸ q1)⟩
      · rintro ⟨q1, q2, q3, _⟩; exact ⟨q1, q2, q3⟩
/-- What 'orderOk' says of the next one. -/
theorem orderOk_cons {ops : Array Oper} {B : Array Nat} {chain : Nat → Bool} {pre : List Nat} {i : Nat} {rest : List Nat} (h : orderOk ops B chain pre (i :: rest) = true) :
    i < ops.size ∧ i ∉ pre ∧ (∀ j, j < ops.size → (B.getD i 0).testBit j = true → j ∈ pre) ∧ (chain i = true → ∀ q ∈ rest, chain q = false → ∃ c ∈ i :: rest, chain c = true ∧ (B.getD q 0).testBit c = true) ∧ orderOk ops B chain (pre ++ [i]) rest = true := by
  simp only [orderOk, Bool.and_eq_true, decide_eq_true_eq, Bool.not_eq_true', List.contains_eq_mem, decide_eq_false_iff_not, Bool.or_eq_true] at h
  obtain ⟨⟨⟨⟨h1, h2⟩, h3⟩, h4⟩, h5⟩ := h
  refine ⟨h1, h2, fun j hj hb => ?_, fun hc q hq hcq => ?_, h5⟩
  · unfold bitsIn at h3
    rw [List.all_eq_true] at h3
    have := h3 j (List.mem_range.2 hj)
    rw [hb] at this
    simpa using this
  · rcases h4 with h4 | h4
    · rw [hc] at h4; cases h4
    · rw [List.all_eq_true] at h4
      have := h4 q hq
      rw [hcq, Bool.false_or, List.any_eq_true] at this
      obtain ⟨c, hc1, hc2⟩ := this
      simp only [Bool.and_eq_true] at hc2
      exact ⟨c, hc1, hc2⟩
theorem orderOk_mem {ops : Array Oper} {B : Array Nat} {chain : Nat → Bool} : ∀ {suf pre : List Nat}, orderOk ops B chain pre suf = true → (∀ i ∈ suf, i < ops.size ∧ i ∉ pre) ∧ suf.Nodup
  | [], pre, _ => ⟨by simp, List.nodup_nil⟩
  | i :: suf, pre, h => by
    obtain ⟨h1, h2, _, _, h5⟩ := orderOk_cons h
    obtain ⟨q1, q2⟩ := orderOk_mem h5
    refine ⟨fun k hk => ?_, List.nodup_cons.2 ⟨fun hi => (q1 i hi).2 (by simp), q2⟩⟩
    rcases List.mem_cons.1 hk with rfl | hk
    · exact ⟨h1, h2⟩
    · exact ⟨(q1 k hk).1, fun hp => (q1 k hk).2 (by simp [hp])⟩
/-- A quiet operation that may still come up later gives then what it is said to give. -/
def Pend (P : Program) (ops : Array Oper) (q : Nat) (f : Fr) (A : Heap) : Prop :=
  ∃ o nop gd, ops[q]? = some o ∧ compOp P o.op = some nop ∧ compGuard ops o.guard = some gd ∧ nop.quiet = true ∧
    match gd with
    | none => reOne A f o.dst nop
    | some (s, want) => ∃ c, gval (f s) want = some c ∧ (c = true → reOne A f o.dst nop) ∧ (c = false → ∀ d, o.dst = some d → f d = .undef)
theorem slots_op {P : Program} {ops : Array Oper} {q : Nat} {o : Oper} {nop : NOp} (ho : ops[q]? = some o) (hn : compOp P o.op = some nop) : ∀ s ∈ nop.opds.flatMap Opd.slots, s ∈ slotsOf P ops q := by
  intro s hs
  simp only [slotsOf, ho, hn]
  exact List.mem_append.2 (.inl hs)
theorem slots_guard {P : Program} {ops : Array Oper} {q : Nat} {o : Oper} {s : Nat} {want : Bool} (ho : ops[q]? = some o) (hg : compGuard ops o.guard = some (some (s, want))) : s ∈ slotsOf P ops q := by
  simp only [slotsOf, ho]
  refine List.mem_append.2 (.inr ?_)
  cases hgd : o.guard with
  | none => rw [hgd] at hg; simp [compGuard] at hg
  | some jw =>
    obtain ⟨j, w⟩ := jw
    rw [hgd] at hg
    simp only [compGuard, Option.map_eq_some_iff, Option.some.injEq, Prod.mk.injEq] at hg
    obtain ⟨d, hd, rfl, _⟩ := hg
    simp [hd]
theorem reOne_congr {A : Heap} {f f' : Fr} {d : Option Nat} {nop : NOp} (h1 : ∀ s ∈ nop.opds.flatMap Opd.slots, f s = f' s) (h2 : ∀ x, d = some x → f x = f' x) (h : reOne A f d nop) : reOne A f' d nop := by
  have hq : qop A (evalOpd f) nop = qop A (evalOpd f') nop := qop_congr (evalOpd_congr h1)
  cases d with
  | none => simp only [reOne] at h ⊢; rw [← hq]; exact h
  | some d => simp only [reOne] at h ⊢; rw [← hq, ← h2 d rfl]; exact h
theorem Pend.congr {P : Program} {ops : Array Oper} {q : Nat} {f f' : Fr} {A : Heap} (h : Pend P ops q f A) (h1 : ∀ s ∈ slotsOf P ops q, f s = f' s) (h2 : ∀ d, dstOf ops q = some d → f d = f' d) : Pend P ops q f' A := by
  obtain ⟨o, nop, gd, ho, hn, hg, hq, h⟩ := h
  have hd : ∀ d, o.dst = some d → f d = f' d := fun d hd => h2 d (by simp [dstOf, ho, hd])
  have hs : ∀ s ∈ nop.opds.flatMap Opd.slots, f s = f' s := fun s hs => h1 s (slots_op ho hn s hs)
  refine ⟨o, nop, gd, ho, hn, hg, hq, ?_⟩
  cases gd with
  | none => exact reOne_congr hs hd h
  | some sw =>
    obtain ⟨s, want⟩ := sw
    obtain ⟨b, hb, q1, q2⟩ := h
    exact ⟨b, by rw [← h1 s (slots_guard ho hg)]; exact hb, fun hbw => reOne_congr hs hd (q1 hbw), fun hbw d hdd => by rw [← hd d hdd]; exact q2 hbw d hdd⟩
end Go.NL
