/- THE EVALUATOR, part A: values with names of the evaluator's own, and how they stand to the N-logic's; trees. -/
import Derived.Test.YtdeboephmbaihaaGreatNU
set_option linter.unusedVariables false
set_option linter.unusedSimpArgs false
namespace Go.NL

/-- Which name of the N-logic's a name of the evaluator's stands for. -/
abbrev Nm := Nat → Option Nat

inductive VR (ρ : Nm) : AV → AV → Prop where
  | bool (b : Bool) : VR ρ (.bool b) (.bool b)
  | int (k : IntKind) (n : Int) : VR ρ (.int k n) (.int k n)
  | str (s : List UInt8) : VR ρ (.str s) (.str s)
  | nilptr : VR ρ .nilptr .nilptr
  | ptr (i b o : Nat) (h : ρ i = some b) : VR ρ (.ptr i o) (.ptr b o)
  | nilslice : VR ρ .nilslice .nilslice
  | slice (e i b o l : Nat) (c : Cap) (h : ρ i = some b) : VR ρ (.slice e i o l c) (.slice e b o l c)
  | nilmap : VR ρ .nilmap .nilmap
  | map (i b : Nat) (h : ρ i = some b) : VR ρ (.map i) (.map b)
  | nilfunc : VR ρ .nilfunc .nilfunc
  | func (f : FuncId) (fs fs' cs cs' : List AV) (hf : fs.length = fs'.length) (hc : cs.length = cs'.length) (h1 : ∀ (i : Nat) (h : i < fs.length) (h' : i < fs'.length), VR ρ fs[i] fs'[i]) (h2 : ∀ (i : Nat) (h : i < cs.length) (h' : i < cs'.length), VR ρ cs[i] cs'[i]) :
      VR ρ (.func f fs cs) (.func f fs' cs')
  | nilIface : VR ρ .nilIface .nilIface
  | iface (t : TypeId) (v v' : AV) (h : VR ρ v v') : VR ρ (.iface t v) (.iface t v')
  | agg (cs cs' : List AV) (hl : cs.length = cs'.length) (hone : cs.all AV.one = true) (h : ∀ (i : Nat) (h : i < cs.length) (h' : i < cs'.length), VR ρ cs[i] cs'[i]) : VR ρ (.agg cs) (.agg cs')
  | tuple (cs cs' : List AV) (hl : cs.length = cs'.length) (h : ∀ (i : Nat) (h : i < cs.length) (h' : i < cs'.length), VR ρ cs[i] cs'[i]) : VR ρ (.tuple cs) (.tuple cs')

/-- Lists of values. -/
structure VL (ρ : Nm) (cs ds : List AV) : Prop where
  len : cs.length = ds.length
  rel : ∀ (i : Nat) (c d : AV), cs[i]? = some c → ds[i]? = some d → VR ρ c d

theorem VL.mk' {ρ : Nm} {cs ds : List AV} (hl : cs.length = ds.length) (h : ∀ (i : Nat) (h : i < cs.length) (h' : i < ds.length), VR ρ cs[i] ds[i]) : VL ρ cs ds :=
  ⟨hl, fun i c d hc hd => by
    obtain ⟨h1, rfl⟩ := List.getElem?_eq_some_iff.1 hc
    obtain ⟨h2, rfl⟩ := List.getElem?_eq_some_iff.1 hd
    exact h i h1 h2⟩
theorem VL.get {ρ : Nm} {cs ds : List AV} (h : VL ρ cs ds) (i : Nat) (h1 : i < cs.length) (h2 : i < ds.length) : VR ρ cs[i] ds[i] := h.rel i _ _ (List.getElem?_eq_getElem h1) (List.getElem?_eq_getElem h2)
theorem VL.get? {ρ : Nm} {cs ds : List AV} (h : VL ρ cs ds) {i : Nat} {c : AV} (hc : cs[i]? = some c) : ∃ d, ds[i]? = some d ∧ VR ρ c d := by
  obtain ⟨h1, rfl⟩ := List.getElem?_eq_some_iff.1 hc
  have h2 : i < ds.length := h.len ▸ h1
  exact ⟨_, List.getElem?_eq_getElem h2, h.get i h1 h2⟩
theorem VL.nil {ρ : Nm} : VL ρ [] [] := ⟨rfl, fun i c d h => by simp at h⟩
theorem VL.cons {ρ : Nm} {c d : AV} {cs ds : List AV} (h : VR ρ c d) (hs : VL ρ cs ds) : VL ρ (c :: cs) (d :: ds) :=
  ⟨by simp [hs.len], fun i x y hx hy => by
    cases i with
    | zero => simp at hx hy; subst hx; subst hy; exact h
    | succ i => simp at hx hy; exact hs.rel i _ _ hx hy⟩
theorem VL.append {ρ : Nm} {a b c d : List AV} (h : VL ρ a b) (h' : VL ρ c d) : VL ρ (a ++ c) (b ++ d) :=
  ⟨by simp [h.len, h'.len], fun i x y hx hy => by
    by_cases hi : i < a.length
    · rw [List.getElem?_append_left hi] at hx
      rw [List.getElem?_append_left (h.len ▸ hi)] at hy
      exact h.rel i x y hx hy
    · rw [List.getElem?_append_right (by omega)] at hx
      rw [List.getElem?_append_right (by have := h.len; omega), ← h.len] at hy
      exact h'.rel _ _ _ hx hy⟩
theorem VL.take {ρ : Nm} {a b : List AV} (h : VL ρ a b) (n : Nat) : VL ρ (a.take n) (b.take n) :=
  ⟨by simp [h.len], fun i x y hx hy => by
    rw [List.getElem?_take] at hx hy
    split at hx
    · rename_i hi; rw [if_pos hi] at hy; exact h.rel i x y hx hy
    · cases hx⟩
theorem VL.drop {ρ : Nm} {a b : List AV} (h : VL ρ a b) (n : Nat) : VL ρ (a.drop n) (b.drop n) :=
  ⟨by simp [h.len], fun i x y hx hy => by
    rw [List.getElem?_drop] at hx hy
    exact h.rel _ x y hx hy⟩

theorem vr_agg {ρ : Nm} {cs : List AV} {V : AV} (h : VR ρ (.agg cs) V) : ∃ vs, V = .agg vs ∧ VL ρ cs vs ∧ cs.all AV.one = true := by
  cases h with
  | agg _ vs hl hone h => exact ⟨vs, rfl, .mk' hl h, hone⟩
theorem vr_tuple {ρ : Nm} {cs : List AV} {V : AV} (h : VR ρ (.tuple cs) V) : ∃ vs, V = .tuple vs ∧ VL ρ cs vs := by
  cases h with
  | tuple _ vs hl h => exact ⟨vs, rfl, .mk' hl h⟩
theorem vr_func {ρ : Nm} {f : FuncId} {a b : List AV} {V : AV} (h : VR ρ (.func f a b) V) : ∃ a' b', V = .func f a' b' ∧ VL ρ a a' ∧ VL ρ b b' := by
  cases h with
  | func _ _ fs _ cs hf hc h1 h2 => exact ⟨fs, cs, rfl, .mk' hf h1, .mk' hc h2⟩
theorem VL.agg {ρ : Nm} {a b : List AV} (h : VL ρ a b) (hone : a.all AV.one = true) : VR ρ (.agg a) (.agg b) := .agg _ _ h.len hone fun i h1 h2 => h.get i h1 h2
theorem VL.tuple {ρ : Nm} {a b : List AV} (h : VL ρ a b) : VR ρ (.tuple a) (.tuple b) := .tuple _ _ h.len fun i h1 h2 => h.get i h1 h2
theorem VL.func {ρ : Nm} {a b c d : List AV} (f : FuncId) (h : VL ρ a b) (h' : VL ρ c d) : VR ρ (.func f a c) (.func f b d) := .func f _ _ _ _ h.len h'.len (fun i h1 h2 => h.get i h1 h2) (fun i h1 h2 => h'.get i h1 h2)
theorem vr_undef {ρ : Nm} : VR ρ .undef .undef := VL.nil.tuple

theorem vr_one {ρ : Nm} {v V : AV} (h : VR ρ v V) : V.one = v.one := by cases h <;> rfl
theorem vr_cells {ρ : Nm} {v V : AV} (h : VR ρ v V) : VL ρ v.cells V.cells := by
  cases h with
  | agg a b hl hone h => exact .mk' hl h
  | func f a b c d hf hc h1 h2 => exact .cons (.func f a b c d hf hc h1 h2) .nil
  | iface t v v' h => exact .cons (.iface t v v' h) .nil
  | tuple a b hl h => exact .cons (.tuple a b hl h) .nil
  | ptr i b o h => exact .cons (.ptr i b o h) .nil
  | slice e i b o l c h => exact .cons (.slice e i b o l c h) .nil
  | map i b h => exact .cons (.map i b h) .nil
  | _ => exact .cons (by constructor) .nil
theorem vl_all_one {ρ : Nm} {a b : List AV} (h : VL ρ a b) (ha : a.all AV.one = true) : b.all AV.one = true := by
  rw [List.all_eq_true] at ha ⊢
  intro y hy
  obtain ⟨i, hi, rfl⟩ := List.getElem_of_mem hy
  have hi' : i < a.length := by have := h.len; omega
  rw [vr_one (h.get i hi' hi)]
  exact ha _ (List.getElem_mem hi')

/-- More names. -/
def Nm.le (ρ ρ' : Nm) : Prop := ∀ i b, ρ i = some b → ρ' i = some b
theorem Nm.le.refl (ρ : Nm) : ρ.le ρ := fun _ _ h => h
theorem Nm.le.trans {a b c : Nm} (h : a.le b) (h' : b.le c) : a.le c := fun i x hx => h' i x (h i x hx)

theorem VR.mono {ρ ρ' : Nm} {v V : AV} (h : VR ρ v V) (hle : ρ.le ρ') : VR ρ' v V := by
  induction h with
  | bool b => exact .bool b
  | int k n => exact .int k n
  | str s => exact .str s
  | nilptr => exact .nilptr
  | ptr i b o h => exact .ptr i b o (hle _ _ h)
  | nilslice => exact .nilslice
  | slice e i b o l c h => exact .slice e i b o l c (hle _ _ h)
  | nilmap => exact .nilmap
  | map i b h => exact .map i b (hle _ _ h)
  | nilfunc => exact .nilfunc
  | func f fs fs' cs cs' hf hc h1 h2 ih1 ih2 => exact .func f _ _ _ _ hf hc ih1 ih2
  | nilIface => exact .nilIface
  | iface t v v' h ih => exact .iface t _ _ ih
  | agg cs cs' hl hone h ih => exact .agg _ _ hl hone ih
  | tuple cs cs' hl h ih => exact .tuple _ _ hl ih
theorem VL.mono {ρ ρ' : Nm} {a b : List AV} (h : VL ρ a b) (hle : ρ.le ρ') : VL ρ' a b := ⟨h.len, fun i c d hc hd => (h.rel i c d hc hd).mono hle⟩

/-- A value that bears no name stands for itself. -/
def AV.plain : AV → Bool
  | .bool _ | .int _ _ | .str _ | .nilptr | .nilslice | .nilmap | .nilfunc | .nilIface => true
  | .func _ [] [] => true
  | _ => false
theorem plain_vr {ρ : Nm} {v : AV} (h : v.plain = true) : VR ρ v v := by
  unfold AV.plain at h
  split at h <;> first | constructor | (cases h)
  all_goals first | rfl | (intro i h; simp at h)
theorem plains_vl {ρ : Nm} {l : List AV} (h : l.all AV.plain = true) : VL ρ l l := by
  refine ⟨rfl, fun i c d hc hd => ?_⟩
  rw [hc] at hd
  cases hd
  exact plain_vr (List.all_eq_true.1 h _ (List.mem_of_getElem? hc))
theorem plain_one {v : AV} (h : v.plain = true) : v.one = true := by
  unfold AV.plain at h
  split at h <;> first | rfl | (cases h)
theorem plains_one {l : List AV} (h : l.all AV.plain = true) : l.all AV.one = true := by
  rw [List.all_eq_true] at h ⊢
  exact fun x hx => plain_one (h x hx)
theorem all_sub {p : AV → Bool} {l m : List AV} (h : l.all p = true) (hs : ∀ x ∈ m, x ∈ l) : m.all p = true := by
  rw [List.all_eq_true] at h ⊢
  exact fun x hx => h x (hs x hx)
theorem cells_all_one {ρ : Nm} {v V : AV} (h : VR ρ v V) (ht : ∀ vs, v ≠ .tuple vs) : v.cells.all AV.one = true := by
  cases h with
  | agg cs cs' hl hone h => exact hone
  | tuple cs cs' hl h => exact absurd rfl (ht cs)
  | _ => rfl
def AV.fixed : AV → Bool
  | .agg cs => cs.all AV.plain
  | v => v.plain
theorem fixed_vr {ρ : Nm} {v : AV} (h : v.fixed = true) : VR ρ v v := by
  unfold AV.fixed at h
  split at h
  · exact (plains_vl h).agg (plains_one h)
  · exact plain_vr h

/-! trees -/
inductive CT (α : Type) where
  | rep (v : α)
  | node (s : Nat) (l r : CT α)

noncomputable def CT.get {α : Type} (t : CT α) (i : Nat) : α := CT.rec (motive := fun _ => α) (fun v => v) (fun s _ _ a b => Bool.rec (motive := fun _ => α) a b (Nat.ble s i)) t

theorem ble_cases {α : Type} {a b : α} {s i : Nat} : (Bool.rec (motive := fun _ => α) a b (Nat.ble s i)) = if i < s then a else b := by
  by_cases h : i < s
  · have : Nat.ble s i = false := by rw [Bool.eq_false_iff]; intro hh; have := Nat.le_of_ble_eq_true hh; omega
    rw [this, if_pos h]
  · have : Nat.ble s i = true := Nat.ble_eq_true_of_le (by omega)
    rw [this, if_neg h]

theorem CT.get_rep {α : Type} (v : α) (i : Nat) : (CT.rep v).get i = v := rfl
theorem CT.get_node {α : Type} (s : Nat) (l r : CT α) (i : Nat) : (CT.node s l r).get i = if i < s then l.get i else r.get i := ble_cases

end Go.NL
