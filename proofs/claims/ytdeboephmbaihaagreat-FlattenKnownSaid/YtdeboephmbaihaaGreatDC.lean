/- Laws for walks: numbers that fit, loops over lists. -/
import Derived.Test.YtdeboephmbaihaaGreatDA
set_option linter.unusedVariables false
set_option linter.unusedSimpArgs false
namespace Go.NL

theorem i64w {n : Int} (h1 : -9223372036854775808 ≤ n) (h2 : n ≤ 9223372036854775807) : IntKind.i64.wrap n = n := by
  simp only [IntKind.wrap, IntKind.bits, IntKind.signed]
  simp
  omega

theorem encs_length : ∀ l : List Core, (Core.encs l).length = l.length
  | [] => rfl
  | c :: l => by simp [Core.encs, encs_length l]
theorem encs_get {l : List Core} {i : Nat} {c : Core} (h : l[i]? = some c) : (Core.encs l)[i]? = some c.enc := by
  rw [Core.encs_eq, List.getElem?_map, h]; rfl

mutual
theorem Core.funs_le : ∀ c : Core, c.funs ≤ c.size
  | .mk k _ _ _ _ _ _ _ _ l => by
    have := Core.funsL_le l
    simp only [Core.funs, Core.size]
    split <;> omega
theorem Core.funsL_le : ∀ l : List Core, Core.funsL l ≤ Core.sizes l
  | [] => Nat.le_refl _
  | c :: l => by
    have := Core.funs_le c
    have := Core.funsL_le l
    simp only [Core.funsL, Core.sizes]
    omega
end
theorem Core.size_pos : ∀ c : Core, 1 ≤ c.size
  | .mk .. => by simp only [Core.size]; omega
theorem Core.len_le : ∀ l : List Core, l.length ≤ Core.sizes l
  | [] => Nat.le_refl _
  | c :: l => by
    have := Core.size_pos c
    have := Core.len_le l
    simp only [Core.sizes, List.length_cons]
    omega
theorem Core.size_mem {l : List Core} {c : Core} (h : c ∈ l) : c.size ≤ Core.sizes l := by
  induction l with
  | nil => cases h
  | cons x l ih =>
    simp only [Core.sizes]
    rcases List.mem_cons.1 h with rfl | h
    · omega
    · have := ih h; omega

theorem Core.take_enc : ∀ c : Core, takeAV (some 7) c.enc.cells 0 = some c.enc
  | .mk .. => rfl
theorem Atom.take_enc : ∀ c : Atom, takeAV (some 3) c.enc.cells 0 = some c.enc
  | .mk .. => rfl
theorem Core.one_enc : ∀ c : Core, c.enc.cells.all AV.one = true
  | .mk .. => by simp only [Core.enc, cells_agg, List.all_cons, List.all_nil, oneSl, one_int, one_str, Bool.and_self]
theorem Atom.one_enc : ∀ c : Atom, c.enc.cells.all AV.one = true
  | .mk .. => rfl
theorem Atom.len_enc : ∀ c : Atom, c.enc.cells.length = 3
  | .mk .. => rfl
attribute [go_sem high] Core.take_enc Atom.take_enc
attribute [go_sem] Core.one_enc Atom.one_enc Atom.len_enc Core.enc_cells Heap.set_set

theorem Core.sizes_app : ∀ a b : List Core, Core.sizes (a ++ b) = Core.sizes a + Core.sizes b
  | [], b => by simp [Core.sizes]
  | x :: a, b => by simp [Core.sizes, Core.sizes_app a b]; omega
theorem Core.funsL_app : ∀ a b : List Core, Core.funsL (a ++ b) = Core.funsL a + Core.funsL b
  | [], b => by simp [Core.funsL]
  | x :: a, b => by simp [Core.funsL, Core.funsL_app a b]; omega
theorem Core.wideL_app : ∀ a b : List Core, Core.wideL (a ++ b) = (Core.wideL a || Core.wideL b)
  | [], b => by simp [Core.wideL]
  | x :: a, b => by simp [Core.wideL, Core.wideL_app a b, Bool.or_assoc]

end Go.NL
