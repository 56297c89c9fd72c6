import Derived.Test.YtdeboephmbaihaaMC7
import Derived.Test.YtdeboephmbaihaaXAC
set_option maxRecDepth 100000
set_option linter.unusedVariables false
namespace Go.NL.Ev
open Go.Proofs
theorem k_flatten_Convert : n_flatten_Convert.ok = true := by kernel_rfl
theorem k_gimletlaw26_awake : n_gimletlaw26_awake.ok = true := by kernel_rfl
theorem k_flatten_Check : n_flatten_Check.ok = true := by kernel_rfl
abbrev F_gimletkit_SameInts : Nat := 12
def n_gimletkit_SameInts_r0 : List NI := [
  ⟨0, (some 4), none, .move (.const (.bool false)), []⟩]
def n_gimletkit_SameInts_r1 : List NI := [
  ⟨0, (some 6), none, .move (.tmp 0), []⟩,
  ⟨1, (some 7), none, .len .slice (.tmp 6), []⟩,
  ⟨2, (some 8), none, .move (.tmp 1), []⟩,
  ⟨3, (some 9), none, .len .slice (.tmp 8), []⟩,
  ⟨4, (some 10), none, .bin .neq (some .int) (.tmp 7) (.tmp 9), []⟩]
def n_gimletkit_SameInts_r2 : List NI := [
  ⟨0, (some 4), none, .move (.const (.bool false)), []⟩]
def n_gimletkit_SameInts_r3 : List NI := [
  ⟨0, (some 5), none, .move (.const (.int .i64 (.ofNat 0))), []⟩]
def n_gimletkit_SameInts_r4 : List NI := [
  ⟨0, (some 11), none, .move (.tmp 5), []⟩,
  ⟨1, (some 12), none, .move (.tmp 0), []⟩,
  ⟨2, (some 13), none, .len .slice (.tmp 12), []⟩,
  ⟨3, (some 14), none, .bin .lss (some .int) (.tmp 11) (.tmp 13), []⟩]
def n_gimletkit_SameInts_r5 : List NI := [
  ⟨0, (some 17), none, .move (.tmp 0), []⟩,
  ⟨1, (some 18), none, .move (.tmp 5), []⟩,
  ⟨2, (some 19), none, .indexAddr 1 none (.tmp 17) (.tmp 18), []⟩,
  ⟨3, (some 20), none, .load none (.tmp 19), []⟩,
  ⟨4, (some 21), none, .move (.tmp 1), []⟩,
  ⟨5, (some 22), none, .move (.tmp 5), []⟩,
  ⟨6, (some 23), none, .indexAddr 1 none (.tmp 21) (.tmp 22), []⟩,
  ⟨7, (some 24), none, .load none (.tmp 23), []⟩,
  ⟨8, (some 25), none, .bin .neq (some .int) (.tmp 20) (.tmp 24), []⟩]
def n_gimletkit_SameInts_r6 : List NI := [
  ⟨0, (some 4), none, .move (.const (.bool false)), []⟩]
def n_gimletkit_SameInts_r7 : List NI := [
  ⟨0, (some 15), none, .move (.tmp 5), []⟩,
  ⟨1, (some 16), none, .bin .add (some .int) (.tmp 15) (.const (.int .i64 (.ofNat 1))), []⟩,
  ⟨2, (some 5), none, .move (.tmp 16), []⟩]
def n_gimletkit_SameInts_l8 : NC := (.seq (.seq (.region n_gimletkit_SameInts_r4 []) (.cond (.tmp 14) .skip (.exit 0))) (.seq (.block 1 (.seq (.region n_gimletkit_SameInts_r5 []) (.cond (.tmp 25) (.seq (.region n_gimletkit_SameInts_r6 []) .ret) .skip))) (.region n_gimletkit_SameInts_r7 [])))
def n_gimletkit_SameInts_r9 : List NI := [
  ⟨0, (some 4), none, .move (.const (.bool true)), []⟩]
def n_gimletkit_SameInts : NFn := ⟨2, 26, [.slot 4], (.seq (.region n_gimletkit_SameInts_r0 []) (.seq (.seq (.region n_gimletkit_SameInts_r1 []) (.cond (.tmp 10) (.seq (.region n_gimletkit_SameInts_r2 []) .ret) .skip)) (.seq (.seq (.region n_gimletkit_SameInts_r3 []) (.block 0 (.loop n_gimletkit_SameInts_l8))) (.seq (.region n_gimletkit_SameInts_r9 []) .ret))))⟩
theorem c_gimletkit_SameInts : compFn Try.prog F_gimletkit_SameInts = some n_gimletkit_SameInts := by kernel_rfl
theorem k_gimletkit_SameInts : n_gimletkit_SameInts.ok = true := by kernel_rfl
theorem k_gimletkit_SameFlat : n_gimletkit_SameFlat.ok = true := by kernel_rfl
theorem k_core_Check : n_core_Check.ok = true := by kernel_rfl
theorem k_flatten_many : n_flatten_many.ok = true := by kernel_rfl
theorem k_flatten_maker_part : n_flatten_maker_part.ok = true := by kernel_rfl
theorem k_gimletlaw26_fun : n_gimletlaw26_fun.ok = true := by kernel_rfl
theorem k_gimletlaw26_ret : n_gimletlaw26_ret.ok = true := by kernel_rfl
theorem k_gimletlaw26_v : n_gimletlaw26_v.ok = true := by kernel_rfl
theorem k_flatten_may : n_flatten_may.ok = true := by kernel_rfl
theorem k_flatten_there : n_flatten_there.ok = true := by kernel_rfl
theorem k_core_Unbound : n_core_Unbound.ok = true := by kernel_rfl
theorem k_gimletkit_SameCore : n_gimletkit_SameCore.ok = true := by kernel_rfl
theorem k_core_may : n_core_may.ok = true := by kernel_rfl
theorem k_core_Order : n_core_Order.ok = true := by kernel_rfl
theorem k_core_Bound : n_core_Bound.ok = true := by kernel_rfl
theorem k_flatten_maker_fun : n_flatten_maker_fun.ok = true := by kernel_rfl
theorem k_flatten_frame_atoms : n_flatten_frame_atoms.ok = true := by kernel_rfl
theorem k_flatten_maker_group : n_flatten_maker_group.ok = true := by kernel_rfl
theorem k_slices_Clone__int_int : n_slices_Clone__int_int.ok = true := by kernel_rfl
theorem k_flatten_frame_new : n_flatten_frame_new.ok = true := by kernel_rfl
theorem k_flatten_own : n_flatten_own.ok = true := by kernel_rfl
theorem k_slices_ContainsFunc__api_Core_api_Core : n_slices_ContainsFunc__api_Core_api_Core.ok = true := by kernel_rfl
theorem k_flatten_may_1 : n_flatten_may_1.ok = true := by kernel_rfl
theorem k_core_Unbound_1 : n_core_Unbound_1.ok = true := by kernel_rfl
theorem k_core_binds : n_core_binds.ok = true := by kernel_rfl
theorem k_maps_Keys_map_intbool_int_bool : n_maps_Keys_map_intbool_int_bool.ok = true := by kernel_rfl
theorem k_gimletkit_SameAtoms : n_gimletkit_SameAtoms.ok = true := by kernel_rfl
theorem k_gimletkit_SameCores : n_gimletkit_SameCores.ok = true := by kernel_rfl
theorem k_core_Own : n_core_Own.ok = true := by kernel_rfl
theorem k_core_may_1 : n_core_may_1.ok = true := by kernel_rfl
theorem k_core_Order_1 : n_core_Order_1.ok = true := by kernel_rfl
theorem k_flatten_atoms : n_flatten_atoms.ok = true := by kernel_rfl
theorem k_slices_IndexFunc__api_Core_api_Core : n_slices_IndexFunc__api_Core_api_Core.ok = true := by kernel_rfl
theorem k_core_rules : n_core_rules.ok = true := by kernel_rfl
theorem k_core_variable : n_core_variable.ok = true := by kernel_rfl
theorem k_core_within : n_core_within.ok = true := by kernel_rfl
theorem k_core_prims : n_core_prims.ok = true := by kernel_rfl
theorem k_core_tagged : n_core_tagged.ok = true := by kernel_rfl
theorem k_slices_ContainsFunc__api_Atom_api_Atom : n_slices_ContainsFunc__api_Atom_api_Atom.ok = true := by kernel_rfl
theorem k_core_Own_1 : n_core_Own_1.ok = true := by kernel_rfl
theorem k_core_Atom : n_core_Atom.ok = true := by kernel_rfl
theorem k_flatten_atoms_1 : n_flatten_atoms_1.ok = true := by kernel_rfl
theorem k_slices_IndexFunc__api_Atom_api_Atom : n_slices_IndexFunc__api_Atom_api_Atom.ok = true := by kernel_rfl
end Go.NL.Ev
