/- The functions' numbers in this translation, and their code as the N-logic sees it (written by a program of mine; each is held against the translation): part 2. -/
import Derived.Test.YtdeboephmbaihaaGreatVI
import Derived.Test.YtdeboephmbaihaaGreatProg
set_option maxRecDepth 100000
set_option linter.unusedVariables false
namespace Go.NL
open Go.Proofs

/-! (*gimlet/core.machine).chr -/
abbrev F_core_machine_chr : Nat := 87
def n_core_machine_chr_r0 : List NI := [
  ⟨0, (some 4), none, .move (.tmp 0), []⟩,
  ⟨1, (some 5), none, .move (.tmp 1), []⟩,
  ⟨2, (some 6), none, .buildSlice 1 1 [(.int .i64 (.ofNat 0))] [(0, 1, (.const (.int .i64 (.ofNat 1))))], []⟩,
  ⟨3, (some 7), none, .call (.const (.func 129 [] [])) [(.tmp 4), (.tmp 5), (.tmp 6)], []⟩]
def n_core_machine_chr_r1 : List NI := [
  ⟨0, (some 8), none, .move (.tmp 0), []⟩,
  ⟨1, (some 9), none, .move (.tmp 1), []⟩,
  ⟨2, (some 10), none, .indexAddr 1 none (.tmp 9) (.const (.int .i64 (.ofNat 0))), []⟩,
  ⟨3, (some 11), none, .load none (.tmp 10), []⟩,
  ⟨4, (some 12), none, .nilCheck (.tmp 11), []⟩,
  ⟨5, (some 13), none, .fieldAddr 1 (.tmp 12), []⟩,
  ⟨6, (some 14), none, .load none (.tmp 13), []⟩,
  ⟨7, (some 15), none, .convInt .u8 (.tmp 14), []⟩,
  ⟨8, (some 16), none, .buildSlice 1 1 [(.int .u8 (.ofNat 0))] [(0, 1, (.tmp 15))], []⟩,
  ⟨9, (some 17), none, .bytesStr (.tmp 16), []⟩,
  ⟨10, (some 18), none, .call (.const (.func 131 [] [])) [(.tmp 17)], []⟩,
  ⟨11, (some 19), none, .call (.const (.func 93 [] [])) [(.tmp 8), (.tmp 18)], []⟩]
def n_core_machine_chr : NFn := ⟨2, 20, [], (.seq (.region n_core_machine_chr_r0 []) (.cond (.tmp 7) (.region n_core_machine_chr_r1 []) .skip))⟩
theorem c_core_machine_chr : compFn Tryz.prog F_core_machine_chr = some n_core_machine_chr := by kernel_rfl
theorem k_core_machine_chr : n_core_machine_chr.ok = true := by kernel_rfl

/-! (*gimlet/core.machine).byteAt -/
abbrev F_core_machine_byteAt : Nat := 88
def n_core_machine_byteAt_r0 : List NI := [
  ⟨0, (some 22), none, .move (.tmp 0), []⟩,
  ⟨1, (some 23), none, .move (.tmp 1), []⟩,
  ⟨2, (some 24), none, .buildSlice 1 2 [(.int .i64 (.ofNat 0)), (.int .i64 (.ofNat 0))] [(0, 1, (.const (.int .i64 (.ofNat 2)))), (1, 1, (.const (.int .i64 (.ofNat 1))))], []⟩,
  ⟨3, (some 25), none, .call (.const (.func 129 [] [])) [(.tmp 22), (.tmp 23), (.tmp 24)], []⟩,
  ⟨4, (some 26), none, .un .not (.tmp 25), []⟩,
  ⟨5, (some 21), none, .move (.tmp 26), []⟩]
def n_core_machine_byteAt_r1 : List NI := [
  ⟨0, (some 28), none, .move (.tmp 1), []⟩,
  ⟨1, (some 29), none, .indexAddr 1 none (.tmp 28) (.const (.int .i64 (.ofNat 1))), []⟩,
  ⟨2, (some 30), none, .load none (.tmp 29), []⟩,
  ⟨3, (some 31), none, .nilCheck (.tmp 30), []⟩,
  ⟨4, (some 32), none, .fieldAddr 1 (.tmp 31), []⟩,
  ⟨5, (some 33), none, .load none (.tmp 32), []⟩,
  ⟨6, (some 34), none, .bin .lss (some .int) (.tmp 33) (.const (.int .i64 (.ofNat 0))), []⟩,
  ⟨7, (some 35), none, .move (.tmp 34), []⟩,
  ⟨8, (some 36), (some (35, false)), .move (.tmp 1), []⟩,
  ⟨9, (some 37), (some (35, false)), .indexAddr 1 none (.tmp 36) (.const (.int .i64 (.ofNat 1))), []⟩,
  ⟨10, (some 38), (some (35, false)), .load none (.tmp 37), []⟩,
  ⟨11, (some 39), (some (35, false)), .nilCheck (.tmp 38), []⟩,
  ⟨12, (some 40), (some (35, false)), .fieldAddr 1 (.tmp 39), []⟩,
  ⟨13, (some 41), (some (35, false)), .load none (.tmp 40), []⟩,
  ⟨14, (some 42), (some (35, false)), .move (.tmp 1), []⟩,
  ⟨15, (some 43), (some (35, false)), .indexAddr 1 none (.tmp 42) (.const (.int .i64 (.ofNat 0))), []⟩,
  ⟨16, (some 44), (some (35, false)), .load none (.tmp 43), []⟩,
  ⟨17, (some 45), (some (35, false)), .nilCheck (.tmp 44), []⟩,
  ⟨18, (some 46), (some (35, false)), .fieldAddr 2 (.tmp 45), []⟩,
  ⟨19, (some 47), (some (35, false)), .load none (.tmp 46), []⟩,
  ⟨20, (some 48), (some (35, false)), .len .str (.tmp 47), []⟩,
  ⟨21, (some 49), (some (35, false)), .bin .geq (some .int) (.tmp 41) (.tmp 48), []⟩,
  ⟨22, (some 50), none, .pick (.tmp 35) (.const (.bool true)) (.tmp 49), []⟩,
  ⟨23, (some 27), none, .move (.tmp 50), []⟩]
def n_core_machine_byteAt_r2 : List NI := [
  ⟨0, (some 51), none, .move (.tmp 0), []⟩,
  ⟨1, (some 52), none, .call (.const (.func 94 [] [])) [(.const (.int .i64 (.ofNat 2))), (.const .nilslice)], []⟩,
  ⟨2, (some 53), none, .call (.const (.func 100 [] [])) [(.tmp 51), (.tmp 52)], []⟩]
def n_core_machine_byteAt_r3 : List NI := [
  ⟨0, (some 4), none, .move (.tmp 0), []⟩,
  ⟨1, (some 5), none, .move (.tmp 1), []⟩,
  ⟨2, (some 6), none, .indexAddr 1 none (.tmp 5) (.const (.int .i64 (.ofNat 0))), []⟩,
  ⟨3, (some 7), none, .load none (.tmp 6), []⟩,
  ⟨4, (some 8), none, .nilCheck (.tmp 7), []⟩,
  ⟨5, (some 9), none, .fieldAddr 2 (.tmp 8), []⟩,
  ⟨6, (some 10), none, .load none (.tmp 9), []⟩,
  ⟨7, (some 11), none, .move (.tmp 1), []⟩,
  ⟨8, (some 12), none, .indexAddr 1 none (.tmp 11) (.const (.int .i64 (.ofNat 1))), []⟩,
  ⟨9, (some 13), none, .load none (.tmp 12), []⟩,
  ⟨10, (some 14), none, .nilCheck (.tmp 13), []⟩,
  ⟨11, (some 15), none, .fieldAddr 1 (.tmp 14), []⟩,
  ⟨12, (some 16), none, .load none (.tmp 15), []⟩,
  ⟨13, (some 17), none, .indexStr (.tmp 10) (.tmp 16), []⟩,
  ⟨14, (some 18), none, .convInt .i64 (.tmp 17), []⟩,
  ⟨15, (some 19), none, .call (.const (.func 71 [] [])) [(.tmp 18)], []⟩,
  ⟨16, (some 20), none, .call (.const (.func 93 [] [])) [(.tmp 4), (.tmp 19)], []⟩]
def n_core_machine_byteAt : NFn := ⟨2, 54, [], (.block 0 (.seq (.region n_core_machine_byteAt_r0 []) (.cond (.tmp 21) .skip (.seq (.region n_core_machine_byteAt_r1 []) (.cond (.tmp 27) (.region n_core_machine_byteAt_r2 []) (.region n_core_machine_byteAt_r3 []))))))⟩
theorem c_core_machine_byteAt : compFn Tryz.prog F_core_machine_byteAt = some n_core_machine_byteAt := by kernel_rfl
theorem k_core_machine_byteAt : n_core_machine_byteAt.ok = true := by kernel_rfl

/-! (*gimlet/core.machine).cut -/
abbrev F_core_machine_cut : Nat := 89
def n_core_machine_cut_r0 : List NI := [
  ⟨0, (some 7), none, .move (.tmp 0), []⟩,
  ⟨1, (some 8), none, .move (.tmp 1), []⟩,
  ⟨2, (some 9), none, .buildSlice 1 3 [(.int .i64 (.ofNat 0)), (.int .i64 (.ofNat 0)), (.int .i64 (.ofNat 0))] [(0, 1, (.const (.int .i64 (.ofNat 2)))), (1, 1, (.const (.int .i64 (.ofNat 1)))), (2, 1, (.const (.int .i64 (.ofNat 1))))], []⟩,
  ⟨3, (some 10), none, .call (.const (.func 129 [] [])) [(.tmp 7), (.tmp 8), (.tmp 9)], []⟩,
  ⟨4, (some 11), none, .un .not (.tmp 10), []⟩]
def n_core_machine_cut_r1 : List NI := [
  ⟨0, (some 12), none, .move (.tmp 1), []⟩,
  ⟨1, (some 13), none, .indexAddr 1 none (.tmp 12) (.const (.int .i64 (.ofNat 0))), []⟩,
  ⟨2, (some 14), none, .load none (.tmp 13), []⟩,
  ⟨3, (some 15), none, .nilCheck (.tmp 14), []⟩,
  ⟨4, (some 16), none, .fieldAddr 2 (.tmp 15), []⟩,
  ⟨5, (some 17), none, .load none (.tmp 16), []⟩,
  ⟨6, (some 18), none, .move (.tmp 1), []⟩,
  ⟨7, (some 19), none, .indexAddr 1 none (.tmp 18) (.const (.int .i64 (.ofNat 1))), []⟩,
  ⟨8, (some 20), none, .load none (.tmp 19), []⟩,
  ⟨9, (some 21), none, .nilCheck (.tmp 20), []⟩,
  ⟨10, (some 22), none, .fieldAddr 1 (.tmp 21), []⟩,
  ⟨11, (some 23), none, .load none (.tmp 22), []⟩,
  ⟨12, (some 24), none, .move (.tmp 1), []⟩,
  ⟨13, (some 25), none, .indexAddr 1 none (.tmp 24) (.const (.int .i64 (.ofNat 2))), []⟩,
  ⟨14, (some 26), none, .load none (.tmp 25), []⟩,
  ⟨15, (some 27), none, .nilCheck (.tmp 26), []⟩,
  ⟨16, (some 28), none, .fieldAddr 1 (.tmp 27), []⟩,
  ⟨17, (some 29), none, .load none (.tmp 28), []⟩,
  ⟨18, (some 4), none, .move (.tmp 17), []⟩,
  ⟨19, (some 5), none, .move (.tmp 23), []⟩,
  ⟨20, (some 6), none, .move (.tmp 29), []⟩]
def n_core_machine_cut_r2 : List NI := [
  ⟨0, (some 30), none, .move (.tmp 5), []⟩,
  ⟨1, (some 31), none, .bin .lss (some .int) (.tmp 30) (.const (.int .i64 (.ofNat 0))), []⟩,
  ⟨2, (some 32), none, .move (.tmp 31), []⟩,
  ⟨3, (some 33), (some (32, false)), .move (.tmp 6), []⟩,
  ⟨4, (some 34), (some (32, false)), .bin .lss (some .int) (.tmp 33) (.const (.int .i64 (.ofNat 0))), []⟩,
  ⟨5, (some 35), none, .pick (.tmp 32) (.const (.bool true)) (.tmp 34), []⟩,
  ⟨6, (some 36), none, .move (.tmp 35), []⟩,
  ⟨7, (some 37), (some (36, false)), .move (.tmp 5), []⟩,
  ⟨8, (some 38), (some (36, false)), .move (.tmp 4), []⟩,
  ⟨9, (some 39), (some (36, false)), .len .str (.tmp 38), []⟩,
  ⟨10, (some 40), (some (36, false)), .bin .gtr (some .int) (.tmp 37) (.tmp 39), []⟩,
  ⟨11, (some 41), none, .pick (.tmp 36) (.const (.bool true)) (.tmp 40), []⟩,
  ⟨12, (some 42), none, .move (.tmp 41), []⟩,
  ⟨13, (some 43), (some (42, false)), .move (.tmp 6), []⟩,
  ⟨14, (some 44), (some (42, false)), .move (.tmp 4), []⟩,
  ⟨15, (some 45), (some (42, false)), .len .str (.tmp 44), []⟩,
  ⟨16, (some 46), (some (42, false)), .move (.tmp 5), []⟩,
  ⟨17, (some 47), (some (42, false)), .bin .sub (some .int) (.tmp 45) (.tmp 46), []⟩,
  ⟨18, (some 48), (some (42, false)), .bin .gtr (some .int) (.tmp 43) (.tmp 47), []⟩,
  ⟨19, (some 49), none, .pick (.tmp 42) (.const (.bool true)) (.tmp 48), []⟩]
def n_core_machine_cut_r3 : List NI := [
  ⟨0, (some 50), none, .move (.tmp 0), []⟩,
  ⟨1, (some 51), none, .call (.const (.func 94 [] [])) [(.const (.int .i64 (.ofNat 2))), (.const .nilslice)], []⟩,
  ⟨2, (some 52), none, .call (.const (.func 100 [] [])) [(.tmp 50), (.tmp 51)], []⟩]
def n_core_machine_cut_r4 : List NI := [
  ⟨0, (some 53), none, .move (.tmp 0), []⟩,
  ⟨1, (some 54), none, .move (.tmp 4), []⟩,
  ⟨2, (some 55), none, .move (.tmp 5), []⟩,
  ⟨3, (some 56), none, .move (.tmp 5), []⟩,
  ⟨4, (some 57), none, .move (.tmp 6), []⟩,
  ⟨5, (some 58), none, .bin .add (some .int) (.tmp 56) (.tmp 57), []⟩,
  ⟨6, (some 59), none, .slice none (.tmp 54) (some (.tmp 55)) (some (.tmp 58)) none, []⟩,
  ⟨7, (some 60), none, .call (.const (.func 131 [] [])) [(.tmp 59)], []⟩,
  ⟨8, (some 61), none, .call (.const (.func 93 [] [])) [(.tmp 53), (.tmp 60)], []⟩]
def n_core_machine_cut : NFn := ⟨2, 62, [], (.seq (.seq (.region n_core_machine_cut_r0 []) (.cond (.tmp 11) .ret .skip)) (.seq (.region n_core_machine_cut_r1 []) (.seq (.seq (.region n_core_machine_cut_r2 []) (.cond (.tmp 49) (.seq (.region n_core_machine_cut_r3 []) .ret) .skip)) (.region n_core_machine_cut_r4 []))))⟩
theorem c_core_machine_cut : compFn Tryz.prog F_core_machine_cut = some n_core_machine_cut := by kernel_rfl
theorem k_core_machine_cut : n_core_machine_cut.ok = true := by kernel_rfl

/-! (*gimlet/core.machine).join -/
abbrev F_core_machine_join : Nat := 90
def n_core_machine_join_r0 : List NI := [
  ⟨0, (some 21), none, .move (.tmp 0), []⟩,
  ⟨1, (some 22), none, .move (.tmp 1), []⟩,
  ⟨2, (some 23), none, .buildSlice 1 2 [(.int .i64 (.ofNat 0)), (.int .i64 (.ofNat 0))] [(0, 1, (.const (.int .i64 (.ofNat 2)))), (1, 1, (.const (.int .i64 (.ofNat 2))))], []⟩,
  ⟨3, (some 24), none, .call (.const (.func 129 [] [])) [(.tmp 21), (.tmp 22), (.tmp 23)], []⟩,
  ⟨4, (some 25), none, .un .not (.tmp 24), []⟩,
  ⟨5, (some 20), none, .move (.tmp 25), []⟩]
def n_core_machine_join_r1 : List NI := [
  ⟨0, (some 27), none, .move (.tmp 1), []⟩,
  ⟨1, (some 28), none, .indexAddr 1 none (.tmp 27) (.const (.int .i64 (.ofNat 0))), []⟩,
  ⟨2, (some 29), none, .load none (.tmp 28), []⟩,
  ⟨3, (some 30), none, .nilCheck (.tmp 29), []⟩,
  ⟨4, (some 31), none, .fieldAddr 2 (.tmp 30), []⟩,
  ⟨5, (some 32), none, .load none (.tmp 31), []⟩,
  ⟨6, (some 33), none, .len .str (.tmp 32), []⟩,
  ⟨7, (some 34), none, .move (.tmp 1), []⟩,
  ⟨8, (some 35), none, .indexAddr 1 none (.tmp 34) (.const (.int .i64 (.ofNat 1))), []⟩,
  ⟨9, (some 36), none, .load none (.tmp 35), []⟩,
  ⟨10, (some 37), none, .nilCheck (.tmp 36), []⟩,
  ⟨11, (some 38), none, .fieldAddr 2 (.tmp 37), []⟩,
  ⟨12, (some 39), none, .load none (.tmp 38), []⟩,
  ⟨13, (some 40), none, .len .str (.tmp 39), []⟩,
  ⟨14, (some 41), none, .bin .add (some .int) (.tmp 33) (.tmp 40), []⟩,
  ⟨15, (some 42), none, .bin .gtr (some .int) (.tmp 41) (.const (.int .i64 (.ofNat 4096))), []⟩,
  ⟨16, (some 26), none, .move (.tmp 42), []⟩]
def n_core_machine_join_r2 : List NI := [
  ⟨0, (some 43), none, .move (.tmp 0), []⟩,
  ⟨1, (some 44), none, .call (.const (.func 94 [] [])) [(.const (.int .i64 (.ofNat 2))), (.const .nilslice)], []⟩,
  ⟨2, (some 45), none, .call (.const (.func 100 [] [])) [(.tmp 43), (.tmp 44)], []⟩]
def n_core_machine_join_r3 : List NI := [
  ⟨0, (some 4), none, .move (.tmp 0), []⟩,
  ⟨1, (some 5), none, .move (.tmp 1), []⟩,
  ⟨2, (some 6), none, .indexAddr 1 none (.tmp 5) (.const (.int .i64 (.ofNat 0))), []⟩,
  ⟨3, (some 7), none, .load none (.tmp 6), []⟩,
  ⟨4, (some 8), none, .nilCheck (.tmp 7), []⟩,
  ⟨5, (some 9), none, .fieldAddr 2 (.tmp 8), []⟩,
  ⟨6, (some 10), none, .load none (.tmp 9), []⟩,
  ⟨7, (some 11), none, .move (.tmp 1), []⟩,
  ⟨8, (some 12), none, .indexAddr 1 none (.tmp 11) (.const (.int .i64 (.ofNat 1))), []⟩,
  ⟨9, (some 13), none, .load none (.tmp 12), []⟩,
  ⟨10, (some 14), none, .nilCheck (.tmp 13), []⟩,
  ⟨11, (some 15), none, .fieldAddr 2 (.tmp 14), []⟩,
  ⟨12, (some 16), none, .load none (.tmp 15), []⟩,
  ⟨13, (some 17), none, .bin .add (some .str) (.tmp 10) (.tmp 16), []⟩,
  ⟨14, (some 18), none, .call (.const (.func 131 [] [])) [(.tmp 17)], []⟩,
  ⟨15, (some 19), none, .call (.const (.func 93 [] [])) [(.tmp 4), (.tmp 18)], []⟩]
def n_core_machine_join : NFn := ⟨2, 46, [], (.block 0 (.seq (.region n_core_machine_join_r0 []) (.cond (.tmp 20) .skip (.seq (.region n_core_machine_join_r1 []) (.cond (.tmp 26) (.region n_core_machine_join_r2 []) (.region n_core_machine_join_r3 []))))))⟩
theorem c_core_machine_join : compFn Tryz.prog F_core_machine_join = some n_core_machine_join := by kernel_rfl
theorem k_core_machine_join : n_core_machine_join.ok = true := by kernel_rfl

/-! (*gimlet/core.machine).set -/
abbrev F_core_machine_set : Nat := 91
def n_core_machine_set_r0 : List NI := [
  ⟨0, (some 4), none, .move (.tmp 1), []⟩,
  ⟨1, (some 5), none, .indexAddr 1 none (.tmp 4) (.const (.int .i64 (.ofNat 0))), []⟩,
  ⟨2, (some 6), none, .load none (.tmp 5), []⟩,
  ⟨3, (some 7), none, .nilCheck (.tmp 6), []⟩,
  ⟨4, (some 8), none, .fieldAddr 0 (.tmp 7), []⟩,
  ⟨5, (some 9), none, .load none (.tmp 8), []⟩,
  ⟨6, (some 10), none, .bin .neq (some .int) (.tmp 9) (.const (.int .i64 (.ofNat 4))), []⟩,
  ⟨7, (some 11), none, .move (.tmp 10), []⟩,
  ⟨8, (some 12), (some (11, false)), .move (.tmp 1), []⟩,
  ⟨9, (some 13), (some (11, false)), .indexAddr 1 none (.tmp 12) (.const (.int .i64 (.ofNat 0))), []⟩,
  ⟨10, (some 14), (some (11, false)), .load none (.tmp 13), []⟩,
  ⟨11, (some 15), (some (11, false)), .nilCheck (.tmp 14), []⟩,
  ⟨12, (some 16), (some (11, false)), .fieldAddr 1 (.tmp 15), []⟩,
  ⟨13, (some 17), (some (11, false)), .load none (.tmp 16), []⟩,
  ⟨14, (some 18), (some (11, false)), .bin .neq (some .int) (.tmp 17) (.const (.int .i64 (.ofNat 0))), []⟩,
  ⟨15, (some 19), none, .pick (.tmp 11) (.const (.bool true)) (.tmp 18), []⟩,
  ⟨16, (some 20), none, .move (.tmp 19), []⟩,
  ⟨17, (some 21), (some (20, false)), .move (.tmp 1), []⟩,
  ⟨18, (some 22), (some (20, false)), .indexAddr 1 none (.tmp 21) (.const (.int .i64 (.ofNat 0))), []⟩,
  ⟨19, (some 23), (some (20, false)), .load none (.tmp 22), []⟩,
  ⟨20, (some 24), (some (20, false)), .nilCheck (.tmp 23), []⟩,
  ⟨21, (some 25), (some (20, false)), .fieldAddr 3 (.tmp 24), []⟩,
  ⟨22, (some 26), (some (20, false)), .load none (.tmp 25), []⟩,
  ⟨23, (some 27), (some (20, false)), .len .slice (.tmp 26), []⟩,
  ⟨24, (some 28), (some (20, false)), .bin .neq (some .int) (.tmp 27) (.const (.int .i64 (.ofNat 1))), []⟩,
  ⟨25, (some 29), none, .pick (.tmp 20) (.const (.bool true)) (.tmp 28), []⟩]
def n_core_machine_set_r1 : List NI := [
  ⟨0, (some 30), none, .move (.tmp 0), []⟩,
  ⟨1, (some 31), none, .call (.const (.func 95 [] [])) [(.tmp 30), (.const (.int .i64 (.ofNat 6)))], []⟩]
def n_core_machine_set_r2 : List NI := [
  ⟨0, (some 32), none, .move (.tmp 1), []⟩,
  ⟨1, (some 33), none, .indexAddr 1 none (.tmp 32) (.const (.int .i64 (.ofNat 0))), []⟩,
  ⟨2, (some 34), none, .load none (.tmp 33), []⟩,
  ⟨3, (some 35), none, .nilCheck (.tmp 34), []⟩,
  ⟨4, (some 36), none, .fieldAddr 3 (.tmp 35), []⟩,
  ⟨5, (some 37), none, .load none (.tmp 36), []⟩,
  ⟨6, (some 38), none, .move (.tmp 1), []⟩,
  ⟨7, (some 39), none, .indexAddr 1 none (.tmp 38) (.const (.int .i64 (.ofNat 1))), []⟩,
  ⟨8, (some 40), none, .load none (.tmp 39), []⟩,
  ⟨9, (some 41), none, .indexAddr 1 none (.tmp 37) (.const (.int .i64 (.ofNat 0))), []⟩,
  ⟨10, none, none, .store 1 (.tmp 41) (.tmp 40), []⟩]
def n_core_machine_set_r3 : List NI := [
  ⟨0, (some 42), none, .move (.tmp 0), []⟩,
  ⟨1, (some 43), none, .call (.const (.func 94 [] [])) [(.const (.int .i64 (.ofNat 0))), (.const .nilslice)], []⟩,
  ⟨2, (some 44), none, .call (.const (.func 93 [] [])) [(.tmp 42), (.tmp 43)], []⟩]
def n_core_machine_set : NFn := ⟨2, 45, [], (.seq (.seq (.region n_core_machine_set_r0 []) (.cond (.tmp 29) (.seq (.region n_core_machine_set_r1 []) .ret) .skip)) (.seq (.region n_core_machine_set_r2 []) (.region n_core_machine_set_r3 [])))⟩
theorem c_core_machine_set : compFn Tryz.prog F_core_machine_set = some n_core_machine_set := by kernel_rfl
theorem k_core_machine_set : n_core_machine_set.ok = true := by kernel_rfl

/-! (*gimlet/core.machine).atoms -/
abbrev F_core_machine_atoms : Nat := 92
def n_core_machine_atoms_r0 : List NI := [
  ⟨0, (some 2), none, .move (.const .nilslice), []⟩]
def n_core_machine_atoms_r1 : List NI := [
  ⟨0, (some 3), none, .move (.const .nilslice), []⟩]
def n_core_machine_atoms_r2 : List NI := [
  ⟨0, (some 6), none, .move (.tmp 0), []⟩,
  ⟨1, (some 7), none, .nilCheck (.tmp 6), []⟩,
  ⟨2, (some 8), none, .fieldAddr 7 (.tmp 7), []⟩,
  ⟨3, (some 9), none, .load none (.tmp 8), []⟩,
  ⟨4, (some 10), none, .nilCheck (.tmp 9), []⟩,
  ⟨5, (some 11), none, .fieldAddr 4 (.tmp 10), []⟩,
  ⟨6, (some 12), none, .load none (.tmp 11), []⟩,
  ⟨7, (some 13), none, .len .slice (.tmp 12), []⟩,
  ⟨8, (some 14), none, .move (.const (.int .i64 (.ofNat 0))), []⟩]
def n_core_machine_atoms_r3 : List NI := [
  ⟨0, (some 15), none, .bin .lss (some .int) (.tmp 14) (.tmp 13), []⟩]
def n_core_machine_atoms_r4 : List NI := [
  ⟨0, (some 16), none, .indexAddr 3 none (.tmp 12) (.tmp 14), []⟩,
  ⟨1, (some 17), none, .load (some 3) (.tmp 16), []⟩,
  ⟨2, (some 5), none, .zero [(.int .i64 (.ofNat 0)), (.int .i64 (.ofNat 0)), (.str [])], []⟩,
  ⟨3, none, none, .store 3 (.tmp 5) (.tmp 17), []⟩]
def n_core_machine_atoms_r5 : List NI := [
  ⟨0, (some 18), none, .fieldAddr 0 (.tmp 5), []⟩,
  ⟨1, (some 19), none, .load none (.tmp 18), []⟩]
def n_core_machine_atoms_r6 : List NI := [
  ⟨0, (some 27), none, .bin .eql (some .int) (.tmp 19) (.const (.int .i64 (.ofNat 1))), []⟩,
  ⟨1, (some 26), none, .move (.tmp 27), []⟩]
def n_core_machine_atoms_r7 : List NI := [
  ⟨0, (some 28), none, .move (.tmp 3), []⟩,
  ⟨1, (some 29), none, .move (.tmp 0), []⟩,
  ⟨2, (some 30), none, .nilCheck (.tmp 29), []⟩,
  ⟨3, (some 31), none, .fieldAddr 8 (.tmp 30), []⟩,
  ⟨4, (some 32), none, .load none (.tmp 31), []⟩,
  ⟨5, (some 33), none, .fieldAddr 1 (.tmp 5), []⟩,
  ⟨6, (some 34), none, .load none (.tmp 33), []⟩,
  ⟨7, (some 35), none, .call (.const (.func 132 [] [])) [(.tmp 32), (.tmp 34)], []⟩,
  ⟨8, (some 36), none, .buildSlice 1 1 [.nilptr] [(0, 1, (.tmp 35))], []⟩,
  ⟨9, (some 37), none, .append false 1 8 (.tmp 28) (.tmp 36), []⟩,
  ⟨10, (some 3), none, .move (.tmp 37), []⟩]
def n_core_machine_atoms_r8 : List NI := [
  ⟨0, (some 39), none, .bin .eql (some .int) (.tmp 19) (.const (.int .i64 (.ofNat 2))), []⟩,
  ⟨1, (some 38), none, .move (.tmp 39), []⟩]
def n_core_machine_atoms_r9 : List NI := [
  ⟨0, (some 40), none, .move (.tmp 3), []⟩,
  ⟨1, (some 41), none, .fieldAddr 1 (.tmp 5), []⟩,
  ⟨2, (some 42), none, .load none (.tmp 41), []⟩,
  ⟨3, (some 43), none, .call (.const (.func 71 [] [])) [(.tmp 42)], []⟩,
  ⟨4, (some 44), none, .buildSlice 1 1 [.nilptr] [(0, 1, (.tmp 43))], []⟩,
  ⟨5, (some 45), none, .append false 1 8 (.tmp 40) (.tmp 44), []⟩,
  ⟨6, (some 3), none, .move (.tmp 45), []⟩]
def n_core_machine_atoms_r10 : List NI := [
  ⟨0, (some 20), none, .move (.tmp 3), []⟩,
  ⟨1, (some 21), none, .fieldAddr 2 (.tmp 5), []⟩,
  ⟨2, (some 22), none, .load none (.tmp 21), []⟩,
  ⟨3, (some 23), none, .call (.const (.func 131 [] [])) [(.tmp 22)], []⟩,
  ⟨4, (some 24), none, .buildSlice 1 1 [.nilptr] [(0, 1, (.tmp 23))], []⟩,
  ⟨5, (some 25), none, .append false 1 8 (.tmp 20) (.tmp 24), []⟩,
  ⟨6, (some 3), none, .move (.tmp 25), []⟩]
def n_core_machine_atoms_r11 : List NI := [
  ⟨0, (some 46), none, .bin .add (some .int) (.tmp 14) (.const (.int .i64 (.ofNat 1))), []⟩,
  ⟨1, (some 14), none, .move (.tmp 46), []⟩]
def n_core_machine_atoms_l12 : NC := (.seq (.region n_core_machine_atoms_r3 []) (.seq (.cond (.tmp 15) .skip (.exit 0)) (.seq (.block 1 (.seq (.region n_core_machine_atoms_r4 []) (.seq (.region n_core_machine_atoms_r5 []) (.block 2 (.seq (.region n_core_machine_atoms_r6 []) (.cond (.tmp 26) (.region n_core_machine_atoms_r7 []) (.seq (.region n_core_machine_atoms_r8 []) (.cond (.tmp 38) (.region n_core_machine_atoms_r9 []) (.region n_core_machine_atoms_r10 []))))))))) (.region n_core_machine_atoms_r11 []))))
def n_core_machine_atoms_r13 : List NI := [
  ⟨0, (some 47), none, .move (.tmp 3), []⟩,
  ⟨1, (some 2), none, .move (.tmp 47), []⟩]
def n_core_machine_atoms : NFn := ⟨1, 48, [.slot 2], (.seq (.region n_core_machine_atoms_r0 []) (.seq (.region n_core_machine_atoms_r1 []) (.seq (.seq (.region n_core_machine_atoms_r2 []) (.block 0 (.loop n_core_machine_atoms_l12))) (.seq (.region n_core_machine_atoms_r13 []) .ret))))⟩
theorem c_core_machine_atoms : compFn Tryz.prog F_core_machine_atoms = some n_core_machine_atoms := by kernel_rfl
theorem k_core_machine_atoms : n_core_machine_atoms.ok = true := by kernel_rfl

/-! (*gimlet/core.machine).tells -/
abbrev F_core_machine_tells : Nat := 93
def n_core_machine_tells_r0 : List NI := [
  ⟨0, (some 7), none, .move (.tmp 0), []⟩,
  ⟨1, (some 8), none, .call (.const (.func 133 [] [])) [(.tmp 7)], []⟩,
  ⟨2, (some 6), none, .move (.tmp 8), []⟩,
  ⟨3, (some 9), none, .extract (.tmp 6) 0, []⟩,
  ⟨4, (some 10), none, .extract (.tmp 6) 1, []⟩,
  ⟨5, (some 4), none, .zero [(.bool false), (.int .i64 (.ofNat 0)), .nilptr, .nilptr], []⟩,
  ⟨6, none, none, .store 4 (.tmp 4) (.tmp 9), []⟩,
  ⟨7, (some 5), none, .move (.tmp 10), []⟩]
def n_core_machine_tells_r1 : List NI := [
  ⟨0, (some 12), none, .move (.tmp 5), []⟩,
  ⟨1, (some 13), none, .un .not (.tmp 12), []⟩,
  ⟨2, (some 11), none, .move (.tmp 13), []⟩]
def n_core_machine_tells_r2 : List NI := [
  ⟨0, (some 14), none, .move (.tmp 0), []⟩,
  ⟨1, (some 15), none, .call (.const (.func 95 [] [])) [(.tmp 14), (.const (.int .i64 (.ofNat 0)))], []⟩]
def n_core_machine_tells_r3 : List NI := [
  ⟨0, (some 17), none, .fieldAddr 0 (.tmp 4), []⟩,
  ⟨1, (some 18), none, .load none (.tmp 17), []⟩,
  ⟨2, (some 19), none, .un .not (.tmp 18), []⟩,
  ⟨3, (some 16), none, .move (.tmp 19), []⟩]
def n_core_machine_tells_r4 : List NI := [
  ⟨0, (some 20), none, .move (.tmp 0), []⟩,
  ⟨1, (some 21), none, .load (some 4) (.tmp 4), []⟩,
  ⟨2, (some 22), none, .move (.tmp 1), []⟩,
  ⟨3, (some 23), none, .call (.const (.func 134 [] [])) [(.tmp 20), (.tmp 21), (.tmp 22)], []⟩]
def n_core_machine_tells_l5 : NC := (.block 1 (.seq (.region n_core_machine_tells_r0 []) (.block 2 (.seq (.region n_core_machine_tells_r1 []) (.cond (.tmp 11) (.seq (.region n_core_machine_tells_r2 []) .ret) (.seq (.region n_core_machine_tells_r3 []) (.cond (.tmp 16) (.seq (.region n_core_machine_tells_r4 []) .ret) .skip)))))))
def n_core_machine_tells : NFn := ⟨2, 24, [], (.block 0 (.loop n_core_machine_tells_l5))⟩
theorem c_core_machine_tells : compFn Tryz.prog F_core_machine_tells = some n_core_machine_tells := by kernel_rfl
theorem k_core_machine_tells : n_core_machine_tells.ok = true := by kernel_rfl

/-! gimlet/core.thing -/
abbrev F_core_thing : Nat := 94
def n_core_thing_r0 : List NI := [
  ⟨0, (some 4), none, .move (.const .nilptr), []⟩]
def n_core_thing_r1 : List NI := [
  ⟨0, (some 5), none, .move (.tmp 0), []⟩,
  ⟨1, (some 6), none, .move (.tmp 1), []⟩,
  ⟨2, (some 7), none, .build [(.int .i64 (.ofNat 0)), (.int .i64 (.ofNat 0)), (.str []), .nilslice, .nilptr, .nilptr, (.bool false)] [(0, 1, (.const (.int .i64 (.ofNat 4)))), (1, 1, (.tmp 5)), (3, 1, (.tmp 6))], []⟩,
  ⟨3, (some 8), none, .box (.tmp 7), []⟩,
  ⟨4, (some 4), none, .move (.tmp 8), []⟩]
def n_core_thing : NFn := ⟨2, 9, [.slot 4], (.seq (.region n_core_thing_r0 []) (.seq (.region n_core_thing_r1 []) .ret))⟩
theorem c_core_thing : compFn Tryz.prog F_core_thing = some n_core_thing := by kernel_rfl
theorem k_core_thing : n_core_thing.ok = true := by kernel_rfl

/-! (*gimlet/core.machine).ends -/
abbrev F_core_machine_ends : Nat := 95
def n_core_machine_ends_r0 : List NI := [
  ⟨0, (some 4), none, .move (.tmp 0), []⟩,
  ⟨1, (some 5), none, .move (.tmp 0), []⟩,
  ⟨2, (some 6), none, .move (.tmp 1), []⟩,
  ⟨3, (some 7), none, .nilCheck (.tmp 4), []⟩,
  ⟨4, (some 8), none, .fieldAddr 6 (.tmp 7), []⟩,
  ⟨5, none, none, .store 1 (.tmp 8) (.const (.bool true)), []⟩,
  ⟨6, (some 9), none, .nilCheck (.tmp 5), []⟩,
  ⟨7, (some 10), none, .fieldAddr 1 (.tmp 9), []⟩,
  ⟨8, (some 11), none, .fieldAddr 0 (.tmp 10), []⟩,
  ⟨9, none, none, .store 1 (.tmp 11) (.tmp 6), []⟩]
def n_core_machine_ends : NFn := ⟨2, 12, [], (.region n_core_machine_ends_r0 [])⟩
theorem c_core_machine_ends : compFn Tryz.prog F_core_machine_ends = some n_core_machine_ends := by kernel_rfl
theorem k_core_machine_ends : n_core_machine_ends.ok = true := by kernel_rfl

/-! (*gimlet/core.machine).call -/
abbrev F_core_machine_call : Nat := 96
def n_core_machine_call_r0 : List NI := [
  ⟨0, (some 49), none, .move (.tmp 1), []⟩,
  ⟨1, (some 50), none, .nilCheck (.tmp 49), []⟩,
  ⟨2, (some 51), none, .fieldAddr 0 (.tmp 50), []⟩,
  ⟨3, (some 52), none, .load none (.tmp 51), []⟩,
  ⟨4, (some 53), none, .bin .neq (some .int) (.tmp 52) (.const (.int .i64 (.ofNat 3))), []⟩,
  ⟨5, (some 48), none, .move (.tmp 53), []⟩]
def n_core_machine_call_r1 : List NI := [
  ⟨0, (some 54), none, .move (.tmp 0), []⟩,
  ⟨1, (some 55), none, .call (.const (.func 95 [] [])) [(.tmp 54), (.const (.int .i64 (.ofNat 6)))], []⟩]
def n_core_machine_call_r2 : List NI := [
  ⟨0, (some 57), none, .move (.tmp 1), []⟩,
  ⟨1, (some 58), none, .nilCheck (.tmp 57), []⟩,
  ⟨2, (some 59), none, .fieldAddr 6 (.tmp 58), []⟩,
  ⟨3, (some 60), none, .load none (.tmp 59), []⟩,
  ⟨4, (some 61), none, .un .not (.tmp 60), []⟩,
  ⟨5, (some 56), none, .move (.tmp 61), []⟩]
def n_core_machine_call_r3 : List NI := [
  ⟨0, (some 62), none, .move (.tmp 0), []⟩,
  ⟨1, (some 63), none, .move (.tmp 0), []⟩,
  ⟨2, (some 64), none, .move (.tmp 1), []⟩,
  ⟨3, (some 65), none, .nilCheck (.tmp 64), []⟩,
  ⟨4, (some 66), none, .fieldAddr 4 (.tmp 65), []⟩,
  ⟨5, (some 67), none, .load none (.tmp 66), []⟩,
  ⟨6, (some 68), none, .move (.tmp 1), []⟩,
  ⟨7, (some 69), none, .nilCheck (.tmp 68), []⟩,
  ⟨8, (some 70), none, .fieldAddr 5 (.tmp 69), []⟩,
  ⟨9, (some 71), none, .load none (.tmp 70), []⟩,
  ⟨10, (some 72), none, .move (.tmp 1), []⟩,
  ⟨11, (some 73), none, .nilCheck (.tmp 72), []⟩,
  ⟨12, (some 74), none, .fieldAddr 1 (.tmp 73), []⟩,
  ⟨13, (some 75), none, .load none (.tmp 74), []⟩,
  ⟨14, (some 76), none, .move (.tmp 2), []⟩,
  ⟨15, (some 77), none, .call (.const (.func 135 [] [])) [(.tmp 71), (.tmp 75), (.tmp 76)], [((some 67), none, .load none (.tmp 66))]⟩,
  ⟨16, (some 78), none, .nilCheck (.tmp 62), []⟩,
  ⟨17, (some 79), none, .fieldAddr 7 (.tmp 78), []⟩,
  ⟨18, none, none, .store 1 (.tmp 79) (.tmp 67), []⟩,
  ⟨19, (some 80), none, .nilCheck (.tmp 63), []⟩,
  ⟨20, (some 81), none, .fieldAddr 8 (.tmp 80), []⟩,
  ⟨21, none, none, .store 1 (.tmp 81) (.tmp 77), []⟩]
def n_core_machine_call_r4 : List NI := [
  ⟨0, (some 8), none, .move (.tmp 0), []⟩,
  ⟨1, (some 9), none, .move (.tmp 0), []⟩,
  ⟨2, (some 10), none, .nilCheck (.tmp 9), []⟩,
  ⟨3, (some 11), none, .fieldAddr 10 (.tmp 10), []⟩,
  ⟨4, (some 12), none, .load none (.tmp 11), []⟩,
  ⟨5, (some 13), none, .move (.tmp 1), []⟩,
  ⟨6, (some 14), none, .nilCheck (.tmp 13), []⟩,
  ⟨7, (some 15), none, .fieldAddr 1 (.tmp 14), []⟩,
  ⟨8, (some 16), none, .load none (.tmp 15), []⟩,
  ⟨9, (some 17), none, .indexAddr 8 none (.tmp 12) (.tmp 16), []⟩,
  ⟨10, (some 18), none, .fieldAddr 1 (.tmp 17), []⟩,
  ⟨11, (some 19), none, .nilCheck (.tmp 8), []⟩,
  ⟨12, (some 20), none, .fieldAddr 7 (.tmp 19), []⟩,
  ⟨13, none, none, .store 1 (.tmp 20) (.tmp 18), []⟩]
def n_core_machine_call_r5 : List NI := [
  ⟨0, (some 21), none, .move (.tmp 0), []⟩,
  ⟨1, (some 22), none, .move (.tmp 2), []⟩,
  ⟨2, (some 23), none, .call (.const (.func 135 [] [])) [(.const .nilptr), (.const (.int .i64 (.ofNat 0))), (.tmp 22)], []⟩,
  ⟨3, (some 24), none, .nilCheck (.tmp 21), []⟩,
  ⟨4, (some 25), none, .fieldAddr 8 (.tmp 24), []⟩,
  ⟨5, none, none, .store 1 (.tmp 25) (.tmp 23), []⟩]
def n_core_machine_call_r6 : List NI := [
  ⟨0, (some 26), none, .move (.tmp 1), []⟩,
  ⟨1, (some 27), none, .nilCheck (.tmp 26), []⟩,
  ⟨2, (some 28), none, .fieldAddr 3 (.tmp 27), []⟩,
  ⟨3, (some 29), none, .load none (.tmp 28), []⟩,
  ⟨4, (some 30), none, .len .slice (.tmp 29), []⟩,
  ⟨5, (some 31), none, .move (.const (.int .i64 (.ofNat 0))), []⟩]
def n_core_machine_call_r7 : List NI := [
  ⟨0, (some 32), none, .bin .lss (some .int) (.tmp 31) (.tmp 30), []⟩]
def n_core_machine_call_r8 : List NI := [
  ⟨0, (some 33), none, .move (.tmp 31), []⟩,
  ⟨1, (some 34), none, .indexAddr 1 none (.tmp 29) (.tmp 31), []⟩,
  ⟨2, (some 35), none, .load none (.tmp 34), []⟩,
  ⟨3, (some 6), none, .move (.tmp 33), []⟩,
  ⟨4, (some 7), none, .move (.tmp 35), []⟩]
def n_core_machine_call_r9 : List NI := [
  ⟨0, (some 36), none, .move (.tmp 0), []⟩,
  ⟨1, (some 37), none, .move (.tmp 0), []⟩,
  ⟨2, (some 38), none, .nilCheck (.tmp 37), []⟩,
  ⟨3, (some 39), none, .fieldAddr 8 (.tmp 38), []⟩,
  ⟨4, (some 40), none, .load none (.tmp 39), []⟩,
  ⟨5, (some 41), none, .move (.tmp 6), []⟩,
  ⟨6, (some 42), none, .bin .add (some .int) (.const (.int .i64 (.ofNat 1))) (.tmp 41), []⟩,
  ⟨7, (some 43), none, .move (.tmp 7), []⟩,
  ⟨8, (some 44), none, .call (.const (.func 135 [] [])) [(.tmp 40), (.tmp 42), (.tmp 43)], []⟩,
  ⟨9, (some 45), none, .nilCheck (.tmp 36), []⟩,
  ⟨10, (some 46), none, .fieldAddr 8 (.tmp 45), []⟩,
  ⟨11, none, none, .store 1 (.tmp 46) (.tmp 44), []⟩]
def n_core_machine_call_r10 : List NI := [
  ⟨0, (some 47), none, .bin .add (some .int) (.tmp 31) (.const (.int .i64 (.ofNat 1))), []⟩,
  ⟨1, (some 31), none, .move (.tmp 47), []⟩]
def n_core_machine_call_l11 : NC := (.seq (.region n_core_machine_call_r7 []) (.seq (.cond (.tmp 32) .skip (.exit 1)) (.seq (.block 2 (.seq (.region n_core_machine_call_r8 []) (.region n_core_machine_call_r9 []))) (.region n_core_machine_call_r10 []))))
def n_core_machine_call : NFn := ⟨3, 82, [], (.block 0 (.seq (.region n_core_machine_call_r0 []) (.cond (.tmp 48) (.region n_core_machine_call_r1 []) (.seq (.region n_core_machine_call_r2 []) (.cond (.tmp 56) (.region n_core_machine_call_r3 []) (.seq (.region n_core_machine_call_r4 []) (.seq (.region n_core_machine_call_r5 []) (.seq (.region n_core_machine_call_r6 []) (.block 1 (.loop n_core_machine_call_l11))))))))))⟩
theorem c_core_machine_call : compFn Tryz.prog F_core_machine_call = some n_core_machine_call := by kernel_rfl
theorem k_core_machine_call : n_core_machine_call.ok = true := by kernel_rfl

/-! (*gimlet/core.machine).rec -/
abbrev F_core_machine_rec : Nat := 97
def n_core_machine_rec_r0 : List NI := [
  ⟨0, (some 9), none, .move (.tmp 0), []⟩,
  ⟨1, (some 10), none, .nilCheck (.tmp 9), []⟩,
  ⟨2, (some 11), none, .fieldAddr 7 (.tmp 10), []⟩,
  ⟨3, (some 12), none, .load none (.tmp 11), []⟩,
  ⟨4, (some 13), none, .nilCheck (.tmp 12), []⟩,
  ⟨5, (some 14), none, .fieldAddr 6 (.tmp 13), []⟩,
  ⟨6, (some 15), none, .load none (.tmp 14), []⟩,
  ⟨7, (some 16), none, .len .slice (.tmp 15), []⟩,
  ⟨8, (some 17), none, .bin .sub (some .int) (.tmp 16) (.const (.int .i64 (.ofNat 1))), []⟩,
  ⟨9, (some 2), none, .move (.tmp 17), []⟩]
def n_core_machine_rec_r1 : List NI := [
  ⟨0, (some 3), none, .move (.const .nilslice), []⟩]
def n_core_machine_rec_r2 : List NI := [
  ⟨0, (some 18), none, .move (.tmp 0), []⟩,
  ⟨1, (some 19), none, .nilCheck (.tmp 18), []⟩,
  ⟨2, (some 20), none, .fieldAddr 7 (.tmp 19), []⟩,
  ⟨3, (some 21), none, .load none (.tmp 20), []⟩,
  ⟨4, (some 22), none, .nilCheck (.tmp 21), []⟩,
  ⟨5, (some 23), none, .fieldAddr 6 (.tmp 22), []⟩,
  ⟨6, (some 24), none, .load none (.tmp 23), []⟩,
  ⟨7, (some 25), none, .move (.tmp 2), []⟩,
  ⟨8, (some 26), none, .slice (some 7) (.tmp 24) none (some (.tmp 25)) none, []⟩,
  ⟨9, (some 27), none, .len .slice (.tmp 26), []⟩,
  ⟨10, (some 28), none, .move (.const (.int .i64 (.ofNat 0))), []⟩]
def n_core_machine_rec_r3 : List NI := [
  ⟨0, (some 29), none, .bin .lss (some .int) (.tmp 28) (.tmp 27), []⟩]
def n_core_machine_rec_r4 : List NI := [
  ⟨0, (some 30), none, .move (.tmp 28), []⟩,
  ⟨1, (some 4), none, .move (.tmp 30), []⟩]
def n_core_machine_rec_r5 : List NI := [
  ⟨0, (some 31), none, .move (.tmp 0), []⟩,
  ⟨1, (some 32), none, .nilCheck (.tmp 31), []⟩,
  ⟨2, (some 33), none, .fieldAddr 7 (.tmp 32), []⟩,
  ⟨3, (some 34), none, .load none (.tmp 33), []⟩,
  ⟨4, (some 35), none, .nilCheck (.tmp 34), []⟩,
  ⟨5, (some 36), none, .fieldAddr 6 (.tmp 35), []⟩,
  ⟨6, (some 37), none, .load none (.tmp 36), []⟩,
  ⟨7, (some 38), none, .move (.tmp 4), []⟩,
  ⟨8, (some 39), none, .indexAddr 7 none (.tmp 37) (.tmp 38), []⟩,
  ⟨9, (some 5), none, .move (.tmp 39), []⟩]
def n_core_machine_rec_r6 : List NI := [
  ⟨0, (some 40), none, .move (.tmp 5), []⟩,
  ⟨1, (some 41), none, .nilCheck (.tmp 40), []⟩,
  ⟨2, (some 42), none, .fieldAddr 1 (.tmp 41), []⟩,
  ⟨3, (some 43), none, .load none (.tmp 42), []⟩,
  ⟨4, (some 44), none, .move (.tmp 5), []⟩,
  ⟨5, (some 45), none, .nilCheck (.tmp 44), []⟩,
  ⟨6, (some 46), none, .fieldAddr 6 (.tmp 45), []⟩,
  ⟨7, (some 47), none, .load none (.tmp 46), []⟩,
  ⟨8, (some 48), none, .indexAddr 7 none (.tmp 47) (.const (.int .i64 (.ofNat 0))), []⟩,
  ⟨9, (some 49), none, .build [(.int .i64 (.ofNat 0)), (.int .i64 (.ofNat 0)), (.str []), .nilslice, .nilptr, .nilptr, (.bool false)] [(0, 1, (.const (.int .i64 (.ofNat 3)))), (1, 1, (.tmp 43)), (4, 1, (.tmp 48))], []⟩,
  ⟨10, (some 50), none, .box (.tmp 49), []⟩,
  ⟨11, (some 6), none, .move (.tmp 50), []⟩]
def n_core_machine_rec_r7 : List NI := [
  ⟨0, (some 51), none, .move (.tmp 3), []⟩,
  ⟨1, (some 52), none, .move (.tmp 6), []⟩,
  ⟨2, (some 53), none, .buildSlice 1 1 [.nilptr] [(0, 1, (.tmp 52))], []⟩,
  ⟨3, (some 54), none, .append false 1 8 (.tmp 51) (.tmp 53), []⟩,
  ⟨4, (some 3), none, .move (.tmp 54), []⟩]
def n_core_machine_rec_r8 : List NI := [
  ⟨0, (some 55), none, .move (.tmp 0), []⟩,
  ⟨1, (some 56), none, .move (.tmp 0), []⟩,
  ⟨2, (some 57), none, .nilCheck (.tmp 56), []⟩,
  ⟨3, (some 58), none, .fieldAddr 8 (.tmp 57), []⟩,
  ⟨4, (some 59), none, .load none (.tmp 58), []⟩,
  ⟨5, (some 60), none, .move (.tmp 5), []⟩,
  ⟨6, (some 61), none, .nilCheck (.tmp 60), []⟩,
  ⟨7, (some 62), none, .fieldAddr 2 (.tmp 61), []⟩,
  ⟨8, (some 63), none, .load none (.tmp 62), []⟩,
  ⟨9, (some 64), none, .move (.tmp 6), []⟩,
  ⟨10, (some 65), none, .call (.const (.func 135 [] [])) [(.tmp 59), (.tmp 63), (.tmp 64)], []⟩,
  ⟨11, (some 66), none, .nilCheck (.tmp 55), []⟩,
  ⟨12, (some 67), none, .fieldAddr 8 (.tmp 66), []⟩,
  ⟨13, none, none, .store 1 (.tmp 67) (.tmp 65), []⟩]
def n_core_machine_rec_r9 : List NI := [
  ⟨0, (some 68), none, .bin .add (some .int) (.tmp 28) (.const (.int .i64 (.ofNat 1))), []⟩,
  ⟨1, (some 28), none, .move (.tmp 68), []⟩]
def n_core_machine_rec_l10 : NC := (.seq (.region n_core_machine_rec_r3 []) (.seq (.cond (.tmp 29) .skip (.exit 0)) (.seq (.block 1 (.seq (.region n_core_machine_rec_r4 []) (.seq (.region n_core_machine_rec_r5 []) (.seq (.region n_core_machine_rec_r6 []) (.seq (.region n_core_machine_rec_r7 []) (.region n_core_machine_rec_r8 [])))))) (.region n_core_machine_rec_r9 []))))
def n_core_machine_rec_r11 : List NI := [
  ⟨0, (some 69), none, .move (.tmp 3), []⟩,
  ⟨1, (some 70), none, .len .slice (.tmp 69), []⟩,
  ⟨2, (some 71), none, .move (.const (.int .i64 (.ofNat 0))), []⟩]
def n_core_machine_rec_r12 : List NI := [
  ⟨0, (some 72), none, .bin .lss (some .int) (.tmp 71) (.tmp 70), []⟩]
def n_core_machine_rec_r13 : List NI := [
  ⟨0, (some 73), none, .indexAddr 1 none (.tmp 69) (.tmp 71), []⟩,
  ⟨1, (some 74), none, .load none (.tmp 73), []⟩,
  ⟨2, (some 8), none, .move (.tmp 74), []⟩]
def n_core_machine_rec_r14 : List NI := [
  ⟨0, (some 75), none, .move (.tmp 8), []⟩,
  ⟨1, (some 76), none, .move (.tmp 0), []⟩,
  ⟨2, (some 77), none, .nilCheck (.tmp 76), []⟩,
  ⟨3, (some 78), none, .fieldAddr 8 (.tmp 77), []⟩,
  ⟨4, (some 79), none, .load none (.tmp 78), []⟩,
  ⟨5, (some 80), none, .nilCheck (.tmp 75), []⟩,
  ⟨6, (some 81), none, .fieldAddr 5 (.tmp 80), []⟩,
  ⟨7, none, none, .store 1 (.tmp 81) (.tmp 79), []⟩]
def n_core_machine_rec_r15 : List NI := [
  ⟨0, (some 82), none, .bin .add (some .int) (.tmp 71) (.const (.int .i64 (.ofNat 1))), []⟩,
  ⟨1, (some 71), none, .move (.tmp 82), []⟩]
def n_core_machine_rec_l16 : NC := (.seq (.region n_core_machine_rec_r12 []) (.seq (.cond (.tmp 72) .skip (.exit 2)) (.seq (.block 3 (.seq (.region n_core_machine_rec_r13 []) (.region n_core_machine_rec_r14 []))) (.region n_core_machine_rec_r15 []))))
def n_core_machine_rec_r17 : List NI := [
  ⟨0, (some 83), none, .move (.tmp 0), []⟩,
  ⟨1, (some 84), none, .move (.tmp 0), []⟩,
  ⟨2, (some 85), none, .nilCheck (.tmp 84), []⟩,
  ⟨3, (some 86), none, .fieldAddr 7 (.tmp 85), []⟩,
  ⟨4, (some 87), none, .load none (.tmp 86), []⟩,
  ⟨5, (some 88), none, .nilCheck (.tmp 87), []⟩,
  ⟨6, (some 89), none, .fieldAddr 6 (.tmp 88), []⟩,
  ⟨7, (some 90), none, .load none (.tmp 89), []⟩,
  ⟨8, (some 91), none, .move (.tmp 2), []⟩,
  ⟨9, (some 92), none, .indexAddr 7 none (.tmp 90) (.tmp 91), []⟩,
  ⟨10, (some 93), none, .nilCheck (.tmp 83), []⟩,
  ⟨11, (some 94), none, .fieldAddr 7 (.tmp 93), []⟩,
  ⟨12, none, none, .store 1 (.tmp 94) (.tmp 92), []⟩]
def n_core_machine_rec : NFn := ⟨1, 95, [], (.seq (.region n_core_machine_rec_r0 []) (.seq (.region n_core_machine_rec_r1 []) (.seq (.seq (.region n_core_machine_rec_r2 []) (.block 0 (.loop n_core_machine_rec_l10))) (.seq (.seq (.region n_core_machine_rec_r11 []) (.block 2 (.loop n_core_machine_rec_l16))) (.region n_core_machine_rec_r17 [])))))⟩
theorem c_core_machine_rec : compFn Tryz.prog F_core_machine_rec = some n_core_machine_rec := by kernel_rfl
theorem k_core_machine_rec : n_core_machine_rec.ok = true := by kernel_rfl

/-! (*gimlet/core.machine).group -/
abbrev F_core_machine_group : Nat := 98
def n_core_machine_group_r0 : List NI := [
  ⟨0, (some 4), none, .move (.const .nilslice), []⟩]
def n_core_machine_group_r1 : List NI := [
  ⟨0, (some 10), none, .move (.tmp 0), []⟩,
  ⟨1, (some 11), none, .nilCheck (.tmp 10), []⟩,
  ⟨2, (some 12), none, .fieldAddr 7 (.tmp 11), []⟩,
  ⟨3, (some 13), none, .load none (.tmp 12), []⟩,
  ⟨4, (some 14), none, .nilCheck (.tmp 13), []⟩,
  ⟨5, (some 15), none, .fieldAddr 5 (.tmp 14), []⟩,
  ⟨6, (some 16), none, .load none (.tmp 15), []⟩,
  ⟨7, (some 17), none, .len .slice (.tmp 16), []⟩,
  ⟨8, (some 18), none, .move (.const (.int .i64 (.ofNat 0))), []⟩]
def n_core_machine_group_r2 : List NI := [
  ⟨0, (some 19), none, .bin .lss (some .int) (.tmp 18) (.tmp 17), []⟩]
def n_core_machine_group_r3 : List NI := [
  ⟨0, (some 20), none, .move (.tmp 18), []⟩,
  ⟨1, (some 21), none, .indexAddr 1 none (.tmp 16) (.tmp 18), []⟩,
  ⟨2, (some 22), none, .load none (.tmp 21), []⟩,
  ⟨3, (some 5), none, .move (.tmp 20), []⟩,
  ⟨4, (some 6), none, .move (.tmp 22), []⟩]
def n_core_machine_group_r4 : List NI := [
  ⟨0, (some 23), none, .move (.tmp 6), []⟩,
  ⟨1, (some 24), none, .build [(.int .i64 (.ofNat 0)), (.int .i64 (.ofNat 0)), (.str []), .nilslice, .nilptr, .nilptr, (.bool false)] [(0, 1, (.const (.int .i64 (.ofNat 3)))), (1, 1, (.tmp 23)), (6, 1, (.const (.bool true)))], []⟩,
  ⟨2, (some 25), none, .box (.tmp 24), []⟩,
  ⟨3, (some 7), none, .move (.tmp 25), []⟩]
def n_core_machine_group_r5 : List NI := [
  ⟨0, (some 26), none, .move (.tmp 4), []⟩,
  ⟨1, (some 27), none, .move (.tmp 7), []⟩,
  ⟨2, (some 28), none, .buildSlice 1 1 [.nilptr] [(0, 1, (.tmp 27))], []⟩,
  ⟨3, (some 29), none, .append false 1 8 (.tmp 26) (.tmp 28), []⟩,
  ⟨4, (some 4), none, .move (.tmp 29), []⟩]
def n_core_machine_group_r6 : List NI := [
  ⟨0, (some 30), none, .move (.tmp 0), []⟩,
  ⟨1, (some 31), none, .move (.tmp 0), []⟩,
  ⟨2, (some 32), none, .nilCheck (.tmp 31), []⟩,
  ⟨3, (some 33), none, .fieldAddr 8 (.tmp 32), []⟩,
  ⟨4, (some 34), none, .load none (.tmp 33), []⟩,
  ⟨5, (some 35), none, .move (.tmp 0), []⟩,
  ⟨6, (some 36), none, .nilCheck (.tmp 35), []⟩,
  ⟨7, (some 37), none, .fieldAddr 7 (.tmp 36), []⟩,
  ⟨8, (some 38), none, .load none (.tmp 37), []⟩,
  ⟨9, (some 39), none, .nilCheck (.tmp 38), []⟩,
  ⟨10, (some 40), none, .fieldAddr 1 (.tmp 39), []⟩,
  ⟨11, (some 41), none, .load none (.tmp 40), []⟩,
  ⟨12, (some 42), none, .move (.tmp 5), []⟩,
  ⟨13, (some 43), none, .bin .add (some .int) (.tmp 41) (.tmp 42), []⟩,
  ⟨14, (some 44), none, .move (.tmp 7), []⟩,
  ⟨15, (some 45), none, .call (.const (.func 135 [] [])) [(.tmp 34), (.tmp 43), (.tmp 44)], []⟩,
  ⟨16, (some 46), none, .nilCheck (.tmp 30), []⟩,
  ⟨17, (some 47), none, .fieldAddr 8 (.tmp 46), []⟩,
  ⟨18, none, none, .store 1 (.tmp 47) (.tmp 45), []⟩]
def n_core_machine_group_r7 : List NI := [
  ⟨0, (some 48), none, .bin .add (some .int) (.tmp 18) (.const (.int .i64 (.ofNat 1))), []⟩,
  ⟨1, (some 18), none, .move (.tmp 48), []⟩]
def n_core_machine_group_l8 : NC := (.seq (.region n_core_machine_group_r2 []) (.seq (.cond (.tmp 19) .skip (.exit 0)) (.seq (.block 1 (.seq (.region n_core_machine_group_r3 []) (.seq (.region n_core_machine_group_r4 []) (.seq (.region n_core_machine_group_r5 []) (.region n_core_machine_group_r6 []))))) (.region n_core_machine_group_r7 []))))
def n_core_machine_group_r9 : List NI := [
  ⟨0, (some 49), none, .move (.tmp 4), []⟩,
  ⟨1, (some 50), none, .len .slice (.tmp 49), []⟩,
  ⟨2, (some 51), none, .move (.const (.int .i64 (.ofNat 0))), []⟩]
def n_core_machine_group_r10 : List NI := [
  ⟨0, (some 52), none, .bin .lss (some .int) (.tmp 51) (.tmp 50), []⟩]
def n_core_machine_group_r11 : List NI := [
  ⟨0, (some 53), none, .indexAddr 1 none (.tmp 49) (.tmp 51), []⟩,
  ⟨1, (some 54), none, .load none (.tmp 53), []⟩,
  ⟨2, (some 9), none, .move (.tmp 54), []⟩]
def n_core_machine_group_r12 : List NI := [
  ⟨0, (some 55), none, .move (.tmp 9), []⟩,
  ⟨1, (some 56), none, .buildSlice 1 0 [] [], []⟩,
  ⟨2, (some 57), none, .move (.tmp 1), []⟩,
  ⟨3, (some 58), none, .append false 1 8 (.tmp 56) (.tmp 57), []⟩,
  ⟨4, (some 59), none, .move (.tmp 4), []⟩,
  ⟨5, (some 60), none, .append false 1 8 (.tmp 58) (.tmp 59), []⟩,
  ⟨6, (some 61), none, .nilCheck (.tmp 55), []⟩,
  ⟨7, (some 62), none, .fieldAddr 3 (.tmp 61), []⟩,
  ⟨8, none, none, .store 1 (.tmp 62) (.tmp 60), []⟩]
def n_core_machine_group_r13 : List NI := [
  ⟨0, (some 63), none, .bin .add (some .int) (.tmp 51) (.const (.int .i64 (.ofNat 1))), []⟩,
  ⟨1, (some 51), none, .move (.tmp 63), []⟩]
def n_core_machine_group_l14 : NC := (.seq (.region n_core_machine_group_r10 []) (.seq (.cond (.tmp 52) .skip (.exit 2)) (.seq (.block 3 (.seq (.region n_core_machine_group_r11 []) (.region n_core_machine_group_r12 []))) (.region n_core_machine_group_r13 []))))
def n_core_machine_group_r15 : List NI := [
  ⟨0, (some 64), none, .move (.tmp 0), []⟩,
  ⟨1, (some 65), none, .move (.tmp 0), []⟩,
  ⟨2, (some 66), none, .nilCheck (.tmp 65), []⟩,
  ⟨3, (some 67), none, .fieldAddr 7 (.tmp 66), []⟩,
  ⟨4, (some 68), none, .load none (.tmp 67), []⟩,
  ⟨5, (some 69), none, .nilCheck (.tmp 68), []⟩,
  ⟨6, (some 70), none, .fieldAddr 6 (.tmp 69), []⟩,
  ⟨7, (some 71), none, .load none (.tmp 70), []⟩,
  ⟨8, (some 72), none, .indexAddr 7 none (.tmp 71) (.const (.int .i64 (.ofNat 0))), []⟩,
  ⟨9, (some 73), none, .nilCheck (.tmp 64), []⟩,
  ⟨10, (some 74), none, .fieldAddr 7 (.tmp 73), []⟩,
  ⟨11, none, none, .store 1 (.tmp 74) (.tmp 72), []⟩]
def n_core_machine_group : NFn := ⟨2, 75, [], (.seq (.region n_core_machine_group_r0 []) (.seq (.seq (.region n_core_machine_group_r1 []) (.block 0 (.loop n_core_machine_group_l8))) (.seq (.seq (.region n_core_machine_group_r9 []) (.block 2 (.loop n_core_machine_group_l14))) (.region n_core_machine_group_r15 []))))⟩
theorem c_core_machine_group : compFn Tryz.prog F_core_machine_group = some n_core_machine_group := by kernel_rfl
theorem k_core_machine_group : n_core_machine_group.ok = true := by kernel_rfl

/-! (*gimlet/core.machine).chooses -/
abbrev F_core_machine_chooses : Nat := 99
def n_core_machine_chooses_r0 : List NI := [
  ⟨0, (some 9), none, .move (.tmp 0), []⟩,
  ⟨1, (some 10), none, .nilCheck (.tmp 9), []⟩,
  ⟨2, (some 11), none, .fieldAddr 7 (.tmp 10), []⟩,
  ⟨3, (some 12), none, .load none (.tmp 11), []⟩,
  ⟨4, (some 13), none, .nilCheck (.tmp 12), []⟩,
  ⟨5, (some 14), none, .fieldAddr 5 (.tmp 13), []⟩,
  ⟨6, (some 15), none, .load none (.tmp 14), []⟩,
  ⟨7, (some 16), none, .len .slice (.tmp 15), []⟩,
  ⟨8, (some 6), none, .move (.tmp 16), []⟩]
def n_core_machine_chooses_r1 : List NI := [
  ⟨0, (some 17), none, .move (.tmp 0), []⟩,
  ⟨1, (some 18), none, .nilCheck (.tmp 17), []⟩,
  ⟨2, (some 19), none, .fieldAddr 7 (.tmp 18), []⟩,
  ⟨3, (some 20), none, .load none (.tmp 19), []⟩,
  ⟨4, (some 21), none, .nilCheck (.tmp 20), []⟩,
  ⟨5, (some 22), none, .fieldAddr 5 (.tmp 21), []⟩,
  ⟨6, (some 23), none, .load none (.tmp 22), []⟩,
  ⟨7, (some 24), none, .len .slice (.tmp 23), []⟩,
  ⟨8, (some 25), none, .move (.const (.int .i64 (.ofNat 0))), []⟩]
def n_core_machine_chooses_r2 : List NI := [
  ⟨0, (some 26), none, .bin .lss (some .int) (.tmp 25) (.tmp 24), []⟩]
def n_core_machine_chooses_r3 : List NI := [
  ⟨0, (some 27), none, .move (.tmp 25), []⟩,
  ⟨1, (some 28), none, .indexAddr 1 none (.tmp 23) (.tmp 25), []⟩,
  ⟨2, (some 29), none, .load none (.tmp 28), []⟩,
  ⟨3, (some 7), none, .move (.tmp 27), []⟩,
  ⟨4, (some 8), none, .move (.tmp 29), []⟩]
def n_core_machine_chooses_r4 : List NI := [
  ⟨0, (some 30), none, .move (.tmp 8), []⟩,
  ⟨1, (some 31), none, .move (.tmp 2), []⟩,
  ⟨2, (some 32), none, .nilCheck (.tmp 31), []⟩,
  ⟨3, (some 33), none, .fieldAddr 1 (.tmp 32), []⟩,
  ⟨4, (some 34), none, .load none (.tmp 33), []⟩,
  ⟨5, (some 35), none, .bin .eql (some .int) (.tmp 30) (.tmp 34), []⟩]
def n_core_machine_chooses_r5 : List NI := [
  ⟨0, (some 36), none, .move (.tmp 7), []⟩,
  ⟨1, (some 6), none, .move (.tmp 36), []⟩]
def n_core_machine_chooses_r6 : List NI := [
  ⟨0, (some 37), none, .bin .add (some .int) (.tmp 25) (.const (.int .i64 (.ofNat 1))), []⟩,
  ⟨1, (some 25), none, .move (.tmp 37), []⟩]
def n_core_machine_chooses_l7 : NC := (.seq (.region n_core_machine_chooses_r2 []) (.seq (.cond (.tmp 26) .skip (.exit 0)) (.seq (.block 1 (.seq (.region n_core_machine_chooses_r3 []) (.seq (.region n_core_machine_chooses_r4 []) (.cond (.tmp 35) (.region n_core_machine_chooses_r5 []) .skip)))) (.region n_core_machine_chooses_r6 []))))
def n_core_machine_chooses_r8 : List NI := [
  ⟨0, (some 38), none, .move (.tmp 2), []⟩,
  ⟨1, (some 39), none, .nilCheck (.tmp 38), []⟩,
  ⟨2, (some 40), none, .fieldAddr 0 (.tmp 39), []⟩,
  ⟨3, (some 41), none, .load none (.tmp 40), []⟩,
  ⟨4, (some 42), none, .move (.tmp 1), []⟩,
  ⟨5, (some 43), none, .bin .neq (some .int) (.tmp 41) (.tmp 42), []⟩,
  ⟨6, (some 44), none, .move (.tmp 43), []⟩,
  ⟨7, (some 45), (some (44, false)), .move (.tmp 6), []⟩,
  ⟨8, (some 46), (some (44, false)), .move (.tmp 0), []⟩,
  ⟨9, (some 47), (some (44, false)), .nilCheck (.tmp 46), []⟩,
  ⟨10, (some 48), (some (44, false)), .fieldAddr 7 (.tmp 47), []⟩,
  ⟨11, (some 49), (some (44, false)), .load none (.tmp 48), []⟩,
  ⟨12, (some 50), (some (44, false)), .nilCheck (.tmp 49), []⟩,
  ⟨13, (some 51), (some (44, false)), .fieldAddr 6 (.tmp 50), []⟩,
  ⟨14, (some 52), (some (44, false)), .load none (.tmp 51), []⟩,
  ⟨15, (some 53), (some (44, false)), .len .slice (.tmp 52), []⟩,
  ⟨16, (some 54), (some (44, false)), .bin .geq (some .int) (.tmp 45) (.tmp 53), []⟩,
  ⟨17, (some 55), none, .pick (.tmp 44) (.const (.bool true)) (.tmp 54), []⟩]
def n_core_machine_chooses_r9 : List NI := [
  ⟨0, (some 56), none, .move (.tmp 0), []⟩,
  ⟨1, (some 57), none, .call (.const (.func 95 [] [])) [(.tmp 56), (.const (.int .i64 (.ofNat 6)))], []⟩]
def n_core_machine_chooses_r10 : List NI := [
  ⟨0, (some 58), none, .move (.tmp 0), []⟩,
  ⟨1, (some 59), none, .move (.tmp 0), []⟩,
  ⟨2, (some 60), none, .nilCheck (.tmp 59), []⟩,
  ⟨3, (some 61), none, .fieldAddr 7 (.tmp 60), []⟩,
  ⟨4, (some 62), none, .load none (.tmp 61), []⟩,
  ⟨5, (some 63), none, .nilCheck (.tmp 62), []⟩,
  ⟨6, (some 64), none, .fieldAddr 6 (.tmp 63), []⟩,
  ⟨7, (some 65), none, .load none (.tmp 64), []⟩,
  ⟨8, (some 66), none, .move (.tmp 6), []⟩,
  ⟨9, (some 67), none, .indexAddr 7 none (.tmp 65) (.tmp 66), []⟩,
  ⟨10, (some 68), none, .nilCheck (.tmp 58), []⟩,
  ⟨11, (some 69), none, .fieldAddr 7 (.tmp 68), []⟩,
  ⟨12, none, none, .store 1 (.tmp 69) (.tmp 67), []⟩]
def n_core_machine_chooses : NFn := ⟨3, 70, [], (.seq (.region n_core_machine_chooses_r0 []) (.seq (.seq (.region n_core_machine_chooses_r1 []) (.block 0 (.loop n_core_machine_chooses_l7))) (.seq (.seq (.region n_core_machine_chooses_r8 []) (.cond (.tmp 55) (.seq (.region n_core_machine_chooses_r9 []) .ret) .skip)) (.region n_core_machine_chooses_r10 []))))⟩
theorem c_core_machine_chooses : compFn Tryz.prog F_core_machine_chooses = some n_core_machine_chooses := by kernel_rfl
theorem k_core_machine_chooses : n_core_machine_chooses.ok = true := by kernel_rfl

/-! (*gimlet/core.machine).raises -/
abbrev F_core_machine_raises : Nat := 100
def n_core_machine_raises_r0 : List NI := [
  ⟨0, (some 7), none, .move (.tmp 0), []⟩,
  ⟨1, (some 8), none, .call (.const (.func 133 [] [])) [(.tmp 7)], []⟩,
  ⟨2, (some 6), none, .move (.tmp 8), []⟩,
  ⟨3, (some 9), none, .extract (.tmp 6) 0, []⟩,
  ⟨4, (some 10), none, .extract (.tmp 6) 1, []⟩,
  ⟨5, (some 4), none, .zero [(.bool false), (.int .i64 (.ofNat 0)), .nilptr, .nilptr], []⟩,
  ⟨6, none, none, .store 4 (.tmp 4) (.tmp 9), []⟩,
  ⟨7, (some 5), none, .move (.tmp 10), []⟩]
def n_core_machine_raises_r1 : List NI := [
  ⟨0, (some 12), none, .move (.tmp 5), []⟩,
  ⟨1, (some 13), none, .move (.tmp 12), []⟩,
  ⟨2, (some 14), (some (13, true)), .fieldAddr 0 (.tmp 4), []⟩,
  ⟨3, (some 15), (some (13, true)), .load none (.tmp 14), []⟩,
  ⟨4, (some 16), none, .pick (.tmp 13) (.tmp 15) (.const (.bool false)), []⟩,
  ⟨5, (some 11), none, .move (.tmp 16), []⟩]
def n_core_machine_raises_r2 : List NI := [
  ⟨0, (some 17), none, .move (.tmp 0), []⟩,
  ⟨1, (some 18), none, .load (some 4) (.tmp 4), []⟩,
  ⟨2, (some 19), none, .move (.tmp 1), []⟩,
  ⟨3, (some 20), none, .call (.const (.func 134 [] [])) [(.tmp 17), (.tmp 18), (.tmp 19)], []⟩]
def n_core_machine_raises_r3 : List NI := [
  ⟨0, (some 22), none, .move (.tmp 5), []⟩,
  ⟨1, (some 21), none, .move (.tmp 22), []⟩]
def n_core_machine_raises_r4 : List NI := [
  ⟨0, (some 24), none, .move (.tmp 1), []⟩,
  ⟨1, (some 25), none, .nilCheck (.tmp 24), []⟩,
  ⟨2, (some 26), none, .fieldAddr 0 (.tmp 25), []⟩,
  ⟨3, (some 27), none, .load none (.tmp 26), []⟩,
  ⟨4, (some 28), none, .bin .neq (some .int) (.tmp 27) (.const (.int .i64 (.ofNat 4))), []⟩,
  ⟨5, (some 23), none, .move (.tmp 28), []⟩]
def n_core_machine_raises_r5 : List NI := [
  ⟨0, (some 29), none, .move (.tmp 0), []⟩,
  ⟨1, (some 30), none, .call (.const (.func 95 [] [])) [(.tmp 29), (.const (.int .i64 (.ofNat 6)))], []⟩]
def n_core_machine_raises_r6 : List NI := [
  ⟨0, (some 31), none, .move (.tmp 0), []⟩,
  ⟨1, (some 32), none, .call (.const (.func 95 [] [])) [(.tmp 31), (.const (.int .i64 (.ofNat 1)))], []⟩]
def n_core_machine_raises_r7 : List NI := [
  ⟨0, (some 33), none, .move (.tmp 0), []⟩,
  ⟨1, (some 34), none, .move (.tmp 1), []⟩,
  ⟨2, (some 35), none, .nilCheck (.tmp 34), []⟩,
  ⟨3, (some 36), none, .fieldAddr 1 (.tmp 35), []⟩,
  ⟨4, (some 37), none, .load none (.tmp 36), []⟩,
  ⟨5, (some 38), none, .nilCheck (.tmp 33), []⟩,
  ⟨6, (some 39), none, .fieldAddr 1 (.tmp 38), []⟩,
  ⟨7, (some 40), none, .fieldAddr 1 (.tmp 39), []⟩,
  ⟨8, none, none, .store 1 (.tmp 40) (.tmp 37), []⟩]
def n_core_machine_raises_l8 : NC := (.block 1 (.seq (.region n_core_machine_raises_r0 []) (.seq (.block 2 (.seq (.region n_core_machine_raises_r1 []) (.cond (.tmp 11) (.seq (.region n_core_machine_raises_r2 []) .ret) (.seq (.region n_core_machine_raises_r3 []) (.cond (.tmp 21) (.exit 1) (.seq (.region n_core_machine_raises_r4 []) (.cond (.tmp 23) (.seq (.region n_core_machine_raises_r5 []) .ret) .skip))))))) (.seq (.region n_core_machine_raises_r6 []) (.seq (.region n_core_machine_raises_r7 []) .ret)))))
def n_core_machine_raises : NFn := ⟨2, 41, [], (.block 0 (.loop n_core_machine_raises_l8))⟩
theorem c_core_machine_raises : compFn Tryz.prog F_core_machine_raises = some n_core_machine_raises := by kernel_rfl
theorem k_core_machine_raises : n_core_machine_raises.ok = true := by kernel_rfl

/-! gimlet/flatten.atoms -/
abbrev F_flatten_atoms : Nat := 114
def n_flatten_atoms_r0 : List NI := [
  ⟨0, (some 2), none, .move (.const (.bool false)), []⟩]
def n_flatten_atoms_r1 : List NI := [
  ⟨0, (some 3), none, .move (.tmp 0), []⟩,
  ⟨1, (some 4), none, .call (.const (.func 121 [] [])) [(.tmp 3), (.const (.func 147 [] []))], []⟩,
  ⟨2, (some 5), none, .un .not (.tmp 4), []⟩,
  ⟨3, (some 2), none, .move (.tmp 5), []⟩]
def n_flatten_atoms : NFn := ⟨1, 6, [.slot 2], (.seq (.region n_flatten_atoms_r0 []) (.seq (.region n_flatten_atoms_r1 []) .ret))⟩
theorem c_flatten_atoms : compFn Tryz.prog F_flatten_atoms = some n_flatten_atoms := by kernel_rfl
theorem k_flatten_atoms : n_flatten_atoms.ok = true := by kernel_rfl

/-! slices.IndexFunc[[]gimlet/api.Core,gimlet/api.Core] -/
abbrev F_slices_IndexFunc__api_Core_api_Core : Nat := 115
def n_slices_IndexFunc__api_Core_api_Core_r0 : List NI := [
  ⟨0, (some 4), none, .move (.const (.int .i64 (.ofNat 0))), []⟩]
def n_slices_IndexFunc__api_Core_api_Core_r1 : List NI := [
  ⟨0, (some 6), none, .move (.tmp 0), []⟩,
  ⟨1, (some 7), none, .len .slice (.tmp 6), []⟩,
  ⟨2, (some 8), none, .move (.const (.int .i64 (.ofNat 0))), []⟩]
def n_slices_IndexFunc__api_Core_api_Core_r2 : List NI := [
  ⟨0, (some 9), none, .bin .lss (some .int) (.tmp 8) (.tmp 7), []⟩]
def n_slices_IndexFunc__api_Core_api_Core_r3 : List NI := [
  ⟨0, (some 10), none, .move (.tmp 8), []⟩,
  ⟨1, (some 5), none, .move (.tmp 10), []⟩]
def n_slices_IndexFunc__api_Core_api_Core_r4 : List NI := [
  ⟨0, (some 11), none, .move (.tmp 1), []⟩,
  ⟨1, (some 12), none, .move (.tmp 0), []⟩,
  ⟨2, (some 13), none, .move (.tmp 5), []⟩,
  ⟨3, (some 14), none, .indexAddr 7 none (.tmp 12) (.tmp 13), []⟩,
  ⟨4, (some 15), none, .load (some 7) (.tmp 14), []⟩,
  ⟨5, (some 16), none, .call (.tmp 11) [(.tmp 15)], []⟩]
def n_slices_IndexFunc__api_Core_api_Core_r5 : List NI := [
  ⟨0, (some 17), none, .move (.tmp 5), []⟩,
  ⟨1, (some 4), none, .move (.tmp 17), []⟩]
def n_slices_IndexFunc__api_Core_api_Core_r6 : List NI := [
  ⟨0, (some 18), none, .bin .add (some .int) (.tmp 8) (.const (.int .i64 (.ofNat 1))), []⟩,
  ⟨1, (some 8), none, .move (.tmp 18), []⟩]
def n_slices_IndexFunc__api_Core_api_Core_l7 : NC := (.seq (.region n_slices_IndexFunc__api_Core_api_Core_r2 []) (.seq (.cond (.tmp 9) .skip (.exit 0)) (.seq (.block 1 (.seq (.region n_slices_IndexFunc__api_Core_api_Core_r3 []) (.seq (.region n_slices_IndexFunc__api_Core_api_Core_r4 []) (.cond (.tmp 16) (.seq (.region n_slices_IndexFunc__api_Core_api_Core_r5 []) .ret) .skip)))) (.region n_slices_IndexFunc__api_Core_api_Core_r6 []))))
def n_slices_IndexFunc__api_Core_api_Core_r8 : List NI := [
  ⟨0, (some 4), none, .move (.const (.int .i64 (.negSucc 0))), []⟩]
def n_slices_IndexFunc__api_Core_api_Core : NFn := ⟨2, 19, [.slot 4], (.seq (.region n_slices_IndexFunc__api_Core_api_Core_r0 []) (.seq (.seq (.region n_slices_IndexFunc__api_Core_api_Core_r1 []) (.block 0 (.loop n_slices_IndexFunc__api_Core_api_Core_l7))) (.seq (.region n_slices_IndexFunc__api_Core_api_Core_r8 []) .ret)))⟩
theorem c_slices_IndexFunc__api_Core_api_Core : compFn Tryz.prog F_slices_IndexFunc__api_Core_api_Core = some n_slices_IndexFunc__api_Core_api_Core := by kernel_rfl
theorem k_slices_IndexFunc__api_Core_api_Core : n_slices_IndexFunc__api_Core_api_Core.ok = true := by kernel_rfl

/-! gimlet/core.rules -/
abbrev F_core_rules : Nat := 116
def n_core_rules_r0 : List NI := [
  ⟨0, (some 2), none, .zero [(.bool false), (.bool false), (.bool false), (.bool false), (.int .i64 (.ofNat 0)), (.int .i64 (.ofNat 0)), (.int .i64 (.ofNat 0)), (.int .i64 (.ofNat 0))], []⟩,
  ⟨1, (some 3), none, .move (.const (.bool false)), []⟩]
def n_core_rules_r1 : List NI := [
  ⟨0, (some 5), none, .build [(.int .i64 (.ofNat 0)), (.int .i64 (.ofNat 0))] [(0, 1, (.const (.int .i64 (.ofNat 1)))), (1, 1, (.const (.int .i64 (.ofNat 1))))], []⟩,
  ⟨1, (some 6), none, .build [(.bool false), (.bool false), (.bool false), (.bool false), (.int .i64 (.ofNat 0)), (.int .i64 (.ofNat 0)), (.int .i64 (.ofNat 0)), (.int .i64 (.ofNat 0))] [(4, 2, (.tmp 5))], []⟩,
  ⟨2, (some 7), none, .build [(.int .i64 (.ofNat 0)), (.int .i64 (.ofNat 0))] [(0, 1, (.const (.int .i64 (.ofNat 1)))), (1, 1, (.const (.int .i64 (.ofNat 1))))], []⟩,
  ⟨3, (some 8), none, .build [(.bool false), (.bool false), (.bool false), (.bool false), (.int .i64 (.ofNat 0)), (.int .i64 (.ofNat 0)), (.int .i64 (.ofNat 0)), (.int .i64 (.ofNat 0))] [(4, 2, (.tmp 7))], []⟩,
  ⟨4, (some 9), none, .build [(.int .i64 (.ofNat 0)), (.int .i64 (.ofNat 0))] [(0, 1, (.const (.int .i64 (.ofNat 2)))), (1, 1, (.const (.int .i64 (.ofNat 2))))], []⟩,
  ⟨5, (some 10), none, .build [(.bool false), (.bool false), (.bool false), (.bool false), (.int .i64 (.ofNat 0)), (.int .i64 (.ofNat 0)), (.int .i64 (.ofNat 0)), (.int .i64 (.ofNat 0))] [(0, 1, (.const (.bool true))), (6, 2, (.tmp 9))], []⟩,
  ⟨6, (some 11), none, .build [(.int .i64 (.ofNat 0)), (.int .i64 (.ofNat 0))] [(0, 1, (.const (.int .i64 (.ofNat 2)))), (1, 1, (.const (.int .i64 (.ofNat 2))))], []⟩,
  ⟨7, (some 12), none, .build [(.bool false), (.bool false), (.bool false), (.bool false), (.int .i64 (.ofNat 0)), (.int .i64 (.ofNat 0)), (.int .i64 (.ofNat 0)), (.int .i64 (.ofNat 0))] [(0, 1, (.const (.bool true))), (6, 2, (.tmp 11))], []⟩,
  ⟨8, (some 13), none, .build [(.int .i64 (.ofNat 0)), (.int .i64 (.ofNat 0))] [(0, 1, (.const (.int .i64 (.ofNat 1)))), (1, 1, (.const (.int .i64 (.ofNat 3))))], []⟩,
  ⟨9, (some 14), none, .build [(.bool false), (.bool false), (.bool false), (.bool false), (.int .i64 (.ofNat 0)), (.int .i64 (.ofNat 0)), (.int .i64 (.ofNat 0)), (.int .i64 (.ofNat 0))] [(2, 1, (.const (.bool true))), (4, 2, (.tmp 13))], []⟩,
  ⟨10, (some 15), none, .build [(.int .i64 (.ofNat 0)), (.int .i64 (.ofNat 0))] [(0, 1, (.const (.int .i64 (.ofNat 0)))), (1, 1, (.const (.int .i64 (.ofNat 1024))))], []⟩,
  ⟨11, (some 16), none, .build [(.bool false), (.bool false), (.bool false), (.bool false), (.int .i64 (.ofNat 0)), (.int .i64 (.ofNat 0)), (.int .i64 (.ofNat 0)), (.int .i64 (.ofNat 0))] [(1, 1, (.const (.bool true))), (4, 2, (.tmp 15))], []⟩,
  ⟨12, (some 17), none, .build [(.int .i64 (.ofNat 0)), (.int .i64 (.ofNat 0))] [(0, 1, (.const (.int .i64 (.ofNat 1)))), (1, 1, (.const (.int .i64 (.ofNat 1))))], []⟩,
  ⟨13, (some 18), none, .build [(.bool false), (.bool false), (.bool false), (.bool false), (.int .i64 (.ofNat 0)), (.int .i64 (.ofNat 0)), (.int .i64 (.ofNat 0)), (.int .i64 (.ofNat 0))] [(1, 1, (.const (.bool true))), (4, 2, (.tmp 17))], []⟩,
  ⟨14, (some 19), none, .build [(.int .i64 (.ofNat 0)), (.int .i64 (.ofNat 0))] [(0, 1, (.const (.int .i64 (.ofNat 2)))), (1, 1, (.const (.int .i64 (.ofNat 2))))], []⟩,
  ⟨15, (some 20), none, .build [(.bool false), (.bool false), (.bool false), (.bool false), (.int .i64 (.ofNat 0)), (.int .i64 (.ofNat 0)), (.int .i64 (.ofNat 0)), (.int .i64 (.ofNat 0))] [(4, 2, (.tmp 19))], []⟩,
  ⟨16, (some 21), none, .build [(.int .i64 (.ofNat 0)), (.int .i64 (.ofNat 0))] [(0, 1, (.const (.int .i64 (.ofNat 1)))), (1, 1, (.const (.int .i64 (.ofNat 1))))], []⟩,
  ⟨17, (some 22), none, .build [(.bool false), (.bool false), (.bool false), (.bool false), (.int .i64 (.ofNat 0)), (.int .i64 (.ofNat 0)), (.int .i64 (.ofNat 0)), (.int .i64 (.ofNat 0))] [(0, 1, (.const (.bool true))), (6, 2, (.tmp 21))], []⟩,
  ⟨18, (some 23), none, .build [(.int .i64 (.ofNat 0)), (.int .i64 (.ofNat 0))] [(0, 1, (.const (.int .i64 (.ofNat 1)))), (1, 1, (.const (.int .i64 (.ofNat 1))))], []⟩,
  ⟨19, (some 24), none, .build [(.int .i64 (.ofNat 0)), (.int .i64 (.ofNat 0))] [(0, 1, (.const (.int .i64 (.ofNat 1)))), (1, 1, (.const (.int .i64 (.ofNat 1073741824))))], []⟩,
  ⟨20, (some 25), none, .build [(.bool false), (.bool false), (.bool false), (.bool false), (.int .i64 (.ofNat 0)), (.int .i64 (.ofNat 0)), (.int .i64 (.ofNat 0)), (.int .i64 (.ofNat 0))] [(3, 1, (.const (.bool true))), (4, 2, (.tmp 23)), (6, 2, (.tmp 24))], []⟩,
  ⟨21, (some 26), none, .build [(.int .i64 (.ofNat 0)), (.int .i64 (.ofNat 0))] [(0, 1, (.const (.int .i64 (.ofNat 1)))), (1, 1, (.const (.int .i64 (.ofNat 1))))], []⟩,
  ⟨22, (some 27), none, .build [(.int .i64 (.ofNat 0)), (.int .i64 (.ofNat 0))] [(0, 1, (.const (.int .i64 (.ofNat 1)))), (1, 1, (.const (.int .i64 (.ofNat 1073741824))))], []⟩,
  ⟨23, (some 28), none, .build [(.bool false), (.bool false), (.bool false), (.bool false), (.int .i64 (.ofNat 0)), (.int .i64 (.ofNat 0)), (.int .i64 (.ofNat 0)), (.int .i64 (.ofNat 0))] [(3, 1, (.const (.bool true))), (4, 2, (.tmp 26)), (6, 2, (.tmp 27))], []⟩,
  ⟨24, (some 29), none, .build [(.bool false), (.bool false), (.bool false), (.bool false), (.int .i64 (.ofNat 0)), (.int .i64 (.ofNat 0)), (.int .i64 (.ofNat 0)), (.int .i64 (.ofNat 0)), (.bool false), (.bool false), (.bool false), (.bool false), (.int .i64 (.ofNat 0)), (.int .i64 (.ofNat 0)), (.int .i64 (.ofNat 0)), (.int .i64 (.ofNat 0)), (.bool false), (.bool false), (.bool false), (.bool false), (.int .i64 (.ofNat 0)), (.int .i64 (.ofNat 0)), (.int .i64 (.ofNat 0)), (.int .i64 (.ofNat 0)), (.bool false), (.bool false), (.bool false), (.bool false), (.int .i64 (.ofNat 0)), (.int .i64 (.ofNat 0)), (.int .i64 (.ofNat 0)), (.int .i64 (.ofNat 0)), (.bool false), (.bool false), (.bool false), (.bool false), (.int .i64 (.ofNat 0)), (.int .i64 (.ofNat 0)), (.int .i64 (.ofNat 0)), (.int .i64 (.ofNat 0)), (.bool false), (.bool false), (.bool false), (.bool false), (.int .i64 (.ofNat 0)), (.int .i64 (.ofNat 0)), (.int .i64 (.ofNat 0)), (.int .i64 (.ofNat 0)), (.bool false), (.bool false), (.bool false), (.bool false), (.int .i64 (.ofNat 0)), (.int .i64 (.ofNat 0)), (.int .i64 (.ofNat 0)), (.int .i64 (.ofNat 0)), (.bool false), (.bool false), (.bool false), (.bool false), (.int .i64 (.ofNat 0)), (.int .i64 (.ofNat 0)), (.int .i64 (.ofNat 0)), (.int .i64 (.ofNat 0)), (.bool false), (.bool false), (.bool false), (.bool false), (.int .i64 (.ofNat 0)), (.int .i64 (.ofNat 0)), (.int .i64 (.ofNat 0)), (.int .i64 (.ofNat 0)), (.bool false), (.bool false), (.bool false), (.bool false), (.int .i64 (.ofNat 0)), (.int .i64 (.ofNat 0)), (.int .i64 (.ofNat 0)), (.int .i64 (.ofNat 0)), (.bool false), (.bool false), (.bool false), (.bool false), (.int .i64 (.ofNat 0)), (.int .i64 (.ofNat 0)), (.int .i64 (.ofNat 0)), (.int .i64 (.ofNat 0)), (.bool false), (.bool false), (.bool false), (.bool false), (.int .i64 (.ofNat 0)), (.int .i64 (.ofNat 0)), (.int .i64 (.ofNat 0)), (.int .i64 (.ofNat 0)), (.bool false), (.bool false), (.bool false), (.bool false), (.int .i64 (.ofNat 0)), (.int .i64 (.ofNat 0)), (.int .i64 (.ofNat 0)), (.int .i64 (.ofNat 0))] [(8, 8, (.tmp 6)), (96, 8, (.tmp 8)), (16, 8, (.tmp 10)), (88, 8, (.tmp 12)), (24, 8, (.tmp 14)), (32, 8, (.tmp 16)), (40, 8, (.tmp 18)), (48, 8, (.tmp 20)), (56, 8, (.tmp 22)), (72, 8, (.tmp 25)), (80, 8, (.tmp 28))], []⟩,
  ⟨25, (some 4), none, .zero [(.bool false), (.bool false), (.bool false), (.bool false), (.int .i64 (.ofNat 0)), (.int .i64 (.ofNat 0)), (.int .i64 (.ofNat 0)), (.int .i64 (.ofNat 0)), (.bool false), (.bool false), (.bool false), (.bool false), (.int .i64 (.ofNat 0)), (.int .i64 (.ofNat 0)), (.int .i64 (.ofNat 0)), (.int .i64 (.ofNat 0)), (.bool false), (.bool false), (.bool false), (.bool false), (.int .i64 (.ofNat 0)), (.int .i64 (.ofNat 0)), (.int .i64 (.ofNat 0)), (.int .i64 (.ofNat 0)), (.bool false), (.bool false), (.bool false), (.bool false), (.int .i64 (.ofNat 0)), (.int .i64 (.ofNat 0)), (.int .i64 (.ofNat 0)), (.int .i64 (.ofNat 0)), (.bool false), (.bool false), (.bool false), (.bool false), (.int .i64 (.ofNat 0)), (.int .i64 (.ofNat 0)), (.int .i64 (.ofNat 0)), (.int .i64 (.ofNat 0)), (.bool false), (.bool false), (.bool false), (.bool false), (.int .i64 (.ofNat 0)), (.int .i64 (.ofNat 0)), (.int .i64 (.ofNat 0)), (.int .i64 (.ofNat 0)), (.bool false), (.bool false), (.bool false), (.bool false), (.int .i64 (.ofNat 0)), (.int .i64 (.ofNat 0)), (.int .i64 (.ofNat 0)), (.int .i64 (.ofNat 0)), (.bool false), (.bool false), (.bool false), (.bool false), (.int .i64 (.ofNat 0)), (.int .i64 (.ofNat 0)), (.int .i64 (.ofNat 0)), (.int .i64 (.ofNat 0)), (.bool false), (.bool false), (.bool false), (.bool false), (.int .i64 (.ofNat 0)), (.int .i64 (.ofNat 0)), (.int .i64 (.ofNat 0)), (.int .i64 (.ofNat 0)), (.bool false), (.bool false), (.bool false), (.bool false), (.int .i64 (.ofNat 0)), (.int .i64 (.ofNat 0)), (.int .i64 (.ofNat 0)), (.int .i64 (.ofNat 0)), (.bool false), (.bool false), (.bool false), (.bool false), (.int .i64 (.ofNat 0)), (.int .i64 (.ofNat 0)), (.int .i64 (.ofNat 0)), (.int .i64 (.ofNat 0)), (.bool false), (.bool false), (.bool false), (.bool false), (.int .i64 (.ofNat 0)), (.int .i64 (.ofNat 0)), (.int .i64 (.ofNat 0)), (.int .i64 (.ofNat 0)), (.bool false), (.bool false), (.bool false), (.bool false), (.int .i64 (.ofNat 0)), (.int .i64 (.ofNat 0)), (.int .i64 (.ofNat 0)), (.int .i64 (.ofNat 0))], []⟩,
  ⟨26, none, none, .store 104 (.tmp 4) (.tmp 29), []⟩]
def n_core_rules_r2 : List NI := [
  ⟨0, (some 30), none, .move (.tmp 0), []⟩,
  ⟨1, (some 31), none, .bin .leq (some .int) (.tmp 30) (.const (.int .i64 (.ofNat 0))), []⟩,
  ⟨2, (some 32), none, .move (.tmp 31), []⟩,
  ⟨3, (some 33), (some (32, false)), .move (.tmp 0), []⟩,
  ⟨4, (some 34), (some (32, false)), .bin .geq (some .int) (.tmp 33) (.const (.int .i64 (.ofNat 13))), []⟩,
  ⟨5, (some 35), none, .pick (.tmp 32) (.const (.bool true)) (.tmp 34), []⟩,
  ⟨6, (some 36), none, .move (.tmp 35), []⟩,
  ⟨7, (some 37), (some (36, false)), .move (.tmp 0), []⟩,
  ⟨8, (some 38), (some (36, false)), .bin .eql (some .int) (.tmp 37) (.const (.int .i64 (.ofNat 8))), []⟩,
  ⟨9, (some 39), none, .pick (.tmp 36) (.const (.bool true)) (.tmp 38), []⟩]
def n_core_rules_r3 : List NI := [
  ⟨0, (some 40), none, .build [(.bool false), (.bool false), (.bool false), (.bool false), (.int .i64 (.ofNat 0)), (.int .i64 (.ofNat 0)), (.int .i64 (.ofNat 0)), (.int .i64 (.ofNat 0))] [], []⟩,
  ⟨1, none, none, .store 8 (.tmp 2) (.tmp 40), []⟩,
  ⟨2, (some 3), none, .move (.const (.bool false)), []⟩]
def n_core_rules_r4 : List NI := [
  ⟨0, (some 41), none, .move (.tmp 0), []⟩,
  ⟨1, (some 42), none, .indexAddr 8 (some 13) (.tmp 4) (.tmp 41), []⟩,
  ⟨2, (some 43), none, .load (some 8) (.tmp 42), []⟩,
  ⟨3, none, none, .store 8 (.tmp 2) (.tmp 43), []⟩,
  ⟨4, (some 3), none, .move (.const (.bool true)), []⟩]
def n_core_rules : NFn := ⟨1, 44, [.cell 2 (some 8), .slot 3], (.seq (.region n_core_rules_r0 []) (.seq (.region n_core_rules_r1 []) (.seq (.seq (.region n_core_rules_r2 []) (.cond (.tmp 39) (.seq (.region n_core_rules_r3 []) .ret) .skip)) (.seq (.region n_core_rules_r4 []) .ret))))⟩
theorem c_core_rules : compFn Tryz.prog F_core_rules = some n_core_rules := by kernel_rfl
theorem k_core_rules : n_core_rules.ok = true := by kernel_rfl

/-! gimlet/core.variable -/
abbrev F_core_variable : Nat := 117
def n_core_variable_r0 : List NI := [
  ⟨0, (some 2), none, .move (.const (.bool false)), []⟩]
def n_core_variable_r1 : List NI := [
  ⟨0, (some 3), none, .move (.tmp 0), []⟩,
  ⟨1, (some 4), none, .bin .geq (some .int) (.tmp 3) (.const (.int .i64 (.ofNat 0))), []⟩,
  ⟨2, (some 5), none, .move (.tmp 4), []⟩,
  ⟨3, (some 6), (some (5, true)), .move (.tmp 0), []⟩,
  ⟨4, (some 7), (some (5, true)), .bin .leq (some .int) (.tmp 6) (.const (.int .i64 (.ofNat 1048575))), []⟩,
  ⟨5, (some 8), none, .pick (.tmp 5) (.tmp 7) (.const (.bool false)), []⟩,
  ⟨6, (some 2), none, .move (.tmp 8), []⟩]
def n_core_variable : NFn := ⟨1, 9, [.slot 2], (.seq (.region n_core_variable_r0 []) (.seq (.region n_core_variable_r1 []) .ret))⟩
theorem c_core_variable : compFn Tryz.prog F_core_variable = some n_core_variable := by kernel_rfl
theorem k_core_variable : n_core_variable.ok = true := by kernel_rfl

/-! gimlet/core.within -/
abbrev F_core_within : Nat := 118
def n_core_within_r0 : List NI := [
  ⟨0, (some 3), none, .box (.tmp 1), []⟩,
  ⟨1, (some 4), none, .move (.const (.bool false)), []⟩]
def n_core_within_r1 : List NI := [
  ⟨0, (some 5), none, .move (.tmp 0), []⟩,
  ⟨1, (some 6), none, .indexAddr 1 (some 2) (.tmp 3) (.const (.int .i64 (.ofNat 0))), []⟩,
  ⟨2, (some 7), none, .load none (.tmp 6), []⟩,
  ⟨3, (some 8), none, .bin .geq (some .int) (.tmp 5) (.tmp 7), []⟩,
  ⟨4, (some 9), none, .move (.tmp 8), []⟩,
  ⟨5, (some 10), (some (9, true)), .move (.tmp 0), []⟩,
  ⟨6, (some 11), (some (9, true)), .indexAddr 1 (some 2) (.tmp 3) (.const (.int .i64 (.ofNat 1))), []⟩,
  ⟨7, (some 12), (some (9, true)), .load none (.tmp 11), []⟩,
  ⟨8, (some 13), (some (9, true)), .bin .leq (some .int) (.tmp 10) (.tmp 12), []⟩,
  ⟨9, (some 14), none, .pick (.tmp 9) (.tmp 13) (.const (.bool false)), []⟩,
  ⟨10, (some 4), none, .move (.tmp 14), []⟩]
def n_core_within : NFn := ⟨2, 15, [.slot 4], (.seq (.region n_core_within_r0 []) (.seq (.region n_core_within_r1 []) .ret))⟩
theorem c_core_within : compFn Tryz.prog F_core_within = some n_core_within := by kernel_rfl
theorem k_core_within : n_core_within.ok = true := by kernel_rfl

/-! gimlet/core.prims -/
abbrev F_core_prims : Nat := 119
def n_core_prims_r0 : List NI := [
  ⟨0, (some 0), none, .move (.const .nilmap), []⟩]
def n_core_prims_r1 : List NI := [
  ⟨0, (some 1), none, .makeMap, []⟩,
  ⟨1, none, none, .mapUpdate true (.tmp 1) (.const (.str [97, 100, 100])) (.const (.int .i64 (.ofNat 2))), []⟩,
  ⟨2, none, none, .mapUpdate true (.tmp 1) (.const (.str [115, 117, 98])) (.const (.int .i64 (.ofNat 2))), []⟩,
  ⟨3, none, none, .mapUpdate true (.tmp 1) (.const (.str [109, 117, 108])) (.const (.int .i64 (.ofNat 2))), []⟩,
  ⟨4, none, none, .mapUpdate true (.tmp 1) (.const (.str [100, 105, 118])) (.const (.int .i64 (.ofNat 2))), []⟩,
  ⟨5, none, none, .mapUpdate true (.tmp 1) (.const (.str [109, 111, 100])) (.const (.int .i64 (.ofNat 2))), []⟩,
  ⟨6, none, none, .mapUpdate true (.tmp 1) (.const (.str [101, 113])) (.const (.int .i64 (.ofNat 2))), []⟩,
  ⟨7, none, none, .mapUpdate true (.tmp 1) (.const (.str [108, 116])) (.const (.int .i64 (.ofNat 2))), []⟩,
  ⟨8, none, none, .mapUpdate true (.tmp 1) (.const (.str [108, 101])) (.const (.int .i64 (.ofNat 2))), []⟩,
  ⟨9, none, none, .mapUpdate true (.tmp 1) (.const (.str [98, 121, 116, 101])) (.const (.int .i64 (.ofNat 2))), []⟩,
  ⟨10, none, none, .mapUpdate true (.tmp 1) (.const (.str [106, 111, 105, 110])) (.const (.int .i64 (.ofNat 2))), []⟩,
  ⟨11, none, none, .mapUpdate true (.tmp 1) (.const (.str [115, 101, 116])) (.const (.int .i64 (.ofNat 2))), []⟩,
  ⟨12, none, none, .mapUpdate true (.tmp 1) (.const (.str [110, 101, 103])) (.const (.int .i64 (.ofNat 1))), []⟩,
  ⟨13, none, none, .mapUpdate true (.tmp 1) (.const (.str [103, 101, 116, 99])) (.const (.int .i64 (.ofNat 1))), []⟩,
  ⟨14, none, none, .mapUpdate true (.tmp 1) (.const (.str [112, 117, 116, 99])) (.const (.int .i64 (.ofNat 1))), []⟩,
  ⟨15, none, none, .mapUpdate true (.tmp 1) (.const (.str [112, 117, 116, 115])) (.const (.int .i64 (.ofNat 1))), []⟩,
  ⟨16, none, none, .mapUpdate true (.tmp 1) (.const (.str [115, 105, 122, 101])) (.const (.int .i64 (.ofNat 1))), []⟩,
  ⟨17, none, none, .mapUpdate true (.tmp 1) (.const (.str [99, 104, 114])) (.const (.int .i64 (.ofNat 1))), []⟩,
  ⟨18, none, none, .mapUpdate true (.tmp 1) (.const (.str [99, 117, 116])) (.const (.int .i64 (.ofNat 3))), []⟩,
  ⟨19, (some 2), none, .move (.tmp 1), []⟩,
  ⟨20, (some 0), none, .move (.tmp 2), []⟩]
def n_core_prims : NFn := ⟨0, 3, [.slot 0], (.seq (.region n_core_prims_r0 []) (.seq (.region n_core_prims_r1 []) .ret))⟩
theorem c_core_prims : compFn Tryz.prog F_core_prims = some n_core_prims := by kernel_rfl
theorem k_core_prims : n_core_prims.ok = true := by kernel_rfl

/-! gimlet/core.tagged -/
abbrev F_core_tagged : Nat := 120
def n_core_tagged_r0 : List NI := [
  ⟨0, (some 1), none, .box (.tmp 0), []⟩,
  ⟨1, (some 2), none, .move (.const (.bool false)), []⟩]
def n_core_tagged_r1 : List NI := [
  ⟨0, (some 7), none, .makeMap, []⟩,
  ⟨1, (some 3), none, .move (.tmp 7), []⟩]
def n_core_tagged_r2 : List NI := [
  ⟨0, (some 8), none, .fieldAddr 5 (.tmp 1), []⟩,
  ⟨1, (some 9), none, .load none (.tmp 8), []⟩,
  ⟨2, (some 10), none, .len .slice (.tmp 9), []⟩,
  ⟨3, (some 11), none, .move (.const (.int .i64 (.ofNat 0))), []⟩]
def n_core_tagged_r3 : List NI := [
  ⟨0, (some 12), none, .bin .lss (some .int) (.tmp 11) (.tmp 10), []⟩]
def n_core_tagged_r4 : List NI := [
  ⟨0, (some 13), none, .indexAddr 1 none (.tmp 9) (.tmp 11), []⟩,
  ⟨1, (some 14), none, .load none (.tmp 13), []⟩,
  ⟨2, (some 5), none, .move (.tmp 14), []⟩]
def n_core_tagged_r5 : List NI := [
  ⟨0, (some 15), none, .move (.tmp 5), []⟩,
  ⟨1, (some 16), none, .call (.const (.func 117 [] [])) [(.tmp 15)], []⟩,
  ⟨2, (some 6), none, .move (.tmp 16), []⟩]
def n_core_tagged_r6 : List NI := [
  ⟨0, (some 17), none, .fieldAddr 0 (.tmp 1), []⟩,
  ⟨1, (some 18), none, .load none (.tmp 17), []⟩,
  ⟨2, (some 19), none, .bin .eql (some .int) (.tmp 18) (.const (.int .i64 (.ofNat 10))), []⟩]
def n_core_tagged_r7 : List NI := [
  ⟨0, (some 20), none, .move (.tmp 5), []⟩,
  ⟨1, (some 21), none, .bin .geq (some .int) (.tmp 20) (.const (.int .i64 (.negSucc 1073741823))), []⟩,
  ⟨2, (some 22), none, .move (.tmp 21), []⟩,
  ⟨3, (some 23), (some (22, true)), .move (.tmp 5), []⟩,
  ⟨4, (some 24), (some (22, true)), .bin .leq (some .int) (.tmp 23) (.const (.int .i64 (.ofNat 1073741823))), []⟩,
  ⟨5, (some 25), none, .pick (.tmp 22) (.tmp 24) (.const (.bool false)), []⟩,
  ⟨6, (some 6), none, .move (.tmp 25), []⟩]
def n_core_tagged_r8 : List NI := [
  ⟨0, (some 26), none, .move (.tmp 6), []⟩,
  ⟨1, (some 27), none, .un .not (.tmp 26), []⟩,
  ⟨2, (some 28), none, .move (.tmp 27), []⟩,
  ⟨3, (some 29), (some (28, false)), .move (.tmp 3), []⟩,
  ⟨4, (some 30), (some (28, false)), .move (.tmp 5), []⟩,
  ⟨5, (some 31), (some (28, false)), .lookup false (.bool false) false (.tmp 29) (.tmp 30), []⟩,
  ⟨6, (some 32), none, .pick (.tmp 28) (.const (.bool true)) (.tmp 31), []⟩]
def n_core_tagged_r9 : List NI := [
  ⟨0, (some 2), none, .move (.const (.bool false)), []⟩]
def n_core_tagged_r10 : List NI := [
  ⟨0, (some 33), none, .move (.tmp 3), []⟩,
  ⟨1, (some 34), none, .move (.tmp 5), []⟩,
  ⟨2, none, none, .mapUpdate false (.tmp 33) (.tmp 34) (.const (.bool true)), []⟩]
def n_core_tagged_r11 : List NI := [
  ⟨0, (some 35), none, .bin .add (some .int) (.tmp 11) (.const (.int .i64 (.ofNat 1))), []⟩,
  ⟨1, (some 11), none, .move (.tmp 35), []⟩]
def n_core_tagged_l12 : NC := (.seq (.region n_core_tagged_r3 []) (.seq (.cond (.tmp 12) .skip (.exit 0)) (.seq (.block 1 (.seq (.region n_core_tagged_r4 []) (.seq (.region n_core_tagged_r5 []) (.seq (.seq (.region n_core_tagged_r6 []) (.cond (.tmp 19) (.region n_core_tagged_r7 []) .skip)) (.seq (.seq (.region n_core_tagged_r8 []) (.cond (.tmp 32) (.seq (.region n_core_tagged_r9 []) .ret) .skip)) (.region n_core_tagged_r10 [])))))) (.region n_core_tagged_r11 []))))
def n_core_tagged_r13 : List NI := [
  ⟨0, (some 36), none, .fieldAddr 6 (.tmp 1), []⟩,
  ⟨1, (some 37), none, .load none (.tmp 36), []⟩,
  ⟨2, (some 38), none, .len .slice (.tmp 37), []⟩,
  ⟨3, (some 39), none, .fieldAddr 5 (.tmp 1), []⟩,
  ⟨4, (some 40), none, .load none (.tmp 39), []⟩,
  ⟨5, (some 41), none, .len .slice (.tmp 40), []⟩,
  ⟨6, (some 42), none, .bin .eql (some .int) (.tmp 38) (.tmp 41), []⟩,
  ⟨7, (some 43), none, .move (.tmp 42), []⟩,
  ⟨8, (some 44), (some (43, false)), .fieldAddr 6 (.tmp 1), []⟩,
  ⟨9, (some 45), (some (43, false)), .load none (.tmp 44), []⟩,
  ⟨10, (some 46), (some (43, false)), .len .slice (.tmp 45), []⟩,
  ⟨11, (some 47), (some (43, false)), .fieldAddr 5 (.tmp 1), []⟩,
  ⟨12, (some 48), (some (43, false)), .load none (.tmp 47), []⟩,
  ⟨13, (some 49), (some (43, false)), .len .slice (.tmp 48), []⟩,
  ⟨14, (some 50), (some (43, false)), .bin .add (some .int) (.tmp 49) (.const (.int .i64 (.ofNat 1))), []⟩,
  ⟨15, (some 51), (some (43, false)), .bin .eql (some .int) (.tmp 46) (.tmp 50), []⟩,
  ⟨16, (some 52), none, .pick (.tmp 43) (.const (.bool true)) (.tmp 51), []⟩,
  ⟨17, (some 2), none, .move (.tmp 52), []⟩]
def n_core_tagged : NFn := ⟨1, 53, [.slot 2], (.seq (.region n_core_tagged_r0 []) (.seq (.region n_core_tagged_r1 []) (.seq (.seq (.region n_core_tagged_r2 []) (.block 0 (.loop n_core_tagged_l12))) (.seq (.region n_core_tagged_r13 []) .ret))))⟩
theorem c_core_tagged : compFn Tryz.prog F_core_tagged = some n_core_tagged := by kernel_rfl
theorem k_core_tagged : n_core_tagged.ok = true := by kernel_rfl

/-! slices.ContainsFunc[[]gimlet/api.Atom,gimlet/api.Atom] -/
abbrev F_slices_ContainsFunc__api_Atom_api_Atom : Nat := 121
def n_slices_ContainsFunc__api_Atom_api_Atom_r0 : List NI := [
  ⟨0, (some 4), none, .move (.const (.bool false)), []⟩]
def n_slices_ContainsFunc__api_Atom_api_Atom_r1 : List NI := [
  ⟨0, (some 5), none, .move (.tmp 0), []⟩,
  ⟨1, (some 6), none, .move (.tmp 1), []⟩,
  ⟨2, (some 7), none, .call (.const (.func 148 [] [])) [(.tmp 5), (.tmp 6)], []⟩,
  ⟨3, (some 8), none, .bin .geq (some .int) (.tmp 7) (.const (.int .i64 (.ofNat 0))), []⟩,
  ⟨4, (some 4), none, .move (.tmp 8), []⟩]
def n_slices_ContainsFunc__api_Atom_api_Atom : NFn := ⟨2, 9, [.slot 4], (.seq (.region n_slices_ContainsFunc__api_Atom_api_Atom_r0 []) (.seq (.region n_slices_ContainsFunc__api_Atom_api_Atom_r1 []) .ret))⟩
theorem c_slices_ContainsFunc__api_Atom_api_Atom : compFn Tryz.prog F_slices_ContainsFunc__api_Atom_api_Atom = some n_slices_ContainsFunc__api_Atom_api_Atom := by kernel_rfl
theorem k_slices_ContainsFunc__api_Atom_api_Atom : n_slices_ContainsFunc__api_Atom_api_Atom.ok = true := by kernel_rfl

/-! gimlet/core.Own$1 -/
abbrev F_core_Own_1 : Nat := 122
def n_core_Own_1_r0 : List NI := [
  ⟨0, (some 1), none, .box (.tmp 0), []⟩,
  ⟨1, (some 2), none, .move (.const (.bool false)), []⟩]
def n_core_Own_1_r1 : List NI := [
  ⟨0, (some 3), none, .load (some 3) (.tmp 1), []⟩,
  ⟨1, (some 4), none, .call (.const (.func 123 [] [])) [(.tmp 3)], []⟩,
  ⟨2, (some 5), none, .un .not (.tmp 4), []⟩,
  ⟨3, (some 2), none, .move (.tmp 5), []⟩]
def n_core_Own_1 : NFn := ⟨1, 6, [.slot 2], (.seq (.region n_core_Own_1_r0 []) (.seq (.region n_core_Own_1_r1 []) .ret))⟩
theorem c_core_Own_1 : compFn Tryz.prog F_core_Own_1 = some n_core_Own_1 := by kernel_rfl
theorem k_core_Own_1 : n_core_Own_1.ok = true := by kernel_rfl

/-! gimlet/core.Atom -/
abbrev F_core_Atom : Nat := 123
def n_core_Atom_r0 : List NI := [
  ⟨0, (some 1), none, .box (.tmp 0), []⟩,
  ⟨1, (some 2), none, .move (.const (.bool false)), []⟩]
def n_core_Atom_r1 : List NI := [
  ⟨0, (some 3), none, .fieldAddr 0 (.tmp 1), []⟩,
  ⟨1, (some 4), none, .load none (.tmp 3), []⟩]
def n_core_Atom_r2 : List NI := [
  ⟨0, (some 6), none, .bin .eql (some .int) (.tmp 4) (.const (.int .i64 (.ofNat 1))), []⟩,
  ⟨1, (some 5), none, .move (.tmp 6), []⟩]
def n_core_Atom_r3 : List NI := [
  ⟨0, (some 7), none, .fieldAddr 1 (.tmp 1), []⟩,
  ⟨1, (some 8), none, .load none (.tmp 7), []⟩,
  ⟨2, (some 9), none, .bin .geq (some .int) (.tmp 8) (.const (.int .i64 (.ofNat 0))), []⟩,
  ⟨3, (some 10), none, .move (.tmp 9), []⟩,
  ⟨4, (some 11), (some (10, true)), .fieldAddr 1 (.tmp 1), []⟩,
  ⟨5, (some 12), (some (10, true)), .load none (.tmp 11), []⟩,
  ⟨6, (some 13), (some (10, true)), .bin .leq (some .int) (.tmp 12) (.const (.int .i64 (.ofNat 1048575))), []⟩,
  ⟨7, (some 14), none, .pick (.tmp 10) (.tmp 13) (.const (.bool false)), []⟩,
  ⟨8, (some 15), none, .move (.tmp 14), []⟩,
  ⟨9, (some 16), (some (15, true)), .fieldAddr 2 (.tmp 1), []⟩,
  ⟨10, (some 17), (some (15, true)), .load none (.tmp 16), []⟩,
  ⟨11, (some 18), (some (15, true)), .bin .eql (some .str) (.tmp 17) (.const (.str [])), []⟩,
  ⟨12, (some 19), none, .pick (.tmp 15) (.tmp 18) (.const (.bool false)), []⟩,
  ⟨13, (some 2), none, .move (.tmp 19), []⟩]
def n_core_Atom_r4 : List NI := [
  ⟨0, (some 21), none, .bin .eql (some .int) (.tmp 4) (.const (.int .i64 (.ofNat 2))), []⟩,
  ⟨1, (some 20), none, .move (.tmp 21), []⟩]
def n_core_Atom_r5 : List NI := [
  ⟨0, (some 22), none, .fieldAddr 1 (.tmp 1), []⟩,
  ⟨1, (some 23), none, .load none (.tmp 22), []⟩,
  ⟨2, (some 24), none, .bin .geq (some .int) (.tmp 23) (.const (.int .i64 (.negSucc 1073741823))), []⟩,
  ⟨3, (some 25), none, .move (.tmp 24), []⟩,
  ⟨4, (some 26), (some (25, true)), .fieldAddr 1 (.tmp 1), []⟩,
  ⟨5, (some 27), (some (25, true)), .load none (.tmp 26), []⟩,
  ⟨6, (some 28), (some (25, true)), .bin .leq (some .int) (.tmp 27) (.const (.int .i64 (.ofNat 1073741823))), []⟩,
  ⟨7, (some 29), none, .pick (.tmp 25) (.tmp 28) (.const (.bool false)), []⟩,
  ⟨8, (some 30), none, .move (.tmp 29), []⟩,
  ⟨9, (some 31), (some (30, true)), .fieldAddr 2 (.tmp 1), []⟩,
  ⟨10, (some 32), (some (30, true)), .load none (.tmp 31), []⟩,
  ⟨11, (some 33), (some (30, true)), .bin .eql (some .str) (.tmp 32) (.const (.str [])), []⟩,
  ⟨12, (some 34), none, .pick (.tmp 30) (.tmp 33) (.const (.bool false)), []⟩,
  ⟨13, (some 2), none, .move (.tmp 34), []⟩]
def n_core_Atom_r6 : List NI := [
  ⟨0, (some 36), none, .bin .eql (some .int) (.tmp 4) (.const (.int .i64 (.ofNat 3))), []⟩,
  ⟨1, (some 35), none, .move (.tmp 36), []⟩]
def n_core_Atom_r7 : List NI := [
  ⟨0, (some 37), none, .fieldAddr 1 (.tmp 1), []⟩,
  ⟨1, (some 38), none, .load none (.tmp 37), []⟩,
  ⟨2, (some 39), none, .bin .eql (some .int) (.tmp 38) (.const (.int .i64 (.ofNat 0))), []⟩,
  ⟨3, (some 40), none, .move (.tmp 39), []⟩,
  ⟨4, (some 41), (some (40, true)), .fieldAddr 2 (.tmp 1), []⟩,
  ⟨5, (some 42), (some (40, true)), .load none (.tmp 41), []⟩,
  ⟨6, (some 43), (some (40, true)), .len .str (.tmp 42), []⟩,
  ⟨7, (some 44), (some (40, true)), .bin .leq (some .int) (.tmp 43) (.const (.int .i64 (.ofNat 4096))), []⟩,
  ⟨8, (some 45), none, .pick (.tmp 40) (.tmp 44) (.const (.bool false)), []⟩,
  ⟨9, (some 2), none, .move (.tmp 45), []⟩]
def n_core_Atom_r8 : List NI := [
  ⟨0, (some 2), none, .move (.const (.bool false)), []⟩]
def n_core_Atom : NFn := ⟨1, 46, [.slot 2], (.seq (.region n_core_Atom_r0 []) (.seq (.seq (.region n_core_Atom_r1 []) (.block 0 (.seq (.region n_core_Atom_r2 []) (.cond (.tmp 5) (.seq (.region n_core_Atom_r3 []) .ret) (.seq (.region n_core_Atom_r4 []) (.cond (.tmp 20) (.seq (.region n_core_Atom_r5 []) .ret) (.seq (.region n_core_Atom_r6 []) (.cond (.tmp 35) (.seq (.region n_core_Atom_r7 []) .ret) .skip)))))))) (.seq (.region n_core_Atom_r8 []) .ret)))⟩
theorem c_core_Atom : compFn Tryz.prog F_core_Atom = some n_core_Atom := by kernel_rfl
theorem k_core_Atom : n_core_Atom.ok = true := by kernel_rfl

/-! gimlet/core.two$1 -/
abbrev F_core_two_1 : Nat := 128
def n_core_two_1_r0 : List NI := [
  ⟨0, (some 5), none, .move (.tmp 0), []⟩,
  ⟨1, (some 6), none, .move (.tmp 1), []⟩,
  ⟨2, (some 7), none, .buildSlice 1 2 [(.int .i64 (.ofNat 0)), (.int .i64 (.ofNat 0))] [(0, 1, (.const (.int .i64 (.ofNat 1)))), (1, 1, (.const (.int .i64 (.ofNat 1))))], []⟩,
  ⟨3, (some 8), none, .call (.const (.func 129 [] [])) [(.tmp 5), (.tmp 6), (.tmp 7)], []⟩]
def n_core_two_1_r1 : List NI := [
  ⟨0, (some 9), none, .move (.tmp 0), []⟩,
  ⟨1, (some 10), none, .load none (.tmp 2), []⟩,
  ⟨2, (some 11), none, .move (.tmp 1), []⟩,
  ⟨3, (some 12), none, .indexAddr 1 none (.tmp 11) (.const (.int .i64 (.ofNat 0))), []⟩,
  ⟨4, (some 13), none, .load none (.tmp 12), []⟩,
  ⟨5, (some 14), none, .nilCheck (.tmp 13), []⟩,
  ⟨6, (some 15), none, .fieldAddr 1 (.tmp 14), []⟩,
  ⟨7, (some 16), none, .load none (.tmp 15), []⟩,
  ⟨8, (some 17), none, .move (.tmp 1), []⟩,
  ⟨9, (some 18), none, .indexAddr 1 none (.tmp 17) (.const (.int .i64 (.ofNat 1))), []⟩,
  ⟨10, (some 19), none, .load none (.tmp 18), []⟩,
  ⟨11, (some 20), none, .nilCheck (.tmp 19), []⟩,
  ⟨12, (some 21), none, .fieldAddr 1 (.tmp 20), []⟩,
  ⟨13, (some 22), none, .load none (.tmp 21), []⟩,
  ⟨14, (some 23), none, .call (.tmp 10) [(.tmp 16), (.tmp 22)], []⟩,
  ⟨15, (some 24), none, .call (.const (.func 93 [] [])) [(.tmp 9), (.tmp 23)], []⟩]
def n_core_two_1 : NFn := ⟨3, 25, [], (.seq (.region n_core_two_1_r0 []) (.cond (.tmp 8) (.region n_core_two_1_r1 []) .skip))⟩
theorem c_core_two_1 : compFn Tryz.prog F_core_two_1 = some n_core_two_1 := by kernel_rfl
theorem k_core_two_1 : n_core_two_1.ok = true := by kernel_rfl

/-! (*gimlet/core.machine).kinds -/
abbrev F_core_machine_kinds : Nat := 129
def n_core_machine_kinds_r0 : List NI := [
  ⟨0, (some 6), none, .move (.const (.bool false)), []⟩]
def n_core_machine_kinds_r1 : List NI := [
  ⟨0, (some 9), none, .move (.tmp 2), []⟩,
  ⟨1, (some 10), none, .len .slice (.tmp 9), []⟩,
  ⟨2, (some 11), none, .move (.const (.int .i64 (.ofNat 0))), []⟩]
def n_core_machine_kinds_r2 : List NI := [
  ⟨0, (some 12), none, .bin .lss (some .int) (.tmp 11) (.tmp 10), []⟩]
def n_core_machine_kinds_r3 : List NI := [
  ⟨0, (some 13), none, .move (.tmp 11), []⟩,
  ⟨1, (some 14), none, .indexAddr 1 none (.tmp 9) (.tmp 11), []⟩,
  ⟨2, (some 15), none, .load none (.tmp 14), []⟩,
  ⟨3, (some 7), none, .move (.tmp 13), []⟩,
  ⟨4, (some 8), none, .move (.tmp 15), []⟩]
def n_core_machine_kinds_r4 : List NI := [
  ⟨0, (some 16), none, .move (.tmp 1), []⟩,
  ⟨1, (some 17), none, .move (.tmp 7), []⟩,
  ⟨2, (some 18), none, .indexAddr 1 none (.tmp 16) (.tmp 17), []⟩,
  ⟨3, (some 19), none, .load none (.tmp 18), []⟩,
  ⟨4, (some 20), none, .nilCheck (.tmp 19), []⟩,
  ⟨5, (some 21), none, .fieldAddr 0 (.tmp 20), []⟩,
  ⟨6, (some 22), none, .load none (.tmp 21), []⟩,
  ⟨7, (some 23), none, .move (.tmp 8), []⟩,
  ⟨8, (some 24), none, .bin .neq (some .int) (.tmp 22) (.tmp 23), []⟩]
def n_core_machine_kinds_r5 : List NI := [
  ⟨0, (some 25), none, .move (.tmp 0), []⟩,
  ⟨1, (some 26), none, .call (.const (.func 95 [] [])) [(.tmp 25), (.const (.int .i64 (.ofNat 6)))], []⟩]
def n_core_machine_kinds_r6 : List NI := [
  ⟨0, (some 6), none, .move (.const (.bool false)), []⟩]
def n_core_machine_kinds_r7 : List NI := [
  ⟨0, (some 27), none, .bin .add (some .int) (.tmp 11) (.const (.int .i64 (.ofNat 1))), []⟩,
  ⟨1, (some 11), none, .move (.tmp 27), []⟩]
def n_core_machine_kinds_l8 : NC := (.seq (.region n_core_machine_kinds_r2 []) (.seq (.cond (.tmp 12) .skip (.exit 0)) (.seq (.block 1 (.seq (.region n_core_machine_kinds_r3 []) (.seq (.region n_core_machine_kinds_r4 []) (.cond (.tmp 24) (.seq (.region n_core_machine_kinds_r5 []) (.seq (.region n_core_machine_kinds_r6 []) .ret)) .skip)))) (.region n_core_machine_kinds_r7 []))))
def n_core_machine_kinds_r9 : List NI := [
  ⟨0, (some 6), none, .move (.const (.bool true)), []⟩]
def n_core_machine_kinds : NFn := ⟨3, 28, [.slot 6], (.seq (.region n_core_machine_kinds_r0 []) (.seq (.seq (.region n_core_machine_kinds_r1 []) (.block 0 (.loop n_core_machine_kinds_l8))) (.seq (.region n_core_machine_kinds_r9 []) .ret)))⟩
theorem c_core_machine_kinds : compFn Tryz.prog F_core_machine_kinds = some n_core_machine_kinds := by kernel_rfl
theorem k_core_machine_kinds : n_core_machine_kinds.ok = true := by kernel_rfl

/-! gimlet/core.divides$1 -/
abbrev F_core_divides_1 : Nat := 130
def n_core_divides_1_r0 : List NI := [
  ⟨0, (some 24), none, .move (.tmp 0), []⟩,
  ⟨1, (some 25), none, .move (.tmp 1), []⟩,
  ⟨2, (some 26), none, .buildSlice 1 2 [(.int .i64 (.ofNat 0)), (.int .i64 (.ofNat 0))] [(0, 1, (.const (.int .i64 (.ofNat 1)))), (1, 1, (.const (.int .i64 (.ofNat 1))))], []⟩,
  ⟨3, (some 27), none, .call (.const (.func 129 [] [])) [(.tmp 24), (.tmp 25), (.tmp 26)], []⟩,
  ⟨4, (some 28), none, .un .not (.tmp 27), []⟩,
  ⟨5, (some 23), none, .move (.tmp 28), []⟩]
def n_core_divides_1_r1 : List NI := [
  ⟨0, (some 30), none, .move (.tmp 1), []⟩,
  ⟨1, (some 31), none, .indexAddr 1 none (.tmp 30) (.const (.int .i64 (.ofNat 1))), []⟩,
  ⟨2, (some 32), none, .load none (.tmp 31), []⟩,
  ⟨3, (some 33), none, .nilCheck (.tmp 32), []⟩,
  ⟨4, (some 34), none, .fieldAddr 1 (.tmp 33), []⟩,
  ⟨5, (some 35), none, .load none (.tmp 34), []⟩,
  ⟨6, (some 36), none, .bin .eql (some .int) (.tmp 35) (.const (.int .i64 (.ofNat 0))), []⟩,
  ⟨7, (some 29), none, .move (.tmp 36), []⟩]
def n_core_divides_1_r2 : List NI := [
  ⟨0, (some 37), none, .move (.tmp 0), []⟩,
  ⟨1, (some 38), none, .call (.const (.func 94 [] [])) [(.const (.int .i64 (.ofNat 1))), (.const .nilslice)], []⟩,
  ⟨2, (some 39), none, .call (.const (.func 100 [] [])) [(.tmp 37), (.tmp 38)], []⟩]
def n_core_divides_1_r3 : List NI := [
  ⟨0, (some 5), none, .move (.tmp 0), []⟩,
  ⟨1, (some 6), none, .load none (.tmp 2), []⟩,
  ⟨2, (some 7), none, .move (.tmp 1), []⟩,
  ⟨3, (some 8), none, .indexAddr 1 none (.tmp 7) (.const (.int .i64 (.ofNat 0))), []⟩,
  ⟨4, (some 9), none, .load none (.tmp 8), []⟩,
  ⟨5, (some 10), none, .nilCheck (.tmp 9), []⟩,
  ⟨6, (some 11), none, .fieldAddr 1 (.tmp 10), []⟩,
  ⟨7, (some 12), none, .load none (.tmp 11), []⟩,
  ⟨8, (some 13), none, .move (.tmp 1), []⟩,
  ⟨9, (some 14), none, .indexAddr 1 none (.tmp 13) (.const (.int .i64 (.ofNat 1))), []⟩,
  ⟨10, (some 15), none, .load none (.tmp 14), []⟩,
  ⟨11, (some 16), none, .nilCheck (.tmp 15), []⟩,
  ⟨12, (some 17), none, .fieldAddr 1 (.tmp 16), []⟩,
  ⟨13, (some 18), none, .load none (.tmp 17), []⟩,
  ⟨14, (some 19), none, .call (.tmp 6) [(.tmp 12), (.tmp 18)], []⟩,
  ⟨15, (some 20), none, .call (.const (.func 72 [] [])) [(.tmp 19)], []⟩,
  ⟨16, (some 21), none, .call (.const (.func 71 [] [])) [(.tmp 20)], []⟩,
  ⟨17, (some 22), none, .call (.const (.func 93 [] [])) [(.tmp 5), (.tmp 21)], []⟩]
def n_core_divides_1 : NFn := ⟨3, 40, [], (.block 0 (.seq (.region n_core_divides_1_r0 []) (.cond (.tmp 23) .skip (.seq (.region n_core_divides_1_r1 []) (.cond (.tmp 29) (.region n_core_divides_1_r2 []) (.region n_core_divides_1_r3 []))))))⟩
theorem c_core_divides_1 : compFn Tryz.prog F_core_divides_1 = some n_core_divides_1 := by kernel_rfl
theorem k_core_divides_1 : n_core_divides_1.ok = true := by kernel_rfl

/-! gimlet/core.text -/
abbrev F_core_text : Nat := 131
def n_core_text_r0 : List NI := [
  ⟨0, (some 2), none, .move (.const .nilptr), []⟩]
def n_core_text_r1 : List NI := [
  ⟨0, (some 3), none, .move (.tmp 0), []⟩,
  ⟨1, (some 4), none, .build [(.int .i64 (.ofNat 0)), (.int .i64 (.ofNat 0)), (.str []), .nilslice, .nilptr, .nilptr, (.bool false)] [(0, 1, (.const (.int .i64 (.ofNat 2)))), (2, 1, (.tmp 3))], []⟩,
  ⟨2, (some 5), none, .box (.tmp 4), []⟩,
  ⟨3, (some 2), none, .move (.tmp 5), []⟩]
def n_core_text : NFn := ⟨1, 6, [.slot 2], (.seq (.region n_core_text_r0 []) (.seq (.region n_core_text_r1 []) .ret))⟩
theorem c_core_text : compFn Tryz.prog F_core_text = some n_core_text := by kernel_rfl
theorem k_core_text : n_core_text.ok = true := by kernel_rfl

/-! (*gimlet/core.env).find -/
abbrev F_core_env_find : Nat := 132
def n_core_env_find_r0 : List NI := [
  ⟨0, (some 4), none, .move (.const .nilptr), []⟩]
def n_core_env_find_r1 : List NI := [
  ⟨0, (some 5), none, .move (.tmp 0), []⟩,
  ⟨1, (some 6), none, .nilCheck (.tmp 5), []⟩,
  ⟨2, (some 7), none, .fieldAddr 0 (.tmp 6), []⟩,
  ⟨3, (some 8), none, .load none (.tmp 7), []⟩,
  ⟨4, (some 9), none, .move (.tmp 1), []⟩,
  ⟨5, (some 10), none, .bin .neq (some .int) (.tmp 8) (.tmp 9), []⟩]
def n_core_env_find_r2 : List NI := [
  ⟨0, (some 11), none, .move (.tmp 0), []⟩,
  ⟨1, (some 12), none, .nilCheck (.tmp 11), []⟩,
  ⟨2, (some 13), none, .fieldAddr 2 (.tmp 12), []⟩,
  ⟨3, (some 14), none, .load none (.tmp 13), []⟩,
  ⟨4, (some 0), none, .move (.tmp 14), []⟩]
def n_core_env_find_l3 : NC := (.seq (.seq (.region n_core_env_find_r1 []) (.cond (.tmp 10) .skip (.exit 0))) (.block 1 (.region n_core_env_find_r2 [])))
def n_core_env_find_r4 : List NI := [
  ⟨0, (some 15), none, .move (.tmp 0), []⟩,
  ⟨1, (some 16), none, .nilCheck (.tmp 15), []⟩,
  ⟨2, (some 17), none, .fieldAddr 1 (.tmp 16), []⟩,
  ⟨3, (some 18), none, .load none (.tmp 17), []⟩,
  ⟨4, (some 4), none, .move (.tmp 18), []⟩]
def n_core_env_find : NFn := ⟨2, 19, [.slot 4], (.seq (.region n_core_env_find_r0 []) (.seq (.block 0 (.loop n_core_env_find_l3)) (.seq (.region n_core_env_find_r4 []) .ret)))⟩
theorem c_core_env_find : compFn Tryz.prog F_core_env_find = some n_core_env_find := by kernel_rfl
theorem k_core_env_find : n_core_env_find.ok = true := by kernel_rfl

/-! (*gimlet/core.machine).pop -/
abbrev F_core_machine_pop : Nat := 133
def n_core_machine_pop_r0 : List NI := [
  ⟨0, (some 2), none, .zero [(.bool false), (.int .i64 (.ofNat 0)), .nilptr, .nilptr], []⟩,
  ⟨1, (some 3), none, .move (.const (.bool false)), []⟩]
def n_core_machine_pop_r1 : List NI := [
  ⟨0, (some 6), none, .move (.tmp 0), []⟩,
  ⟨1, (some 7), none, .nilCheck (.tmp 6), []⟩,
  ⟨2, (some 8), none, .fieldAddr 9 (.tmp 7), []⟩,
  ⟨3, (some 9), none, .load none (.tmp 8), []⟩,
  ⟨4, (some 10), none, .len .slice (.tmp 9), []⟩,
  ⟨5, (some 4), none, .move (.tmp 10), []⟩]
def n_core_machine_pop_r2 : List NI := [
  ⟨0, (some 11), none, .move (.tmp 4), []⟩,
  ⟨1, (some 12), none, .bin .eql (some .int) (.tmp 11) (.const (.int .i64 (.ofNat 0))), []⟩]
def n_core_machine_pop_r3 : List NI := [
  ⟨0, (some 13), none, .build [(.bool false), (.int .i64 (.ofNat 0)), .nilptr, .nilptr] [], []⟩,
  ⟨1, none, none, .store 4 (.tmp 2) (.tmp 13), []⟩,
  ⟨2, (some 3), none, .move (.const (.bool false)), []⟩]
def n_core_machine_pop_r4 : List NI := [
  ⟨0, (some 14), none, .move (.tmp 0), []⟩,
  ⟨1, (some 15), none, .nilCheck (.tmp 14), []⟩,
  ⟨2, (some 16), none, .fieldAddr 9 (.tmp 15), []⟩,
  ⟨3, (some 17), none, .load none (.tmp 16), []⟩,
  ⟨4, (some 18), none, .move (.tmp 4), []⟩,
  ⟨5, (some 19), none, .bin .sub (some .int) (.tmp 18) (.const (.int .i64 (.ofNat 1))), []⟩,
  ⟨6, (some 20), none, .indexAddr 4 none (.tmp 17) (.tmp 19), []⟩,
  ⟨7, (some 21), none, .load (some 4) (.tmp 20), []⟩,
  ⟨8, (some 5), none, .zero [(.bool false), (.int .i64 (.ofNat 0)), .nilptr, .nilptr], []⟩,
  ⟨9, none, none, .store 4 (.tmp 5) (.tmp 21), []⟩]
def n_core_machine_pop_r5 : List NI := [
  ⟨0, (some 22), none, .move (.tmp 0), []⟩,
  ⟨1, (some 23), none, .move (.tmp 0), []⟩,
  ⟨2, (some 24), none, .nilCheck (.tmp 23), []⟩,
  ⟨3, (some 25), none, .fieldAddr 9 (.tmp 24), []⟩,
  ⟨4, (some 26), none, .load none (.tmp 25), []⟩,
  ⟨5, (some 27), none, .move (.tmp 4), []⟩,
  ⟨6, (some 28), none, .bin .sub (some .int) (.tmp 27) (.const (.int .i64 (.ofNat 1))), []⟩,
  ⟨7, (some 29), none, .slice (some 4) (.tmp 26) none (some (.tmp 28)) none, []⟩,
  ⟨8, (some 30), none, .nilCheck (.tmp 22), []⟩,
  ⟨9, (some 31), none, .fieldAddr 9 (.tmp 30), []⟩,
  ⟨10, none, none, .store 1 (.tmp 31) (.tmp 29), []⟩]
def n_core_machine_pop_r6 : List NI := [
  ⟨0, (some 32), none, .load (some 4) (.tmp 5), []⟩,
  ⟨1, none, none, .store 4 (.tmp 2) (.tmp 32), []⟩,
  ⟨2, (some 3), none, .move (.const (.bool true)), []⟩]
def n_core_machine_pop : NFn := ⟨1, 33, [.cell 2 (some 4), .slot 3], (.seq (.region n_core_machine_pop_r0 []) (.seq (.region n_core_machine_pop_r1 []) (.seq (.seq (.region n_core_machine_pop_r2 []) (.cond (.tmp 12) (.seq (.region n_core_machine_pop_r3 []) .ret) .skip)) (.seq (.region n_core_machine_pop_r4 []) (.seq (.region n_core_machine_pop_r5 []) (.seq (.region n_core_machine_pop_r6 []) .ret))))))⟩
theorem c_core_machine_pop : compFn Tryz.prog F_core_machine_pop = some n_core_machine_pop := by kernel_rfl
theorem k_core_machine_pop : n_core_machine_pop.ok = true := by kernel_rfl

/-! (*gimlet/core.machine).goes -/
abbrev F_core_machine_goes : Nat := 134
def n_core_machine_goes_r0 : List NI := [
  ⟨0, (some 4), none, .box (.tmp 1), []⟩]
def n_core_machine_goes_r1 : List NI := [
  ⟨0, (some 6), none, .move (.tmp 0), []⟩,
  ⟨1, (some 7), none, .move (.tmp 0), []⟩,
  ⟨2, (some 8), none, .fieldAddr 2 (.tmp 4), []⟩,
  ⟨3, (some 9), none, .load none (.tmp 8), []⟩,
  ⟨4, (some 10), none, .fieldAddr 3 (.tmp 4), []⟩,
  ⟨5, (some 11), none, .load none (.tmp 10), []⟩,
  ⟨6, (some 12), none, .fieldAddr 1 (.tmp 4), []⟩,
  ⟨7, (some 13), none, .load none (.tmp 12), []⟩,
  ⟨8, (some 14), none, .move (.tmp 2), []⟩,
  ⟨9, (some 15), none, .call (.const (.func 135 [] [])) [(.tmp 11), (.tmp 13), (.tmp 14)], [((some 9), none, .load none (.tmp 8))]⟩,
  ⟨10, (some 16), none, .nilCheck (.tmp 6), []⟩,
  ⟨11, (some 17), none, .fieldAddr 7 (.tmp 16), []⟩,
  ⟨12, none, none, .store 1 (.tmp 17) (.tmp 9), []⟩,
  ⟨13, (some 18), none, .nilCheck (.tmp 7), []⟩,
  ⟨14, (some 19), none, .fieldAddr 8 (.tmp 18), []⟩,
  ⟨15, none, none, .store 1 (.tmp 19) (.tmp 15), []⟩]
def n_core_machine_goes : NFn := ⟨3, 20, [], (.seq (.region n_core_machine_goes_r0 []) (.region n_core_machine_goes_r1 []))⟩
theorem c_core_machine_goes : compFn Tryz.prog F_core_machine_goes = some n_core_machine_goes := by kernel_rfl
theorem k_core_machine_goes : n_core_machine_goes.ok = true := by kernel_rfl

/-! (*gimlet/core.env).with -/
abbrev F_core_env_with : Nat := 135
def n_core_env_with_r0 : List NI := [
  ⟨0, (some 6), none, .move (.const .nilptr), []⟩]
def n_core_env_with_r1 : List NI := [
  ⟨0, (some 7), none, .move (.tmp 1), []⟩,
  ⟨1, (some 8), none, .move (.tmp 2), []⟩,
  ⟨2, (some 9), none, .move (.tmp 0), []⟩,
  ⟨3, (some 10), none, .build [(.int .i64 (.ofNat 0)), .nilptr, .nilptr] [(0, 1, (.tmp 7)), (1, 1, (.tmp 8)), (2, 1, (.tmp 9))], []⟩,
  ⟨4, (some 11), none, .box (.tmp 10), []⟩,
  ⟨5, (some 6), none, .move (.tmp 11), []⟩]
def n_core_env_with : NFn := ⟨3, 12, [.slot 6], (.seq (.region n_core_env_with_r0 []) (.seq (.region n_core_env_with_r1 []) .ret))⟩
theorem c_core_env_with : compFn Tryz.prog F_core_env_with = some n_core_env_with := by kernel_rfl
theorem k_core_env_with : n_core_env_with.ok = true := by kernel_rfl

/-! gimlet/flatten.atoms$1 -/
abbrev F_flatten_atoms_1 : Nat := 147
def n_flatten_atoms_1_r0 : List NI := [
  ⟨0, (some 1), none, .box (.tmp 0), []⟩,
  ⟨1, (some 2), none, .move (.const (.bool false)), []⟩]
def n_flatten_atoms_1_r1 : List NI := [
  ⟨0, (some 3), none, .load (some 3) (.tmp 1), []⟩,
  ⟨1, (some 4), none, .call (.const (.func 123 [] [])) [(.tmp 3)], []⟩,
  ⟨2, (some 5), none, .un .not (.tmp 4), []⟩,
  ⟨3, (some 2), none, .move (.tmp 5), []⟩]
def n_flatten_atoms_1 : NFn := ⟨1, 6, [.slot 2], (.seq (.region n_flatten_atoms_1_r0 []) (.seq (.region n_flatten_atoms_1_r1 []) .ret))⟩
theorem c_flatten_atoms_1 : compFn Tryz.prog F_flatten_atoms_1 = some n_flatten_atoms_1 := by kernel_rfl
theorem k_flatten_atoms_1 : n_flatten_atoms_1.ok = true := by kernel_rfl

/-! slices.IndexFunc[[]gimlet/api.Atom,gimlet/api.Atom] -/
abbrev F_slices_IndexFunc__api_Atom_api_Atom : Nat := 148
def n_slices_IndexFunc__api_Atom_api_Atom_r0 : List NI := [
  ⟨0, (some 4), none, .move (.const (.int .i64 (.ofNat 0))), []⟩]
def n_slices_IndexFunc__api_Atom_api_Atom_r1 : List NI := [
  ⟨0, (some 6), none, .move (.tmp 0), []⟩,
  ⟨1, (some 7), none, .len .slice (.tmp 6), []⟩,
  ⟨2, (some 8), none, .move (.const (.int .i64 (.ofNat 0))), []⟩]
def n_slices_IndexFunc__api_Atom_api_Atom_r2 : List NI := [
  ⟨0, (some 9), none, .bin .lss (some .int) (.tmp 8) (.tmp 7), []⟩]
def n_slices_IndexFunc__api_Atom_api_Atom_r3 : List NI := [
  ⟨0, (some 10), none, .move (.tmp 8), []⟩,
  ⟨1, (some 5), none, .move (.tmp 10), []⟩]
def n_slices_IndexFunc__api_Atom_api_Atom_r4 : List NI := [
  ⟨0, (some 11), none, .move (.tmp 1), []⟩,
  ⟨1, (some 12), none, .move (.tmp 0), []⟩,
  ⟨2, (some 13), none, .move (.tmp 5), []⟩,
  ⟨3, (some 14), none, .indexAddr 3 none (.tmp 12) (.tmp 13), []⟩,
  ⟨4, (some 15), none, .load (some 3) (.tmp 14), []⟩,
  ⟨5, (some 16), none, .call (.tmp 11) [(.tmp 15)], []⟩]
def n_slices_IndexFunc__api_Atom_api_Atom_r5 : List NI := [
  ⟨0, (some 17), none, .move (.tmp 5), []⟩,
  ⟨1, (some 4), none, .move (.tmp 17), []⟩]
def n_slices_IndexFunc__api_Atom_api_Atom_r6 : List NI := [
  ⟨0, (some 18), none, .bin .add (some .int) (.tmp 8) (.const (.int .i64 (.ofNat 1))), []⟩,
  ⟨1, (some 8), none, .move (.tmp 18), []⟩]
def n_slices_IndexFunc__api_Atom_api_Atom_l7 : NC := (.seq (.region n_slices_IndexFunc__api_Atom_api_Atom_r2 []) (.seq (.cond (.tmp 9) .skip (.exit 0)) (.seq (.block 1 (.seq (.region n_slices_IndexFunc__api_Atom_api_Atom_r3 []) (.seq (.region n_slices_IndexFunc__api_Atom_api_Atom_r4 []) (.cond (.tmp 16) (.seq (.region n_slices_IndexFunc__api_Atom_api_Atom_r5 []) .ret) .skip)))) (.region n_slices_IndexFunc__api_Atom_api_Atom_r6 []))))
def n_slices_IndexFunc__api_Atom_api_Atom_r8 : List NI := [
  ⟨0, (some 4), none, .move (.const (.int .i64 (.negSucc 0))), []⟩]
def n_slices_IndexFunc__api_Atom_api_Atom : NFn := ⟨2, 19, [.slot 4], (.seq (.region n_slices_IndexFunc__api_Atom_api_Atom_r0 []) (.seq (.seq (.region n_slices_IndexFunc__api_Atom_api_Atom_r1 []) (.block 0 (.loop n_slices_IndexFunc__api_Atom_api_Atom_l7))) (.seq (.region n_slices_IndexFunc__api_Atom_api_Atom_r8 []) .ret)))⟩
theorem c_slices_IndexFunc__api_Atom_api_Atom : compFn Tryz.prog F_slices_IndexFunc__api_Atom_api_Atom = some n_slices_IndexFunc__api_Atom_api_Atom := by kernel_rfl
theorem k_slices_IndexFunc__api_Atom_api_Atom : n_slices_IndexFunc__api_Atom_api_Atom.ok = true := by kernel_rfl

end Go.NL
