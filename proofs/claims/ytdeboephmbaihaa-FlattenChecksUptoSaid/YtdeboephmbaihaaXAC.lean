import Derived.Test.YtdeboephmbaihaaMC2
import Derived.Test.YtdeboephmbaihaaProg
set_option maxRecDepth 100000
namespace Go.NL
open Go.Proofs
abbrev F_flatten_Convert : Nat := 6
@[go_sem] def n_flatten_Convert_r0 : List NI := [
 ⟨0, some 1, none, .box (.tmp 0), []⟩,
 ⟨1, some 2, none, .zero [.nilslice, (.int .i64 0), (.int .i64 0), (.int .i64 0), (.str []), .nilslice, .nilslice, .nilslice], []⟩,
 ⟨2, some 3, none, .move (.const (.int .i64 0)), []⟩]
@[go_sem] def n_flatten_Convert_r1 : List NI := [
 ⟨0, some 10, none, .load (some 7) (.tmp 1), []⟩,
 ⟨1, some 11, none, .call (.const (.func 16 [] [])) [(.tmp 10)], []⟩,
 ⟨2, some 4, none, .move (.tmp 11), []⟩]
@[go_sem] def n_flatten_Convert_r2 : List NI := [
 ⟨0, some 12, none, .move (.tmp 4), []⟩,
 ⟨1, some 13, none, .bin .neq (some .int) (.tmp 12) (.const (.int .i64 0)), []⟩]
@[go_sem] def n_flatten_Convert_r3 : List NI := [
 ⟨0, some 14, none, .build [.nilslice, (.int .i64 0), (.int .i64 0), (.int .i64 0), (.str []), .nilslice, .nilslice, .nilslice] [], []⟩,
 ⟨1, some 15, none, .move (.tmp 4), []⟩,
 ⟨2, none, none, .store 8 (.tmp 2) (.tmp 14), []⟩,
 ⟨3, some 3, none, .move (.tmp 15), []⟩]
@[go_sem] def n_flatten_Convert_r4 : List NI := [
 ⟨0, some 17, none, .load (some 7) (.tmp 1), []⟩,
 ⟨1, some 18, none, .call (.const (.func 17 [] [])) [(.tmp 17)], []⟩,
 ⟨2, some 16, none, .move (.tmp 18), []⟩,
 ⟨3, some 19, none, .extract (.tmp 16) 0, []⟩,
 ⟨4, some 20, none, .extract (.tmp 16) 1, []⟩,
 ⟨5, some 5, none, .move (.tmp 19), []⟩,
 ⟨6, some 6, none, .move (.tmp 20), []⟩]
@[go_sem] def n_flatten_Convert_r5 : List NI := [
 ⟨0, some 21, none, .move (.tmp 6), []⟩,
 ⟨1, some 22, none, .move (.tmp 21), []⟩,
 ⟨2, some 23, some (22, false), .move (.tmp 5), []⟩,
 ⟨3, some 24, some (22, false), .bin .gtr (some .int) (.tmp 23) (.const (.int .i64 16384)), []⟩,
 ⟨4, some 25, none, .pick (.tmp 22) (.const (.bool true)) (.tmp 24), []⟩]
@[go_sem] def n_flatten_Convert_r6 : List NI := [
 ⟨0, some 26, none, .build [.nilslice, (.int .i64 0), (.int .i64 0), (.int .i64 0), (.str []), .nilslice, .nilslice, .nilslice] [], []⟩,
 ⟨1, none, none, .store 8 (.tmp 2) (.tmp 26), []⟩,
 ⟨2, some 3, none, .move (.const (.int .i64 3)), []⟩]
@[go_sem] def n_flatten_Convert_r7 : List NI := [
 ⟨0, some 27, none, .build [.nilslice] [], []⟩,
 ⟨1, some 28, none, .box (.tmp 27), []⟩,
 ⟨2, some 7, none, .move (.tmp 28), []⟩]
@[go_sem] def n_flatten_Convert_r8 : List NI := [
 ⟨0, some 29, none, .makeMap, []⟩,
 ⟨1, some 30, none, .build [.nilmap, (.int .i64 0)] [(0, 1, (.tmp 29))], []⟩,
 ⟨2, some 31, none, .box (.tmp 30), []⟩,
 ⟨3, some 8, none, .move (.tmp 31), []⟩]
@[go_sem] def n_flatten_Convert_r9 : List NI := [
 ⟨0, some 32, none, .move (.tmp 7), []⟩,
 ⟨1, some 33, none, .load (some 7) (.tmp 1), []⟩,
 ⟨2, some 34, none, .move (.tmp 8), []⟩,
 ⟨3, some 35, none, .call (.const (.func 18 [] [])) [(.tmp 32), (.tmp 33), (.tmp 34)], []⟩,
 ⟨4, some 9, none, .zero [(.int .i64 0), (.int .i64 0), (.int .i64 0), (.str []), .nilslice, .nilslice, .nilslice], []⟩,
 ⟨5, none, none, .store 7 (.tmp 9) (.tmp 35), []⟩]
@[go_sem] def n_flatten_Convert_r10 : List NI := [
 ⟨0, some 36, none, .move (.tmp 7), []⟩,
 ⟨1, some 37, none, .nilCheck (.tmp 36), []⟩,
 ⟨2, some 38, none, .fieldAddr 0 (.tmp 37), []⟩,
 ⟨3, some 39, none, .load none (.tmp 38), []⟩,
 ⟨4, some 40, none, .load (some 7) (.tmp 9), []⟩,
 ⟨5, some 41, none, .build [.nilslice, (.int .i64 0), (.int .i64 0), (.int .i64 0), (.str []), .nilslice, .nilslice, .nilslice] [(0, 1, (.tmp 39)), (1, 7, (.tmp 40))], []⟩,
 ⟨6, none, none, .store 8 (.tmp 2) (.tmp 41), []⟩,
 ⟨7, some 3, none, .move (.const (.int .i64 0)), []⟩]
@[go_sem] def n_flatten_Convert : NFn := ⟨1, 42, [.cell 2 (some 8), .slot 3], (.seq (.region n_flatten_Convert_r0 []) (.seq (.seq (.region n_flatten_Convert_r1 []) (.seq (.region n_flatten_Convert_r2 []) (.cond (.tmp 13) (.seq (.region n_flatten_Convert_r3 []) .ret) .skip))) (.seq (.seq (.region n_flatten_Convert_r4 []) (.seq (.region n_flatten_Convert_r5 []) (.cond (.tmp 25) (.seq (.region n_flatten_Convert_r6 []) .ret) .skip))) (.seq (.region n_flatten_Convert_r7 []) (.seq (.region n_flatten_Convert_r8 []) (.seq (.region n_flatten_Convert_r9 []) (.seq (.region n_flatten_Convert_r10 []) .ret)))))))⟩
theorem c_flatten_Convert : compFn Try.prog F_flatten_Convert = some n_flatten_Convert := by kernel_rfl
abbrev F_gimletlaw26_awake : Nat := 7
@[go_sem] def n_gimletlaw26_awake_r0 : List NI := [
 ⟨0, some 0, none, .move (.const (.bool false)), []⟩]
@[go_sem] def n_gimletlaw26_awake_r1 : List NI := [
 ⟨0, some 5, none, .call (.const (.func 21 [] [])) [(.const (.int .i64 0))], []⟩,
 ⟨1, some 6, none, .call (.const (.func 20 [] [])) [(.tmp 5)], []⟩,
 ⟨2, some 7, none, .call (.const (.func 19 [] [])) [(.const (.int .i64 0)), (.tmp 6)], []⟩,
 ⟨3, some 8, none, .call (.const (.func 6 [] [])) [(.tmp 7)], []⟩,
 ⟨4, some 4, none, .move (.tmp 8), []⟩,
 ⟨5, some 9, none, .extract (.tmp 4) 0, []⟩,
 ⟨6, some 10, none, .extract (.tmp 4) 1, []⟩,
 ⟨7, some 1, none, .zero [.nilslice, (.int .i64 0), (.int .i64 0), (.int .i64 0), (.str []), .nilslice, .nilslice, .nilslice], []⟩,
 ⟨8, none, none, .store 8 (.tmp 1) (.tmp 9), []⟩,
 ⟨9, some 2, none, .move (.tmp 10), []⟩]
@[go_sem] def n_gimletlaw26_awake_r2 : List NI := [
 ⟨0, some 11, none, .call (.const (.func 21 [] [])) [(.const (.int .i64 0))], []⟩,
 ⟨1, some 12, none, .call (.const (.func 20 [] [])) [(.tmp 11)], []⟩,
 ⟨2, some 13, none, .build [(.int .i64 0), (.int .i64 0), (.int .i64 0), (.int .i64 0), (.str []), .nilslice, .nilslice, .nilslice] [(1, 7, (.tmp 12))], []⟩,
 ⟨3, some 14, none, .buildSlice 8 1 [(.int .i64 0), (.int .i64 0), (.int .i64 0), (.int .i64 0), (.str []), .nilslice, .nilslice, .nilslice] [(0, 8, (.tmp 13))], []⟩,
 ⟨4, some 15, none, .build [(.int .i64 0), (.int .i64 0), (.int .i64 0), (.str []), .nilslice, .nilslice, .nilslice] [(0, 1, (.const (.int .i64 13)))], []⟩,
 ⟨5, some 16, none, .build [.nilslice, (.int .i64 0), (.int .i64 0), (.int .i64 0), (.str []), .nilslice, .nilslice, .nilslice] [(0, 1, (.tmp 14)), (1, 7, (.tmp 15))], []⟩,
 ⟨6, some 3, none, .zero [.nilslice, (.int .i64 0), (.int .i64 0), (.int .i64 0), (.str []), .nilslice, .nilslice, .nilslice], []⟩,
 ⟨7, none, none, .store 8 (.tmp 3) (.tmp 16), []⟩]
@[go_sem] def n_gimletlaw26_awake_r3 : List NI := [
 ⟨0, some 17, none, .move (.tmp 2), []⟩,
 ⟨1, some 18, none, .bin .eql (some .int) (.tmp 17) (.const (.int .i64 0)), []⟩,
 ⟨2, some 19, none, .move (.tmp 18), []⟩,
 ⟨3, some 20, some (19, true), .load (some 8) (.tmp 1), []⟩,
 ⟨4, some 21, some (19, true), .load (some 8) (.tmp 3), []⟩,
 ⟨5, some 22, some (19, true), .call (.const (.func 15 [] [])) [(.tmp 20), (.tmp 21)], []⟩,
 ⟨6, some 23, none, .pick (.tmp 19) (.tmp 22) (.const (.bool false)), []⟩,
 ⟨7, some 24, none, .move (.tmp 23), []⟩,
 ⟨8, some 25, some (24, true), .load (some 8) (.tmp 1), []⟩,
 ⟨9, some 26, some (24, true), .call (.const (.func 8 [] [])) [(.tmp 25)], []⟩,
 ⟨10, some 27, some (24, true), .bin .eql (some .int) (.tmp 26) (.const (.int .i64 0)), []⟩,
 ⟨11, some 28, none, .pick (.tmp 24) (.tmp 27) (.const (.bool false)), []⟩,
 ⟨12, some 29, none, .move (.tmp 28), []⟩,
 ⟨13, some 30, some (29, true), .fieldAddr 1 (.tmp 3), []⟩,
 ⟨14, some 31, some (29, true), .load (some 7) (.tmp 30), []⟩,
 ⟨15, some 32, some (29, true), .build [.nilslice, (.int .i64 0), (.int .i64 0), (.int .i64 0), (.str []), .nilslice, .nilslice, .nilslice] [(1, 7, (.tmp 31))], []⟩,
 ⟨16, some 33, some (29, true), .call (.const (.func 8 [] [])) [(.tmp 32)], []⟩,
 ⟨17, some 34, some (29, true), .bin .eql (some .int) (.tmp 33) (.const (.int .i64 2)), []⟩,
 ⟨18, some 35, none, .pick (.tmp 29) (.tmp 34) (.const (.bool false)), []⟩,
 ⟨19, some 0, none, .move (.tmp 35), []⟩]
@[go_sem] def n_gimletlaw26_awake : NFn := ⟨0, 36, [.slot 0], (.seq (.region n_gimletlaw26_awake_r0 []) (.seq (.region n_gimletlaw26_awake_r1 []) (.seq (.region n_gimletlaw26_awake_r2 []) (.seq (.region n_gimletlaw26_awake_r3 []) .ret))))⟩
theorem c_gimletlaw26_awake : compFn Try.prog F_gimletlaw26_awake = some n_gimletlaw26_awake := by kernel_rfl
abbrev F_flatten_Check : Nat := 8
@[go_sem] def n_flatten_Check_r0 : List NI := [
 ⟨0, some 1, none, .box (.tmp 0), []⟩,
 ⟨1, some 2, none, .move (.const (.int .i64 0)), []⟩]
@[go_sem] def n_flatten_Check_r1 : List NI := [
 ⟨0, some 11, none, .fieldAddr 0 (.tmp 1), []⟩,
 ⟨1, some 12, none, .load none (.tmp 11), []⟩,
 ⟨2, some 13, none, .len .slice (.tmp 12), []⟩,
 ⟨3, some 14, none, .bin .gtr (some .int) (.tmp 13) (.const (.int .i64 16384)), []⟩,
 ⟨4, some 15, none, .move (.tmp 14), []⟩,
 ⟨5, some 16, some (15, false), .fieldAddr 1 (.tmp 1), []⟩,
 ⟨6, some 17, some (15, false), .load (some 7) (.tmp 16), []⟩,
 ⟨7, some 18, some (15, false), .load (some 8) (.tmp 1), []⟩,
 ⟨8, some 19, some (15, false), .call (.const (.func 22 [] [])) [(.tmp 17), (.tmp 18)], []⟩,
 ⟨9, some 20, some (15, false), .un .not (.tmp 19), []⟩,
 ⟨10, some 21, none, .pick (.tmp 15) (.const (.bool true)) (.tmp 20), []⟩]
@[go_sem] def n_flatten_Check_r2 : List NI := [
 ⟨0, some 2, none, .move (.const (.int .i64 2)), []⟩]
@[go_sem] def n_flatten_Check_r3 : List NI := [
 ⟨0, some 23, none, .fieldAddr 1 (.tmp 1), []⟩,
 ⟨1, some 24, none, .load (some 7) (.tmp 23), []⟩,
 ⟨2, some 25, none, .call (.const (.func 23 [] [])) [(.tmp 24), (.const (.int .i64 0)), (.const (.bool false))], []⟩,
 ⟨3, some 22, none, .move (.tmp 25), []⟩,
 ⟨4, some 26, none, .extract (.tmp 22) 0, []⟩,
 ⟨5, some 27, none, .extract (.tmp 22) 1, []⟩,
 ⟨6, some 3, none, .move (.tmp 26), []⟩,
 ⟨7, some 4, none, .move (.tmp 27), []⟩]
@[go_sem] def n_flatten_Check_r4 : List NI := [
 ⟨0, some 28, none, .fieldAddr 0 (.tmp 1), []⟩,
 ⟨1, some 29, none, .load none (.tmp 28), []⟩,
 ⟨2, some 30, none, .len .slice (.tmp 29), []⟩,
 ⟨3, some 31, none, .move (.const (.int .i64 0)), []⟩]
@[go_sem] def n_flatten_Check_r5 : List NI := [
 ⟨0, some 32, none, .bin .lss (some .int) (.tmp 31) (.tmp 30), []⟩]
@[go_sem] def n_flatten_Check_r6 : List NI := [
 ⟨0, some 33, none, .indexAddr 8 none (.tmp 29) (.tmp 31), []⟩,
 ⟨1, some 34, none, .load (some 8) (.tmp 33), []⟩,
 ⟨2, some 6, none, .zero [(.int .i64 0), (.int .i64 0), (.int .i64 0), (.int .i64 0), (.str []), .nilslice, .nilslice, .nilslice], []⟩,
 ⟨3, none, none, .store 8 (.tmp 6) (.tmp 34), []⟩]
@[go_sem] def n_flatten_Check_r7 : List NI := [
 ⟨0, some 35, none, .fieldAddr 0 (.tmp 6), []⟩,
 ⟨1, some 36, none, .load none (.tmp 35), []⟩,
 ⟨2, some 37, none, .bin .lss (some .int) (.tmp 36) (.const (.int .i64 0)), []⟩,
 ⟨3, some 38, none, .move (.tmp 37), []⟩,
 ⟨4, some 39, some (38, false), .fieldAddr 0 (.tmp 6), []⟩,
 ⟨5, some 40, some (38, false), .load none (.tmp 39), []⟩,
 ⟨6, some 41, some (38, false), .bin .gtr (some .int) (.tmp 40) (.const (.int .i64 1048575)), []⟩,
 ⟨7, some 42, none, .pick (.tmp 38) (.const (.bool true)) (.tmp 41), []⟩,
 ⟨8, some 43, none, .move (.tmp 42), []⟩,
 ⟨9, some 44, some (43, false), .fieldAddr 1 (.tmp 6), []⟩,
 ⟨10, some 45, some (43, false), .load (some 7) (.tmp 44), []⟩,
 ⟨11, some 46, some (43, false), .load (some 8) (.tmp 1), []⟩,
 ⟨12, some 47, some (43, false), .call (.const (.func 22 [] [])) [(.tmp 45), (.tmp 46)], []⟩,
 ⟨13, some 48, some (43, false), .un .not (.tmp 47), []⟩,
 ⟨14, some 49, none, .pick (.tmp 43) (.const (.bool true)) (.tmp 48), []⟩]
@[go_sem] def n_flatten_Check_r8 : List NI := [
 ⟨0, some 2, none, .move (.const (.int .i64 2)), []⟩]
@[go_sem] def n_flatten_Check_r9 : List NI := [
 ⟨0, some 50, none, .bin .add (some .int) (.tmp 31) (.const (.int .i64 1)), []⟩,
 ⟨1, some 31, none, .move (.tmp 50), []⟩]
def n_flatten_Check_l10 : NC := (.seq (.region n_flatten_Check_r5 []) (.seq (.cond (.tmp 32) .skip (.exit 0)) (.seq (.block 1 (.seq (.region n_flatten_Check_r6 []) (.seq (.region n_flatten_Check_r7 []) (.cond (.tmp 49) (.seq (.region n_flatten_Check_r8 []) .ret) .skip)))) (.region n_flatten_Check_r9 []))))
@[go_sem] def n_flatten_Check_r11 : List NI := [
 ⟨0, some 51, none, .fieldAddr 0 (.tmp 1), []⟩,
 ⟨1, some 52, none, .load none (.tmp 51), []⟩,
 ⟨2, some 53, none, .len .slice (.tmp 52), []⟩,
 ⟨3, some 54, none, .move (.const (.int .i64 0)), []⟩]
@[go_sem] def n_flatten_Check_r12 : List NI := [
 ⟨0, some 55, none, .bin .lss (some .int) (.tmp 54) (.tmp 53), []⟩]
@[go_sem] def n_flatten_Check_r13 : List NI := [
 ⟨0, some 56, none, .indexAddr 8 none (.tmp 52) (.tmp 54), []⟩,
 ⟨1, some 57, none, .load (some 8) (.tmp 56), []⟩,
 ⟨2, some 8, none, .zero [(.int .i64 0), (.int .i64 0), (.int .i64 0), (.int .i64 0), (.str []), .nilslice, .nilslice, .nilslice], []⟩,
 ⟨3, none, none, .store 8 (.tmp 8) (.tmp 57), []⟩]
@[go_sem] def n_flatten_Check_r14 : List NI := [
 ⟨0, some 59, none, .fieldAddr 1 (.tmp 8), []⟩,
 ⟨1, some 60, none, .load (some 7) (.tmp 59), []⟩,
 ⟨2, some 61, none, .fieldAddr 0 (.tmp 8), []⟩,
 ⟨3, some 62, none, .load none (.tmp 61), []⟩,
 ⟨4, some 63, none, .call (.const (.func 23 [] [])) [(.tmp 60), (.tmp 62), (.const (.bool true))], []⟩,
 ⟨5, some 58, none, .move (.tmp 63), []⟩,
 ⟨6, some 64, none, .extract (.tmp 58) 0, []⟩,
 ⟨7, some 65, none, .extract (.tmp 58) 1, []⟩,
 ⟨8, some 9, none, .move (.tmp 64), []⟩,
 ⟨9, some 10, none, .move (.tmp 65), []⟩]
@[go_sem] def n_flatten_Check_r15 : List NI := [
 ⟨0, some 66, none, .move (.tmp 3), []⟩,
 ⟨1, some 67, none, .move (.tmp 66), []⟩,
 ⟨2, some 68, some (67, false), .move (.tmp 9), []⟩,
 ⟨3, some 69, none, .pick (.tmp 67) (.const (.bool true)) (.tmp 68), []⟩,
 ⟨4, some 70, none, .move (.tmp 4), []⟩,
 ⟨5, some 71, none, .move (.tmp 70), []⟩,
 ⟨6, some 72, some (71, false), .move (.tmp 10), []⟩,
 ⟨7, some 73, none, .pick (.tmp 71) (.const (.bool true)) (.tmp 72), []⟩,
 ⟨8, some 3, none, .move (.tmp 69), []⟩,
 ⟨9, some 4, none, .move (.tmp 73), []⟩]
@[go_sem] def n_flatten_Check_r16 : List NI := [
 ⟨0, some 74, none, .bin .add (some .int) (.tmp 54) (.const (.int .i64 1)), []⟩,
 ⟨1, some 54, none, .move (.tmp 74), []⟩]
def n_flatten_Check_l17 : NC := (.seq (.region n_flatten_Check_r12 []) (.seq (.cond (.tmp 55) .skip (.exit 2)) (.seq (.block 3 (.seq (.region n_flatten_Check_r13 []) (.seq (.region n_flatten_Check_r14 []) (.region n_flatten_Check_r15 [])))) (.region n_flatten_Check_r16 []))))
@[go_sem] def n_flatten_Check_r18 : List NI := [
 ⟨0, some 76, none, .move (.tmp 3), []⟩,
 ⟨1, some 75, none, .move (.tmp 76), []⟩]
@[go_sem] def n_flatten_Check_r19 : List NI := [
 ⟨0, some 2, none, .move (.const (.int .i64 7)), []⟩]
@[go_sem] def n_flatten_Check_r20 : List NI := [
 ⟨0, some 78, none, .move (.tmp 4), []⟩,
 ⟨1, some 77, none, .move (.tmp 78), []⟩]
@[go_sem] def n_flatten_Check_r21 : List NI := [
 ⟨0, some 2, none, .move (.const (.int .i64 6)), []⟩]
@[go_sem] def n_flatten_Check_r22 : List NI := [
 ⟨0, some 2, none, .move (.const (.int .i64 0)), []⟩]
@[go_sem] def n_flatten_Check : NFn := ⟨1, 79, [.slot 2], (.seq (.region n_flatten_Check_r0 []) (.seq (.seq (.region n_flatten_Check_r1 []) (.cond (.tmp 21) (.seq (.region n_flatten_Check_r2 []) .ret) .skip)) (.seq (.region n_flatten_Check_r3 []) (.seq (.seq (.region n_flatten_Check_r4 []) (.block 0 (.loop n_flatten_Check_l10))) (.seq (.seq (.region n_flatten_Check_r11 []) (.block 2 (.loop n_flatten_Check_l17))) (.seq (.block 4 (.seq (.region n_flatten_Check_r18 []) (.cond (.tmp 75) (.seq (.region n_flatten_Check_r19 []) .ret) (.seq (.region n_flatten_Check_r20 []) (.cond (.tmp 77) (.seq (.region n_flatten_Check_r21 []) .ret) .skip))))) (.seq (.region n_flatten_Check_r22 []) .ret)))))))⟩
theorem c_flatten_Check : compFn Try.prog F_flatten_Check = some n_flatten_Check := by kernel_rfl
abbrev F_gimletkit_SameFlat : Nat := 15
@[go_sem] def n_gimletkit_SameFlat_r0 : List NI := [
 ⟨0, some 2, none, .box (.tmp 0), []⟩,
 ⟨1, some 3, none, .box (.tmp 1), []⟩,
 ⟨2, some 4, none, .move (.const (.bool false)), []⟩]
@[go_sem] def n_gimletkit_SameFlat_r1 : List NI := [
 ⟨0, some 6, none, .fieldAddr 0 (.tmp 2), []⟩,
 ⟨1, some 7, none, .load none (.tmp 6), []⟩,
 ⟨2, some 8, none, .len .slice (.tmp 7), []⟩,
 ⟨3, some 9, none, .fieldAddr 0 (.tmp 3), []⟩,
 ⟨4, some 10, none, .load none (.tmp 9), []⟩,
 ⟨5, some 11, none, .len .slice (.tmp 10), []⟩,
 ⟨6, some 12, none, .bin .neq (some .int) (.tmp 8) (.tmp 11), []⟩,
 ⟨7, some 13, none, .move (.tmp 12), []⟩,
 ⟨8, some 14, some (13, false), .fieldAddr 1 (.tmp 2), []⟩,
 ⟨9, some 15, some (13, false), .load (some 7) (.tmp 14), []⟩,
 ⟨10, some 16, some (13, false), .fieldAddr 1 (.tmp 3), []⟩,
 ⟨11, some 17, some (13, false), .load (some 7) (.tmp 16), []⟩,
 ⟨12, some 18, some (13, false), .call (.const (.func 32 [] [])) [(.tmp 15), (.tmp 17)], []⟩,
 ⟨13, some 19, some (13, false), .un .not (.tmp 18), []⟩,
 ⟨14, some 20, none, .pick (.tmp 13) (.const (.bool true)) (.tmp 19), []⟩]
@[go_sem] def n_gimletkit_SameFlat_r2 : List NI := [
 ⟨0, some 4, none, .move (.const (.bool false)), []⟩]
@[go_sem] def n_gimletkit_SameFlat_r3 : List NI := [
 ⟨0, some 5, none, .move (.const (.int .i64 0)), []⟩]
@[go_sem] def n_gimletkit_SameFlat_r4 : List NI := [
 ⟨0, some 21, none, .move (.tmp 5), []⟩,
 ⟨1, some 22, none, .fieldAddr 0 (.tmp 2), []⟩,
 ⟨2, some 23, none, .load none (.tmp 22), []⟩,
 ⟨3, some 24, none, .len .slice (.tmp 23), []⟩,
 ⟨4, some 25, none, .bin .lss (some .int) (.tmp 21) (.tmp 24), []⟩]
@[go_sem] def n_gimletkit_SameFlat_r5 : List NI := [
 ⟨0, some 28, none, .fieldAddr 0 (.tmp 2), []⟩,
 ⟨1, some 29, none, .load none (.tmp 28), []⟩,
 ⟨2, some 30, none, .move (.tmp 5), []⟩,
 ⟨3, some 31, none, .indexAddr 8 none (.tmp 29) (.tmp 30), []⟩,
 ⟨4, some 32, none, .fieldAddr 0 (.tmp 31), []⟩,
 ⟨5, some 33, none, .load none (.tmp 32), []⟩,
 ⟨6, some 34, none, .fieldAddr 0 (.tmp 3), []⟩,
 ⟨7, some 35, none, .load none (.tmp 34), []⟩,
 ⟨8, some 36, none, .move (.tmp 5), []⟩,
 ⟨9, some 37, none, .indexAddr 8 none (.tmp 35) (.tmp 36), []⟩,
 ⟨10, some 38, none, .fieldAddr 0 (.tmp 37), []⟩,
 ⟨11, some 39, none, .load none (.tmp 38), []⟩,
 ⟨12, some 40, none, .bin .neq (some .int) (.tmp 33) (.tmp 39), []⟩,
 ⟨13, some 41, none, .move (.tmp 40), []⟩,
 ⟨14, some 42, some (41, false), .fieldAddr 0 (.tmp 2), []⟩,
 ⟨15, some 43, some (41, false), .load none (.tmp 42), []⟩,
 ⟨16, some 44, some (41, false), .move (.tmp 5), []⟩,
 ⟨17, some 45, some (41, false), .indexAddr 8 none (.tmp 43) (.tmp 44), []⟩,
 ⟨18, some 46, some (41, false), .fieldAddr 1 (.tmp 45), []⟩,
 ⟨19, some 47, some (41, false), .load (some 7) (.tmp 46), []⟩,
 ⟨20, some 48, some (41, false), .fieldAddr 0 (.tmp 3), []⟩,
 ⟨21, some 49, some (41, false), .load none (.tmp 48), []⟩,
 ⟨22, some 50, some (41, false), .move (.tmp 5), []⟩,
 ⟨23, some 51, some (41, false), .indexAddr 8 none (.tmp 49) (.tmp 50), []⟩,
 ⟨24, some 52, some (41, false), .fieldAddr 1 (.tmp 51), []⟩,
 ⟨25, some 53, some (41, false), .load (some 7) (.tmp 52), []⟩,
 ⟨26, some 54, some (41, false), .call (.const (.func 32 [] [])) [(.tmp 47), (.tmp 53)], []⟩,
 ⟨27, some 55, some (41, false), .un .not (.tmp 54), []⟩,
 ⟨28, some 56, none, .pick (.tmp 41) (.const (.bool true)) (.tmp 55), []⟩]
@[go_sem] def n_gimletkit_SameFlat_r6 : List NI := [
 ⟨0, some 4, none, .move (.const (.bool false)), []⟩]
@[go_sem] def n_gimletkit_SameFlat_r7 : List NI := [
 ⟨0, some 26, none, .move (.tmp 5), []⟩,
 ⟨1, some 27, none, .bin .add (some .int) (.tmp 26) (.const (.int .i64 1)), []⟩,
 ⟨2, some 5, none, .move (.tmp 27), []⟩]
def n_gimletkit_SameFlat_l8 : NC := (.seq (.seq (.region n_gimletkit_SameFlat_r4 []) (.cond (.tmp 25) .skip (.exit 0))) (.seq (.block 1 (.seq (.region n_gimletkit_SameFlat_r5 []) (.cond (.tmp 56) (.seq (.region n_gimletkit_SameFlat_r6 []) .ret) .skip))) (.region n_gimletkit_SameFlat_r7 [])))
@[go_sem] def n_gimletkit_SameFlat_r9 : List NI := [
 ⟨0, some 4, none, .move (.const (.bool true)), []⟩]
@[go_sem] def n_gimletkit_SameFlat : NFn := ⟨2, 57, [.slot 4], (.seq (.region n_gimletkit_SameFlat_r0 []) (.seq (.seq (.region n_gimletkit_SameFlat_r1 []) (.cond (.tmp 20) (.seq (.region n_gimletkit_SameFlat_r2 []) .ret) .skip)) (.seq (.seq (.region n_gimletkit_SameFlat_r3 []) (.block 0 (.loop n_gimletkit_SameFlat_l8))) (.seq (.region n_gimletkit_SameFlat_r9 []) .ret))))⟩
theorem c_gimletkit_SameFlat : compFn Try.prog F_gimletkit_SameFlat = some n_gimletkit_SameFlat := by kernel_rfl
abbrev F_core_Check : Nat := 16
@[go_sem] def n_core_Check_r0 : List NI := [
 ⟨0, some 1, none, .box (.tmp 0), []⟩,
 ⟨1, some 2, none, .move (.const (.int .i64 0)), []⟩]
@[go_sem] def n_core_Check_r1 : List NI := [
 ⟨0, some 4, none, .load (some 7) (.tmp 1), []⟩,
 ⟨1, some 5, none, .call (.const (.func 33 [] [])) [(.tmp 4)], []⟩,
 ⟨2, some 6, none, .un .not (.tmp 5), []⟩,
 ⟨3, some 3, none, .move (.tmp 6), []⟩]
@[go_sem] def n_core_Check_r2 : List NI := [
 ⟨0, some 2, none, .move (.const (.int .i64 2)), []⟩]
@[go_sem] def n_core_Check_r3 : List NI := [
 ⟨0, some 8, none, .load (some 7) (.tmp 1), []⟩,
 ⟨3, some 11, none, .load (some 7) (.tmp 1), []⟩,
 ⟨1, some 9, none, .call (.const (.func 34 [] [])) [(.tmp 8)], [((some 11), none, .load (some 7) (.tmp 1))]⟩,
 ⟨2, some 10, none, .len .slice (.tmp 9), []⟩,
 ⟨4, some 12, none, .call (.const (.func 35 [] [])) [(.tmp 11)], []⟩,
 ⟨5, some 13, none, .len .slice (.tmp 12), []⟩,
 ⟨6, some 14, none, .bin .neq (some .int) (.tmp 10) (.tmp 13), []⟩,
 ⟨7, some 7, none, .move (.tmp 14), []⟩]
@[go_sem] def n_core_Check_r4 : List NI := [
 ⟨0, some 2, none, .move (.const (.int .i64 7)), []⟩]
@[go_sem] def n_core_Check_r5 : List NI := [
 ⟨0, some 16, none, .load (some 7) (.tmp 1), []⟩,
 ⟨1, some 17, none, .call (.const (.func 30 [] [])) [(.tmp 16)], []⟩,
 ⟨2, some 18, none, .len .slice (.tmp 17), []⟩,
 ⟨3, some 19, none, .bin .gtr (some .int) (.tmp 18) (.const (.int .i64 0)), []⟩,
 ⟨4, some 15, none, .move (.tmp 19), []⟩]
@[go_sem] def n_core_Check_r6 : List NI := [
 ⟨0, some 2, none, .move (.const (.int .i64 6)), []⟩]
@[go_sem] def n_core_Check_r7 : List NI := [
 ⟨0, some 2, none, .move (.const (.int .i64 0)), []⟩]
@[go_sem] def n_core_Check : NFn := ⟨1, 20, [.slot 2], (.seq (.region n_core_Check_r0 []) (.seq (.block 0 (.seq (.region n_core_Check_r1 []) (.cond (.tmp 3) (.seq (.region n_core_Check_r2 []) .ret) (.seq (.region n_core_Check_r3 []) (.cond (.tmp 7) (.seq (.region n_core_Check_r4 []) .ret) (.seq (.region n_core_Check_r5 []) (.cond (.tmp 15) (.seq (.region n_core_Check_r6 []) .ret) .skip))))))) (.seq (.region n_core_Check_r7 []) .ret)))⟩
theorem c_core_Check : compFn Try.prog F_core_Check = some n_core_Check := by kernel_rfl
abbrev F_flatten_many : Nat := 17
@[go_sem] def n_flatten_many_r0 : List NI := [
 ⟨0, some 1, none, .box (.tmp 0), []⟩,
 ⟨1, some 2, none, .move (.const (.int .i64 0)), []⟩,
 ⟨2, some 3, none, .move (.const (.bool false)), []⟩]
@[go_sem] def n_flatten_many_r1 : List NI := [
 ⟨0, some 10, none, .fieldAddr 0 (.tmp 1), []⟩,
 ⟨1, some 11, none, .load none (.tmp 10), []⟩,
 ⟨2, some 12, none, .bin .eql (some .int) (.tmp 11) (.const (.int .i64 8)), []⟩,
 ⟨3, some 13, none, .move (.tmp 12), []⟩,
 ⟨4, some 14, some (13, true), .fieldAddr 6 (.tmp 1), []⟩,
 ⟨5, some 15, some (13, true), .load none (.tmp 14), []⟩,
 ⟨6, some 16, some (13, true), .len .slice (.tmp 15), []⟩,
 ⟨7, some 17, some (13, true), .bin .sub (some .int) (.tmp 16) (.const (.int .i64 1)), []⟩,
 ⟨8, some 18, some (13, true), .bin .gtr (some .int) (.tmp 17) (.const (.int .i64 1024)), []⟩,
 ⟨9, some 19, none, .pick (.tmp 13) (.tmp 18) (.const (.bool false)), []⟩,
 ⟨10, some 4, none, .move (.const (.int .i64 0)), []⟩,
 ⟨11, some 5, none, .move (.tmp 19), []⟩]
@[go_sem] def n_flatten_many_r2 : List NI := [
 ⟨0, some 20, none, .fieldAddr 0 (.tmp 1), []⟩,
 ⟨1, some 21, none, .load none (.tmp 20), []⟩,
 ⟨2, some 22, none, .bin .eql (some .int) (.tmp 21) (.const (.int .i64 7)), []⟩]
@[go_sem] def n_flatten_many_r3 : List NI := [
 ⟨0, some 23, none, .move (.tmp 4), []⟩,
 ⟨1, some 24, none, .bin .add (some .int) (.tmp 23) (.const (.int .i64 1)), []⟩,
 ⟨2, some 4, none, .move (.tmp 24), []⟩]
@[go_sem] def n_flatten_many_r4 : List NI := [
 ⟨0, some 25, none, .fieldAddr 6 (.tmp 1), []⟩,
 ⟨1, some 26, none, .load none (.tmp 25), []⟩,
 ⟨2, some 27, none, .len .slice (.tmp 26), []⟩,
 ⟨3, some 28, none, .move (.const (.int .i64 0)), []⟩]
@[go_sem] def n_flatten_many_r5 : List NI := [
 ⟨0, some 29, none, .bin .lss (some .int) (.tmp 28) (.tmp 27), []⟩]
@[go_sem] def n_flatten_many_r6 : List NI := [
 ⟨0, some 30, none, .indexAddr 7 none (.tmp 26) (.tmp 28), []⟩,
 ⟨1, some 31, none, .load (some 7) (.tmp 30), []⟩,
 ⟨2, some 7, none, .zero [(.int .i64 0), (.int .i64 0), (.int .i64 0), (.str []), .nilslice, .nilslice, .nilslice], []⟩,
 ⟨3, none, none, .store 7 (.tmp 7) (.tmp 31), []⟩]
@[go_sem] def n_flatten_many_r7 : List NI := [
 ⟨0, some 33, none, .load (some 7) (.tmp 7), []⟩,
 ⟨1, some 34, none, .call (.const (.func 17 [] [])) [(.tmp 33)], []⟩,
 ⟨2, some 32, none, .move (.tmp 34), []⟩,
 ⟨3, some 35, none, .extract (.tmp 32) 0, []⟩,
 ⟨4, some 36, none, .extract (.tmp 32) 1, []⟩,
 ⟨5, some 8, none, .move (.tmp 35), []⟩,
 ⟨6, some 9, none, .move (.tmp 36), []⟩]
@[go_sem] def n_flatten_many_r8 : List NI := [
 ⟨0, some 37, none, .move (.tmp 4), []⟩,
 ⟨1, some 38, none, .move (.tmp 8), []⟩,
 ⟨2, some 39, none, .bin .add (some .int) (.tmp 37) (.tmp 38), []⟩,
 ⟨3, some 40, none, .move (.tmp 5), []⟩,
 ⟨4, some 41, none, .move (.tmp 40), []⟩,
 ⟨5, some 42, some (41, false), .move (.tmp 9), []⟩,
 ⟨6, some 43, none, .pick (.tmp 41) (.const (.bool true)) (.tmp 42), []⟩,
 ⟨7, some 4, none, .move (.tmp 39), []⟩,
 ⟨8, some 5, none, .move (.tmp 43), []⟩]
@[go_sem] def n_flatten_many_r9 : List NI := [
 ⟨0, some 44, none, .bin .add (some .int) (.tmp 28) (.const (.int .i64 1)), []⟩,
 ⟨1, some 28, none, .move (.tmp 44), []⟩]
def n_flatten_many_l10 : NC := (.seq (.region n_flatten_many_r5 []) (.seq (.cond (.tmp 29) .skip (.exit 0)) (.seq (.block 1 (.seq (.region n_flatten_many_r6 []) (.seq (.region n_flatten_many_r7 []) (.region n_flatten_many_r8 [])))) (.region n_flatten_many_r9 []))))
@[go_sem] def n_flatten_many_r11 : List NI := [
 ⟨0, some 45, none, .move (.tmp 4), []⟩,
 ⟨1, some 46, none, .move (.tmp 5), []⟩,
 ⟨2, some 2, none, .move (.tmp 45), []⟩,
 ⟨3, some 3, none, .move (.tmp 46), []⟩]
@[go_sem] def n_flatten_many : NFn := ⟨1, 47, [.slot 2, .slot 3], (.seq (.region n_flatten_many_r0 []) (.seq (.region n_flatten_many_r1 []) (.seq (.seq (.region n_flatten_many_r2 []) (.cond (.tmp 22) (.region n_flatten_many_r3 []) .skip)) (.seq (.seq (.region n_flatten_many_r4 []) (.block 0 (.loop n_flatten_many_l10))) (.seq (.region n_flatten_many_r11 []) .ret)))))⟩
theorem c_flatten_many : compFn Try.prog F_flatten_many = some n_flatten_many := by kernel_rfl
abbrev F_flatten_maker_part : Nat := 18
@[go_sem] def n_flatten_maker_part_r0 : List NI := [
 ⟨0, some 4, none, .box (.tmp 1), []⟩,
 ⟨1, some 6, none, .zero [(.int .i64 0), (.int .i64 0), (.int .i64 0), (.str []), .nilslice, .nilslice, .nilslice], []⟩]
@[go_sem] def n_flatten_maker_part_r1 : List NI := [
 ⟨0, some 13, none, .fieldAddr 0 (.tmp 4), []⟩,
 ⟨1, some 14, none, .load none (.tmp 13), []⟩]
@[go_sem] def n_flatten_maker_part_r2 : List NI := [
 ⟨0, some 16, none, .bin .eql (some .int) (.tmp 14) (.const (.int .i64 7)), []⟩,
 ⟨1, some 15, none, .move (.tmp 16), []⟩]
@[go_sem] def n_flatten_maker_part_r3 : List NI := [
 ⟨0, some 17, none, .load (some 7) (.tmp 4), []⟩,
 ⟨1, some 18, none, .call (.const (.func 30 [] [])) [(.tmp 17)], []⟩,
 ⟨2, some 7, none, .move (.tmp 18), []⟩]
@[go_sem] def n_flatten_maker_part_r4 : List NI := [
 ⟨0, some 19, none, .move (.tmp 0), []⟩,
 ⟨1, some 20, none, .load (some 7) (.tmp 4), []⟩,
 ⟨2, some 21, none, .move (.tmp 7), []⟩,
 ⟨3, some 22, none, .call (.const (.func 36 [] [])) [(.tmp 19), (.tmp 20), (.tmp 21)], []⟩,
 ⟨4, some 23, none, .move (.tmp 2), []⟩,
 ⟨5, some 24, none, .move (.tmp 7), []⟩,
 ⟨6, some 25, none, .call (.const (.func 37 [] [])) [(.tmp 23), (.tmp 24)], []⟩,
 ⟨7, some 26, none, .build [(.int .i64 0), (.int .i64 0), (.int .i64 0), (.str []), .nilslice, .nilslice, .nilslice] [(0, 1, (.const (.int .i64 13))), (2, 1, (.tmp 22)), (4, 1, (.tmp 25))], []⟩,
 ⟨8, none, none, .store 7 (.tmp 6) (.tmp 26), []⟩]
@[go_sem] def n_flatten_maker_part_r5 : List NI := [
 ⟨0, some 28, none, .bin .eql (some .int) (.tmp 14) (.const (.int .i64 8)), []⟩,
 ⟨1, some 27, none, .move (.tmp 28), []⟩]
@[go_sem] def n_flatten_maker_part_r6 : List NI := [
 ⟨0, some 29, none, .move (.tmp 0), []⟩,
 ⟨1, some 30, none, .load (some 7) (.tmp 4), []⟩,
 ⟨2, some 31, none, .move (.tmp 2), []⟩,
 ⟨3, some 32, none, .call (.const (.func 38 [] [])) [(.tmp 29), (.tmp 30), (.tmp 31)], []⟩,
 ⟨4, none, none, .store 7 (.tmp 6) (.tmp 32), []⟩]
@[go_sem] def n_flatten_maker_part_r7 : List NI := [
 ⟨0, some 33, none, .fieldAddr 0 (.tmp 4), []⟩,
 ⟨1, some 34, none, .load none (.tmp 33), []⟩,
 ⟨2, some 35, none, .fieldAddr 2 (.tmp 4), []⟩,
 ⟨3, some 36, none, .load none (.tmp 35), []⟩,
 ⟨4, some 37, none, .fieldAddr 3 (.tmp 4), []⟩,
 ⟨5, some 38, none, .load none (.tmp 37), []⟩,
 ⟨6, some 39, none, .fieldAddr 5 (.tmp 4), []⟩,
 ⟨7, some 40, none, .load none (.tmp 39), []⟩,
 ⟨8, some 41, none, .call (.const (.func 39 [] [])) [(.tmp 40)], [((some 34), none, .load none (.tmp 33)), ((some 36), none, .load none (.tmp 35)), ((some 38), none, .load none (.tmp 37))]⟩,
 ⟨9, some 42, none, .build [(.int .i64 0), (.int .i64 0), (.int .i64 0), (.str []), .nilslice, .nilslice, .nilslice] [(0, 1, (.tmp 34)), (2, 1, (.tmp 36)), (3, 1, (.tmp 38)), (5, 1, (.tmp 41))], []⟩,
 ⟨10, some 8, none, .zero [(.int .i64 0), (.int .i64 0), (.int .i64 0), (.str []), .nilslice, .nilslice, .nilslice], [((some 34), none, .load none (.tmp 33)), ((some 36), none, .load none (.tmp 35)), ((some 38), none, .load none (.tmp 37)), ((some 40), none, .load none (.tmp 39))]⟩,
 ⟨11, none, none, .store 7 (.tmp 8) (.tmp 42), []⟩]
@[go_sem] def n_flatten_maker_part_r7_0 : List NI := [
 ⟨0, some 33, none, .fieldAddr 0 (.tmp 4), []⟩,
 ⟨1, some 34, none, .load none (.tmp 33), []⟩,
 ⟨2, some 35, none, .fieldAddr 2 (.tmp 4), []⟩,
 ⟨3, some 36, none, .load none (.tmp 35), []⟩,
 ⟨4, some 37, none, .fieldAddr 3 (.tmp 4), []⟩,
 ⟨5, some 38, none, .load none (.tmp 37), []⟩,
 ⟨6, some 39, none, .fieldAddr 5 (.tmp 4), []⟩,
 ⟨7, some 40, none, .load none (.tmp 39), []⟩,
 ⟨10, some 8, none, .zero [(.int .i64 0), (.int .i64 0), (.int .i64 0), (.str []), .nilslice, .nilslice, .nilslice], [((some 34), none, .load none (.tmp 33)), ((some 36), none, .load none (.tmp 35)), ((some 38), none, .load none (.tmp 37)), ((some 40), none, .load none (.tmp 39))]⟩,
 ⟨8, some 41, none, .call (.const (.func 39 [] [])) [(.tmp 40)], [((some 34), none, .load none (.tmp 33)), ((some 36), none, .load none (.tmp 35)), ((some 38), none, .load none (.tmp 37))]⟩,
 ⟨9, some 42, none, .build [(.int .i64 0), (.int .i64 0), (.int .i64 0), (.str []), .nilslice, .nilslice, .nilslice] [(0, 1, (.tmp 34)), (2, 1, (.tmp 36)), (3, 1, (.tmp 38)), (5, 1, (.tmp 41))], []⟩,
 ⟨11, none, none, .store 7 (.tmp 8) (.tmp 42), []⟩]
@[go_sem] def n_flatten_maker_part_r8 : List NI := [
 ⟨0, some 43, none, .fieldAddr 4 (.tmp 4), []⟩,
 ⟨1, some 44, none, .load none (.tmp 43), []⟩,
 ⟨2, some 45, none, .len .slice (.tmp 44), []⟩,
 ⟨3, some 46, none, .move (.const (.int .i64 0)), []⟩]
@[go_sem] def n_flatten_maker_part_r9 : List NI := [
 ⟨0, some 47, none, .bin .lss (some .int) (.tmp 46) (.tmp 45), []⟩]
@[go_sem] def n_flatten_maker_part_r10 : List NI := [
 ⟨0, some 48, none, .indexAddr 3 none (.tmp 44) (.tmp 46), []⟩,
 ⟨1, some 49, none, .load (some 3) (.tmp 48), []⟩,
 ⟨2, some 10, none, .zero [(.int .i64 0), (.int .i64 0), (.str [])], []⟩,
 ⟨3, none, none, .store 3 (.tmp 10) (.tmp 49), []⟩]
@[go_sem] def n_flatten_maker_part_r11 : List NI := [
 ⟨0, some 50, none, .fieldAddr 0 (.tmp 10), []⟩,
 ⟨1, some 51, none, .load none (.tmp 50), []⟩,
 ⟨2, some 52, none, .bin .eql (some .int) (.tmp 51) (.const (.int .i64 1)), []⟩]
@[go_sem] def n_flatten_maker_part_r12 : List NI := [
 ⟨0, some 53, none, .move (.tmp 2), []⟩,
 ⟨1, some 54, none, .nilCheck (.tmp 53), []⟩,
 ⟨2, some 55, none, .fieldAddr 0 (.tmp 54), []⟩,
 ⟨3, some 56, none, .load none (.tmp 55), []⟩,
 ⟨4, some 57, none, .fieldAddr 1 (.tmp 10), []⟩,
 ⟨5, some 58, none, .load none (.tmp 57), []⟩,
 ⟨6, some 59, none, .lookup false (.int .i64 0) false (.tmp 56) (.tmp 58), []⟩,
 ⟨7, some 60, none, .fieldAddr 1 (.tmp 10), []⟩,
 ⟨8, none, none, .store 1 (.tmp 60) (.tmp 59), []⟩]
@[go_sem] def n_flatten_maker_part_r13 : List NI := [
 ⟨0, some 61, none, .fieldAddr 4 (.tmp 8), []⟩,
 ⟨1, some 62, none, .load none (.tmp 61), []⟩,
 ⟨2, some 63, none, .load (some 3) (.tmp 10), []⟩,
 ⟨3, some 64, none, .buildSlice 3 1 [(.int .i64 0), (.int .i64 0), (.str [])] [(0, 3, (.tmp 63))], []⟩,
 ⟨4, some 65, none, .append false 3 32 (.tmp 62) (.tmp 64), []⟩,
 ⟨5, some 66, none, .fieldAddr 4 (.tmp 8), []⟩,
 ⟨6, none, none, .store 1 (.tmp 66) (.tmp 65), []⟩]
@[go_sem] def n_flatten_maker_part_r14 : List NI := [
 ⟨0, some 67, none, .bin .add (some .int) (.tmp 46) (.const (.int .i64 1)), []⟩,
 ⟨1, some 46, none, .move (.tmp 67), []⟩]
def n_flatten_maker_part_l15 : NC := (.seq (.region n_flatten_maker_part_r9 []) (.seq (.cond (.tmp 47) .skip (.exit 1)) (.seq (.block 2 (.seq (.region n_flatten_maker_part_r10 []) (.seq (.seq (.region n_flatten_maker_part_r11 []) (.cond (.tmp 52) (.region n_flatten_maker_part_r12 []) .skip)) (.region n_flatten_maker_part_r13 [])))) (.region n_flatten_maker_part_r14 []))))
@[go_sem] def n_flatten_maker_part_r16 : List NI := [
 ⟨0, some 68, none, .fieldAddr 6 (.tmp 4), []⟩,
 ⟨1, some 69, none, .load none (.tmp 68), []⟩,
 ⟨2, some 70, none, .len .slice (.tmp 69), []⟩,
 ⟨3, some 71, none, .move (.const (.int .i64 0)), []⟩]
@[go_sem] def n_flatten_maker_part_r17 : List NI := [
 ⟨0, some 72, none, .bin .lss (some .int) (.tmp 71) (.tmp 70), []⟩]
@[go_sem] def n_flatten_maker_part_r18 : List NI := [
 ⟨0, some 73, none, .move (.tmp 71), []⟩,
 ⟨1, some 74, none, .indexAddr 7 none (.tmp 69) (.tmp 71), []⟩,
 ⟨2, some 75, none, .load (some 7) (.tmp 74), []⟩,
 ⟨3, some 12, none, .zero [(.int .i64 0), (.int .i64 0), (.int .i64 0), (.str []), .nilslice, .nilslice, .nilslice], []⟩,
 ⟨4, some 11, none, .move (.tmp 73), []⟩,
 ⟨5, none, none, .store 7 (.tmp 12) (.tmp 75), []⟩]
@[go_sem] def n_flatten_maker_part_r19 : List NI := [
 ⟨0, some 76, none, .move (.tmp 11), []⟩,
 ⟨1, some 77, none, .bin .eql (some .int) (.tmp 76) (.const (.int .i64 1)), []⟩,
 ⟨2, some 78, none, .move (.tmp 77), []⟩,
 ⟨3, some 79, some (78, true), .fieldAddr 0 (.tmp 4), []⟩,
 ⟨4, some 80, some (78, true), .load none (.tmp 79), []⟩,
 ⟨5, some 81, some (78, true), .bin .eql (some .int) (.tmp 80) (.const (.int .i64 2)), []⟩,
 ⟨6, some 82, some (78, true), .move (.tmp 81), []⟩,
 ⟨7, some 83, some (82, false), .fieldAddr 0 (.tmp 4), []⟩,
 ⟨8, some 84, some (82, false), .load none (.tmp 83), []⟩,
 ⟨9, some 85, some (82, false), .bin .eql (some .int) (.tmp 84) (.const (.int .i64 11)), []⟩,
 ⟨10, some 86, some (78, true), .pick (.tmp 82) (.const (.bool true)) (.tmp 85), []⟩,
 ⟨11, some 87, none, .pick (.tmp 78) (.tmp 86) (.const (.bool false)), []⟩]
@[go_sem] def n_flatten_maker_part_r20 : List NI := [
 ⟨0, some 88, none, .move (.tmp 2), []⟩,
 ⟨1, some 89, none, .fieldAddr 1 (.tmp 4), []⟩,
 ⟨2, some 90, none, .load none (.tmp 89), []⟩,
 ⟨3, some 91, none, .call (.const (.func 40 [] [])) [(.tmp 88), (.tmp 90)], []⟩,
 ⟨4, some 92, none, .fieldAddr 1 (.tmp 8), []⟩,
 ⟨5, none, none, .store 1 (.tmp 92) (.tmp 91), []⟩]
@[go_sem] def n_flatten_maker_part_r21 : List NI := [
 ⟨0, some 93, none, .fieldAddr 6 (.tmp 8), []⟩,
 ⟨1, some 94, none, .load none (.tmp 93), []⟩,
 ⟨2, some 95, none, .move (.tmp 0), []⟩,
 ⟨3, some 96, none, .load (some 7) (.tmp 12), []⟩,
 ⟨4, some 97, none, .move (.tmp 2), []⟩,
 ⟨5, some 98, none, .call (.const (.func 18 [] [])) [(.tmp 95), (.tmp 96), (.tmp 97)], [((some 94), none, .load none (.tmp 93))]⟩,
 ⟨6, some 99, none, .buildSlice 7 1 [(.int .i64 0), (.int .i64 0), (.int .i64 0), (.str []), .nilslice, .nilslice, .nilslice] [(0, 7, (.tmp 98))], [((some 94), none, .load none (.tmp 93))]⟩,
 ⟨7, some 100, none, .append false 7 112 (.tmp 94) (.tmp 99), []⟩,
 ⟨8, some 101, none, .fieldAddr 6 (.tmp 8), []⟩,
 ⟨9, none, none, .store 1 (.tmp 101) (.tmp 100), []⟩]
@[go_sem] def n_flatten_maker_part_r22 : List NI := [
 ⟨0, some 102, none, .bin .add (some .int) (.tmp 71) (.const (.int .i64 1)), []⟩,
 ⟨1, some 71, none, .move (.tmp 102), []⟩]
def n_flatten_maker_part_l23 : NC := (.seq (.region n_flatten_maker_part_r17 []) (.seq (.cond (.tmp 72) .skip (.exit 3)) (.seq (.block 4 (.seq (.region n_flatten_maker_part_r18 []) (.seq (.seq (.region n_flatten_maker_part_r19 []) (.cond (.tmp 87) (.region n_flatten_maker_part_r20 []) .skip)) (.region n_flatten_maker_part_r21 [])))) (.region n_flatten_maker_part_r22 []))))
@[go_sem] def n_flatten_maker_part_r24 : List NI := [
 ⟨0, some 103, none, .load (some 7) (.tmp 8), []⟩,
 ⟨1, none, none, .store 7 (.tmp 6) (.tmp 103), []⟩]
@[go_sem] def n_flatten_maker_part : NFn := ⟨3, 104, [.cell 6 (some 7)], (.seq (.region n_flatten_maker_part_r0 []) (.seq (.seq (.region n_flatten_maker_part_r1 []) (.block 0 (.seq (.region n_flatten_maker_part_r2 []) (.cond (.tmp 15) (.seq (.region n_flatten_maker_part_r3 []) (.seq (.region n_flatten_maker_part_r4 []) .ret)) (.seq (.region n_flatten_maker_part_r5 []) (.cond (.tmp 27) (.seq (.region n_flatten_maker_part_r6 []) .ret) .skip)))))) (.seq (.region n_flatten_maker_part_r7 [n_flatten_maker_part_r7_0]) (.seq (.seq (.region n_flatten_maker_part_r8 []) (.block 1 (.loop n_flatten_maker_part_l15))) (.seq (.seq (.region n_flatten_maker_part_r16 []) (.block 3 (.loop n_flatten_maker_part_l23))) (.seq (.region n_flatten_maker_part_r24 []) .ret))))))⟩
theorem c_flatten_maker_part : compFn Try.prog F_flatten_maker_part = some n_flatten_maker_part := by kernel_rfl
abbrev F_gimletlaw26_fun : Nat := 19
@[go_sem] def n_gimletlaw26_fun_r0 : List NI := [
 ⟨0, some 3, none, .box (.tmp 1), []⟩,
 ⟨1, some 4, none, .zero [(.int .i64 0), (.int .i64 0), (.int .i64 0), (.str []), .nilslice, .nilslice, .nilslice], []⟩]
@[go_sem] def n_gimletlaw26_fun_r1 : List NI := [
 ⟨0, some 5, none, .move (.tmp 0), []⟩,
 ⟨1, some 6, none, .load (some 7) (.tmp 3), []⟩,
 ⟨2, some 7, none, .buildSlice 7 1 [(.int .i64 0), (.int .i64 0), (.int .i64 0), (.str []), .nilslice, .nilslice, .nilslice] [(0, 7, (.tmp 6))], []⟩,
 ⟨3, some 8, none, .build [(.int .i64 0), (.int .i64 0), (.int .i64 0), (.str []), .nilslice, .nilslice, .nilslice] [(0, 1, (.const (.int .i64 7))), (1, 1, (.tmp 5)), (6, 1, (.tmp 7))], []⟩,
 ⟨4, none, none, .store 7 (.tmp 4) (.tmp 8), []⟩]
@[go_sem] def n_gimletlaw26_fun : NFn := ⟨2, 9, [.cell 4 (some 7)], (.seq (.region n_gimletlaw26_fun_r0 []) (.seq (.region n_gimletlaw26_fun_r1 []) .ret))⟩
theorem c_gimletlaw26_fun : compFn Try.prog F_gimletlaw26_fun = some n_gimletlaw26_fun := by kernel_rfl
abbrev F_gimletlaw26_ret : Nat := 20
@[go_sem] def n_gimletlaw26_ret_r0 : List NI := [
 ⟨0, some 1, none, .box (.tmp 0), []⟩,
 ⟨1, some 2, none, .zero [(.int .i64 0), (.int .i64 0), (.int .i64 0), (.str []), .nilslice, .nilslice, .nilslice], []⟩]
@[go_sem] def n_gimletlaw26_ret_r1 : List NI := [
 ⟨0, some 3, none, .load (some 3) (.tmp 1), []⟩,
 ⟨1, some 4, none, .buildSlice 3 1 [(.int .i64 0), (.int .i64 0), (.str [])] [(0, 3, (.tmp 3))], []⟩,
 ⟨2, some 5, none, .build [(.int .i64 0), (.int .i64 0), (.int .i64 0), (.str []), .nilslice, .nilslice, .nilslice] [(0, 1, (.const (.int .i64 1))), (4, 1, (.tmp 4))], []⟩,
 ⟨3, none, none, .store 7 (.tmp 2) (.tmp 5), []⟩]
@[go_sem] def n_gimletlaw26_ret : NFn := ⟨1, 6, [.cell 2 (some 7)], (.seq (.region n_gimletlaw26_ret_r0 []) (.seq (.region n_gimletlaw26_ret_r1 []) .ret))⟩
theorem c_gimletlaw26_ret : compFn Try.prog F_gimletlaw26_ret = some n_gimletlaw26_ret := by kernel_rfl
abbrev F_gimletlaw26_v : Nat := 21
@[go_sem] def n_gimletlaw26_v_r0 : List NI := [
 ⟨0, some 2, none, .zero [(.int .i64 0), (.int .i64 0), (.str [])], []⟩]
@[go_sem] def n_gimletlaw26_v_r1 : List NI := [
 ⟨0, some 3, none, .move (.tmp 0), []⟩,
 ⟨1, some 4, none, .build [(.int .i64 0), (.int .i64 0), (.str [])] [(0, 1, (.const (.int .i64 1))), (1, 1, (.tmp 3))], []⟩,
 ⟨2, none, none, .store 3 (.tmp 2) (.tmp 4), []⟩]
@[go_sem] def n_gimletlaw26_v : NFn := ⟨1, 5, [.cell 2 (some 3)], (.seq (.region n_gimletlaw26_v_r0 []) (.seq (.region n_gimletlaw26_v_r1 []) .ret))⟩
theorem c_gimletlaw26_v : compFn Try.prog F_gimletlaw26_v = some n_gimletlaw26_v := by kernel_rfl
abbrev F_flatten_may : Nat := 22
@[go_sem] def n_flatten_may_r0 : List NI := [
 ⟨0, some 2, none, .box (.tmp 0), []⟩,
 ⟨1, some 3, none, .box (.tmp 1), []⟩,
 ⟨2, some 4, none, .move (.const (.bool false)), []⟩]
@[go_sem] def n_flatten_may_r1 : List NI := [
 ⟨0, some 5, none, .load (some 7) (.tmp 2), []⟩,
 ⟨1, some 6, none, .load (some 8) (.tmp 3), []⟩,
 ⟨2, some 7, none, .call (.const (.func 41 [] [])) [(.tmp 5), (.tmp 6)], []⟩,
 ⟨3, some 8, none, .un .not (.tmp 7), []⟩]
@[go_sem] def n_flatten_may_r2 : List NI := [
 ⟨0, some 4, none, .move (.const (.bool false)), []⟩]
@[go_sem] def n_flatten_may_r3 : List NI := [
 ⟨0, some 9, none, .fieldAddr 6 (.tmp 2), []⟩,
 ⟨1, some 10, none, .load none (.tmp 9), []⟩,
 ⟨2, some 11, none, .makeFunc 43 [] [(.tmp 3)], []⟩,
 ⟨3, some 12, none, .call (.const (.func 42 [] [])) [(.tmp 10), (.tmp 11)], []⟩,
 ⟨4, some 13, none, .un .not (.tmp 12), []⟩,
 ⟨5, some 4, none, .move (.tmp 13), []⟩]
@[go_sem] def n_flatten_may : NFn := ⟨2, 14, [.slot 4], (.seq (.region n_flatten_may_r0 []) (.seq (.seq (.region n_flatten_may_r1 []) (.cond (.tmp 8) (.seq (.region n_flatten_may_r2 []) .ret) .skip)) (.seq (.region n_flatten_may_r3 []) .ret)))⟩
theorem c_flatten_may : compFn Try.prog F_flatten_may = some n_flatten_may := by kernel_rfl
abbrev F_flatten_there : Nat := 23
@[go_sem] def n_flatten_there_r0 : List NI := [
 ⟨0, some 3, none, .box (.tmp 0), []⟩,
 ⟨1, some 6, none, .move (.const (.bool false)), []⟩,
 ⟨2, some 7, none, .move (.const (.bool false)), []⟩]
@[go_sem] def n_flatten_there_r1 : List NI := [
 ⟨0, some 13, none, .makeMap, []⟩,
 ⟨1, some 8, none, .move (.tmp 13), []⟩]
@[go_sem] def n_flatten_there_r2 : List NI := [
 ⟨0, some 14, none, .load (some 7) (.tmp 3), []⟩,
 ⟨1, some 15, none, .call (.const (.func 34 [] [])) [(.tmp 14)], []⟩,
 ⟨2, some 16, none, .len .slice (.tmp 15), []⟩,
 ⟨3, some 17, none, .move (.const (.int .i64 0)), []⟩]
@[go_sem] def n_flatten_there_r3 : List NI := [
 ⟨0, some 18, none, .bin .lss (some .int) (.tmp 17) (.tmp 16), []⟩]
@[go_sem] def n_flatten_there_r4 : List NI := [
 ⟨0, some 19, none, .indexAddr 1 none (.tmp 15) (.tmp 17), []⟩,
 ⟨1, some 20, none, .load none (.tmp 19), []⟩,
 ⟨2, some 10, none, .move (.tmp 20), []⟩]
@[go_sem] def n_flatten_there_r5 : List NI := [
 ⟨0, some 21, none, .move (.tmp 8), []⟩,
 ⟨1, some 22, none, .move (.tmp 10), []⟩,
 ⟨2, some 23, none, .lookup false (.bool false) false (.tmp 21) (.tmp 22), []⟩,
 ⟨3, some 24, none, .move (.tmp 23), []⟩,
 ⟨4, some 25, some (24, false), .move (.tmp 2), []⟩,
 ⟨5, some 26, some (24, false), .move (.tmp 25), []⟩,
 ⟨6, some 27, some (26, true), .move (.tmp 10), []⟩,
 ⟨7, some 28, some (26, true), .move (.tmp 1), []⟩,
 ⟨8, some 29, some (26, true), .bin .leq (some .int) (.tmp 27) (.tmp 28), []⟩,
 ⟨9, some 30, some (24, false), .pick (.tmp 26) (.tmp 29) (.const (.bool false)), []⟩,
 ⟨10, some 31, none, .pick (.tmp 24) (.const (.bool true)) (.tmp 30), []⟩]
@[go_sem] def n_flatten_there_r6 : List NI := [
 ⟨0, some 6, none, .move (.const (.bool true)), []⟩]
@[go_sem] def n_flatten_there_r7 : List NI := [
 ⟨0, some 32, none, .move (.tmp 8), []⟩,
 ⟨1, some 33, none, .move (.tmp 10), []⟩,
 ⟨2, none, none, .mapUpdate false (.tmp 32) (.tmp 33) (.const (.bool true)), []⟩]
@[go_sem] def n_flatten_there_r8 : List NI := [
 ⟨0, some 34, none, .bin .add (some .int) (.tmp 17) (.const (.int .i64 1)), []⟩,
 ⟨1, some 17, none, .move (.tmp 34), []⟩]
def n_flatten_there_l9 : NC := (.seq (.region n_flatten_there_r3 []) (.seq (.cond (.tmp 18) .skip (.exit 0)) (.seq (.block 1 (.seq (.region n_flatten_there_r4 []) (.seq (.seq (.region n_flatten_there_r5 []) (.cond (.tmp 31) (.region n_flatten_there_r6 []) .skip)) (.region n_flatten_there_r7 [])))) (.region n_flatten_there_r8 []))))
@[go_sem] def n_flatten_there_r10 : List NI := [
 ⟨0, some 35, none, .load (some 7) (.tmp 3), []⟩,
 ⟨1, some 36, none, .call (.const (.func 30 [] [])) [(.tmp 35)], []⟩,
 ⟨2, some 37, none, .len .slice (.tmp 36), []⟩,
 ⟨3, some 38, none, .move (.const (.int .i64 0)), []⟩]
@[go_sem] def n_flatten_there_r11 : List NI := [
 ⟨0, some 39, none, .bin .lss (some .int) (.tmp 38) (.tmp 37), []⟩]
@[go_sem] def n_flatten_there_r12 : List NI := [
 ⟨0, some 40, none, .indexAddr 1 none (.tmp 36) (.tmp 38), []⟩,
 ⟨1, some 41, none, .load none (.tmp 40), []⟩,
 ⟨2, some 12, none, .move (.tmp 41), []⟩]
@[go_sem] def n_flatten_there_r13 : List NI := [
 ⟨0, some 42, none, .move (.tmp 2), []⟩,
 ⟨1, some 43, none, .un .not (.tmp 42), []⟩,
 ⟨2, some 44, none, .move (.tmp 43), []⟩,
 ⟨3, some 45, some (44, false), .move (.tmp 12), []⟩,
 ⟨4, some 46, some (44, false), .move (.tmp 1), []⟩,
 ⟨5, some 47, some (44, false), .bin .gtr (some .int) (.tmp 45) (.tmp 46), []⟩,
 ⟨6, some 48, none, .pick (.tmp 44) (.const (.bool true)) (.tmp 47), []⟩]
@[go_sem] def n_flatten_there_r14 : List NI := [
 ⟨0, some 7, none, .move (.const (.bool true)), []⟩]
@[go_sem] def n_flatten_there_r15 : List NI := [
 ⟨0, some 49, none, .bin .add (some .int) (.tmp 38) (.const (.int .i64 1)), []⟩,
 ⟨1, some 38, none, .move (.tmp 49), []⟩]
def n_flatten_there_l16 : NC := (.seq (.region n_flatten_there_r11 []) (.seq (.cond (.tmp 39) .skip (.exit 2)) (.seq (.block 3 (.seq (.region n_flatten_there_r12 []) (.seq (.region n_flatten_there_r13 []) (.cond (.tmp 48) (.region n_flatten_there_r14 []) .skip)))) (.region n_flatten_there_r15 []))))
@[go_sem] def n_flatten_there_r17 : List NI := [
 ⟨0, some 50, none, .move (.tmp 6), []⟩,
 ⟨1, some 51, none, .move (.tmp 7), []⟩,
 ⟨2, some 6, none, .move (.tmp 50), []⟩,
 ⟨3, some 7, none, .move (.tmp 51), []⟩]
@[go_sem] def n_flatten_there : NFn := ⟨3, 52, [.slot 6, .slot 7], (.seq (.region n_flatten_there_r0 []) (.seq (.region n_flatten_there_r1 []) (.seq (.seq (.region n_flatten_there_r2 []) (.block 0 (.loop n_flatten_there_l9))) (.seq (.seq (.region n_flatten_there_r10 []) (.block 2 (.loop n_flatten_there_l16))) (.seq (.region n_flatten_there_r17 []) .ret)))))⟩
theorem c_flatten_there : compFn Try.prog F_flatten_there = some n_flatten_there := by kernel_rfl
abbrev F_core_Unbound : Nat := 30
@[go_sem] def n_core_Unbound_r0 : List NI := [
 ⟨0, some 1, none, .box (.tmp 0), []⟩,
 ⟨1, some 2, none, .move (.const .nilslice), []⟩]
@[go_sem] def n_core_Unbound_r1 : List NI := [
 ⟨0, some 6, none, .makeMap, []⟩,
 ⟨1, some 3, none, .zero [.nilmap], []⟩,
 ⟨2, none, none, .store 1 (.tmp 3) (.tmp 6), []⟩]
@[go_sem] def n_core_Unbound_r2 : List NI := [
 ⟨0, some 7, none, .makeMap, []⟩,
 ⟨1, some 4, none, .zero [.nilmap], []⟩,
 ⟨2, none, none, .store 1 (.tmp 4) (.tmp 7), []⟩]
@[go_sem] def n_core_Unbound_r3 : List NI := [
 ⟨0, some 5, none, .zero [.nilfunc], []⟩]
@[go_sem] def n_core_Unbound_r4 : List NI := [
 ⟨0, some 8, none, .makeFunc 47 [] [(.tmp 4), (.tmp 3), (.tmp 5)], []⟩,
 ⟨1, none, none, .store 1 (.tmp 5) (.tmp 8), []⟩]
@[go_sem] def n_core_Unbound_r5 : List NI := [
 ⟨0, some 9, none, .load none (.tmp 5), []⟩,
 ⟨1, some 10, none, .load (some 7) (.tmp 1), []⟩,
 ⟨2, some 11, none, .call (.tmp 9) [(.tmp 10)], []⟩]
@[go_sem] def n_core_Unbound_r6 : List NI := [
 ⟨0, some 12, none, .load none (.tmp 3), []⟩,
 ⟨1, some 13, none, .call (.const (.func 50 [] [])) [(.tmp 12)], []⟩,
 ⟨2, some 14, none, .call (.const (.func 49 [] [])) [(.tmp 13)], []⟩,
 ⟨3, some 2, none, .move (.tmp 14), []⟩]
@[go_sem] def n_core_Unbound : NFn := ⟨1, 15, [.slot 2], (.seq (.region n_core_Unbound_r0 []) (.seq (.region n_core_Unbound_r1 []) (.seq (.region n_core_Unbound_r2 []) (.seq (.region n_core_Unbound_r3 []) (.seq (.region n_core_Unbound_r4 []) (.seq (.region n_core_Unbound_r5 []) (.seq (.region n_core_Unbound_r6 []) .ret)))))))⟩
theorem c_core_Unbound : compFn Try.prog F_core_Unbound = some n_core_Unbound := by kernel_rfl
abbrev F_gimletkit_SameCore : Nat := 32
@[go_sem] def n_gimletkit_SameCore_r0 : List NI := [
 ⟨0, some 2, none, .box (.tmp 0), []⟩,
 ⟨1, some 3, none, .box (.tmp 1), []⟩,
 ⟨2, some 4, none, .move (.const (.bool false)), []⟩]
@[go_sem] def n_gimletkit_SameCore_r1 : List NI := [
 ⟨0, some 5, none, .fieldAddr 0 (.tmp 2), []⟩,
 ⟨1, some 6, none, .load none (.tmp 5), []⟩,
 ⟨2, some 7, none, .fieldAddr 0 (.tmp 3), []⟩,
 ⟨3, some 8, none, .load none (.tmp 7), []⟩,
 ⟨4, some 9, none, .bin .eql (some .int) (.tmp 6) (.tmp 8), []⟩,
 ⟨5, some 10, none, .move (.tmp 9), []⟩,
 ⟨6, some 11, some (10, true), .fieldAddr 1 (.tmp 2), []⟩,
 ⟨7, some 12, some (10, true), .load none (.tmp 11), []⟩,
 ⟨8, some 13, some (10, true), .fieldAddr 1 (.tmp 3), []⟩,
 ⟨9, some 14, some (10, true), .load none (.tmp 13), []⟩,
 ⟨10, some 15, some (10, true), .bin .eql (some .int) (.tmp 12) (.tmp 14), []⟩,
 ⟨11, some 16, none, .pick (.tmp 10) (.tmp 15) (.const (.bool false)), []⟩,
 ⟨12, some 17, none, .move (.tmp 16), []⟩,
 ⟨13, some 18, some (17, true), .fieldAddr 2 (.tmp 2), []⟩,
 ⟨14, some 19, some (17, true), .load none (.tmp 18), []⟩,
 ⟨15, some 20, some (17, true), .fieldAddr 2 (.tmp 3), []⟩,
 ⟨16, some 21, some (17, true), .load none (.tmp 20), []⟩,
 ⟨17, some 22, some (17, true), .bin .eql (some .int) (.tmp 19) (.tmp 21), []⟩,
 ⟨18, some 23, none, .pick (.tmp 17) (.tmp 22) (.const (.bool false)), []⟩,
 ⟨19, some 24, none, .move (.tmp 23), []⟩,
 ⟨20, some 25, some (24, true), .fieldAddr 3 (.tmp 2), []⟩,
 ⟨21, some 26, some (24, true), .load none (.tmp 25), []⟩,
 ⟨22, some 27, some (24, true), .fieldAddr 3 (.tmp 3), []⟩,
 ⟨23, some 28, some (24, true), .load none (.tmp 27), []⟩,
 ⟨24, some 29, some (24, true), .bin .eql (some .str) (.tmp 26) (.tmp 28), []⟩,
 ⟨25, some 30, none, .pick (.tmp 24) (.tmp 29) (.const (.bool false)), []⟩,
 ⟨26, some 31, none, .move (.tmp 30), []⟩,
 ⟨27, some 32, some (31, true), .fieldAddr 4 (.tmp 2), []⟩,
 ⟨28, some 33, some (31, true), .load none (.tmp 32), []⟩,
 ⟨29, some 34, some (31, true), .fieldAddr 4 (.tmp 3), []⟩,
 ⟨30, some 35, some (31, true), .load none (.tmp 34), []⟩,
 ⟨31, some 36, some (31, true), .call (.const (.func 51 [] [])) [(.tmp 33), (.tmp 35)], []⟩,
 ⟨32, some 37, none, .pick (.tmp 31) (.tmp 36) (.const (.bool false)), []⟩,
 ⟨33, some 38, none, .move (.tmp 37), []⟩,
 ⟨34, some 39, some (38, true), .fieldAddr 5 (.tmp 2), []⟩,
 ⟨35, some 40, some (38, true), .load none (.tmp 39), []⟩,
 ⟨36, some 41, some (38, true), .fieldAddr 5 (.tmp 3), []⟩,
 ⟨37, some 42, some (38, true), .load none (.tmp 41), []⟩,
 ⟨38, some 43, some (38, true), .call (.const (.func 12 [] [])) [(.tmp 40), (.tmp 42)], []⟩,
 ⟨39, some 44, none, .pick (.tmp 38) (.tmp 43) (.const (.bool false)), []⟩,
 ⟨40, some 45, none, .move (.tmp 44), []⟩,
 ⟨41, some 46, some (45, true), .fieldAddr 6 (.tmp 2), []⟩,
 ⟨42, some 47, some (45, true), .load none (.tmp 46), []⟩,
 ⟨43, some 48, some (45, true), .fieldAddr 6 (.tmp 3), []⟩,
 ⟨44, some 49, some (45, true), .load none (.tmp 48), []⟩,
 ⟨45, some 50, some (45, true), .call (.const (.func 52 [] [])) [(.tmp 47), (.tmp 49)], []⟩,
 ⟨46, some 51, none, .pick (.tmp 45) (.tmp 50) (.const (.bool false)), []⟩,
 ⟨47, some 4, none, .move (.tmp 51), []⟩]
@[go_sem] def n_gimletkit_SameCore : NFn := ⟨2, 52, [.slot 4], (.seq (.region n_gimletkit_SameCore_r0 []) (.seq (.region n_gimletkit_SameCore_r1 []) .ret))⟩
theorem c_gimletkit_SameCore : compFn Try.prog F_gimletkit_SameCore = some n_gimletkit_SameCore := by kernel_rfl
abbrev F_core_may : Nat := 33
@[go_sem] def n_core_may_r0 : List NI := [
 ⟨0, some 1, none, .box (.tmp 0), []⟩,
 ⟨1, some 2, none, .move (.const (.bool false)), []⟩]
@[go_sem] def n_core_may_r1 : List NI := [
 ⟨0, some 6, none, .fieldAddr 0 (.tmp 1), []⟩,
 ⟨1, some 7, none, .load none (.tmp 6), []⟩,
 ⟨2, some 8, none, .bin .neq (some .int) (.tmp 7) (.const (.int .i64 8)), []⟩]
@[go_sem] def n_core_may_r2 : List NI := [
 ⟨0, some 9, none, .load (some 7) (.tmp 1), []⟩,
 ⟨1, some 10, none, .call (.const (.func 53 [] [])) [(.tmp 9), (.const (.bool false))], []⟩,
 ⟨2, some 11, none, .un .not (.tmp 10), []⟩]
@[go_sem] def n_core_may_r3 : List NI := [
 ⟨0, some 2, none, .move (.const (.bool false)), []⟩]
@[go_sem] def n_core_may_r4 : List NI := [
 ⟨0, some 12, none, .fieldAddr 6 (.tmp 1), []⟩,
 ⟨1, some 13, none, .load none (.tmp 12), []⟩,
 ⟨2, some 14, none, .call (.const (.func 42 [] [])) [(.tmp 13), (.const (.func 54 [] []))], []⟩,
 ⟨3, some 15, none, .un .not (.tmp 14), []⟩,
 ⟨4, some 2, none, .move (.tmp 15), []⟩]
@[go_sem] def n_core_may_r5 : List NI := [
 ⟨0, some 16, none, .fieldAddr 6 (.tmp 1), []⟩,
 ⟨1, some 17, none, .load none (.tmp 16), []⟩,
 ⟨2, some 18, none, .len .slice (.tmp 17), []⟩,
 ⟨3, some 19, none, .bin .sub (some .int) (.tmp 18) (.const (.int .i64 1)), []⟩,
 ⟨4, some 3, none, .move (.tmp 19), []⟩]
@[go_sem] def n_core_may_r6 : List NI := [
 ⟨0, some 20, none, .fieldAddr 1 (.tmp 1), []⟩,
 ⟨1, some 21, none, .load none (.tmp 20), []⟩,
 ⟨2, some 22, none, .bin .neq (some .int) (.tmp 21) (.const (.int .i64 0)), []⟩,
 ⟨3, some 23, none, .move (.tmp 22), []⟩,
 ⟨4, some 24, some (23, false), .fieldAddr 2 (.tmp 1), []⟩,
 ⟨5, some 25, some (23, false), .load none (.tmp 24), []⟩,
 ⟨6, some 26, some (23, false), .bin .neq (some .int) (.tmp 25) (.const (.int .i64 0)), []⟩,
 ⟨7, some 27, none, .pick (.tmp 23) (.const (.bool true)) (.tmp 26), []⟩,
 ⟨8, some 28, none, .move (.tmp 27), []⟩,
 ⟨9, some 29, some (28, false), .fieldAddr 3 (.tmp 1), []⟩,
 ⟨10, some 30, some (28, false), .load none (.tmp 29), []⟩,
 ⟨11, some 31, some (28, false), .bin .neq (some .str) (.tmp 30) (.const (.str [])), []⟩,
 ⟨12, some 32, none, .pick (.tmp 28) (.const (.bool true)) (.tmp 31), []⟩,
 ⟨13, some 33, none, .move (.tmp 32), []⟩,
 ⟨14, some 34, some (33, false), .fieldAddr 5 (.tmp 1), []⟩,
 ⟨15, some 35, some (33, false), .load none (.tmp 34), []⟩,
 ⟨16, some 36, some (33, false), .len .slice (.tmp 35), []⟩,
 ⟨17, some 37, some (33, false), .bin .gtr (some .int) (.tmp 36) (.const (.int .i64 0)), []⟩,
 ⟨18, some 38, none, .pick (.tmp 33) (.const (.bool true)) (.tmp 37), []⟩,
 ⟨19, some 39, none, .move (.tmp 38), []⟩,
 ⟨20, some 40, some (39, false), .fieldAddr 4 (.tmp 1), []⟩,
 ⟨21, some 41, some (39, false), .load none (.tmp 40), []⟩,
 ⟨22, some 42, some (39, false), .len .slice (.tmp 41), []⟩,
 ⟨23, some 43, some (39, false), .bin .gtr (some .int) (.tmp 42) (.const (.int .i64 0)), []⟩,
 ⟨24, some 44, none, .pick (.tmp 39) (.const (.bool true)) (.tmp 43), []⟩,
 ⟨25, some 45, none, .move (.tmp 44), []⟩,
 ⟨26, some 46, some (45, false), .move (.tmp 3), []⟩,
 ⟨27, some 47, some (45, false), .bin .lss (some .int) (.tmp 46) (.const (.int .i64 1)), []⟩,
 ⟨28, some 48, none, .pick (.tmp 45) (.const (.bool true)) (.tmp 47), []⟩]
@[go_sem] def n_core_may_r7 : List NI := [
 ⟨0, some 2, none, .move (.const (.bool false)), []⟩]
@[go_sem] def n_core_may_r8 : List NI := [
 ⟨0, some 49, none, .fieldAddr 6 (.tmp 1), []⟩,
 ⟨1, some 50, none, .load none (.tmp 49), []⟩,
 ⟨2, some 51, none, .move (.tmp 3), []⟩,
 ⟨3, some 52, none, .slice (some 7) (.tmp 50) none (some (.tmp 51)) none, []⟩,
 ⟨4, some 53, none, .len .slice (.tmp 52), []⟩,
 ⟨5, some 54, none, .move (.const (.int .i64 0)), []⟩]
@[go_sem] def n_core_may_r9 : List NI := [
 ⟨0, some 55, none, .bin .lss (some .int) (.tmp 54) (.tmp 53), []⟩]
@[go_sem] def n_core_may_r10 : List NI := [
 ⟨0, some 56, none, .indexAddr 7 none (.tmp 52) (.tmp 54), []⟩,
 ⟨1, some 57, none, .load (some 7) (.tmp 56), []⟩,
 ⟨2, some 5, none, .zero [(.int .i64 0), (.int .i64 0), (.int .i64 0), (.str []), .nilslice, .nilslice, .nilslice], []⟩,
 ⟨3, none, none, .store 7 (.tmp 5) (.tmp 57), []⟩]
@[go_sem] def n_core_may_r11 : List NI := [
 ⟨0, some 58, none, .fieldAddr 0 (.tmp 5), []⟩,
 ⟨1, some 59, none, .load none (.tmp 58), []⟩,
 ⟨2, some 60, none, .bin .neq (some .int) (.tmp 59) (.const (.int .i64 7)), []⟩,
 ⟨3, some 61, none, .move (.tmp 60), []⟩,
 ⟨4, some 62, some (61, false), .load (some 7) (.tmp 5), []⟩,
 ⟨5, some 63, some (61, false), .call (.const (.func 53 [] [])) [(.tmp 62), (.const (.bool true))], []⟩,
 ⟨6, some 64, some (61, false), .un .not (.tmp 63), []⟩,
 ⟨7, some 65, none, .pick (.tmp 61) (.const (.bool true)) (.tmp 64), []⟩,
 ⟨8, some 66, none, .move (.tmp 65), []⟩,
 ⟨9, some 67, some (66, false), .fieldAddr 6 (.tmp 5), []⟩,
 ⟨10, some 68, some (66, false), .load none (.tmp 67), []⟩,
 ⟨11, some 69, some (66, false), .indexAddr 7 none (.tmp 68) (.const (.int .i64 0)), []⟩,
 ⟨12, some 70, some (66, false), .load (some 7) (.tmp 69), []⟩,
 ⟨13, some 71, some (66, false), .call (.const (.func 33 [] [])) [(.tmp 70)], []⟩,
 ⟨14, some 72, some (66, false), .un .not (.tmp 71), []⟩,
 ⟨15, some 73, none, .pick (.tmp 66) (.const (.bool true)) (.tmp 72), []⟩]
@[go_sem] def n_core_may_r12 : List NI := [
 ⟨0, some 2, none, .move (.const (.bool false)), []⟩]
@[go_sem] def n_core_may_r13 : List NI := [
 ⟨0, some 74, none, .bin .add (some .int) (.tmp 54) (.const (.int .i64 1)), []⟩,
 ⟨1, some 54, none, .move (.tmp 74), []⟩]
def n_core_may_l14 : NC := (.seq (.region n_core_may_r9 []) (.seq (.cond (.tmp 55) .skip (.exit 0)) (.seq (.block 1 (.seq (.region n_core_may_r10 []) (.seq (.region n_core_may_r11 []) (.cond (.tmp 73) (.seq (.region n_core_may_r12 []) .ret) .skip)))) (.region n_core_may_r13 []))))
@[go_sem] def n_core_may_r15 : List NI := [
 ⟨0, some 75, none, .fieldAddr 6 (.tmp 1), []⟩,
 ⟨1, some 76, none, .load none (.tmp 75), []⟩,
 ⟨2, some 77, none, .move (.tmp 3), []⟩,
 ⟨3, some 78, none, .indexAddr 7 none (.tmp 76) (.tmp 77), []⟩,
 ⟨4, some 79, none, .load (some 7) (.tmp 78), []⟩,
 ⟨5, some 80, none, .call (.const (.func 33 [] [])) [(.tmp 79)], []⟩,
 ⟨6, some 2, none, .move (.tmp 80), []⟩]
@[go_sem] def n_core_may : NFn := ⟨1, 81, [.slot 2], (.seq (.region n_core_may_r0 []) (.seq (.seq (.region n_core_may_r1 []) (.cond (.tmp 8) (.seq (.seq (.region n_core_may_r2 []) (.cond (.tmp 11) (.seq (.region n_core_may_r3 []) .ret) .skip)) (.seq (.region n_core_may_r4 []) .ret)) .skip)) (.seq (.region n_core_may_r5 []) (.seq (.seq (.region n_core_may_r6 []) (.cond (.tmp 48) (.seq (.region n_core_may_r7 []) .ret) .skip)) (.seq (.seq (.region n_core_may_r8 []) (.block 0 (.loop n_core_may_l14))) (.seq (.region n_core_may_r15 []) .ret))))))⟩
theorem c_core_may : compFn Try.prog F_core_may = some n_core_may := by kernel_rfl
abbrev F_core_Order : Nat := 34
@[go_sem] def n_core_Order_r0 : List NI := [
 ⟨0, some 1, none, .box (.tmp 0), []⟩,
 ⟨1, some 2, none, .move (.const .nilslice), []⟩]
@[go_sem] def n_core_Order_r1 : List NI := [
 ⟨0, some 3, none, .zero [.nilslice], []⟩]
@[go_sem] def n_core_Order_r2 : List NI := [
 ⟨0, some 4, none, .zero [.nilfunc], []⟩]
@[go_sem] def n_core_Order_r3 : List NI := [
 ⟨0, some 5, none, .makeFunc 55 [] [(.tmp 3), (.tmp 4)], []⟩,
 ⟨1, none, none, .store 1 (.tmp 4) (.tmp 5), []⟩]
@[go_sem] def n_core_Order_r4 : List NI := [
 ⟨0, some 6, none, .load none (.tmp 4), []⟩,
 ⟨1, some 7, none, .load (some 7) (.tmp 1), []⟩,
 ⟨2, some 8, none, .call (.tmp 6) [(.tmp 7)], []⟩]
@[go_sem] def n_core_Order_r5 : List NI := [
 ⟨0, some 9, none, .load none (.tmp 3), []⟩,
 ⟨1, some 2, none, .move (.tmp 9), []⟩]
@[go_sem] def n_core_Order : NFn := ⟨1, 10, [.slot 2], (.seq (.region n_core_Order_r0 []) (.seq (.region n_core_Order_r1 []) (.seq (.region n_core_Order_r2 []) (.seq (.region n_core_Order_r3 []) (.seq (.region n_core_Order_r4 []) (.seq (.region n_core_Order_r5 []) .ret))))))⟩
theorem c_core_Order : compFn Try.prog F_core_Order = some n_core_Order := by kernel_rfl
abbrev F_core_Bound : Nat := 35
@[go_sem] def n_core_Bound_r0 : List NI := [
 ⟨0, some 1, none, .box (.tmp 0), []⟩,
 ⟨1, some 2, none, .move (.const .nilslice), []⟩]
@[go_sem] def n_core_Bound_r1 : List NI := [
 ⟨0, some 4, none, .load (some 7) (.tmp 1), []⟩,
 ⟨1, some 5, none, .call (.const (.func 33 [] [])) [(.tmp 4)], []⟩,
 ⟨2, some 6, none, .un .not (.tmp 5), []⟩]
@[go_sem] def n_core_Bound_r2 : List NI := [
 ⟨0, some 2, none, .move (.const .nilslice), []⟩]
@[go_sem] def n_core_Bound_r3 : List NI := [
 ⟨0, some 7, none, .load (some 7) (.tmp 1), []⟩,
 ⟨1, some 8, none, .call (.const (.func 34 [] [])) [(.tmp 7)], []⟩,
 ⟨2, some 3, none, .move (.tmp 8), []⟩]
@[go_sem] def n_core_Bound_r4 : List NI := [
 ⟨0, some 9, none, .move (.tmp 3), []⟩,
 ⟨1, some 10, none, .call (.const (.func 56 [] [])) [(.tmp 9)], []⟩]
@[go_sem] def n_core_Bound_r5 : List NI := [
 ⟨0, some 11, none, .move (.tmp 3), []⟩,
 ⟨1, some 12, none, .call (.const (.func 57 [] [])) [(.tmp 11)], []⟩,
 ⟨2, some 2, none, .move (.tmp 12), []⟩]
@[go_sem] def n_core_Bound : NFn := ⟨1, 13, [.slot 2], (.seq (.region n_core_Bound_r0 []) (.seq (.seq (.region n_core_Bound_r1 []) (.cond (.tmp 6) (.seq (.region n_core_Bound_r2 []) .ret) .skip)) (.seq (.region n_core_Bound_r3 []) (.seq (.region n_core_Bound_r4 []) (.seq (.region n_core_Bound_r5 []) .ret)))))⟩
theorem c_core_Bound : compFn Try.prog F_core_Bound = some n_core_Bound := by kernel_rfl
abbrev F_flatten_maker_fun : Nat := 36
@[go_sem] def n_flatten_maker_fun_r0 : List NI := [
 ⟨0, some 4, none, .box (.tmp 1), []⟩,
 ⟨1, some 6, none, .move (.const (.int .i64 0)), []⟩]
@[go_sem] def n_flatten_maker_fun_r1 : List NI := [
 ⟨0, some 12, none, .move (.tmp 0), []⟩,
 ⟨1, some 13, none, .nilCheck (.tmp 12), []⟩,
 ⟨2, some 14, none, .fieldAddr 0 (.tmp 13), []⟩,
 ⟨3, some 15, none, .load none (.tmp 14), []⟩,
 ⟨4, some 16, none, .len .slice (.tmp 15), []⟩,
 ⟨5, some 7, none, .move (.tmp 16), []⟩]
@[go_sem] def n_flatten_maker_fun_r2 : List NI := [
 ⟨0, some 17, none, .move (.tmp 0), []⟩,
 ⟨1, some 18, none, .move (.tmp 0), []⟩,
 ⟨2, some 19, none, .nilCheck (.tmp 18), []⟩,
 ⟨3, some 20, none, .fieldAddr 0 (.tmp 19), []⟩,
 ⟨4, some 21, none, .load none (.tmp 20), []⟩,
 ⟨5, some 22, none, .move (.tmp 2), []⟩,
 ⟨6, some 23, none, .len .slice (.tmp 22), []⟩,
 ⟨7, some 24, none, .build [(.int .i64 0), (.int .i64 0), (.int .i64 0), (.int .i64 0), (.str []), .nilslice, .nilslice, .nilslice] [(0, 1, (.tmp 23))], []⟩,
 ⟨8, some 25, none, .buildSlice 8 1 [(.int .i64 0), (.int .i64 0), (.int .i64 0), (.int .i64 0), (.str []), .nilslice, .nilslice, .nilslice] [(0, 8, (.tmp 24))], []⟩,
 ⟨9, some 26, none, .append false 8 120 (.tmp 21) (.tmp 25), []⟩,
 ⟨10, some 27, none, .nilCheck (.tmp 17), []⟩,
 ⟨11, some 28, none, .fieldAddr 0 (.tmp 27), []⟩,
 ⟨12, none, none, .store 1 (.tmp 28) (.tmp 26), []⟩]
@[go_sem] def n_flatten_maker_fun_r3 : List NI := [
 ⟨0, some 29, none, .makeMap, []⟩,
 ⟨1, some 30, none, .fieldAddr 1 (.tmp 4), []⟩,
 ⟨2, some 31, none, .load none (.tmp 30), []⟩,
 ⟨3, none, none, .mapUpdate false (.tmp 29) (.tmp 31) (.const (.int .i64 0)), []⟩,
 ⟨4, some 32, none, .move (.tmp 29), []⟩,
 ⟨5, some 33, none, .build [.nilmap, (.int .i64 0)] [(0, 1, (.tmp 32)), (1, 1, (.const (.int .i64 1)))], []⟩,
 ⟨6, some 34, none, .box (.tmp 33), []⟩,
 ⟨7, some 8, none, .move (.tmp 34), []⟩]
@[go_sem] def n_flatten_maker_fun_r4 : List NI := [
 ⟨0, some 35, none, .move (.tmp 2), []⟩,
 ⟨1, some 36, none, .len .slice (.tmp 35), []⟩,
 ⟨2, some 37, none, .move (.const (.int .i64 0)), []⟩]
@[go_sem] def n_flatten_maker_fun_r5 : List NI := [
 ⟨0, some 38, none, .bin .lss (some .int) (.tmp 37) (.tmp 36), []⟩]
@[go_sem] def n_flatten_maker_fun_r6 : List NI := [
 ⟨0, some 39, none, .indexAddr 1 none (.tmp 35) (.tmp 37), []⟩,
 ⟨1, some 40, none, .load none (.tmp 39), []⟩,
 ⟨2, some 10, none, .move (.tmp 40), []⟩]
@[go_sem] def n_flatten_maker_fun_r7 : List NI := [
 ⟨0, some 41, none, .move (.tmp 8), []⟩,
 ⟨1, some 42, none, .move (.tmp 10), []⟩,
 ⟨2, some 43, none, .call (.const (.func 40 [] [])) [(.tmp 41), (.tmp 42)], []⟩]
@[go_sem] def n_flatten_maker_fun_r8 : List NI := [
 ⟨0, some 44, none, .bin .add (some .int) (.tmp 37) (.const (.int .i64 1)), []⟩,
 ⟨1, some 37, none, .move (.tmp 44), []⟩]
def n_flatten_maker_fun_l9 : NC := (.seq (.region n_flatten_maker_fun_r5 []) (.seq (.cond (.tmp 38) .skip (.exit 0)) (.seq (.block 1 (.seq (.region n_flatten_maker_fun_r6 []) (.region n_flatten_maker_fun_r7 []))) (.region n_flatten_maker_fun_r8 []))))
@[go_sem] def n_flatten_maker_fun_r10 : List NI := [
 ⟨0, some 45, none, .move (.tmp 0), []⟩,
 ⟨1, some 46, none, .fieldAddr 6 (.tmp 4), []⟩,
 ⟨2, some 47, none, .load none (.tmp 46), []⟩,
 ⟨3, some 48, none, .indexAddr 7 none (.tmp 47) (.const (.int .i64 0)), []⟩,
 ⟨4, some 49, none, .load (some 7) (.tmp 48), []⟩,
 ⟨5, some 50, none, .move (.tmp 8), []⟩,
 ⟨6, some 51, none, .call (.const (.func 18 [] [])) [(.tmp 45), (.tmp 49), (.tmp 50)], []⟩,
 ⟨7, some 11, none, .zero [(.int .i64 0), (.int .i64 0), (.int .i64 0), (.str []), .nilslice, .nilslice, .nilslice], []⟩,
 ⟨8, none, none, .store 7 (.tmp 11) (.tmp 51), []⟩]
@[go_sem] def n_flatten_maker_fun_r11 : List NI := [
 ⟨0, some 52, none, .move (.tmp 0), []⟩,
 ⟨1, some 53, none, .nilCheck (.tmp 52), []⟩,
 ⟨2, some 54, none, .fieldAddr 0 (.tmp 53), []⟩,
 ⟨3, some 55, none, .load none (.tmp 54), []⟩,
 ⟨4, some 56, none, .move (.tmp 7), []⟩,
 ⟨5, some 57, none, .load (some 7) (.tmp 11), []⟩,
 ⟨6, some 58, none, .indexAddr 8 none (.tmp 55) (.tmp 56), []⟩,
 ⟨7, some 59, none, .fieldAddr 1 (.tmp 58), []⟩,
 ⟨8, none, none, .store 7 (.tmp 59) (.tmp 57), []⟩]
@[go_sem] def n_flatten_maker_fun_r12 : List NI := [
 ⟨0, some 60, none, .move (.tmp 7), []⟩,
 ⟨1, some 6, none, .move (.tmp 60), []⟩]
@[go_sem] def n_flatten_maker_fun : NFn := ⟨3, 61, [.slot 6], (.seq (.region n_flatten_maker_fun_r0 []) (.seq (.region n_flatten_maker_fun_r1 []) (.seq (.region n_flatten_maker_fun_r2 []) (.seq (.region n_flatten_maker_fun_r3 []) (.seq (.seq (.region n_flatten_maker_fun_r4 []) (.block 0 (.loop n_flatten_maker_fun_l9))) (.seq (.region n_flatten_maker_fun_r10 []) (.seq (.region n_flatten_maker_fun_r11 []) (.seq (.region n_flatten_maker_fun_r12 []) .ret))))))))⟩
theorem c_flatten_maker_fun : compFn Try.prog F_flatten_maker_fun = some n_flatten_maker_fun := by kernel_rfl
abbrev F_flatten_frame_atoms : Nat := 37
@[go_sem] def n_flatten_frame_atoms_r0 : List NI := [
 ⟨0, some 4, none, .move (.const .nilslice), []⟩]
@[go_sem] def n_flatten_frame_atoms_r1 : List NI := [
 ⟨0, some 5, none, .move (.const .nilslice), []⟩]
@[go_sem] def n_flatten_frame_atoms_r2 : List NI := [
 ⟨0, some 8, none, .move (.tmp 1), []⟩,
 ⟨1, some 9, none, .len .slice (.tmp 8), []⟩,
 ⟨2, some 10, none, .move (.const (.int .i64 0)), []⟩]
@[go_sem] def n_flatten_frame_atoms_r3 : List NI := [
 ⟨0, some 11, none, .bin .lss (some .int) (.tmp 10) (.tmp 9), []⟩]
@[go_sem] def n_flatten_frame_atoms_r4 : List NI := [
 ⟨0, some 12, none, .indexAddr 1 none (.tmp 8) (.tmp 10), []⟩,
 ⟨1, some 13, none, .load none (.tmp 12), []⟩,
 ⟨2, some 7, none, .move (.tmp 13), []⟩]
@[go_sem] def n_flatten_frame_atoms_r5 : List NI := [
 ⟨0, some 14, none, .move (.tmp 5), []⟩,
 ⟨1, some 15, none, .move (.tmp 0), []⟩,
 ⟨2, some 16, none, .nilCheck (.tmp 15), []⟩,
 ⟨3, some 17, none, .fieldAddr 0 (.tmp 16), []⟩,
 ⟨4, some 18, none, .load none (.tmp 17), []⟩,
 ⟨5, some 19, none, .move (.tmp 7), []⟩,
 ⟨6, some 20, none, .lookup false (.int .i64 0) false (.tmp 18) (.tmp 19), []⟩,
 ⟨7, some 21, none, .build [(.int .i64 0), (.int .i64 0), (.str [])] [(0, 1, (.const (.int .i64 1))), (1, 1, (.tmp 20))], []⟩,
 ⟨8, some 22, none, .buildSlice 3 1 [(.int .i64 0), (.int .i64 0), (.str [])] [(0, 3, (.tmp 21))], []⟩,
 ⟨9, some 23, none, .append false 3 32 (.tmp 14) (.tmp 22), []⟩,
 ⟨10, some 5, none, .move (.tmp 23), []⟩]
@[go_sem] def n_flatten_frame_atoms_r6 : List NI := [
 ⟨0, some 24, none, .bin .add (some .int) (.tmp 10) (.const (.int .i64 1)), []⟩,
 ⟨1, some 10, none, .move (.tmp 24), []⟩]
def n_flatten_frame_atoms_l7 : NC := (.seq (.region n_flatten_frame_atoms_r3 []) (.seq (.cond (.tmp 11) .skip (.exit 0)) (.seq (.block 1 (.seq (.region n_flatten_frame_atoms_r4 []) (.region n_flatten_frame_atoms_r5 []))) (.region n_flatten_frame_atoms_r6 []))))
@[go_sem] def n_flatten_frame_atoms_r8 : List NI := [
 ⟨0, some 25, none, .move (.tmp 5), []⟩,
 ⟨1, some 4, none, .move (.tmp 25), []⟩]
@[go_sem] def n_flatten_frame_atoms : NFn := ⟨2, 26, [.slot 4], (.seq (.region n_flatten_frame_atoms_r0 []) (.seq (.region n_flatten_frame_atoms_r1 []) (.seq (.seq (.region n_flatten_frame_atoms_r2 []) (.block 0 (.loop n_flatten_frame_atoms_l7))) (.seq (.region n_flatten_frame_atoms_r8 []) .ret))))⟩
theorem c_flatten_frame_atoms : compFn Try.prog F_flatten_frame_atoms = some n_flatten_frame_atoms := by kernel_rfl
abbrev F_flatten_maker_group : Nat := 38
@[go_sem] def n_flatten_maker_group_r0 : List NI := [
 ⟨0, some 4, none, .box (.tmp 1), []⟩,
 ⟨1, some 6, none, .zero [(.int .i64 0), (.int .i64 0), (.int .i64 0), (.str []), .nilslice, .nilslice, .nilslice], []⟩]
@[go_sem] def n_flatten_maker_group_r1 : List NI := [
 ⟨0, some 23, none, .fieldAddr 6 (.tmp 4), []⟩,
 ⟨1, some 24, none, .load none (.tmp 23), []⟩,
 ⟨2, some 25, none, .len .slice (.tmp 24), []⟩,
 ⟨3, some 26, none, .bin .sub (some .int) (.tmp 25) (.const (.int .i64 1)), []⟩,
 ⟨4, some 7, none, .move (.tmp 26), []⟩]
@[go_sem] def n_flatten_maker_group_r2 : List NI := [
 ⟨0, some 27, none, .makeMap, []⟩,
 ⟨1, some 8, none, .move (.tmp 27), []⟩]
@[go_sem] def n_flatten_maker_group_r3 : List NI := [
 ⟨0, some 28, none, .fieldAddr 6 (.tmp 4), []⟩,
 ⟨1, some 29, none, .load none (.tmp 28), []⟩,
 ⟨2, some 30, none, .move (.tmp 7), []⟩,
 ⟨3, some 31, none, .slice (some 7) (.tmp 29) none (some (.tmp 30)) none, []⟩,
 ⟨4, some 32, none, .len .slice (.tmp 31), []⟩,
 ⟨5, some 33, none, .move (.const (.int .i64 0)), []⟩]
@[go_sem] def n_flatten_maker_group_r4 : List NI := [
 ⟨0, some 34, none, .bin .lss (some .int) (.tmp 33) (.tmp 32), []⟩]
@[go_sem] def n_flatten_maker_group_r5 : List NI := [
 ⟨0, some 35, none, .indexAddr 7 none (.tmp 31) (.tmp 33), []⟩,
 ⟨1, some 36, none, .load (some 7) (.tmp 35), []⟩,
 ⟨2, some 10, none, .zero [(.int .i64 0), (.int .i64 0), (.int .i64 0), (.str []), .nilslice, .nilslice, .nilslice], []⟩,
 ⟨3, none, none, .store 7 (.tmp 10) (.tmp 36), []⟩]
@[go_sem] def n_flatten_maker_group_r6 : List NI := [
 ⟨0, some 37, none, .move (.tmp 8), []⟩,
 ⟨1, some 38, none, .fieldAddr 2 (.tmp 10), []⟩,
 ⟨2, some 39, none, .load none (.tmp 38), []⟩,
 ⟨3, none, none, .mapUpdate false (.tmp 37) (.tmp 39) (.const (.bool true)), []⟩]
@[go_sem] def n_flatten_maker_group_r7 : List NI := [
 ⟨0, some 40, none, .bin .add (some .int) (.tmp 33) (.const (.int .i64 1)), []⟩,
 ⟨1, some 33, none, .move (.tmp 40), []⟩]
def n_flatten_maker_group_l8 : NC := (.seq (.region n_flatten_maker_group_r4 []) (.seq (.cond (.tmp 34) .skip (.exit 0)) (.seq (.block 1 (.seq (.region n_flatten_maker_group_r5 []) (.region n_flatten_maker_group_r6 []))) (.region n_flatten_maker_group_r7 []))))
@[go_sem] def n_flatten_maker_group_r9 : List NI := [
 ⟨0, some 41, none, .makeMap, []⟩,
 ⟨1, some 11, none, .move (.tmp 41), []⟩]
@[go_sem] def n_flatten_maker_group_r10 : List NI := [
 ⟨0, some 42, none, .fieldAddr 6 (.tmp 4), []⟩,
 ⟨1, some 43, none, .load none (.tmp 42), []⟩,
 ⟨2, some 44, none, .move (.tmp 7), []⟩,
 ⟨3, some 45, none, .slice (some 7) (.tmp 43) none (some (.tmp 44)) none, []⟩,
 ⟨4, some 46, none, .len .slice (.tmp 45), []⟩,
 ⟨5, some 47, none, .move (.const (.int .i64 0)), []⟩]
@[go_sem] def n_flatten_maker_group_r11 : List NI := [
 ⟨0, some 48, none, .bin .lss (some .int) (.tmp 47) (.tmp 46), []⟩]
@[go_sem] def n_flatten_maker_group_r12 : List NI := [
 ⟨0, some 49, none, .indexAddr 7 none (.tmp 45) (.tmp 47), []⟩,
 ⟨1, some 50, none, .load (some 7) (.tmp 49), []⟩,
 ⟨2, some 13, none, .zero [(.int .i64 0), (.int .i64 0), (.int .i64 0), (.str []), .nilslice, .nilslice, .nilslice], []⟩,
 ⟨3, none, none, .store 7 (.tmp 13) (.tmp 50), []⟩]
@[go_sem] def n_flatten_maker_group_r13 : List NI := [
 ⟨0, some 51, none, .load (some 7) (.tmp 13), []⟩,
 ⟨1, some 52, none, .call (.const (.func 30 [] [])) [(.tmp 51)], []⟩,
 ⟨2, some 53, none, .len .slice (.tmp 52), []⟩,
 ⟨3, some 54, none, .move (.const (.int .i64 0)), []⟩]
@[go_sem] def n_flatten_maker_group_r14 : List NI := [
 ⟨0, some 55, none, .bin .lss (some .int) (.tmp 54) (.tmp 53), []⟩]
@[go_sem] def n_flatten_maker_group_r15 : List NI := [
 ⟨0, some 56, none, .indexAddr 1 none (.tmp 52) (.tmp 54), []⟩,
 ⟨1, some 57, none, .load none (.tmp 56), []⟩,
 ⟨2, some 15, none, .move (.tmp 57), []⟩]
@[go_sem] def n_flatten_maker_group_r16 : List NI := [
 ⟨0, some 58, none, .move (.tmp 8), []⟩,
 ⟨1, some 59, none, .move (.tmp 15), []⟩,
 ⟨2, some 60, none, .lookup false (.bool false) false (.tmp 58) (.tmp 59), []⟩,
 ⟨3, some 61, none, .un .not (.tmp 60), []⟩]
@[go_sem] def n_flatten_maker_group_r17 : List NI := [
 ⟨0, some 62, none, .move (.tmp 11), []⟩,
 ⟨1, some 63, none, .move (.tmp 15), []⟩,
 ⟨2, none, none, .mapUpdate false (.tmp 62) (.tmp 63) (.const (.bool true)), []⟩]
@[go_sem] def n_flatten_maker_group_r18 : List NI := [
 ⟨0, some 64, none, .bin .add (some .int) (.tmp 54) (.const (.int .i64 1)), []⟩,
 ⟨1, some 54, none, .move (.tmp 64), []⟩]
def n_flatten_maker_group_l19 : NC := (.seq (.region n_flatten_maker_group_r14 []) (.seq (.cond (.tmp 55) .skip (.exit 4)) (.seq (.block 5 (.seq (.region n_flatten_maker_group_r15 []) (.seq (.region n_flatten_maker_group_r16 []) (.cond (.tmp 61) (.region n_flatten_maker_group_r17 []) .skip)))) (.region n_flatten_maker_group_r18 []))))
@[go_sem] def n_flatten_maker_group_r20 : List NI := [
 ⟨0, some 65, none, .bin .add (some .int) (.tmp 47) (.const (.int .i64 1)), []⟩,
 ⟨1, some 47, none, .move (.tmp 65), []⟩]
def n_flatten_maker_group_l21 : NC := (.seq (.region n_flatten_maker_group_r11 []) (.seq (.cond (.tmp 48) .skip (.exit 2)) (.seq (.block 3 (.seq (.region n_flatten_maker_group_r12 []) (.seq (.region n_flatten_maker_group_r13 []) (.block 4 (.loop n_flatten_maker_group_l19))))) (.region n_flatten_maker_group_r20 []))))
@[go_sem] def n_flatten_maker_group_r22 : List NI := [
 ⟨0, some 66, none, .move (.tmp 11), []⟩,
 ⟨1, some 67, none, .call (.const (.func 50 [] [])) [(.tmp 66)], []⟩,
 ⟨2, some 68, none, .call (.const (.func 49 [] [])) [(.tmp 67)], []⟩,
 ⟨3, some 16, none, .move (.tmp 68), []⟩]
@[go_sem] def n_flatten_maker_group_r23 : List NI := [
 ⟨0, some 69, none, .move (.tmp 2), []⟩,
 ⟨1, some 70, none, .nilCheck (.tmp 69), []⟩,
 ⟨2, some 71, none, .fieldAddr 1 (.tmp 70), []⟩,
 ⟨3, some 72, none, .load none (.tmp 71), []⟩,
 ⟨4, some 73, none, .move (.tmp 2), []⟩,
 ⟨5, some 74, none, .move (.tmp 16), []⟩,
 ⟨6, some 75, none, .call (.const (.func 37 [] [])) [(.tmp 73), (.tmp 74)], [((some 72), none, .load none (.tmp 71))]⟩,
 ⟨7, some 76, none, .build [(.int .i64 0), (.int .i64 0), (.int .i64 0), (.str []), .nilslice, .nilslice, .nilslice] [(0, 1, (.const (.int .i64 14))), (1, 1, (.tmp 72)), (4, 1, (.tmp 75))], []⟩,
 ⟨8, some 17, none, .zero [(.int .i64 0), (.int .i64 0), (.int .i64 0), (.str []), .nilslice, .nilslice, .nilslice], [((some 72), none, .load none (.tmp 71))]⟩,
 ⟨9, none, none, .store 7 (.tmp 17) (.tmp 76), []⟩]
@[go_sem] def n_flatten_maker_group_r23_0 : List NI := [
 ⟨0, some 69, none, .move (.tmp 2), []⟩,
 ⟨1, some 70, none, .nilCheck (.tmp 69), []⟩,
 ⟨2, some 71, none, .fieldAddr 1 (.tmp 70), []⟩,
 ⟨3, some 72, none, .load none (.tmp 71), []⟩,
 ⟨4, some 73, none, .move (.tmp 2), []⟩,
 ⟨5, some 74, none, .move (.tmp 16), []⟩,
 ⟨8, some 17, none, .zero [(.int .i64 0), (.int .i64 0), (.int .i64 0), (.str []), .nilslice, .nilslice, .nilslice], [((some 72), none, .load none (.tmp 71))]⟩,
 ⟨6, some 75, none, .call (.const (.func 37 [] [])) [(.tmp 73), (.tmp 74)], [((some 72), none, .load none (.tmp 71))]⟩,
 ⟨7, some 76, none, .build [(.int .i64 0), (.int .i64 0), (.int .i64 0), (.str []), .nilslice, .nilslice, .nilslice] [(0, 1, (.const (.int .i64 14))), (1, 1, (.tmp 72)), (4, 1, (.tmp 75))], []⟩,
 ⟨9, none, none, .store 7 (.tmp 17) (.tmp 76), []⟩]
@[go_sem] def n_flatten_maker_group_r24 : List NI := [
 ⟨0, some 77, none, .move (.tmp 16), []⟩,
 ⟨1, some 78, none, .call (.const (.func 39 [] [])) [(.tmp 77)], []⟩,
 ⟨2, some 18, none, .move (.tmp 78), []⟩]
@[go_sem] def n_flatten_maker_group_r25 : List NI := [
 ⟨0, some 79, none, .fieldAddr 6 (.tmp 4), []⟩,
 ⟨1, some 80, none, .load none (.tmp 79), []⟩,
 ⟨2, some 81, none, .move (.tmp 7), []⟩,
 ⟨3, some 82, none, .slice (some 7) (.tmp 80) none (some (.tmp 81)) none, []⟩,
 ⟨4, some 83, none, .len .slice (.tmp 82), []⟩,
 ⟨5, some 84, none, .move (.const (.int .i64 0)), []⟩]
@[go_sem] def n_flatten_maker_group_r26 : List NI := [
 ⟨0, some 85, none, .bin .lss (some .int) (.tmp 84) (.tmp 83), []⟩]
@[go_sem] def n_flatten_maker_group_r27 : List NI := [
 ⟨0, some 86, none, .indexAddr 7 none (.tmp 82) (.tmp 84), []⟩,
 ⟨1, some 87, none, .load (some 7) (.tmp 86), []⟩,
 ⟨2, some 20, none, .zero [(.int .i64 0), (.int .i64 0), (.int .i64 0), (.str []), .nilslice, .nilslice, .nilslice], []⟩,
 ⟨3, none, none, .store 7 (.tmp 20) (.tmp 87), []⟩]
@[go_sem] def n_flatten_maker_group_r28 : List NI := [
 ⟨0, some 88, none, .move (.tmp 2), []⟩,
 ⟨1, some 89, none, .fieldAddr 2 (.tmp 20), []⟩,
 ⟨2, some 90, none, .load none (.tmp 89), []⟩,
 ⟨3, some 91, none, .call (.const (.func 40 [] [])) [(.tmp 88), (.tmp 90)], []⟩]
@[go_sem] def n_flatten_maker_group_r29 : List NI := [
 ⟨0, some 92, none, .move (.tmp 18), []⟩,
 ⟨1, some 93, none, .fieldAddr 2 (.tmp 20), []⟩,
 ⟨2, some 94, none, .load none (.tmp 93), []⟩,
 ⟨3, some 95, none, .buildSlice 1 1 [(.int .i64 0)] [(0, 1, (.tmp 94))], []⟩,
 ⟨4, some 96, none, .append false 1 8 (.tmp 92) (.tmp 95), []⟩,
 ⟨5, some 18, none, .move (.tmp 96), []⟩]
@[go_sem] def n_flatten_maker_group_r30 : List NI := [
 ⟨0, some 97, none, .bin .add (some .int) (.tmp 84) (.const (.int .i64 1)), []⟩,
 ⟨1, some 84, none, .move (.tmp 97), []⟩]
def n_flatten_maker_group_l31 : NC := (.seq (.region n_flatten_maker_group_r26 []) (.seq (.cond (.tmp 85) .skip (.exit 6)) (.seq (.block 7 (.seq (.region n_flatten_maker_group_r27 []) (.seq (.region n_flatten_maker_group_r28 []) (.region n_flatten_maker_group_r29 [])))) (.region n_flatten_maker_group_r30 []))))
@[go_sem] def n_flatten_maker_group_r32 : List NI := [
 ⟨0, some 98, none, .fieldAddr 6 (.tmp 4), []⟩,
 ⟨1, some 99, none, .load none (.tmp 98), []⟩,
 ⟨2, some 100, none, .move (.tmp 7), []⟩,
 ⟨3, some 101, none, .slice (some 7) (.tmp 99) none (some (.tmp 100)) none, []⟩,
 ⟨4, some 102, none, .len .slice (.tmp 101), []⟩,
 ⟨5, some 103, none, .move (.const (.int .i64 0)), []⟩]
@[go_sem] def n_flatten_maker_group_r33 : List NI := [
 ⟨0, some 104, none, .bin .lss (some .int) (.tmp 103) (.tmp 102), []⟩]
@[go_sem] def n_flatten_maker_group_r34 : List NI := [
 ⟨0, some 105, none, .indexAddr 7 none (.tmp 101) (.tmp 103), []⟩,
 ⟨1, some 106, none, .load (some 7) (.tmp 105), []⟩,
 ⟨2, some 22, none, .zero [(.int .i64 0), (.int .i64 0), (.int .i64 0), (.str []), .nilslice, .nilslice, .nilslice], []⟩,
 ⟨3, none, none, .store 7 (.tmp 22) (.tmp 106), []⟩]
@[go_sem] def n_flatten_maker_group_r35 : List NI := [
 ⟨0, some 107, none, .fieldAddr 5 (.tmp 17), []⟩,
 ⟨1, some 108, none, .load none (.tmp 107), []⟩,
 ⟨2, some 109, none, .move (.tmp 0), []⟩,
 ⟨3, some 110, none, .load (some 7) (.tmp 22), []⟩,
 ⟨4, some 111, none, .move (.tmp 18), []⟩,
 ⟨5, some 112, none, .call (.const (.func 36 [] [])) [(.tmp 109), (.tmp 110), (.tmp 111)], [((some 108), none, .load none (.tmp 107))]⟩,
 ⟨6, some 113, none, .buildSlice 1 1 [(.int .i64 0)] [(0, 1, (.tmp 112))], [((some 108), none, .load none (.tmp 107))]⟩,
 ⟨7, some 114, none, .append false 1 8 (.tmp 108) (.tmp 113), []⟩,
 ⟨8, some 115, none, .fieldAddr 5 (.tmp 17), []⟩,
 ⟨9, none, none, .store 1 (.tmp 115) (.tmp 114), []⟩]
@[go_sem] def n_flatten_maker_group_r36 : List NI := [
 ⟨0, some 116, none, .bin .add (some .int) (.tmp 103) (.const (.int .i64 1)), []⟩,
 ⟨1, some 103, none, .move (.tmp 116), []⟩]
def n_flatten_maker_group_l37 : NC := (.seq (.region n_flatten_maker_group_r33 []) (.seq (.cond (.tmp 104) .skip (.exit 8)) (.seq (.block 9 (.seq (.region n_flatten_maker_group_r34 []) (.region n_flatten_maker_group_r35 []))) (.region n_flatten_maker_group_r36 []))))
@[go_sem] def n_flatten_maker_group_r38 : List NI := [
 ⟨0, some 117, none, .move (.tmp 0), []⟩,
 ⟨1, some 118, none, .fieldAddr 6 (.tmp 4), []⟩,
 ⟨2, some 119, none, .load none (.tmp 118), []⟩,
 ⟨3, some 120, none, .move (.tmp 7), []⟩,
 ⟨4, some 121, none, .indexAddr 7 none (.tmp 119) (.tmp 120), []⟩,
 ⟨5, some 122, none, .load (some 7) (.tmp 121), []⟩,
 ⟨6, some 123, none, .move (.tmp 2), []⟩,
 ⟨7, some 124, none, .call (.const (.func 18 [] [])) [(.tmp 117), (.tmp 122), (.tmp 123)], []⟩,
 ⟨8, some 125, none, .buildSlice 7 1 [(.int .i64 0), (.int .i64 0), (.int .i64 0), (.str []), .nilslice, .nilslice, .nilslice] [(0, 7, (.tmp 124))], []⟩,
 ⟨9, some 126, none, .fieldAddr 6 (.tmp 17), []⟩,
 ⟨10, none, none, .store 1 (.tmp 126) (.tmp 125), []⟩]
@[go_sem] def n_flatten_maker_group_r39 : List NI := [
 ⟨0, some 127, none, .load (some 7) (.tmp 17), []⟩,
 ⟨1, none, none, .store 7 (.tmp 6) (.tmp 127), []⟩]
@[go_sem] def n_flatten_maker_group : NFn := ⟨3, 128, [.cell 6 (some 7)], (.seq (.region n_flatten_maker_group_r0 []) (.seq (.region n_flatten_maker_group_r1 []) (.seq (.region n_flatten_maker_group_r2 []) (.seq (.seq (.region n_flatten_maker_group_r3 []) (.block 0 (.loop n_flatten_maker_group_l8))) (.seq (.region n_flatten_maker_group_r9 []) (.seq (.seq (.region n_flatten_maker_group_r10 []) (.block 2 (.loop n_flatten_maker_group_l21))) (.seq (.region n_flatten_maker_group_r22 []) (.seq (.region n_flatten_maker_group_r23 [n_flatten_maker_group_r23_0]) (.seq (.region n_flatten_maker_group_r24 []) (.seq (.seq (.region n_flatten_maker_group_r25 []) (.block 6 (.loop n_flatten_maker_group_l31))) (.seq (.seq (.region n_flatten_maker_group_r32 []) (.block 8 (.loop n_flatten_maker_group_l37))) (.seq (.region n_flatten_maker_group_r38 []) (.seq (.region n_flatten_maker_group_r39 []) .ret)))))))))))))⟩
theorem c_flatten_maker_group : compFn Try.prog F_flatten_maker_group = some n_flatten_maker_group := by kernel_rfl
abbrev F_slices_Clone__int_int : Nat := 39
@[go_sem] def n_slices_Clone__int_int_r0 : List NI := [
 ⟨0, some 2, none, .move (.const .nilslice), []⟩]
@[go_sem] def n_slices_Clone__int_int_r1 : List NI := [
 ⟨0, some 3, none, .move (.tmp 0), []⟩,
 ⟨1, some 4, none, .bin .eql (some .slice) (.tmp 3) (.const .nilslice), []⟩]
@[go_sem] def n_slices_Clone__int_int_r2 : List NI := [
 ⟨0, some 2, none, .move (.const .nilslice), []⟩]
@[go_sem] def n_slices_Clone__int_int_r3 : List NI := [
 ⟨0, some 5, none, .buildSlice 1 0 [] [], []⟩,
 ⟨1, some 6, none, .move (.tmp 0), []⟩,
 ⟨2, some 7, none, .append false 1 8 (.tmp 5) (.tmp 6), []⟩,
 ⟨3, some 2, none, .move (.tmp 7), []⟩]
@[go_sem] def n_slices_Clone__int_int : NFn := ⟨1, 8, [.slot 2], (.seq (.region n_slices_Clone__int_int_r0 []) (.seq (.seq (.region n_slices_Clone__int_int_r1 []) (.cond (.tmp 4) (.seq (.region n_slices_Clone__int_int_r2 []) .ret) .skip)) (.seq (.region n_slices_Clone__int_int_r3 []) .ret)))⟩
theorem c_slices_Clone__int_int : compFn Try.prog F_slices_Clone__int_int = some n_slices_Clone__int_int := by kernel_rfl
abbrev F_flatten_frame_new : Nat := 40
@[go_sem] def n_flatten_frame_new_r0 : List NI := [
 ⟨0, some 4, none, .move (.const (.int .i64 0)), []⟩]
@[go_sem] def n_flatten_frame_new_r1 : List NI := [
 ⟨0, some 5, none, .move (.tmp 0), []⟩,
 ⟨1, some 6, none, .nilCheck (.tmp 5), []⟩,
 ⟨2, some 7, none, .fieldAddr 0 (.tmp 6), []⟩,
 ⟨3, some 8, none, .load none (.tmp 7), []⟩,
 ⟨4, some 9, none, .move (.tmp 1), []⟩,
 ⟨5, some 10, none, .move (.tmp 0), []⟩,
 ⟨6, some 11, none, .nilCheck (.tmp 10), []⟩,
 ⟨7, some 12, none, .fieldAddr 1 (.tmp 11), []⟩,
 ⟨8, some 13, none, .load none (.tmp 12), []⟩,
 ⟨9, none, none, .mapUpdate false (.tmp 8) (.tmp 9) (.tmp 13), []⟩]
@[go_sem] def n_flatten_frame_new_r2 : List NI := [
 ⟨0, some 14, none, .move (.tmp 0), []⟩,
 ⟨1, some 15, none, .nilCheck (.tmp 14), []⟩,
 ⟨2, some 16, none, .fieldAddr 1 (.tmp 15), []⟩,
 ⟨3, some 17, none, .load none (.tmp 16), []⟩,
 ⟨4, some 18, none, .bin .add (some .int) (.tmp 17) (.const (.int .i64 1)), []⟩,
 ⟨5, some 19, none, .nilCheck (.tmp 14), []⟩,
 ⟨6, some 20, none, .fieldAddr 1 (.tmp 19), []⟩,
 ⟨7, none, none, .store 1 (.tmp 20) (.tmp 18), []⟩]
@[go_sem] def n_flatten_frame_new_r3 : List NI := [
 ⟨0, some 21, none, .move (.tmp 0), []⟩,
 ⟨1, some 22, none, .nilCheck (.tmp 21), []⟩,
 ⟨2, some 23, none, .fieldAddr 1 (.tmp 22), []⟩,
 ⟨3, some 24, none, .load none (.tmp 23), []⟩,
 ⟨4, some 25, none, .bin .sub (some .int) (.tmp 24) (.const (.int .i64 1)), []⟩,
 ⟨5, some 4, none, .move (.tmp 25), []⟩]
@[go_sem] def n_flatten_frame_new : NFn := ⟨2, 26, [.slot 4], (.seq (.region n_flatten_frame_new_r0 []) (.seq (.region n_flatten_frame_new_r1 []) (.seq (.region n_flatten_frame_new_r2 []) (.seq (.region n_flatten_frame_new_r3 []) .ret))))⟩
theorem c_flatten_frame_new : compFn Try.prog F_flatten_frame_new = some n_flatten_frame_new := by kernel_rfl
abbrev F_flatten_own : Nat := 41
@[go_sem] def n_flatten_own_r0 : List NI := [
 ⟨0, some 2, none, .box (.tmp 0), []⟩,
 ⟨1, some 3, none, .box (.tmp 1), []⟩,
 ⟨2, some 4, none, .move (.const (.bool false)), []⟩]
@[go_sem] def n_flatten_own_r1 : List NI := [
 ⟨0, some 7, none, .fieldAddr 0 (.tmp 2), []⟩,
 ⟨1, some 8, none, .load none (.tmp 7), []⟩]
@[go_sem] def n_flatten_own_r2 : List NI := [
 ⟨0, some 10, none, .bin .eql (some .int) (.tmp 8) (.const (.int .i64 7)), []⟩,
 ⟨1, some 9, none, .move (.tmp 10), []⟩]
@[go_sem] def n_flatten_own_r3 : List NI := [
 ⟨0, some 11, none, .bin .eql (some .int) (.tmp 8) (.const (.int .i64 8)), []⟩,
 ⟨1, some 9, none, .move (.tmp 11), []⟩]
@[go_sem] def n_flatten_own_r4 : List NI := [
 ⟨0, some 4, none, .move (.const (.bool false)), []⟩]
@[go_sem] def n_flatten_own_r5 : List NI := [
 ⟨0, some 13, none, .bin .eql (some .int) (.tmp 8) (.const (.int .i64 13)), []⟩,
 ⟨1, some 12, none, .move (.tmp 13), []⟩]
@[go_sem] def n_flatten_own_r6 : List NI := [
 ⟨0, some 14, none, .fieldAddr 1 (.tmp 2), []⟩,
 ⟨1, some 15, none, .load none (.tmp 14), []⟩,
 ⟨2, some 16, none, .bin .neq (some .int) (.tmp 15) (.const (.int .i64 0)), []⟩,
 ⟨3, some 17, none, .move (.tmp 16), []⟩,
 ⟨4, some 18, some (17, false), .fieldAddr 3 (.tmp 2), []⟩,
 ⟨5, some 19, some (17, false), .load none (.tmp 18), []⟩,
 ⟨6, some 20, some (17, false), .bin .neq (some .str) (.tmp 19) (.const (.str [])), []⟩,
 ⟨7, some 21, none, .pick (.tmp 17) (.const (.bool true)) (.tmp 20), []⟩,
 ⟨8, some 22, none, .move (.tmp 21), []⟩,
 ⟨9, some 23, some (22, false), .fieldAddr 5 (.tmp 2), []⟩,
 ⟨10, some 24, some (22, false), .load none (.tmp 23), []⟩,
 ⟨11, some 25, some (22, false), .len .slice (.tmp 24), []⟩,
 ⟨12, some 26, some (22, false), .bin .gtr (some .int) (.tmp 25) (.const (.int .i64 0)), []⟩,
 ⟨13, some 27, none, .pick (.tmp 22) (.const (.bool true)) (.tmp 26), []⟩,
 ⟨14, some 28, none, .move (.tmp 27), []⟩,
 ⟨15, some 29, some (28, false), .fieldAddr 6 (.tmp 2), []⟩,
 ⟨16, some 30, some (28, false), .load none (.tmp 29), []⟩,
 ⟨17, some 31, some (28, false), .len .slice (.tmp 30), []⟩,
 ⟨18, some 32, some (28, false), .bin .gtr (some .int) (.tmp 31) (.const (.int .i64 0)), []⟩,
 ⟨19, some 33, none, .pick (.tmp 28) (.const (.bool true)) (.tmp 32), []⟩,
 ⟨20, some 34, none, .move (.tmp 33), []⟩,
 ⟨21, some 35, some (34, false), .fieldAddr 2 (.tmp 2), []⟩,
 ⟨22, some 36, some (34, false), .load none (.tmp 35), []⟩,
 ⟨23, some 37, some (34, false), .bin .lss (some .int) (.tmp 36) (.const (.int .i64 0)), []⟩,
 ⟨24, some 38, none, .pick (.tmp 34) (.const (.bool true)) (.tmp 37), []⟩,
 ⟨25, some 39, none, .move (.tmp 38), []⟩,
 ⟨26, some 40, some (39, false), .fieldAddr 2 (.tmp 2), []⟩,
 ⟨27, some 41, some (39, false), .load none (.tmp 40), []⟩,
 ⟨28, some 42, some (39, false), .fieldAddr 0 (.tmp 3), []⟩,
 ⟨29, some 43, some (39, false), .load none (.tmp 42), []⟩,
 ⟨30, some 44, some (39, false), .len .slice (.tmp 43), []⟩,
 ⟨31, some 45, some (39, false), .bin .geq (some .int) (.tmp 41) (.tmp 44), []⟩,
 ⟨32, some 46, none, .pick (.tmp 39) (.const (.bool true)) (.tmp 45), []⟩]
@[go_sem] def n_flatten_own_r7 : List NI := [
 ⟨0, some 4, none, .move (.const (.bool false)), []⟩]
@[go_sem] def n_flatten_own_r8 : List NI := [
 ⟨0, some 47, none, .fieldAddr 4 (.tmp 2), []⟩,
 ⟨1, some 48, none, .load none (.tmp 47), []⟩,
 ⟨2, some 49, none, .len .slice (.tmp 48), []⟩,
 ⟨3, some 50, none, .fieldAddr 0 (.tmp 3), []⟩,
 ⟨4, some 51, none, .load none (.tmp 50), []⟩,
 ⟨5, some 52, none, .fieldAddr 2 (.tmp 2), []⟩,
 ⟨6, some 53, none, .load none (.tmp 52), []⟩,
 ⟨7, some 54, none, .indexAddr 8 none (.tmp 51) (.tmp 53), []⟩,
 ⟨8, some 55, none, .fieldAddr 0 (.tmp 54), []⟩,
 ⟨9, some 56, none, .load none (.tmp 55), []⟩,
 ⟨10, some 57, none, .bin .eql (some .int) (.tmp 49) (.tmp 56), []⟩,
 ⟨11, some 58, none, .move (.tmp 57), []⟩,
 ⟨12, some 59, some (58, true), .fieldAddr 4 (.tmp 2), []⟩,
 ⟨13, some 60, some (58, true), .load none (.tmp 59), []⟩,
 ⟨14, some 61, some (58, true), .call (.const (.func 58 [] [])) [(.tmp 60)], []⟩,
 ⟨15, some 62, none, .pick (.tmp 58) (.tmp 61) (.const (.bool false)), []⟩,
 ⟨16, some 4, none, .move (.tmp 62), []⟩]
@[go_sem] def n_flatten_own_r9 : List NI := [
 ⟨0, some 64, none, .bin .eql (some .int) (.tmp 8) (.const (.int .i64 14)), []⟩,
 ⟨1, some 63, none, .move (.tmp 64), []⟩]
@[go_sem] def n_flatten_own_r10 : List NI := [
 ⟨0, some 65, none, .fieldAddr 2 (.tmp 2), []⟩,
 ⟨1, some 66, none, .load none (.tmp 65), []⟩,
 ⟨2, some 67, none, .bin .neq (some .int) (.tmp 66) (.const (.int .i64 0)), []⟩,
 ⟨3, some 68, none, .move (.tmp 67), []⟩,
 ⟨4, some 69, some (68, false), .fieldAddr 3 (.tmp 2), []⟩,
 ⟨5, some 70, some (68, false), .load none (.tmp 69), []⟩,
 ⟨6, some 71, some (68, false), .bin .neq (some .str) (.tmp 70) (.const (.str [])), []⟩,
 ⟨7, some 72, none, .pick (.tmp 68) (.const (.bool true)) (.tmp 71), []⟩,
 ⟨8, some 73, none, .move (.tmp 72), []⟩,
 ⟨9, some 74, some (73, false), .fieldAddr 6 (.tmp 2), []⟩,
 ⟨10, some 75, some (73, false), .load none (.tmp 74), []⟩,
 ⟨11, some 76, some (73, false), .len .slice (.tmp 75), []⟩,
 ⟨12, some 77, some (73, false), .bin .neq (some .int) (.tmp 76) (.const (.int .i64 1)), []⟩,
 ⟨13, some 78, none, .pick (.tmp 73) (.const (.bool true)) (.tmp 77), []⟩,
 ⟨14, some 79, none, .move (.tmp 78), []⟩,
 ⟨15, some 80, some (79, false), .fieldAddr 5 (.tmp 2), []⟩,
 ⟨16, some 81, some (79, false), .load none (.tmp 80), []⟩,
 ⟨17, some 82, some (79, false), .len .slice (.tmp 81), []⟩,
 ⟨18, some 83, some (79, false), .bin .lss (some .int) (.tmp 82) (.const (.int .i64 1)), []⟩,
 ⟨19, some 84, none, .pick (.tmp 79) (.const (.bool true)) (.tmp 83), []⟩,
 ⟨20, some 85, none, .move (.tmp 84), []⟩,
 ⟨21, some 86, some (85, false), .fieldAddr 5 (.tmp 2), []⟩,
 ⟨22, some 87, some (85, false), .load none (.tmp 86), []⟩,
 ⟨23, some 88, some (85, false), .len .slice (.tmp 87), []⟩,
 ⟨24, some 89, some (85, false), .bin .gtr (some .int) (.tmp 88) (.const (.int .i64 1024)), []⟩,
 ⟨25, some 90, none, .pick (.tmp 85) (.const (.bool true)) (.tmp 89), []⟩,
 ⟨26, some 91, none, .move (.tmp 90), []⟩,
 ⟨27, some 92, some (91, false), .fieldAddr 1 (.tmp 2), []⟩,
 ⟨28, some 93, some (91, false), .load none (.tmp 92), []⟩,
 ⟨29, some 94, some (91, false), .bin .lss (some .int) (.tmp 93) (.const (.int .i64 0)), []⟩,
 ⟨30, some 95, none, .pick (.tmp 91) (.const (.bool true)) (.tmp 94), []⟩,
 ⟨31, some 96, none, .move (.tmp 95), []⟩,
 ⟨32, some 97, some (96, false), .fieldAddr 1 (.tmp 2), []⟩,
 ⟨33, some 98, some (96, false), .load none (.tmp 97), []⟩,
 ⟨34, some 99, some (96, false), .fieldAddr 5 (.tmp 2), []⟩,
 ⟨35, some 100, some (96, false), .load none (.tmp 99), []⟩,
 ⟨36, some 101, some (96, false), .len .slice (.tmp 100), []⟩,
 ⟨37, some 102, some (96, false), .bin .sub (some .int) (.const (.int .i64 1048576)) (.tmp 101), []⟩,
 ⟨38, some 103, some (96, false), .bin .gtr (some .int) (.tmp 98) (.tmp 102), []⟩,
 ⟨39, some 104, none, .pick (.tmp 96) (.const (.bool true)) (.tmp 103), []⟩]
@[go_sem] def n_flatten_own_r11 : List NI := [
 ⟨0, some 4, none, .move (.const (.bool false)), []⟩]
@[go_sem] def n_flatten_own_r12 : List NI := [
 ⟨0, some 105, none, .fieldAddr 5 (.tmp 2), []⟩,
 ⟨1, some 106, none, .load none (.tmp 105), []⟩,
 ⟨2, some 107, none, .len .slice (.tmp 106), []⟩,
 ⟨3, some 108, none, .move (.const (.int .i64 0)), []⟩]
@[go_sem] def n_flatten_own_r13 : List NI := [
 ⟨0, some 109, none, .bin .lss (some .int) (.tmp 108) (.tmp 107), []⟩]
@[go_sem] def n_flatten_own_r14 : List NI := [
 ⟨0, some 110, none, .indexAddr 1 none (.tmp 106) (.tmp 108), []⟩,
 ⟨1, some 111, none, .load none (.tmp 110), []⟩,
 ⟨2, some 6, none, .move (.tmp 111), []⟩]
@[go_sem] def n_flatten_own_r15 : List NI := [
 ⟨0, some 112, none, .move (.tmp 6), []⟩,
 ⟨1, some 113, none, .bin .lss (some .int) (.tmp 112) (.const (.int .i64 0)), []⟩,
 ⟨2, some 114, none, .move (.tmp 113), []⟩,
 ⟨3, some 115, some (114, false), .move (.tmp 6), []⟩,
 ⟨4, some 116, some (114, false), .fieldAddr 0 (.tmp 3), []⟩,
 ⟨5, some 117, some (114, false), .load none (.tmp 116), []⟩,
 ⟨6, some 118, some (114, false), .len .slice (.tmp 117), []⟩,
 ⟨7, some 119, some (114, false), .bin .geq (some .int) (.tmp 115) (.tmp 118), []⟩,
 ⟨8, some 120, none, .pick (.tmp 114) (.const (.bool true)) (.tmp 119), []⟩,
 ⟨9, some 121, none, .move (.tmp 120), []⟩,
 ⟨10, some 122, some (121, false), .fieldAddr 0 (.tmp 3), []⟩,
 ⟨11, some 123, some (121, false), .load none (.tmp 122), []⟩,
 ⟨12, some 124, some (121, false), .move (.tmp 6), []⟩,
 ⟨13, some 125, some (121, false), .indexAddr 8 none (.tmp 123) (.tmp 124), []⟩,
 ⟨14, some 126, some (121, false), .fieldAddr 0 (.tmp 125), []⟩,
 ⟨15, some 127, some (121, false), .load none (.tmp 126), []⟩,
 ⟨16, some 128, some (121, false), .fieldAddr 4 (.tmp 2), []⟩,
 ⟨17, some 129, some (121, false), .load none (.tmp 128), []⟩,
 ⟨18, some 130, some (121, false), .len .slice (.tmp 129), []⟩,
 ⟨19, some 131, some (121, false), .fieldAddr 5 (.tmp 2), []⟩,
 ⟨20, some 132, some (121, false), .load none (.tmp 131), []⟩,
 ⟨21, some 133, some (121, false), .len .slice (.tmp 132), []⟩,
 ⟨22, some 134, some (121, false), .bin .add (some .int) (.tmp 130) (.tmp 133), []⟩,
 ⟨23, some 135, some (121, false), .bin .neq (some .int) (.tmp 127) (.tmp 134), []⟩,
 ⟨24, some 136, none, .pick (.tmp 121) (.const (.bool true)) (.tmp 135), []⟩]
@[go_sem] def n_flatten_own_r16 : List NI := [
 ⟨0, some 4, none, .move (.const (.bool false)), []⟩]
@[go_sem] def n_flatten_own_r17 : List NI := [
 ⟨0, some 137, none, .bin .add (some .int) (.tmp 108) (.const (.int .i64 1)), []⟩,
 ⟨1, some 108, none, .move (.tmp 137), []⟩]
def n_flatten_own_l18 : NC := (.seq (.region n_flatten_own_r13 []) (.seq (.cond (.tmp 109) .skip (.exit 1)) (.seq (.block 2 (.seq (.region n_flatten_own_r14 []) (.seq (.region n_flatten_own_r15 []) (.cond (.tmp 136) (.seq (.region n_flatten_own_r16 []) .ret) .skip)))) (.region n_flatten_own_r17 []))))
@[go_sem] def n_flatten_own_r19 : List NI := [
 ⟨0, some 138, none, .fieldAddr 4 (.tmp 2), []⟩,
 ⟨1, some 139, none, .load none (.tmp 138), []⟩,
 ⟨2, some 140, none, .call (.const (.func 58 [] [])) [(.tmp 139)], []⟩,
 ⟨3, some 4, none, .move (.tmp 140), []⟩]
@[go_sem] def n_flatten_own_r20 : List NI := [
 ⟨0, some 141, none, .load (some 7) (.tmp 2), []⟩,
 ⟨1, some 142, none, .call (.const (.func 53 [] [])) [(.tmp 141), (.const (.bool false))], []⟩,
 ⟨2, some 4, none, .move (.tmp 142), []⟩]
@[go_sem] def n_flatten_own : NFn := ⟨2, 143, [.slot 4], (.seq (.region n_flatten_own_r0 []) (.seq (.seq (.region n_flatten_own_r1 []) (.block 0 (.seq (.seq (.region n_flatten_own_r2 []) (.cond (.tmp 9) .skip (.region n_flatten_own_r3 []))) (.cond (.tmp 9) (.seq (.region n_flatten_own_r4 []) .ret) (.seq (.region n_flatten_own_r5 []) (.cond (.tmp 12) (.seq (.seq (.region n_flatten_own_r6 []) (.cond (.tmp 46) (.seq (.region n_flatten_own_r7 []) .ret) .skip)) (.seq (.region n_flatten_own_r8 []) .ret)) (.seq (.region n_flatten_own_r9 []) (.cond (.tmp 63) (.seq (.seq (.region n_flatten_own_r10 []) (.cond (.tmp 104) (.seq (.region n_flatten_own_r11 []) .ret) .skip)) (.seq (.seq (.region n_flatten_own_r12 []) (.block 1 (.loop n_flatten_own_l18))) (.seq (.region n_flatten_own_r19 []) .ret))) .skip)))))))) (.seq (.region n_flatten_own_r20 []) .ret)))⟩
theorem c_flatten_own : compFn Try.prog F_flatten_own = some n_flatten_own := by kernel_rfl
abbrev F_slices_ContainsFunc__api_Core_api_Core : Nat := 42
@[go_sem] def n_slices_ContainsFunc__api_Core_api_Core_r0 : List NI := [
 ⟨0, some 4, none, .move (.const (.bool false)), []⟩]
@[go_sem] def n_slices_ContainsFunc__api_Core_api_Core_r1 : List NI := [
 ⟨0, some 5, none, .move (.tmp 0), []⟩,
 ⟨1, some 6, none, .move (.tmp 1), []⟩,
 ⟨2, some 7, none, .call (.const (.func 59 [] [])) [(.tmp 5), (.tmp 6)], []⟩,
 ⟨3, some 8, none, .bin .geq (some .int) (.tmp 7) (.const (.int .i64 0)), []⟩,
 ⟨4, some 4, none, .move (.tmp 8), []⟩]
@[go_sem] def n_slices_ContainsFunc__api_Core_api_Core : NFn := ⟨2, 9, [.slot 4], (.seq (.region n_slices_ContainsFunc__api_Core_api_Core_r0 []) (.seq (.region n_slices_ContainsFunc__api_Core_api_Core_r1 []) .ret))⟩
theorem c_slices_ContainsFunc__api_Core_api_Core : compFn Try.prog F_slices_ContainsFunc__api_Core_api_Core = some n_slices_ContainsFunc__api_Core_api_Core := by kernel_rfl
abbrev F_flatten_may_1 : Nat := 43
@[go_sem] def n_flatten_may_1_r0 : List NI := [
 ⟨0, some 2, none, .box (.tmp 0), []⟩,
 ⟨1, some 3, none, .move (.const (.bool false)), []⟩]
@[go_sem] def n_flatten_may_1_r1 : List NI := [
 ⟨0, some 4, none, .load (some 7) (.tmp 2), []⟩,
 ⟨1, some 5, none, .load (some 8) (.tmp 1), []⟩,
 ⟨2, some 6, none, .call (.const (.func 22 [] [])) [(.tmp 4), (.tmp 5)], []⟩,
 ⟨3, some 7, none, .un .not (.tmp 6), []⟩,
 ⟨4, some 3, none, .move (.tmp 7), []⟩]
@[go_sem] def n_flatten_may_1 : NFn := ⟨2, 8, [.slot 3], (.seq (.region n_flatten_may_1_r0 []) (.seq (.region n_flatten_may_1_r1 []) .ret))⟩
theorem c_flatten_may_1 : compFn Try.prog F_flatten_may_1 = some n_flatten_may_1 := by kernel_rfl
abbrev F_core_Unbound_1 : Nat := 47
@[go_sem] def n_core_Unbound_1_r0 : List NI := [
 ⟨0, some 4, none, .box (.tmp 0), []⟩]
@[go_sem] def n_core_Unbound_1_r1 : List NI := [
 ⟨0, some 15, none, .fieldAddr 4 (.tmp 4), []⟩,
 ⟨1, some 16, none, .load none (.tmp 15), []⟩,
 ⟨2, some 17, none, .len .slice (.tmp 16), []⟩,
 ⟨3, some 18, none, .move (.const (.int .i64 0)), []⟩]
@[go_sem] def n_core_Unbound_1_r2 : List NI := [
 ⟨0, some 19, none, .bin .lss (some .int) (.tmp 18) (.tmp 17), []⟩]
@[go_sem] def n_core_Unbound_1_r3 : List NI := [
 ⟨0, some 20, none, .indexAddr 3 none (.tmp 16) (.tmp 18), []⟩,
 ⟨1, some 21, none, .load (some 3) (.tmp 20), []⟩,
 ⟨2, some 6, none, .zero [(.int .i64 0), (.int .i64 0), (.str [])], []⟩,
 ⟨3, none, none, .store 3 (.tmp 6) (.tmp 21), []⟩]
@[go_sem] def n_core_Unbound_1_r4 : List NI := [
 ⟨0, some 22, none, .fieldAddr 0 (.tmp 6), []⟩,
 ⟨1, some 23, none, .load none (.tmp 22), []⟩,
 ⟨2, some 24, none, .bin .eql (some .int) (.tmp 23) (.const (.int .i64 1)), []⟩,
 ⟨3, some 25, none, .move (.tmp 24), []⟩,
 ⟨4, some 26, some (25, true), .load none (.tmp 1), []⟩,
 ⟨5, some 27, some (25, true), .fieldAddr 1 (.tmp 6), []⟩,
 ⟨6, some 28, some (25, true), .load none (.tmp 27), []⟩,
 ⟨7, some 29, some (25, true), .lookup false (.int .i64 0) false (.tmp 26) (.tmp 28), []⟩,
 ⟨8, some 30, some (25, true), .bin .eql (some .int) (.tmp 29) (.const (.int .i64 0)), []⟩,
 ⟨9, some 31, none, .pick (.tmp 25) (.tmp 30) (.const (.bool false)), []⟩]
@[go_sem] def n_core_Unbound_1_r5 : List NI := [
 ⟨0, some 32, none, .load none (.tmp 2), []⟩,
 ⟨1, some 33, none, .fieldAddr 1 (.tmp 6), []⟩,
 ⟨2, some 34, none, .load none (.tmp 33), []⟩,
 ⟨3, none, none, .mapUpdate false (.tmp 32) (.tmp 34) (.const (.bool true)), []⟩]
@[go_sem] def n_core_Unbound_1_r6 : List NI := [
 ⟨0, some 35, none, .bin .add (some .int) (.tmp 18) (.const (.int .i64 1)), []⟩,
 ⟨1, some 18, none, .move (.tmp 35), []⟩]
def n_core_Unbound_1_l7 : NC := (.seq (.region n_core_Unbound_1_r2 []) (.seq (.cond (.tmp 19) .skip (.exit 0)) (.seq (.block 1 (.seq (.region n_core_Unbound_1_r3 []) (.seq (.region n_core_Unbound_1_r4 []) (.cond (.tmp 31) (.region n_core_Unbound_1_r5 []) .skip)))) (.region n_core_Unbound_1_r6 []))))
@[go_sem] def n_core_Unbound_1_r8 : List NI := [
 ⟨0, some 36, none, .load (some 7) (.tmp 4), []⟩,
 ⟨1, some 37, none, .call (.const (.func 48 [] [])) [(.tmp 36)], []⟩,
 ⟨2, some 7, none, .move (.tmp 37), []⟩]
@[go_sem] def n_core_Unbound_1_r9 : List NI := [
 ⟨0, some 38, none, .move (.tmp 7), []⟩,
 ⟨1, some 39, none, .len .slice (.tmp 38), []⟩,
 ⟨2, some 40, none, .move (.const (.int .i64 0)), []⟩]
@[go_sem] def n_core_Unbound_1_r10 : List NI := [
 ⟨0, some 41, none, .bin .lss (some .int) (.tmp 40) (.tmp 39), []⟩]
@[go_sem] def n_core_Unbound_1_r11 : List NI := [
 ⟨0, some 42, none, .indexAddr 1 none (.tmp 38) (.tmp 40), []⟩,
 ⟨1, some 43, none, .load none (.tmp 42), []⟩,
 ⟨2, some 9, none, .move (.tmp 43), []⟩]
@[go_sem] def n_core_Unbound_1_r12 : List NI := [
 ⟨0, some 44, none, .load none (.tmp 1), []⟩,
 ⟨1, some 45, none, .move (.tmp 9), []⟩,
 ⟨2, some 46, none, .lookup false (.int .i64 0) false (.tmp 44) (.tmp 45), []⟩,
 ⟨3, some 47, none, .bin .add (some .int) (.tmp 46) (.const (.int .i64 1)), []⟩,
 ⟨4, none, none, .mapUpdate false (.tmp 44) (.tmp 45) (.tmp 47), []⟩]
@[go_sem] def n_core_Unbound_1_r13 : List NI := [
 ⟨0, some 48, none, .bin .add (some .int) (.tmp 40) (.const (.int .i64 1)), []⟩,
 ⟨1, some 40, none, .move (.tmp 48), []⟩]
def n_core_Unbound_1_l14 : NC := (.seq (.region n_core_Unbound_1_r10 []) (.seq (.cond (.tmp 41) .skip (.exit 2)) (.seq (.block 3 (.seq (.region n_core_Unbound_1_r11 []) (.region n_core_Unbound_1_r12 []))) (.region n_core_Unbound_1_r13 []))))
@[go_sem] def n_core_Unbound_1_r15 : List NI := [
 ⟨0, some 49, none, .fieldAddr 6 (.tmp 4), []⟩,
 ⟨1, some 50, none, .load none (.tmp 49), []⟩,
 ⟨2, some 51, none, .len .slice (.tmp 50), []⟩,
 ⟨3, some 52, none, .move (.const (.int .i64 0)), []⟩]
@[go_sem] def n_core_Unbound_1_r16 : List NI := [
 ⟨0, some 53, none, .bin .lss (some .int) (.tmp 52) (.tmp 51), []⟩]
@[go_sem] def n_core_Unbound_1_r17 : List NI := [
 ⟨0, some 54, none, .move (.tmp 52), []⟩,
 ⟨1, some 55, none, .indexAddr 7 none (.tmp 50) (.tmp 52), []⟩,
 ⟨2, some 56, none, .load (some 7) (.tmp 55), []⟩,
 ⟨3, some 11, none, .zero [(.int .i64 0), (.int .i64 0), (.int .i64 0), (.str []), .nilslice, .nilslice, .nilslice], []⟩,
 ⟨4, some 10, none, .move (.tmp 54), []⟩,
 ⟨5, none, none, .store 7 (.tmp 11) (.tmp 56), []⟩]
@[go_sem] def n_core_Unbound_1_r18 : List NI := [
 ⟨0, some 57, none, .move (.tmp 10), []⟩,
 ⟨1, some 58, none, .bin .eql (some .int) (.tmp 57) (.const (.int .i64 1)), []⟩,
 ⟨2, some 59, none, .move (.tmp 58), []⟩,
 ⟨3, some 60, some (59, true), .fieldAddr 0 (.tmp 4), []⟩,
 ⟨4, some 61, some (59, true), .load none (.tmp 60), []⟩,
 ⟨5, some 62, some (59, true), .bin .eql (some .int) (.tmp 61) (.const (.int .i64 2)), []⟩,
 ⟨6, some 63, some (59, true), .move (.tmp 62), []⟩,
 ⟨7, some 64, some (63, false), .fieldAddr 0 (.tmp 4), []⟩,
 ⟨8, some 65, some (63, false), .load none (.tmp 64), []⟩,
 ⟨9, some 66, some (63, false), .bin .eql (some .int) (.tmp 65) (.const (.int .i64 11)), []⟩,
 ⟨10, some 67, some (59, true), .pick (.tmp 63) (.const (.bool true)) (.tmp 66), []⟩,
 ⟨11, some 68, none, .pick (.tmp 59) (.tmp 67) (.const (.bool false)), []⟩,
 ⟨12, some 12, none, .move (.tmp 68), []⟩]
@[go_sem] def n_core_Unbound_1_r19 : List NI := [
 ⟨0, some 69, none, .move (.tmp 12), []⟩]
@[go_sem] def n_core_Unbound_1_r20 : List NI := [
 ⟨0, some 70, none, .load none (.tmp 1), []⟩,
 ⟨1, some 71, none, .fieldAddr 1 (.tmp 4), []⟩,
 ⟨2, some 72, none, .load none (.tmp 71), []⟩,
 ⟨3, some 73, none, .lookup false (.int .i64 0) false (.tmp 70) (.tmp 72), []⟩,
 ⟨4, some 74, none, .bin .add (some .int) (.tmp 73) (.const (.int .i64 1)), []⟩,
 ⟨5, none, none, .mapUpdate false (.tmp 70) (.tmp 72) (.tmp 74), []⟩]
@[go_sem] def n_core_Unbound_1_r21 : List NI := [
 ⟨0, some 75, none, .load none (.tmp 3), []⟩,
 ⟨1, some 76, none, .load (some 7) (.tmp 11), []⟩,
 ⟨2, some 77, none, .call (.tmp 75) [(.tmp 76)], []⟩]
@[go_sem] def n_core_Unbound_1_r22 : List NI := [
 ⟨0, some 78, none, .move (.tmp 12), []⟩]
@[go_sem] def n_core_Unbound_1_r23 : List NI := [
 ⟨0, some 79, none, .load none (.tmp 1), []⟩,
 ⟨1, some 80, none, .fieldAddr 1 (.tmp 4), []⟩,
 ⟨2, some 81, none, .load none (.tmp 80), []⟩,
 ⟨3, some 82, none, .lookup false (.int .i64 0) false (.tmp 79) (.tmp 81), []⟩,
 ⟨4, some 83, none, .bin .sub (some .int) (.tmp 82) (.const (.int .i64 1)), []⟩,
 ⟨5, none, none, .mapUpdate false (.tmp 79) (.tmp 81) (.tmp 83), []⟩]
@[go_sem] def n_core_Unbound_1_r24 : List NI := [
 ⟨0, some 84, none, .bin .add (some .int) (.tmp 52) (.const (.int .i64 1)), []⟩,
 ⟨1, some 52, none, .move (.tmp 84), []⟩]
def n_core_Unbound_1_l25 : NC := (.seq (.region n_core_Unbound_1_r16 []) (.seq (.cond (.tmp 53) .skip (.exit 4)) (.seq (.block 5 (.seq (.region n_core_Unbound_1_r17 []) (.seq (.region n_core_Unbound_1_r18 []) (.seq (.seq (.region n_core_Unbound_1_r19 []) (.cond (.tmp 69) (.region n_core_Unbound_1_r20 []) .skip)) (.seq (.region n_core_Unbound_1_r21 []) (.seq (.region n_core_Unbound_1_r22 []) (.cond (.tmp 78) (.region n_core_Unbound_1_r23 []) .skip))))))) (.region n_core_Unbound_1_r24 []))))
@[go_sem] def n_core_Unbound_1_r26 : List NI := [
 ⟨0, some 85, none, .move (.tmp 7), []⟩,
 ⟨1, some 86, none, .len .slice (.tmp 85), []⟩,
 ⟨2, some 87, none, .move (.const (.int .i64 0)), []⟩]
@[go_sem] def n_core_Unbound_1_r27 : List NI := [
 ⟨0, some 88, none, .bin .lss (some .int) (.tmp 87) (.tmp 86), []⟩]
@[go_sem] def n_core_Unbound_1_r28 : List NI := [
 ⟨0, some 89, none, .indexAddr 1 none (.tmp 85) (.tmp 87), []⟩,
 ⟨1, some 90, none, .load none (.tmp 89), []⟩,
 ⟨2, some 14, none, .move (.tmp 90), []⟩]
@[go_sem] def n_core_Unbound_1_r29 : List NI := [
 ⟨0, some 91, none, .load none (.tmp 1), []⟩,
 ⟨1, some 92, none, .move (.tmp 14), []⟩,
 ⟨2, some 93, none, .lookup false (.int .i64 0) false (.tmp 91) (.tmp 92), []⟩,
 ⟨3, some 94, none, .bin .sub (some .int) (.tmp 93) (.const (.int .i64 1)), []⟩,
 ⟨4, none, none, .mapUpdate false (.tmp 91) (.tmp 92) (.tmp 94), []⟩]
@[go_sem] def n_core_Unbound_1_r30 : List NI := [
 ⟨0, some 95, none, .bin .add (some .int) (.tmp 87) (.const (.int .i64 1)), []⟩,
 ⟨1, some 87, none, .move (.tmp 95), []⟩]
def n_core_Unbound_1_l31 : NC := (.seq (.region n_core_Unbound_1_r27 []) (.seq (.cond (.tmp 88) .skip (.exit 6)) (.seq (.block 7 (.seq (.region n_core_Unbound_1_r28 []) (.region n_core_Unbound_1_r29 []))) (.region n_core_Unbound_1_r30 []))))
@[go_sem] def n_core_Unbound_1 : NFn := ⟨4, 96, [], (.seq (.region n_core_Unbound_1_r0 []) (.seq (.seq (.region n_core_Unbound_1_r1 []) (.block 0 (.loop n_core_Unbound_1_l7))) (.seq (.region n_core_Unbound_1_r8 []) (.seq (.seq (.region n_core_Unbound_1_r9 []) (.block 2 (.loop n_core_Unbound_1_l14))) (.seq (.seq (.region n_core_Unbound_1_r15 []) (.block 4 (.loop n_core_Unbound_1_l25))) (.seq (.region n_core_Unbound_1_r26 []) (.block 6 (.loop n_core_Unbound_1_l31))))))))⟩
theorem c_core_Unbound_1 : compFn Try.prog F_core_Unbound_1 = some n_core_Unbound_1 := by kernel_rfl
abbrev F_core_binds : Nat := 48
@[go_sem] def n_core_binds_r0 : List NI := [
 ⟨0, some 1, none, .box (.tmp 0), []⟩,
 ⟨1, some 2, none, .move (.const .nilslice), []⟩]
@[go_sem] def n_core_binds_r1 : List NI := [
 ⟨0, some 8, none, .fieldAddr 0 (.tmp 1), []⟩,
 ⟨1, some 9, none, .load none (.tmp 8), []⟩]
@[go_sem] def n_core_binds_r2 : List NI := [
 ⟨0, some 11, none, .bin .eql (some .int) (.tmp 9) (.const (.int .i64 7)), []⟩,
 ⟨1, some 10, none, .move (.tmp 11), []⟩]
@[go_sem] def n_core_binds_r3 : List NI := [
 ⟨0, some 12, none, .fieldAddr 1 (.tmp 1), []⟩,
 ⟨1, some 13, none, .load none (.tmp 12), []⟩,
 ⟨2, some 14, none, .buildSlice 1 1 [(.int .i64 0)] [(0, 1, (.tmp 13))], []⟩,
 ⟨3, some 2, none, .move (.tmp 14), []⟩]
@[go_sem] def n_core_binds_r4 : List NI := [
 ⟨0, some 16, none, .bin .eql (some .int) (.tmp 9) (.const (.int .i64 8)), []⟩,
 ⟨1, some 15, none, .move (.tmp 16), []⟩]
@[go_sem] def n_core_binds_r5 : List NI := [
 ⟨0, some 3, none, .move (.const .nilslice), []⟩]
@[go_sem] def n_core_binds_r6 : List NI := [
 ⟨0, some 17, none, .fieldAddr 6 (.tmp 1), []⟩,
 ⟨1, some 18, none, .load none (.tmp 17), []⟩,
 ⟨2, some 19, none, .fieldAddr 6 (.tmp 1), []⟩,
 ⟨3, some 20, none, .load none (.tmp 19), []⟩,
 ⟨4, some 21, none, .len .slice (.tmp 20), []⟩,
 ⟨5, some 22, none, .bin .sub (some .int) (.tmp 21) (.const (.int .i64 1)), []⟩,
 ⟨6, some 23, none, .slice (some 7) (.tmp 18) none (some (.tmp 22)) none, []⟩,
 ⟨7, some 24, none, .len .slice (.tmp 23), []⟩,
 ⟨8, some 25, none, .move (.const (.int .i64 0)), []⟩]
@[go_sem] def n_core_binds_r7 : List NI := [
 ⟨0, some 26, none, .bin .lss (some .int) (.tmp 25) (.tmp 24), []⟩]
@[go_sem] def n_core_binds_r8 : List NI := [
 ⟨0, some 27, none, .indexAddr 7 none (.tmp 23) (.tmp 25), []⟩,
 ⟨1, some 28, none, .load (some 7) (.tmp 27), []⟩,
 ⟨2, some 5, none, .zero [(.int .i64 0), (.int .i64 0), (.int .i64 0), (.str []), .nilslice, .nilslice, .nilslice], []⟩,
 ⟨3, none, none, .store 7 (.tmp 5) (.tmp 28), []⟩]
@[go_sem] def n_core_binds_r9 : List NI := [
 ⟨0, some 29, none, .move (.tmp 3), []⟩,
 ⟨1, some 30, none, .fieldAddr 2 (.tmp 5), []⟩,
 ⟨2, some 31, none, .load none (.tmp 30), []⟩,
 ⟨3, some 32, none, .buildSlice 1 1 [(.int .i64 0)] [(0, 1, (.tmp 31))], []⟩,
 ⟨4, some 33, none, .append false 1 8 (.tmp 29) (.tmp 32), []⟩,
 ⟨5, some 3, none, .move (.tmp 33), []⟩]
@[go_sem] def n_core_binds_r10 : List NI := [
 ⟨0, some 34, none, .bin .add (some .int) (.tmp 25) (.const (.int .i64 1)), []⟩,
 ⟨1, some 25, none, .move (.tmp 34), []⟩]
def n_core_binds_l11 : NC := (.seq (.region n_core_binds_r7 []) (.seq (.cond (.tmp 26) .skip (.exit 1)) (.seq (.block 2 (.seq (.region n_core_binds_r8 []) (.region n_core_binds_r9 []))) (.region n_core_binds_r10 []))))
@[go_sem] def n_core_binds_r12 : List NI := [
 ⟨0, some 35, none, .move (.tmp 3), []⟩,
 ⟨1, some 2, none, .move (.tmp 35), []⟩]
@[go_sem] def n_core_binds_r13 : List NI := [
 ⟨0, some 37, none, .bin .eql (some .int) (.tmp 9) (.const (.int .i64 14)), []⟩,
 ⟨1, some 36, none, .move (.tmp 37), []⟩]
@[go_sem] def n_core_binds_r14 : List NI := [
 ⟨0, some 6, none, .move (.const .nilslice), []⟩]
@[go_sem] def n_core_binds_r15 : List NI := [
 ⟨0, some 38, none, .fieldAddr 5 (.tmp 1), []⟩,
 ⟨1, some 39, none, .load none (.tmp 38), []⟩,
 ⟨2, some 40, none, .len .slice (.tmp 39), []⟩,
 ⟨3, some 41, none, .move (.const (.int .i64 0)), []⟩]
@[go_sem] def n_core_binds_r16 : List NI := [
 ⟨0, some 42, none, .bin .lss (some .int) (.tmp 41) (.tmp 40), []⟩]
@[go_sem] def n_core_binds_r17 : List NI := [
 ⟨0, some 43, none, .move (.tmp 41), []⟩,
 ⟨1, some 7, none, .move (.tmp 43), []⟩]
@[go_sem] def n_core_binds_r18 : List NI := [
 ⟨0, some 44, none, .move (.tmp 6), []⟩,
 ⟨1, some 45, none, .fieldAddr 1 (.tmp 1), []⟩,
 ⟨2, some 46, none, .load none (.tmp 45), []⟩,
 ⟨3, some 47, none, .move (.tmp 7), []⟩,
 ⟨4, some 48, none, .bin .add (some .int) (.tmp 46) (.tmp 47), []⟩,
 ⟨5, some 49, none, .buildSlice 1 1 [(.int .i64 0)] [(0, 1, (.tmp 48))], []⟩,
 ⟨6, some 50, none, .append false 1 8 (.tmp 44) (.tmp 49), []⟩,
 ⟨7, some 6, none, .move (.tmp 50), []⟩]
@[go_sem] def n_core_binds_r19 : List NI := [
 ⟨0, some 51, none, .bin .add (some .int) (.tmp 41) (.const (.int .i64 1)), []⟩,
 ⟨1, some 41, none, .move (.tmp 51), []⟩]
def n_core_binds_l20 : NC := (.seq (.region n_core_binds_r16 []) (.seq (.cond (.tmp 42) .skip (.exit 3)) (.seq (.block 4 (.seq (.region n_core_binds_r17 []) (.region n_core_binds_r18 []))) (.region n_core_binds_r19 []))))
@[go_sem] def n_core_binds_r21 : List NI := [
 ⟨0, some 52, none, .move (.tmp 6), []⟩,
 ⟨1, some 2, none, .move (.tmp 52), []⟩]
@[go_sem] def n_core_binds_r22 : List NI := [
 ⟨0, some 2, none, .move (.const .nilslice), []⟩]
@[go_sem] def n_core_binds : NFn := ⟨1, 53, [.slot 2], (.seq (.region n_core_binds_r0 []) (.seq (.seq (.region n_core_binds_r1 []) (.block 0 (.seq (.region n_core_binds_r2 []) (.cond (.tmp 10) (.seq (.region n_core_binds_r3 []) .ret) (.seq (.region n_core_binds_r4 []) (.cond (.tmp 15) (.seq (.region n_core_binds_r5 []) (.seq (.seq (.region n_core_binds_r6 []) (.block 1 (.loop n_core_binds_l11))) (.seq (.region n_core_binds_r12 []) .ret))) (.seq (.region n_core_binds_r13 []) (.cond (.tmp 36) (.seq (.region n_core_binds_r14 []) (.seq (.seq (.region n_core_binds_r15 []) (.block 3 (.loop n_core_binds_l20))) (.seq (.region n_core_binds_r21 []) .ret))) .skip)))))))) (.seq (.region n_core_binds_r22 []) .ret)))⟩
theorem c_core_binds : compFn Try.prog F_core_binds = some n_core_binds := by kernel_rfl
abbrev F_maps_Keys_map_intbool_int_bool : Nat := 50
@[go_sem] def n_maps_Keys_map_intbool_int_bool_r0 : List NI := [
 ⟨0, some 1, none, .box (.tmp 0), []⟩,
 ⟨1, some 2, none, .move (.const .nilfunc), []⟩]
@[go_sem] def n_maps_Keys_map_intbool_int_bool_r1 : List NI := [
 ⟨0, some 3, none, .makeFunc 64 [] [(.tmp 1)], []⟩,
 ⟨1, some 2, none, .move (.tmp 3), []⟩]
@[go_sem] def n_maps_Keys_map_intbool_int_bool : NFn := ⟨1, 4, [.slot 2], (.seq (.region n_maps_Keys_map_intbool_int_bool_r0 []) (.seq (.region n_maps_Keys_map_intbool_int_bool_r1 []) .ret))⟩
theorem c_maps_Keys_map_intbool_int_bool : compFn Try.prog F_maps_Keys_map_intbool_int_bool = some n_maps_Keys_map_intbool_int_bool := by kernel_rfl
abbrev F_gimletkit_SameAtoms : Nat := 51
@[go_sem] def n_gimletkit_SameAtoms_r0 : List NI := [
 ⟨0, some 4, none, .move (.const (.bool false)), []⟩]
@[go_sem] def n_gimletkit_SameAtoms_r1 : List NI := [
 ⟨0, some 6, none, .move (.tmp 0), []⟩,
 ⟨1, some 7, none, .len .slice (.tmp 6), []⟩,
 ⟨2, some 8, none, .move (.tmp 1), []⟩,
 ⟨3, some 9, none, .len .slice (.tmp 8), []⟩,
 ⟨4, some 10, none, .bin .neq (some .int) (.tmp 7) (.tmp 9), []⟩]
@[go_sem] def n_gimletkit_SameAtoms_r2 : List NI := [
 ⟨0, some 4, none, .move (.const (.bool false)), []⟩]
@[go_sem] def n_gimletkit_SameAtoms_r3 : List NI := [
 ⟨0, some 5, none, .move (.const (.int .i64 0)), []⟩]
@[go_sem] def n_gimletkit_SameAtoms_r4 : List NI := [
 ⟨0, some 11, none, .move (.tmp 5), []⟩,
 ⟨1, some 12, none, .move (.tmp 0), []⟩,
 ⟨2, some 13, none, .len .slice (.tmp 12), []⟩,
 ⟨3, some 14, none, .bin .lss (some .int) (.tmp 11) (.tmp 13), []⟩]
@[go_sem] def n_gimletkit_SameAtoms_r5 : List NI := [
 ⟨0, some 17, none, .move (.tmp 0), []⟩,
 ⟨1, some 18, none, .move (.tmp 5), []⟩,
 ⟨2, some 19, none, .indexAddr 3 none (.tmp 17) (.tmp 18), []⟩,
 ⟨3, some 20, none, .load (some 3) (.tmp 19), []⟩,
 ⟨4, some 21, none, .move (.tmp 1), []⟩,
 ⟨5, some 22, none, .move (.tmp 5), []⟩,
 ⟨6, some 23, none, .indexAddr 3 none (.tmp 21) (.tmp 22), []⟩,
 ⟨7, some 24, none, .load (some 3) (.tmp 23), []⟩,
 ⟨8, some 25, none, .bin .neq (some (.struct [(0, .int), (1, .int), (2, .str)])) (.tmp 20) (.tmp 24), []⟩]
@[go_sem] def n_gimletkit_SameAtoms_r6 : List NI := [
 ⟨0, some 4, none, .move (.const (.bool false)), []⟩]
@[go_sem] def n_gimletkit_SameAtoms_r7 : List NI := [
 ⟨0, some 15, none, .move (.tmp 5), []⟩,
 ⟨1, some 16, none, .bin .add (some .int) (.tmp 15) (.const (.int .i64 1)), []⟩,
 ⟨2, some 5, none, .move (.tmp 16), []⟩]
def n_gimletkit_SameAtoms_l8 : NC := (.seq (.seq (.region n_gimletkit_SameAtoms_r4 []) (.cond (.tmp 14) .skip (.exit 0))) (.seq (.block 1 (.seq (.region n_gimletkit_SameAtoms_r5 []) (.cond (.tmp 25) (.seq (.region n_gimletkit_SameAtoms_r6 []) .ret) .skip))) (.region n_gimletkit_SameAtoms_r7 [])))
@[go_sem] def n_gimletkit_SameAtoms_r9 : List NI := [
 ⟨0, some 4, none, .move (.const (.bool true)), []⟩]
@[go_sem] def n_gimletkit_SameAtoms : NFn := ⟨2, 26, [.slot 4], (.seq (.region n_gimletkit_SameAtoms_r0 []) (.seq (.seq (.region n_gimletkit_SameAtoms_r1 []) (.cond (.tmp 10) (.seq (.region n_gimletkit_SameAtoms_r2 []) .ret) .skip)) (.seq (.seq (.region n_gimletkit_SameAtoms_r3 []) (.block 0 (.loop n_gimletkit_SameAtoms_l8))) (.seq (.region n_gimletkit_SameAtoms_r9 []) .ret))))⟩
theorem c_gimletkit_SameAtoms : compFn Try.prog F_gimletkit_SameAtoms = some n_gimletkit_SameAtoms := by kernel_rfl
abbrev F_gimletkit_SameCores : Nat := 52
@[go_sem] def n_gimletkit_SameCores_r0 : List NI := [
 ⟨0, some 4, none, .move (.const (.bool false)), []⟩]
@[go_sem] def n_gimletkit_SameCores_r1 : List NI := [
 ⟨0, some 6, none, .move (.tmp 0), []⟩,
 ⟨1, some 7, none, .len .slice (.tmp 6), []⟩,
 ⟨2, some 8, none, .move (.tmp 1), []⟩,
 ⟨3, some 9, none, .len .slice (.tmp 8), []⟩,
 ⟨4, some 10, none, .bin .neq (some .int) (.tmp 7) (.tmp 9), []⟩]
@[go_sem] def n_gimletkit_SameCores_r2 : List NI := [
 ⟨0, some 4, none, .move (.const (.bool false)), []⟩]
@[go_sem] def n_gimletkit_SameCores_r3 : List NI := [
 ⟨0, some 5, none, .move (.const (.int .i64 0)), []⟩]
@[go_sem] def n_gimletkit_SameCores_r4 : List NI := [
 ⟨0, some 11, none, .move (.tmp 5), []⟩,
 ⟨1, some 12, none, .move (.tmp 0), []⟩,
 ⟨2, some 13, none, .len .slice (.tmp 12), []⟩,
 ⟨3, some 14, none, .bin .lss (some .int) (.tmp 11) (.tmp 13), []⟩]
@[go_sem] def n_gimletkit_SameCores_r5 : List NI := [
 ⟨0, some 17, none, .move (.tmp 0), []⟩,
 ⟨1, some 18, none, .move (.tmp 5), []⟩,
 ⟨2, some 19, none, .indexAddr 7 none (.tmp 17) (.tmp 18), []⟩,
 ⟨3, some 20, none, .load (some 7) (.tmp 19), []⟩,
 ⟨4, some 21, none, .move (.tmp 1), []⟩,
 ⟨5, some 22, none, .move (.tmp 5), []⟩,
 ⟨6, some 23, none, .indexAddr 7 none (.tmp 21) (.tmp 22), []⟩,
 ⟨7, some 24, none, .load (some 7) (.tmp 23), []⟩,
 ⟨8, some 25, none, .call (.const (.func 32 [] [])) [(.tmp 20), (.tmp 24)], []⟩,
 ⟨9, some 26, none, .un .not (.tmp 25), []⟩]
@[go_sem] def n_gimletkit_SameCores_r6 : List NI := [
 ⟨0, some 4, none, .move (.const (.bool false)), []⟩]
@[go_sem] def n_gimletkit_SameCores_r7 : List NI := [
 ⟨0, some 15, none, .move (.tmp 5), []⟩,
 ⟨1, some 16, none, .bin .add (some .int) (.tmp 15) (.const (.int .i64 1)), []⟩,
 ⟨2, some 5, none, .move (.tmp 16), []⟩]
def n_gimletkit_SameCores_l8 : NC := (.seq (.seq (.region n_gimletkit_SameCores_r4 []) (.cond (.tmp 14) .skip (.exit 0))) (.seq (.block 1 (.seq (.region n_gimletkit_SameCores_r5 []) (.cond (.tmp 26) (.seq (.region n_gimletkit_SameCores_r6 []) .ret) .skip))) (.region n_gimletkit_SameCores_r7 [])))
@[go_sem] def n_gimletkit_SameCores_r9 : List NI := [
 ⟨0, some 4, none, .move (.const (.bool true)), []⟩]
@[go_sem] def n_gimletkit_SameCores : NFn := ⟨2, 27, [.slot 4], (.seq (.region n_gimletkit_SameCores_r0 []) (.seq (.seq (.region n_gimletkit_SameCores_r1 []) (.cond (.tmp 10) (.seq (.region n_gimletkit_SameCores_r2 []) .ret) .skip)) (.seq (.seq (.region n_gimletkit_SameCores_r3 []) (.block 0 (.loop n_gimletkit_SameCores_l8))) (.seq (.region n_gimletkit_SameCores_r9 []) .ret))))⟩
theorem c_gimletkit_SameCores : compFn Try.prog F_gimletkit_SameCores = some n_gimletkit_SameCores := by kernel_rfl
abbrev F_core_Own : Nat := 53
@[go_sem] def n_core_Own_r0 : List NI := [
 ⟨0, some 2, none, .box (.tmp 0), []⟩,
 ⟨1, some 4, none, .move (.const (.bool false)), []⟩]
@[go_sem] def n_core_Own_r1 : List NI := [
 ⟨0, some 8, none, .fieldAddr 0 (.tmp 2), []⟩,
 ⟨1, some 9, none, .load none (.tmp 8), []⟩,
 ⟨2, some 10, none, .call (.const (.func 65 [] [])) [(.tmp 9)], []⟩,
 ⟨3, some 7, none, .move (.tmp 10), []⟩,
 ⟨4, some 11, none, .extract (.tmp 7) 0, []⟩,
 ⟨5, some 12, none, .extract (.tmp 7) 1, []⟩,
 ⟨6, some 5, none, .zero [(.bool false), (.bool false), (.bool false), (.bool false), (.int .i64 0), (.int .i64 0), (.int .i64 0), (.int .i64 0)], []⟩,
 ⟨7, none, none, .store 8 (.tmp 5) (.tmp 11), []⟩,
 ⟨8, some 6, none, .move (.tmp 12), []⟩]
@[go_sem] def n_core_Own_r2 : List NI := [
 ⟨0, some 14, none, .move (.tmp 6), []⟩,
 ⟨1, some 15, none, .un .not (.tmp 14), []⟩,
 ⟨2, some 13, none, .move (.tmp 15), []⟩]
@[go_sem] def n_core_Own_r3 : List NI := [
 ⟨0, some 16, none, .fieldAddr 1 (.tmp 2), []⟩,
 ⟨1, some 17, none, .load none (.tmp 16), []⟩,
 ⟨2, some 18, none, .call (.const (.func 66 [] [])) [(.tmp 17)], []⟩,
 ⟨3, some 19, none, .un .not (.tmp 18), []⟩,
 ⟨4, some 13, none, .move (.tmp 19), []⟩]
@[go_sem] def n_core_Own_r4 : List NI := [
 ⟨0, some 20, none, .fieldAddr 0 (.tmp 5), []⟩,
 ⟨1, some 21, none, .load none (.tmp 20), []⟩,
 ⟨2, some 22, none, .un .not (.tmp 21), []⟩,
 ⟨3, some 23, none, .move (.tmp 22), []⟩,
 ⟨4, some 24, some (23, true), .fieldAddr 1 (.tmp 2), []⟩,
 ⟨5, some 25, some (23, true), .load none (.tmp 24), []⟩,
 ⟨6, some 26, some (23, true), .bin .neq (some .int) (.tmp 25) (.const (.int .i64 0)), []⟩,
 ⟨7, some 27, none, .pick (.tmp 23) (.tmp 26) (.const (.bool false)), []⟩,
 ⟨8, some 13, none, .move (.tmp 27), []⟩]
@[go_sem] def n_core_Own_r5 : List NI := [
 ⟨0, some 28, none, .fieldAddr 1 (.tmp 5), []⟩,
 ⟨1, some 29, none, .load none (.tmp 28), []⟩,
 ⟨2, some 30, none, .un .not (.tmp 29), []⟩,
 ⟨3, some 31, none, .move (.tmp 30), []⟩,
 ⟨4, some 32, some (31, true), .move (.tmp 1), []⟩,
 ⟨5, some 33, some (31, true), .un .not (.tmp 32), []⟩,
 ⟨6, some 34, none, .pick (.tmp 31) (.tmp 33) (.const (.bool false)), []⟩,
 ⟨7, some 35, none, .move (.tmp 34), []⟩,
 ⟨8, some 36, some (35, true), .fieldAddr 2 (.tmp 2), []⟩,
 ⟨9, some 37, some (35, true), .load none (.tmp 36), []⟩,
 ⟨10, some 38, some (35, true), .bin .neq (some .int) (.tmp 37) (.const (.int .i64 0)), []⟩,
 ⟨11, some 39, none, .pick (.tmp 35) (.tmp 38) (.const (.bool false)), []⟩,
 ⟨12, some 13, none, .move (.tmp 39), []⟩]
@[go_sem] def n_core_Own_r6 : List NI := [
 ⟨0, some 40, none, .fieldAddr 2 (.tmp 5), []⟩,
 ⟨1, some 41, none, .load none (.tmp 40), []⟩,
 ⟨2, some 42, none, .un .not (.tmp 41), []⟩,
 ⟨3, some 43, none, .move (.tmp 42), []⟩,
 ⟨4, some 44, some (43, true), .fieldAddr 3 (.tmp 2), []⟩,
 ⟨5, some 45, some (43, true), .load none (.tmp 44), []⟩,
 ⟨6, some 46, some (43, true), .bin .neq (some .str) (.tmp 45) (.const (.str [])), []⟩,
 ⟨7, some 47, none, .pick (.tmp 43) (.tmp 46) (.const (.bool false)), []⟩,
 ⟨8, some 13, none, .move (.tmp 47), []⟩]
@[go_sem] def n_core_Own_r7 : List NI := [
 ⟨0, some 48, none, .fieldAddr 3 (.tmp 5), []⟩,
 ⟨1, some 49, none, .load none (.tmp 48), []⟩,
 ⟨2, some 50, none, .un .not (.tmp 49), []⟩,
 ⟨3, some 51, none, .move (.tmp 50), []⟩,
 ⟨4, some 52, some (51, true), .fieldAddr 5 (.tmp 2), []⟩,
 ⟨5, some 53, some (51, true), .load none (.tmp 52), []⟩,
 ⟨6, some 54, some (51, true), .len .slice (.tmp 53), []⟩,
 ⟨7, some 55, some (51, true), .bin .gtr (some .int) (.tmp 54) (.const (.int .i64 0)), []⟩,
 ⟨8, some 56, none, .pick (.tmp 51) (.tmp 55) (.const (.bool false)), []⟩,
 ⟨9, some 13, none, .move (.tmp 56), []⟩]
@[go_sem] def n_core_Own_r8 : List NI := [
 ⟨0, some 4, none, .move (.const (.bool false)), []⟩]
@[go_sem] def n_core_Own_r9 : List NI := [
 ⟨0, some 58, none, .fieldAddr 4 (.tmp 2), []⟩,
 ⟨1, some 59, none, .load none (.tmp 58), []⟩,
 ⟨2, some 60, none, .len .slice (.tmp 59), []⟩,
 ⟨3, some 61, none, .fieldAddr 4 (.tmp 5), []⟩,
 ⟨4, some 62, none, .load (some 2) (.tmp 61), []⟩,
 ⟨5, some 63, none, .call (.const (.func 67 [] [])) [(.tmp 60), (.tmp 62)], []⟩,
 ⟨6, some 64, none, .un .not (.tmp 63), []⟩,
 ⟨7, some 57, none, .move (.tmp 64), []⟩]
@[go_sem] def n_core_Own_r10 : List NI := [
 ⟨0, some 65, none, .fieldAddr 6 (.tmp 2), []⟩,
 ⟨1, some 66, none, .load none (.tmp 65), []⟩,
 ⟨2, some 67, none, .len .slice (.tmp 66), []⟩,
 ⟨3, some 68, none, .fieldAddr 6 (.tmp 5), []⟩,
 ⟨4, some 69, none, .load (some 2) (.tmp 68), []⟩,
 ⟨5, some 70, none, .call (.const (.func 67 [] [])) [(.tmp 67), (.tmp 69)], []⟩,
 ⟨6, some 71, none, .un .not (.tmp 70), []⟩,
 ⟨7, some 57, none, .move (.tmp 71), []⟩]
@[go_sem] def n_core_Own_r11 : List NI := [
 ⟨0, some 72, none, .fieldAddr 2 (.tmp 2), []⟩,
 ⟨1, some 73, none, .load none (.tmp 72), []⟩,
 ⟨2, some 74, none, .call (.const (.func 66 [] [])) [(.tmp 73)], []⟩,
 ⟨3, some 75, none, .un .not (.tmp 74), []⟩,
 ⟨4, some 57, none, .move (.tmp 75), []⟩]
@[go_sem] def n_core_Own_r12 : List NI := [
 ⟨0, some 4, none, .move (.const (.bool false)), []⟩]
@[go_sem] def n_core_Own_r13 : List NI := [
 ⟨0, some 77, none, .fieldAddr 0 (.tmp 2), []⟩,
 ⟨1, some 78, none, .load none (.tmp 77), []⟩,
 ⟨2, some 79, none, .bin .eql (some .int) (.tmp 78) (.const (.int .i64 5)), []⟩,
 ⟨3, some 80, none, .move (.tmp 79), []⟩,
 ⟨4, some 81, some (80, true), .fieldAddr 2 (.tmp 2), []⟩,
 ⟨5, some 82, some (80, true), .load none (.tmp 81), []⟩,
 ⟨6, some 83, some (80, true), .bin .geq (some .int) (.tmp 82) (.const (.int .i64 1024)), []⟩,
 ⟨7, some 84, none, .pick (.tmp 80) (.tmp 83) (.const (.bool false)), []⟩,
 ⟨8, some 76, none, .move (.tmp 84), []⟩]
@[go_sem] def n_core_Own_r14 : List NI := [
 ⟨0, some 85, none, .fieldAddr 0 (.tmp 2), []⟩,
 ⟨1, some 86, none, .load none (.tmp 85), []⟩,
 ⟨2, some 87, none, .bin .eql (some .int) (.tmp 86) (.const (.int .i64 3)), []⟩,
 ⟨3, some 88, none, .move (.tmp 87), []⟩,
 ⟨5, some 90, some (88, true), .fieldAddr 3 (.tmp 2), []⟩,
 ⟨6, some 91, some (88, true), .load none (.tmp 90), []⟩,
 ⟨8, some 93, some (88, true), .fieldAddr 4 (.tmp 2), []⟩,
 ⟨9, some 94, some (88, true), .load none (.tmp 93), []⟩,
 ⟨10, some 95, some (88, true), .len .slice (.tmp 94), []⟩,
 ⟨4, some 89, some (88, true), .call (.const (.func 68 [] [])) [], [((some 91), (some (88, true)), .load none (.tmp 90)), ((some 94), (some (88, true)), .load none (.tmp 93))]⟩,
 ⟨7, some 92, some (88, true), .lookup true (.int .i64 0) false (.tmp 89) (.tmp 91), []⟩,
 ⟨11, some 96, some (88, true), .bin .neq (some .int) (.tmp 92) (.tmp 95), []⟩,
 ⟨12, some 97, none, .pick (.tmp 88) (.tmp 96) (.const (.bool false)), []⟩,
 ⟨13, some 76, none, .move (.tmp 97), []⟩]
@[go_sem] def n_core_Own_r15 : List NI := [
 ⟨0, some 98, none, .fieldAddr 3 (.tmp 5), []⟩,
 ⟨1, some 99, none, .load none (.tmp 98), []⟩,
 ⟨2, some 100, none, .move (.tmp 99), []⟩,
 ⟨3, some 101, some (100, true), .load (some 7) (.tmp 2), []⟩,
 ⟨4, some 102, some (100, true), .call (.const (.func 69 [] [])) [(.tmp 101)], []⟩,
 ⟨5, some 103, some (100, true), .un .not (.tmp 102), []⟩,
 ⟨6, some 104, none, .pick (.tmp 100) (.tmp 103) (.const (.bool false)), []⟩,
 ⟨7, some 76, none, .move (.tmp 104), []⟩]
@[go_sem] def n_core_Own_r16 : List NI := [
 ⟨0, some 4, none, .move (.const (.bool false)), []⟩]
@[go_sem] def n_core_Own_r17 : List NI := [
 ⟨0, some 105, none, .fieldAddr 4 (.tmp 2), []⟩,
 ⟨1, some 106, none, .load none (.tmp 105), []⟩,
 ⟨2, some 107, none, .call (.const (.func 70 [] [])) [(.tmp 106), (.const (.func 71 [] []))], []⟩,
 ⟨3, some 108, none, .un .not (.tmp 107), []⟩,
 ⟨4, some 4, none, .move (.tmp 108), []⟩]
@[go_sem] def n_core_Own : NFn := ⟨2, 109, [.slot 4], (.seq (.region n_core_Own_r0 []) (.seq (.region n_core_Own_r1 []) (.seq (.block 0 (.seq (.seq (.region n_core_Own_r2 []) (.cond (.tmp 13) .skip (.seq (.region n_core_Own_r3 []) (.cond (.tmp 13) .skip (.seq (.region n_core_Own_r4 []) (.cond (.tmp 13) .skip (.seq (.region n_core_Own_r5 []) (.cond (.tmp 13) .skip (.seq (.region n_core_Own_r6 []) (.cond (.tmp 13) .skip (.region n_core_Own_r7 []))))))))))) (.cond (.tmp 13) (.seq (.region n_core_Own_r8 []) .ret) (.seq (.seq (.region n_core_Own_r9 []) (.cond (.tmp 57) .skip (.seq (.region n_core_Own_r10 []) (.cond (.tmp 57) .skip (.region n_core_Own_r11 []))))) (.cond (.tmp 57) (.seq (.region n_core_Own_r12 []) .ret) (.seq (.seq (.region n_core_Own_r13 []) (.cond (.tmp 76) .skip (.seq (.region n_core_Own_r14 []) (.cond (.tmp 76) .skip (.region n_core_Own_r15 []))))) (.cond (.tmp 76) (.seq (.region n_core_Own_r16 []) .ret) .skip))))))) (.seq (.region n_core_Own_r17 []) .ret))))⟩
theorem c_core_Own : compFn Try.prog F_core_Own = some n_core_Own := by kernel_rfl
abbrev F_core_may_1 : Nat := 54
@[go_sem] def n_core_may_1_r0 : List NI := [
 ⟨0, some 1, none, .box (.tmp 0), []⟩,
 ⟨1, some 2, none, .move (.const (.bool false)), []⟩]
@[go_sem] def n_core_may_1_r1 : List NI := [
 ⟨0, some 3, none, .load (some 7) (.tmp 1), []⟩,
 ⟨1, some 4, none, .call (.const (.func 33 [] [])) [(.tmp 3)], []⟩,
 ⟨2, some 5, none, .un .not (.tmp 4), []⟩,
 ⟨3, some 2, none, .move (.tmp 5), []⟩]
@[go_sem] def n_core_may_1 : NFn := ⟨1, 6, [.slot 2], (.seq (.region n_core_may_1_r0 []) (.seq (.region n_core_may_1_r1 []) .ret))⟩
theorem c_core_may_1 : compFn Try.prog F_core_may_1 = some n_core_may_1 := by kernel_rfl
abbrev F_core_Order_1 : Nat := 55
@[go_sem] def n_core_Order_1_r0 : List NI := [
 ⟨0, some 3, none, .box (.tmp 0), []⟩]
@[go_sem] def n_core_Order_1_r1 : List NI := [
 ⟨0, some 6, none, .load none (.tmp 1), []⟩,
 ⟨1, some 7, none, .load (some 7) (.tmp 3), []⟩,
 ⟨2, some 8, none, .call (.const (.func 48 [] [])) [(.tmp 7)], [((some 6), none, .load none (.tmp 1))]⟩,
 ⟨3, some 9, none, .append false 1 8 (.tmp 6) (.tmp 8), []⟩,
 ⟨4, none, none, .store 1 (.tmp 1) (.tmp 9), []⟩]
@[go_sem] def n_core_Order_1_r2 : List NI := [
 ⟨0, some 10, none, .fieldAddr 6 (.tmp 3), []⟩,
 ⟨1, some 11, none, .load none (.tmp 10), []⟩,
 ⟨2, some 12, none, .len .slice (.tmp 11), []⟩,
 ⟨3, some 13, none, .move (.const (.int .i64 0)), []⟩]
@[go_sem] def n_core_Order_1_r3 : List NI := [
 ⟨0, some 14, none, .bin .lss (some .int) (.tmp 13) (.tmp 12), []⟩]
@[go_sem] def n_core_Order_1_r4 : List NI := [
 ⟨0, some 15, none, .move (.tmp 13), []⟩,
 ⟨1, some 16, none, .indexAddr 7 none (.tmp 11) (.tmp 13), []⟩,
 ⟨2, some 17, none, .load (some 7) (.tmp 16), []⟩,
 ⟨3, some 5, none, .zero [(.int .i64 0), (.int .i64 0), (.int .i64 0), (.str []), .nilslice, .nilslice, .nilslice], []⟩,
 ⟨4, some 4, none, .move (.tmp 15), []⟩,
 ⟨5, none, none, .store 7 (.tmp 5) (.tmp 17), []⟩]
@[go_sem] def n_core_Order_1_r5 : List NI := [
 ⟨0, some 18, none, .move (.tmp 4), []⟩,
 ⟨1, some 19, none, .bin .eql (some .int) (.tmp 18) (.const (.int .i64 1)), []⟩,
 ⟨2, some 20, none, .move (.tmp 19), []⟩,
 ⟨3, some 21, some (20, true), .fieldAddr 0 (.tmp 3), []⟩,
 ⟨4, some 22, some (20, true), .load none (.tmp 21), []⟩,
 ⟨5, some 23, some (20, true), .bin .eql (some .int) (.tmp 22) (.const (.int .i64 2)), []⟩,
 ⟨6, some 24, some (20, true), .move (.tmp 23), []⟩,
 ⟨7, some 25, some (24, false), .fieldAddr 0 (.tmp 3), []⟩,
 ⟨8, some 26, some (24, false), .load none (.tmp 25), []⟩,
 ⟨9, some 27, some (24, false), .bin .eql (some .int) (.tmp 26) (.const (.int .i64 11)), []⟩,
 ⟨10, some 28, some (20, true), .pick (.tmp 24) (.const (.bool true)) (.tmp 27), []⟩,
 ⟨11, some 29, none, .pick (.tmp 20) (.tmp 28) (.const (.bool false)), []⟩]
@[go_sem] def n_core_Order_1_r6 : List NI := [
 ⟨0, some 30, none, .load none (.tmp 1), []⟩,
 ⟨1, some 31, none, .fieldAddr 1 (.tmp 3), []⟩,
 ⟨2, some 32, none, .load none (.tmp 31), []⟩,
 ⟨3, some 33, none, .buildSlice 1 1 [(.int .i64 0)] [(0, 1, (.tmp 32))], []⟩,
 ⟨4, some 34, none, .append false 1 8 (.tmp 30) (.tmp 33), []⟩,
 ⟨5, none, none, .store 1 (.tmp 1) (.tmp 34), []⟩]
@[go_sem] def n_core_Order_1_r7 : List NI := [
 ⟨0, some 35, none, .load none (.tmp 2), []⟩,
 ⟨1, some 36, none, .load (some 7) (.tmp 5), []⟩,
 ⟨2, some 37, none, .call (.tmp 35) [(.tmp 36)], []⟩]
@[go_sem] def n_core_Order_1_r8 : List NI := [
 ⟨0, some 38, none, .bin .add (some .int) (.tmp 13) (.const (.int .i64 1)), []⟩,
 ⟨1, some 13, none, .move (.tmp 38), []⟩]
def n_core_Order_1_l9 : NC := (.seq (.region n_core_Order_1_r3 []) (.seq (.cond (.tmp 14) .skip (.exit 0)) (.seq (.block 1 (.seq (.region n_core_Order_1_r4 []) (.seq (.seq (.region n_core_Order_1_r5 []) (.cond (.tmp 29) (.region n_core_Order_1_r6 []) .skip)) (.region n_core_Order_1_r7 [])))) (.region n_core_Order_1_r8 []))))
@[go_sem] def n_core_Order_1 : NFn := ⟨3, 39, [], (.seq (.region n_core_Order_1_r0 []) (.seq (.region n_core_Order_1_r1 []) (.seq (.region n_core_Order_1_r2 []) (.block 0 (.loop n_core_Order_1_l9)))))⟩
theorem c_core_Order_1 : compFn Try.prog F_core_Order_1 = some n_core_Order_1 := by kernel_rfl
abbrev F_flatten_atoms : Nat := 58
@[go_sem] def n_flatten_atoms_r0 : List NI := [
 ⟨0, some 2, none, .move (.const (.bool false)), []⟩]
@[go_sem] def n_flatten_atoms_r1 : List NI := [
 ⟨0, some 3, none, .move (.tmp 0), []⟩,
 ⟨1, some 4, none, .call (.const (.func 70 [] [])) [(.tmp 3), (.const (.func 75 [] []))], []⟩,
 ⟨2, some 5, none, .un .not (.tmp 4), []⟩,
 ⟨3, some 2, none, .move (.tmp 5), []⟩]
@[go_sem] def n_flatten_atoms : NFn := ⟨1, 6, [.slot 2], (.seq (.region n_flatten_atoms_r0 []) (.seq (.region n_flatten_atoms_r1 []) .ret))⟩
theorem c_flatten_atoms : compFn Try.prog F_flatten_atoms = some n_flatten_atoms := by kernel_rfl
abbrev F_slices_IndexFunc__api_Core_api_Core : Nat := 59
@[go_sem] def n_slices_IndexFunc__api_Core_api_Core_r0 : List NI := [
 ⟨0, some 4, none, .move (.const (.int .i64 0)), []⟩]
@[go_sem] def n_slices_IndexFunc__api_Core_api_Core_r1 : List NI := [
 ⟨0, some 6, none, .move (.tmp 0), []⟩,
 ⟨1, some 7, none, .len .slice (.tmp 6), []⟩,
 ⟨2, some 8, none, .move (.const (.int .i64 0)), []⟩]
@[go_sem] def n_slices_IndexFunc__api_Core_api_Core_r2 : List NI := [
 ⟨0, some 9, none, .bin .lss (some .int) (.tmp 8) (.tmp 7), []⟩]
@[go_sem] def n_slices_IndexFunc__api_Core_api_Core_r3 : List NI := [
 ⟨0, some 10, none, .move (.tmp 8), []⟩,
 ⟨1, some 5, none, .move (.tmp 10), []⟩]
@[go_sem] def n_slices_IndexFunc__api_Core_api_Core_r4 : List NI := [
 ⟨0, some 11, none, .move (.tmp 1), []⟩,
 ⟨1, some 12, none, .move (.tmp 0), []⟩,
 ⟨2, some 13, none, .move (.tmp 5), []⟩,
 ⟨3, some 14, none, .indexAddr 7 none (.tmp 12) (.tmp 13), []⟩,
 ⟨4, some 15, none, .load (some 7) (.tmp 14), []⟩,
 ⟨5, some 16, none, .call (.tmp 11) [(.tmp 15)], []⟩]
@[go_sem] def n_slices_IndexFunc__api_Core_api_Core_r5 : List NI := [
 ⟨0, some 17, none, .move (.tmp 5), []⟩,
 ⟨1, some 4, none, .move (.tmp 17), []⟩]
@[go_sem] def n_slices_IndexFunc__api_Core_api_Core_r6 : List NI := [
 ⟨0, some 18, none, .bin .add (some .int) (.tmp 8) (.const (.int .i64 1)), []⟩,
 ⟨1, some 8, none, .move (.tmp 18), []⟩]
def n_slices_IndexFunc__api_Core_api_Core_l7 : NC := (.seq (.region n_slices_IndexFunc__api_Core_api_Core_r2 []) (.seq (.cond (.tmp 9) .skip (.exit 0)) (.seq (.block 1 (.seq (.region n_slices_IndexFunc__api_Core_api_Core_r3 []) (.seq (.region n_slices_IndexFunc__api_Core_api_Core_r4 []) (.cond (.tmp 16) (.seq (.region n_slices_IndexFunc__api_Core_api_Core_r5 []) .ret) .skip)))) (.region n_slices_IndexFunc__api_Core_api_Core_r6 []))))
@[go_sem] def n_slices_IndexFunc__api_Core_api_Core_r8 : List NI := [
 ⟨0, some 4, none, .move (.const (.int .i64 (-1))), []⟩]
@[go_sem] def n_slices_IndexFunc__api_Core_api_Core : NFn := ⟨2, 19, [.slot 4], (.seq (.region n_slices_IndexFunc__api_Core_api_Core_r0 []) (.seq (.seq (.region n_slices_IndexFunc__api_Core_api_Core_r1 []) (.block 0 (.loop n_slices_IndexFunc__api_Core_api_Core_l7))) (.seq (.region n_slices_IndexFunc__api_Core_api_Core_r8 []) .ret)))⟩
theorem c_slices_IndexFunc__api_Core_api_Core : compFn Try.prog F_slices_IndexFunc__api_Core_api_Core = some n_slices_IndexFunc__api_Core_api_Core := by kernel_rfl
abbrev F_core_rules : Nat := 65
@[go_sem] def n_core_rules_r0 : List NI := [
 ⟨0, some 2, none, .zero [(.bool false), (.bool false), (.bool false), (.bool false), (.int .i64 0), (.int .i64 0), (.int .i64 0), (.int .i64 0)], []⟩,
 ⟨1, some 3, none, .move (.const (.bool false)), []⟩]
@[go_sem] def n_core_rules_r1 : List NI := [
 ⟨0, some 5, none, .build [(.int .i64 0), (.int .i64 0)] [(0, 1, (.const (.int .i64 1))), (1, 1, (.const (.int .i64 1)))], []⟩,
 ⟨1, some 6, none, .build [(.bool false), (.bool false), (.bool false), (.bool false), (.int .i64 0), (.int .i64 0), (.int .i64 0), (.int .i64 0)] [(4, 2, (.tmp 5))], []⟩,
 ⟨2, some 7, none, .build [(.int .i64 0), (.int .i64 0)] [(0, 1, (.const (.int .i64 1))), (1, 1, (.const (.int .i64 1)))], []⟩,
 ⟨3, some 8, none, .build [(.bool false), (.bool false), (.bool false), (.bool false), (.int .i64 0), (.int .i64 0), (.int .i64 0), (.int .i64 0)] [(4, 2, (.tmp 7))], []⟩,
 ⟨4, some 9, none, .build [(.int .i64 0), (.int .i64 0)] [(0, 1, (.const (.int .i64 2))), (1, 1, (.const (.int .i64 2)))], []⟩,
 ⟨5, some 10, none, .build [(.bool false), (.bool false), (.bool false), (.bool false), (.int .i64 0), (.int .i64 0), (.int .i64 0), (.int .i64 0)] [(0, 1, (.const (.bool true))), (6, 2, (.tmp 9))], []⟩,
 ⟨6, some 11, none, .build [(.int .i64 0), (.int .i64 0)] [(0, 1, (.const (.int .i64 2))), (1, 1, (.const (.int .i64 2)))], []⟩,
 ⟨7, some 12, none, .build [(.bool false), (.bool false), (.bool false), (.bool false), (.int .i64 0), (.int .i64 0), (.int .i64 0), (.int .i64 0)] [(0, 1, (.const (.bool true))), (6, 2, (.tmp 11))], []⟩,
 ⟨8, some 13, none, .build [(.int .i64 0), (.int .i64 0)] [(0, 1, (.const (.int .i64 1))), (1, 1, (.const (.int .i64 3)))], []⟩,
 ⟨9, some 14, none, .build [(.bool false), (.bool false), (.bool false), (.bool false), (.int .i64 0), (.int .i64 0), (.int .i64 0), (.int .i64 0)] [(2, 1, (.const (.bool true))), (4, 2, (.tmp 13))], []⟩,
 ⟨10, some 15, none, .build [(.int .i64 0), (.int .i64 0)] [(0, 1, (.const (.int .i64 0))), (1, 1, (.const (.int .i64 1024)))], []⟩,
 ⟨11, some 16, none, .build [(.bool false), (.bool false), (.bool false), (.bool false), (.int .i64 0), (.int .i64 0), (.int .i64 0), (.int .i64 0)] [(1, 1, (.const (.bool true))), (4, 2, (.tmp 15))], []⟩,
 ⟨12, some 17, none, .build [(.int .i64 0), (.int .i64 0)] [(0, 1, (.const (.int .i64 1))), (1, 1, (.const (.int .i64 1)))], []⟩,
 ⟨13, some 18, none, .build [(.bool false), (.bool false), (.bool false), (.bool false), (.int .i64 0), (.int .i64 0), (.int .i64 0), (.int .i64 0)] [(1, 1, (.const (.bool true))), (4, 2, (.tmp 17))], []⟩,
 ⟨14, some 19, none, .build [(.int .i64 0), (.int .i64 0)] [(0, 1, (.const (.int .i64 2))), (1, 1, (.const (.int .i64 2)))], []⟩,
 ⟨15, some 20, none, .build [(.bool false), (.bool false), (.bool false), (.bool false), (.int .i64 0), (.int .i64 0), (.int .i64 0), (.int .i64 0)] [(4, 2, (.tmp 19))], []⟩,
 ⟨16, some 21, none, .build [(.int .i64 0), (.int .i64 0)] [(0, 1, (.const (.int .i64 1))), (1, 1, (.const (.int .i64 1)))], []⟩,
 ⟨17, some 22, none, .build [(.bool false), (.bool false), (.bool false), (.bool false), (.int .i64 0), (.int .i64 0), (.int .i64 0), (.int .i64 0)] [(0, 1, (.const (.bool true))), (6, 2, (.tmp 21))], []⟩,
 ⟨18, some 23, none, .build [(.int .i64 0), (.int .i64 0)] [(0, 1, (.const (.int .i64 1))), (1, 1, (.const (.int .i64 1)))], []⟩,
 ⟨19, some 24, none, .build [(.int .i64 0), (.int .i64 0)] [(0, 1, (.const (.int .i64 1))), (1, 1, (.const (.int .i64 1073741824)))], []⟩,
 ⟨20, some 25, none, .build [(.bool false), (.bool false), (.bool false), (.bool false), (.int .i64 0), (.int .i64 0), (.int .i64 0), (.int .i64 0)] [(3, 1, (.const (.bool true))), (4, 2, (.tmp 23)), (6, 2, (.tmp 24))], []⟩,
 ⟨21, some 26, none, .build [(.int .i64 0), (.int .i64 0)] [(0, 1, (.const (.int .i64 1))), (1, 1, (.const (.int .i64 1)))], []⟩,
 ⟨22, some 27, none, .build [(.int .i64 0), (.int .i64 0)] [(0, 1, (.const (.int .i64 1))), (1, 1, (.const (.int .i64 1073741824)))], []⟩,
 ⟨23, some 28, none, .build [(.bool false), (.bool false), (.bool false), (.bool false), (.int .i64 0), (.int .i64 0), (.int .i64 0), (.int .i64 0)] [(3, 1, (.const (.bool true))), (4, 2, (.tmp 26)), (6, 2, (.tmp 27))], []⟩,
 ⟨24, some 29, none, .build [(.bool false), (.bool false), (.bool false), (.bool false), (.int .i64 0), (.int .i64 0), (.int .i64 0), (.int .i64 0), (.bool false), (.bool false), (.bool false), (.bool false), (.int .i64 0), (.int .i64 0), (.int .i64 0), (.int .i64 0), (.bool false), (.bool false), (.bool false), (.bool false), (.int .i64 0), (.int .i64 0), (.int .i64 0), (.int .i64 0), (.bool false), (.bool false), (.bool false), (.bool false), (.int .i64 0), (.int .i64 0), (.int .i64 0), (.int .i64 0), (.bool false), (.bool false), (.bool false), (.bool false), (.int .i64 0), (.int .i64 0), (.int .i64 0), (.int .i64 0), (.bool false), (.bool false), (.bool false), (.bool false), (.int .i64 0), (.int .i64 0), (.int .i64 0), (.int .i64 0), (.bool false), (.bool false), (.bool false), (.bool false), (.int .i64 0), (.int .i64 0), (.int .i64 0), (.int .i64 0), (.bool false), (.bool false), (.bool false), (.bool false), (.int .i64 0), (.int .i64 0), (.int .i64 0), (.int .i64 0), (.bool false), (.bool false), (.bool false), (.bool false), (.int .i64 0), (.int .i64 0), (.int .i64 0), (.int .i64 0), (.bool false), (.bool false), (.bool false), (.bool false), (.int .i64 0), (.int .i64 0), (.int .i64 0), (.int .i64 0), (.bool false), (.bool false), (.bool false), (.bool false), (.int .i64 0), (.int .i64 0), (.int .i64 0), (.int .i64 0), (.bool false), (.bool false), (.bool false), (.bool false), (.int .i64 0), (.int .i64 0), (.int .i64 0), (.int .i64 0), (.bool false), (.bool false), (.bool false), (.bool false), (.int .i64 0), (.int .i64 0), (.int .i64 0), (.int .i64 0)] [(8, 8, (.tmp 6)), (96, 8, (.tmp 8)), (16, 8, (.tmp 10)), (88, 8, (.tmp 12)), (24, 8, (.tmp 14)), (32, 8, (.tmp 16)), (40, 8, (.tmp 18)), (48, 8, (.tmp 20)), (56, 8, (.tmp 22)), (72, 8, (.tmp 25)), (80, 8, (.tmp 28))], []⟩,
 ⟨25, some 4, none, .zero [(.bool false), (.bool false), (.bool false), (.bool false), (.int .i64 0), (.int .i64 0), (.int .i64 0), (.int .i64 0), (.bool false), (.bool false), (.bool false), (.bool false), (.int .i64 0), (.int .i64 0), (.int .i64 0), (.int .i64 0), (.bool false), (.bool false), (.bool false), (.bool false), (.int .i64 0), (.int .i64 0), (.int .i64 0), (.int .i64 0), (.bool false), (.bool false), (.bool false), (.bool false), (.int .i64 0), (.int .i64 0), (.int .i64 0), (.int .i64 0), (.bool false), (.bool false), (.bool false), (.bool false), (.int .i64 0), (.int .i64 0), (.int .i64 0), (.int .i64 0), (.bool false), (.bool false), (.bool false), (.bool false), (.int .i64 0), (.int .i64 0), (.int .i64 0), (.int .i64 0), (.bool false), (.bool false), (.bool false), (.bool false), (.int .i64 0), (.int .i64 0), (.int .i64 0), (.int .i64 0), (.bool false), (.bool false), (.bool false), (.bool false), (.int .i64 0), (.int .i64 0), (.int .i64 0), (.int .i64 0), (.bool false), (.bool false), (.bool false), (.bool false), (.int .i64 0), (.int .i64 0), (.int .i64 0), (.int .i64 0), (.bool false), (.bool false), (.bool false), (.bool false), (.int .i64 0), (.int .i64 0), (.int .i64 0), (.int .i64 0), (.bool false), (.bool false), (.bool false), (.bool false), (.int .i64 0), (.int .i64 0), (.int .i64 0), (.int .i64 0), (.bool false), (.bool false), (.bool false), (.bool false), (.int .i64 0), (.int .i64 0), (.int .i64 0), (.int .i64 0), (.bool false), (.bool false), (.bool false), (.bool false), (.int .i64 0), (.int .i64 0), (.int .i64 0), (.int .i64 0)], []⟩,
 ⟨26, none, none, .store 104 (.tmp 4) (.tmp 29), []⟩]
@[go_sem] def n_core_rules_r2 : List NI := [
 ⟨0, some 30, none, .move (.tmp 0), []⟩,
 ⟨1, some 31, none, .bin .leq (some .int) (.tmp 30) (.const (.int .i64 0)), []⟩,
 ⟨2, some 32, none, .move (.tmp 31), []⟩,
 ⟨3, some 33, some (32, false), .move (.tmp 0), []⟩,
 ⟨4, some 34, some (32, false), .bin .geq (some .int) (.tmp 33) (.const (.int .i64 13)), []⟩,
 ⟨5, some 35, none, .pick (.tmp 32) (.const (.bool true)) (.tmp 34), []⟩,
 ⟨6, some 36, none, .move (.tmp 35), []⟩,
 ⟨7, some 37, some (36, false), .move (.tmp 0), []⟩,
 ⟨8, some 38, some (36, false), .bin .eql (some .int) (.tmp 37) (.const (.int .i64 8)), []⟩,
 ⟨9, some 39, none, .pick (.tmp 36) (.const (.bool true)) (.tmp 38), []⟩]
@[go_sem] def n_core_rules_r3 : List NI := [
 ⟨0, some 40, none, .build [(.bool false), (.bool false), (.bool false), (.bool false), (.int .i64 0), (.int .i64 0), (.int .i64 0), (.int .i64 0)] [], []⟩,
 ⟨1, none, none, .store 8 (.tmp 2) (.tmp 40), []⟩,
 ⟨2, some 3, none, .move (.const (.bool false)), []⟩]
@[go_sem] def n_core_rules_r4 : List NI := [
 ⟨0, some 41, none, .move (.tmp 0), []⟩,
 ⟨1, some 42, none, .indexAddr 8 (some 13) (.tmp 4) (.tmp 41), []⟩,
 ⟨2, some 43, none, .load (some 8) (.tmp 42), []⟩,
 ⟨3, none, none, .store 8 (.tmp 2) (.tmp 43), []⟩,
 ⟨4, some 3, none, .move (.const (.bool true)), []⟩]
@[go_sem] def n_core_rules : NFn := ⟨1, 44, [.cell 2 (some 8), .slot 3], (.seq (.region n_core_rules_r0 []) (.seq (.region n_core_rules_r1 []) (.seq (.seq (.region n_core_rules_r2 []) (.cond (.tmp 39) (.seq (.region n_core_rules_r3 []) .ret) .skip)) (.seq (.region n_core_rules_r4 []) .ret))))⟩
theorem c_core_rules : compFn Try.prog F_core_rules = some n_core_rules := by kernel_rfl
abbrev F_core_variable : Nat := 66
@[go_sem] def n_core_variable_r0 : List NI := [
 ⟨0, some 2, none, .move (.const (.bool false)), []⟩]
@[go_sem] def n_core_variable_r1 : List NI := [
 ⟨0, some 3, none, .move (.tmp 0), []⟩,
 ⟨1, some 4, none, .bin .geq (some .int) (.tmp 3) (.const (.int .i64 0)), []⟩,
 ⟨2, some 5, none, .move (.tmp 4), []⟩,
 ⟨3, some 6, some (5, true), .move (.tmp 0), []⟩,
 ⟨4, some 7, some (5, true), .bin .leq (some .int) (.tmp 6) (.const (.int .i64 1048575)), []⟩,
 ⟨5, some 8, none, .pick (.tmp 5) (.tmp 7) (.const (.bool false)), []⟩,
 ⟨6, some 2, none, .move (.tmp 8), []⟩]
@[go_sem] def n_core_variable : NFn := ⟨1, 9, [.slot 2], (.seq (.region n_core_variable_r0 []) (.seq (.region n_core_variable_r1 []) .ret))⟩
theorem c_core_variable : compFn Try.prog F_core_variable = some n_core_variable := by kernel_rfl
abbrev F_core_within : Nat := 67
@[go_sem] def n_core_within_r0 : List NI := [
 ⟨0, some 3, none, .box (.tmp 1), []⟩,
 ⟨1, some 4, none, .move (.const (.bool false)), []⟩]
@[go_sem] def n_core_within_r1 : List NI := [
 ⟨0, some 5, none, .move (.tmp 0), []⟩,
 ⟨1, some 6, none, .indexAddr 1 (some 2) (.tmp 3) (.const (.int .i64 0)), []⟩,
 ⟨2, some 7, none, .load none (.tmp 6), []⟩,
 ⟨3, some 8, none, .bin .geq (some .int) (.tmp 5) (.tmp 7), []⟩,
 ⟨4, some 9, none, .move (.tmp 8), []⟩,
 ⟨5, some 10, some (9, true), .move (.tmp 0), []⟩,
 ⟨6, some 11, some (9, true), .indexAddr 1 (some 2) (.tmp 3) (.const (.int .i64 1)), []⟩,
 ⟨7, some 12, some (9, true), .load none (.tmp 11), []⟩,
 ⟨8, some 13, some (9, true), .bin .leq (some .int) (.tmp 10) (.tmp 12), []⟩,
 ⟨9, some 14, none, .pick (.tmp 9) (.tmp 13) (.const (.bool false)), []⟩,
 ⟨10, some 4, none, .move (.tmp 14), []⟩]
@[go_sem] def n_core_within : NFn := ⟨2, 15, [.slot 4], (.seq (.region n_core_within_r0 []) (.seq (.region n_core_within_r1 []) .ret))⟩
theorem c_core_within : compFn Try.prog F_core_within = some n_core_within := by kernel_rfl
abbrev F_core_prims : Nat := 68
@[go_sem] def n_core_prims_r0 : List NI := [
 ⟨0, some 0, none, .move (.const .nilmap), []⟩]
@[go_sem] def n_core_prims_r1 : List NI := [
 ⟨0, some 1, none, .makeMap, []⟩,
 ⟨1, none, none, .mapUpdate true (.tmp 1) (.const (.str [97, 100, 100])) (.const (.int .i64 2)), []⟩,
 ⟨2, none, none, .mapUpdate true (.tmp 1) (.const (.str [115, 117, 98])) (.const (.int .i64 2)), []⟩,
 ⟨3, none, none, .mapUpdate true (.tmp 1) (.const (.str [109, 117, 108])) (.const (.int .i64 2)), []⟩,
 ⟨4, none, none, .mapUpdate true (.tmp 1) (.const (.str [100, 105, 118])) (.const (.int .i64 2)), []⟩,
 ⟨5, none, none, .mapUpdate true (.tmp 1) (.const (.str [109, 111, 100])) (.const (.int .i64 2)), []⟩,
 ⟨6, none, none, .mapUpdate true (.tmp 1) (.const (.str [101, 113])) (.const (.int .i64 2)), []⟩,
 ⟨7, none, none, .mapUpdate true (.tmp 1) (.const (.str [108, 116])) (.const (.int .i64 2)), []⟩,
 ⟨8, none, none, .mapUpdate true (.tmp 1) (.const (.str [108, 101])) (.const (.int .i64 2)), []⟩,
 ⟨9, none, none, .mapUpdate true (.tmp 1) (.const (.str [98, 121, 116, 101])) (.const (.int .i64 2)), []⟩,
 ⟨10, none, none, .mapUpdate true (.tmp 1) (.const (.str [106, 111, 105, 110])) (.const (.int .i64 2)), []⟩,
 ⟨11, none, none, .mapUpdate true (.tmp 1) (.const (.str [115, 101, 116])) (.const (.int .i64 2)), []⟩,
 ⟨12, none, none, .mapUpdate true (.tmp 1) (.const (.str [110, 101, 103])) (.const (.int .i64 1)), []⟩,
 ⟨13, none, none, .mapUpdate true (.tmp 1) (.const (.str [103, 101, 116, 99])) (.const (.int .i64 1)), []⟩,
 ⟨14, none, none, .mapUpdate true (.tmp 1) (.const (.str [112, 117, 116, 99])) (.const (.int .i64 1)), []⟩,
 ⟨15, none, none, .mapUpdate true (.tmp 1) (.const (.str [112, 117, 116, 115])) (.const (.int .i64 1)), []⟩,
 ⟨16, none, none, .mapUpdate true (.tmp 1) (.const (.str [115, 105, 122, 101])) (.const (.int .i64 1)), []⟩,
 ⟨17, none, none, .mapUpdate true (.tmp 1) (.const (.str [99, 104, 114])) (.const (.int .i64 1)), []⟩,
 ⟨18, none, none, .mapUpdate true (.tmp 1) (.const (.str [99, 117, 116])) (.const (.int .i64 3)), []⟩,
 ⟨19, some 2, none, .move (.tmp 1), []⟩,
 ⟨20, some 0, none, .move (.tmp 2), []⟩]
@[go_sem] def n_core_prims : NFn := ⟨0, 3, [.slot 0], (.seq (.region n_core_prims_r0 []) (.seq (.region n_core_prims_r1 []) .ret))⟩
theorem c_core_prims : compFn Try.prog F_core_prims = some n_core_prims := by kernel_rfl
abbrev F_core_tagged : Nat := 69
@[go_sem] def n_core_tagged_r0 : List NI := [
 ⟨0, some 1, none, .box (.tmp 0), []⟩,
 ⟨1, some 2, none, .move (.const (.bool false)), []⟩]
@[go_sem] def n_core_tagged_r1 : List NI := [
 ⟨0, some 7, none, .makeMap, []⟩,
 ⟨1, some 3, none, .move (.tmp 7), []⟩]
@[go_sem] def n_core_tagged_r2 : List NI := [
 ⟨0, some 8, none, .fieldAddr 5 (.tmp 1), []⟩,
 ⟨1, some 9, none, .load none (.tmp 8), []⟩,
 ⟨2, some 10, none, .len .slice (.tmp 9), []⟩,
 ⟨3, some 11, none, .move (.const (.int .i64 0)), []⟩]
@[go_sem] def n_core_tagged_r3 : List NI := [
 ⟨0, some 12, none, .bin .lss (some .int) (.tmp 11) (.tmp 10), []⟩]
@[go_sem] def n_core_tagged_r4 : List NI := [
 ⟨0, some 13, none, .indexAddr 1 none (.tmp 9) (.tmp 11), []⟩,
 ⟨1, some 14, none, .load none (.tmp 13), []⟩,
 ⟨2, some 5, none, .move (.tmp 14), []⟩]
@[go_sem] def n_core_tagged_r5 : List NI := [
 ⟨0, some 15, none, .move (.tmp 5), []⟩,
 ⟨1, some 16, none, .call (.const (.func 66 [] [])) [(.tmp 15)], []⟩,
 ⟨2, some 6, none, .move (.tmp 16), []⟩]
@[go_sem] def n_core_tagged_r6 : List NI := [
 ⟨0, some 17, none, .fieldAddr 0 (.tmp 1), []⟩,
 ⟨1, some 18, none, .load none (.tmp 17), []⟩,
 ⟨2, some 19, none, .bin .eql (some .int) (.tmp 18) (.const (.int .i64 10)), []⟩]
@[go_sem] def n_core_tagged_r7 : List NI := [
 ⟨0, some 20, none, .move (.tmp 5), []⟩,
 ⟨1, some 21, none, .bin .geq (some .int) (.tmp 20) (.const (.int .i64 (-1073741824))), []⟩,
 ⟨2, some 22, none, .move (.tmp 21), []⟩,
 ⟨3, some 23, some (22, true), .move (.tmp 5), []⟩,
 ⟨4, some 24, some (22, true), .bin .leq (some .int) (.tmp 23) (.const (.int .i64 1073741823)), []⟩,
 ⟨5, some 25, none, .pick (.tmp 22) (.tmp 24) (.const (.bool false)), []⟩,
 ⟨6, some 6, none, .move (.tmp 25), []⟩]
@[go_sem] def n_core_tagged_r8 : List NI := [
 ⟨0, some 26, none, .move (.tmp 6), []⟩,
 ⟨1, some 27, none, .un .not (.tmp 26), []⟩,
 ⟨2, some 28, none, .move (.tmp 27), []⟩,
 ⟨3, some 29, some (28, false), .move (.tmp 3), []⟩,
 ⟨4, some 30, some (28, false), .move (.tmp 5), []⟩,
 ⟨5, some 31, some (28, false), .lookup false (.bool false) false (.tmp 29) (.tmp 30), []⟩,
 ⟨6, some 32, none, .pick (.tmp 28) (.const (.bool true)) (.tmp 31), []⟩]
@[go_sem] def n_core_tagged_r9 : List NI := [
 ⟨0, some 2, none, .move (.const (.bool false)), []⟩]
@[go_sem] def n_core_tagged_r10 : List NI := [
 ⟨0, some 33, none, .move (.tmp 3), []⟩,
 ⟨1, some 34, none, .move (.tmp 5), []⟩,
 ⟨2, none, none, .mapUpdate false (.tmp 33) (.tmp 34) (.const (.bool true)), []⟩]
@[go_sem] def n_core_tagged_r11 : List NI := [
 ⟨0, some 35, none, .bin .add (some .int) (.tmp 11) (.const (.int .i64 1)), []⟩,
 ⟨1, some 11, none, .move (.tmp 35), []⟩]
def n_core_tagged_l12 : NC := (.seq (.region n_core_tagged_r3 []) (.seq (.cond (.tmp 12) .skip (.exit 0)) (.seq (.block 1 (.seq (.region n_core_tagged_r4 []) (.seq (.region n_core_tagged_r5 []) (.seq (.seq (.region n_core_tagged_r6 []) (.cond (.tmp 19) (.region n_core_tagged_r7 []) .skip)) (.seq (.seq (.region n_core_tagged_r8 []) (.cond (.tmp 32) (.seq (.region n_core_tagged_r9 []) .ret) .skip)) (.region n_core_tagged_r10 [])))))) (.region n_core_tagged_r11 []))))
@[go_sem] def n_core_tagged_r13 : List NI := [
 ⟨0, some 36, none, .fieldAddr 6 (.tmp 1), []⟩,
 ⟨1, some 37, none, .load none (.tmp 36), []⟩,
 ⟨2, some 38, none, .len .slice (.tmp 37), []⟩,
 ⟨3, some 39, none, .fieldAddr 5 (.tmp 1), []⟩,
 ⟨4, some 40, none, .load none (.tmp 39), []⟩,
 ⟨5, some 41, none, .len .slice (.tmp 40), []⟩,
 ⟨6, some 42, none, .bin .eql (some .int) (.tmp 38) (.tmp 41), []⟩,
 ⟨7, some 43, none, .move (.tmp 42), []⟩,
 ⟨8, some 44, some (43, false), .fieldAddr 6 (.tmp 1), []⟩,
 ⟨9, some 45, some (43, false), .load none (.tmp 44), []⟩,
 ⟨10, some 46, some (43, false), .len .slice (.tmp 45), []⟩,
 ⟨11, some 47, some (43, false), .fieldAddr 5 (.tmp 1), []⟩,
 ⟨12, some 48, some (43, false), .load none (.tmp 47), []⟩,
 ⟨13, some 49, some (43, false), .len .slice (.tmp 48), []⟩,
 ⟨14, some 50, some (43, false), .bin .add (some .int) (.tmp 49) (.const (.int .i64 1)), []⟩,
 ⟨15, some 51, some (43, false), .bin .eql (some .int) (.tmp 46) (.tmp 50), []⟩,
 ⟨16, some 52, none, .pick (.tmp 43) (.const (.bool true)) (.tmp 51), []⟩,
 ⟨17, some 2, none, .move (.tmp 52), []⟩]
@[go_sem] def n_core_tagged : NFn := ⟨1, 53, [.slot 2], (.seq (.region n_core_tagged_r0 []) (.seq (.region n_core_tagged_r1 []) (.seq (.seq (.region n_core_tagged_r2 []) (.block 0 (.loop n_core_tagged_l12))) (.seq (.region n_core_tagged_r13 []) .ret))))⟩
theorem c_core_tagged : compFn Try.prog F_core_tagged = some n_core_tagged := by kernel_rfl
abbrev F_slices_ContainsFunc__api_Atom_api_Atom : Nat := 70
@[go_sem] def n_slices_ContainsFunc__api_Atom_api_Atom_r0 : List NI := [
 ⟨0, some 4, none, .move (.const (.bool false)), []⟩]
@[go_sem] def n_slices_ContainsFunc__api_Atom_api_Atom_r1 : List NI := [
 ⟨0, some 5, none, .move (.tmp 0), []⟩,
 ⟨1, some 6, none, .move (.tmp 1), []⟩,
 ⟨2, some 7, none, .call (.const (.func 83 [] [])) [(.tmp 5), (.tmp 6)], []⟩,
 ⟨3, some 8, none, .bin .geq (some .int) (.tmp 7) (.const (.int .i64 0)), []⟩,
 ⟨4, some 4, none, .move (.tmp 8), []⟩]
@[go_sem] def n_slices_ContainsFunc__api_Atom_api_Atom : NFn := ⟨2, 9, [.slot 4], (.seq (.region n_slices_ContainsFunc__api_Atom_api_Atom_r0 []) (.seq (.region n_slices_ContainsFunc__api_Atom_api_Atom_r1 []) .ret))⟩
theorem c_slices_ContainsFunc__api_Atom_api_Atom : compFn Try.prog F_slices_ContainsFunc__api_Atom_api_Atom = some n_slices_ContainsFunc__api_Atom_api_Atom := by kernel_rfl
abbrev F_core_Own_1 : Nat := 71
@[go_sem] def n_core_Own_1_r0 : List NI := [
 ⟨0, some 1, none, .box (.tmp 0), []⟩,
 ⟨1, some 2, none, .move (.const (.bool false)), []⟩]
@[go_sem] def n_core_Own_1_r1 : List NI := [
 ⟨0, some 3, none, .load (some 3) (.tmp 1), []⟩,
 ⟨1, some 4, none, .call (.const (.func 72 [] [])) [(.tmp 3)], []⟩,
 ⟨2, some 5, none, .un .not (.tmp 4), []⟩,
 ⟨3, some 2, none, .move (.tmp 5), []⟩]
@[go_sem] def n_core_Own_1 : NFn := ⟨1, 6, [.slot 2], (.seq (.region n_core_Own_1_r0 []) (.seq (.region n_core_Own_1_r1 []) .ret))⟩
theorem c_core_Own_1 : compFn Try.prog F_core_Own_1 = some n_core_Own_1 := by kernel_rfl
abbrev F_core_Atom : Nat := 72
@[go_sem] def n_core_Atom_r0 : List NI := [
 ⟨0, some 1, none, .box (.tmp 0), []⟩,
 ⟨1, some 2, none, .move (.const (.bool false)), []⟩]
@[go_sem] def n_core_Atom_r1 : List NI := [
 ⟨0, some 3, none, .fieldAddr 0 (.tmp 1), []⟩,
 ⟨1, some 4, none, .load none (.tmp 3), []⟩]
@[go_sem] def n_core_Atom_r2 : List NI := [
 ⟨0, some 6, none, .bin .eql (some .int) (.tmp 4) (.const (.int .i64 1)), []⟩,
 ⟨1, some 5, none, .move (.tmp 6), []⟩]
@[go_sem] def n_core_Atom_r3 : List NI := [
 ⟨0, some 7, none, .fieldAddr 1 (.tmp 1), []⟩,
 ⟨1, some 8, none, .load none (.tmp 7), []⟩,
 ⟨2, some 9, none, .bin .geq (some .int) (.tmp 8) (.const (.int .i64 0)), []⟩,
 ⟨3, some 10, none, .move (.tmp 9), []⟩,
 ⟨4, some 11, some (10, true), .fieldAddr 1 (.tmp 1), []⟩,
 ⟨5, some 12, some (10, true), .load none (.tmp 11), []⟩,
 ⟨6, some 13, some (10, true), .bin .leq (some .int) (.tmp 12) (.const (.int .i64 1048575)), []⟩,
 ⟨7, some 14, none, .pick (.tmp 10) (.tmp 13) (.const (.bool false)), []⟩,
 ⟨8, some 15, none, .move (.tmp 14), []⟩,
 ⟨9, some 16, some (15, true), .fieldAddr 2 (.tmp 1), []⟩,
 ⟨10, some 17, some (15, true), .load none (.tmp 16), []⟩,
 ⟨11, some 18, some (15, true), .bin .eql (some .str) (.tmp 17) (.const (.str [])), []⟩,
 ⟨12, some 19, none, .pick (.tmp 15) (.tmp 18) (.const (.bool false)), []⟩,
 ⟨13, some 2, none, .move (.tmp 19), []⟩]
@[go_sem] def n_core_Atom_r4 : List NI := [
 ⟨0, some 21, none, .bin .eql (some .int) (.tmp 4) (.const (.int .i64 2)), []⟩,
 ⟨1, some 20, none, .move (.tmp 21), []⟩]
@[go_sem] def n_core_Atom_r5 : List NI := [
 ⟨0, some 22, none, .fieldAddr 1 (.tmp 1), []⟩,
 ⟨1, some 23, none, .load none (.tmp 22), []⟩,
 ⟨2, some 24, none, .bin .geq (some .int) (.tmp 23) (.const (.int .i64 (-1073741824))), []⟩,
 ⟨3, some 25, none, .move (.tmp 24), []⟩,
 ⟨4, some 26, some (25, true), .fieldAddr 1 (.tmp 1), []⟩,
 ⟨5, some 27, some (25, true), .load none (.tmp 26), []⟩,
 ⟨6, some 28, some (25, true), .bin .leq (some .int) (.tmp 27) (.const (.int .i64 1073741823)), []⟩,
 ⟨7, some 29, none, .pick (.tmp 25) (.tmp 28) (.const (.bool false)), []⟩,
 ⟨8, some 30, none, .move (.tmp 29), []⟩,
 ⟨9, some 31, some (30, true), .fieldAddr 2 (.tmp 1), []⟩,
 ⟨10, some 32, some (30, true), .load none (.tmp 31), []⟩,
 ⟨11, some 33, some (30, true), .bin .eql (some .str) (.tmp 32) (.const (.str [])), []⟩,
 ⟨12, some 34, none, .pick (.tmp 30) (.tmp 33) (.const (.bool false)), []⟩,
 ⟨13, some 2, none, .move (.tmp 34), []⟩]
@[go_sem] def n_core_Atom_r6 : List NI := [
 ⟨0, some 36, none, .bin .eql (some .int) (.tmp 4) (.const (.int .i64 3)), []⟩,
 ⟨1, some 35, none, .move (.tmp 36), []⟩]
@[go_sem] def n_core_Atom_r7 : List NI := [
 ⟨0, some 37, none, .fieldAddr 1 (.tmp 1), []⟩,
 ⟨1, some 38, none, .load none (.tmp 37), []⟩,
 ⟨2, some 39, none, .bin .eql (some .int) (.tmp 38) (.const (.int .i64 0)), []⟩,
 ⟨3, some 40, none, .move (.tmp 39), []⟩,
 ⟨4, some 41, some (40, true), .fieldAddr 2 (.tmp 1), []⟩,
 ⟨5, some 42, some (40, true), .load none (.tmp 41), []⟩,
 ⟨6, some 43, some (40, true), .len .str (.tmp 42), []⟩,
 ⟨7, some 44, some (40, true), .bin .leq (some .int) (.tmp 43) (.const (.int .i64 4096)), []⟩,
 ⟨8, some 45, none, .pick (.tmp 40) (.tmp 44) (.const (.bool false)), []⟩,
 ⟨9, some 2, none, .move (.tmp 45), []⟩]
@[go_sem] def n_core_Atom_r8 : List NI := [
 ⟨0, some 2, none, .move (.const (.bool false)), []⟩]
@[go_sem] def n_core_Atom : NFn := ⟨1, 46, [.slot 2], (.seq (.region n_core_Atom_r0 []) (.seq (.seq (.region n_core_Atom_r1 []) (.block 0 (.seq (.region n_core_Atom_r2 []) (.cond (.tmp 5) (.seq (.region n_core_Atom_r3 []) .ret) (.seq (.region n_core_Atom_r4 []) (.cond (.tmp 20) (.seq (.region n_core_Atom_r5 []) .ret) (.seq (.region n_core_Atom_r6 []) (.cond (.tmp 35) (.seq (.region n_core_Atom_r7 []) .ret) .skip)))))))) (.seq (.region n_core_Atom_r8 []) .ret)))⟩
theorem c_core_Atom : compFn Try.prog F_core_Atom = some n_core_Atom := by kernel_rfl
abbrev F_flatten_atoms_1 : Nat := 75
@[go_sem] def n_flatten_atoms_1_r0 : List NI := [
 ⟨0, some 1, none, .box (.tmp 0), []⟩,
 ⟨1, some 2, none, .move (.const (.bool false)), []⟩]
@[go_sem] def n_flatten_atoms_1_r1 : List NI := [
 ⟨0, some 3, none, .load (some 3) (.tmp 1), []⟩,
 ⟨1, some 4, none, .call (.const (.func 72 [] [])) [(.tmp 3)], []⟩,
 ⟨2, some 5, none, .un .not (.tmp 4), []⟩,
 ⟨3, some 2, none, .move (.tmp 5), []⟩]
@[go_sem] def n_flatten_atoms_1 : NFn := ⟨1, 6, [.slot 2], (.seq (.region n_flatten_atoms_1_r0 []) (.seq (.region n_flatten_atoms_1_r1 []) .ret))⟩
theorem c_flatten_atoms_1 : compFn Try.prog F_flatten_atoms_1 = some n_flatten_atoms_1 := by kernel_rfl
abbrev F_slices_IndexFunc__api_Atom_api_Atom : Nat := 83
@[go_sem] def n_slices_IndexFunc__api_Atom_api_Atom_r0 : List NI := [
 ⟨0, some 4, none, .move (.const (.int .i64 0)), []⟩]
@[go_sem] def n_slices_IndexFunc__api_Atom_api_Atom_r1 : List NI := [
 ⟨0, some 6, none, .move (.tmp 0), []⟩,
 ⟨1, some 7, none, .len .slice (.tmp 6), []⟩,
 ⟨2, some 8, none, .move (.const (.int .i64 0)), []⟩]
@[go_sem] def n_slices_IndexFunc__api_Atom_api_Atom_r2 : List NI := [
 ⟨0, some 9, none, .bin .lss (some .int) (.tmp 8) (.tmp 7), []⟩]
@[go_sem] def n_slices_IndexFunc__api_Atom_api_Atom_r3 : List NI := [
 ⟨0, some 10, none, .move (.tmp 8), []⟩,
 ⟨1, some 5, none, .move (.tmp 10), []⟩]
@[go_sem] def n_slices_IndexFunc__api_Atom_api_Atom_r4 : List NI := [
 ⟨0, some 11, none, .move (.tmp 1), []⟩,
 ⟨1, some 12, none, .move (.tmp 0), []⟩,
 ⟨2, some 13, none, .move (.tmp 5), []⟩,
 ⟨3, some 14, none, .indexAddr 3 none (.tmp 12) (.tmp 13), []⟩,
 ⟨4, some 15, none, .load (some 3) (.tmp 14), []⟩,
 ⟨5, some 16, none, .call (.tmp 11) [(.tmp 15)], []⟩]
@[go_sem] def n_slices_IndexFunc__api_Atom_api_Atom_r5 : List NI := [
 ⟨0, some 17, none, .move (.tmp 5), []⟩,
 ⟨1, some 4, none, .move (.tmp 17), []⟩]
@[go_sem] def n_slices_IndexFunc__api_Atom_api_Atom_r6 : List NI := [
 ⟨0, some 18, none, .bin .add (some .int) (.tmp 8) (.const (.int .i64 1)), []⟩,
 ⟨1, some 8, none, .move (.tmp 18), []⟩]
def n_slices_IndexFunc__api_Atom_api_Atom_l7 : NC := (.seq (.region n_slices_IndexFunc__api_Atom_api_Atom_r2 []) (.seq (.cond (.tmp 9) .skip (.exit 0)) (.seq (.block 1 (.seq (.region n_slices_IndexFunc__api_Atom_api_Atom_r3 []) (.seq (.region n_slices_IndexFunc__api_Atom_api_Atom_r4 []) (.cond (.tmp 16) (.seq (.region n_slices_IndexFunc__api_Atom_api_Atom_r5 []) .ret) .skip)))) (.region n_slices_IndexFunc__api_Atom_api_Atom_r6 []))))
@[go_sem] def n_slices_IndexFunc__api_Atom_api_Atom_r8 : List NI := [
 ⟨0, some 4, none, .move (.const (.int .i64 (-1))), []⟩]
@[go_sem] def n_slices_IndexFunc__api_Atom_api_Atom : NFn := ⟨2, 19, [.slot 4], (.seq (.region n_slices_IndexFunc__api_Atom_api_Atom_r0 []) (.seq (.seq (.region n_slices_IndexFunc__api_Atom_api_Atom_r1 []) (.block 0 (.loop n_slices_IndexFunc__api_Atom_api_Atom_l7))) (.seq (.region n_slices_IndexFunc__api_Atom_api_Atom_r8 []) .ret)))⟩
theorem c_slices_IndexFunc__api_Atom_api_Atom : compFn Try.prog F_slices_IndexFunc__api_Atom_api_Atom = some n_slices_IndexFunc__api_Atom_api_Atom := by kernel_rfl
end Go.NL
