/-
  NARROWER THAN 'FOR EVERY INPUT', by the rows' own cells (each row's printed sentence says how): FlattenRuns: loops · FlattenSame: loops.
  DERIVED. THE GIVEN ROWS OF THIS SEAT. 3 by the template 'for every input the law returns true; each argument reads behind the call as it read before'; 0 by the template 'total and deterministic' (their statements: YtdeboephmbaihaaGreatTotals.lean).
  GIVEN WITH THE SEED: the statements are not yours to turn. If you find one false, say at which input.
  Laid BY PROGRAM, IN A SANDBOX (cutbox-rows.mjs): the forced cells as the released guide's own fill.sh prints them over the translation 3fd7e84bda58e57b… (all of the seat's roots in one cut). By AI agents, Wed Nov 11 2026. No macro, syntax, notation, axiom, sorry.
-/
import Derived.Test.YtdeboephmbaihaaGreatChecked
import GoSem.Claim
import GoSem.ClaimJoined
import GoSem.ClaimMapViews
import Derived.JoinedTies
import Derived.KernelRfl
namespace Go.Proofs.YtdeboephmbaihaaGreat
/- THE CELL 'sum', in the pinned program and in every row, IS THE sha256 OF THE DUMP (.gsa) THAT YtdeboephmbaihaaGreatProg.lean LOADS. Nothing in Lean hashes anything: it is a label: what it is worth is what the hold of that sum in a sandbox is worth. -/
noncomputable def Tryz.pinned : Pinned := { name := "ytdeboephmbaihaagreat", sum := "3fd7e84bda58e57bf86c6ceaffeb8a0af6bbe0a7ac8c35f1b2135c5820fd6010", checked := Tryz.checked }
namespace Rows
def none {H : Type} : Left H := { results := [], args := [] }

/-- 'gimletlaw26.FlattenRuns': WHATEVER THE INPUT: true; the input reads as it did. -/
def flattenRunsSpec : ChangeSpec := { name := "flattenRuns", fn := fun _ => fun
  | [d1, d2, d3] => { results := [.lit (.bool true)], args := [d1, d2, d3] }
  | _ => none }
def flattenRunsRow : OpenClaim := { program := "ytdeboephmbaihaagreat", sum := "3fd7e84bda58e57bf86c6ceaffeb8a0af6bbe0a7ac8c35f1b2135c5820fd6010", func := "gimlet/gimletlaw26.FlattenRuns", spec := "flattenRuns", unfollowed := true, recurses := true, loops := true, apart := false }
def FlattenRunsSaid : Prop := flattenRunsRow.holds Tryz.pinned (OpenSpec.ofChange flattenRunsSpec)

/-- ITS FALSE NEIGHBOUR: 'it returns false'. Refute it at one input. -/
def flattenRunsWrong : ChangeSpec := { name := "flattenRuns", fn := fun _ => fun
  | [d1, d2, d3] => { results := [.lit (.bool false)], args := [d1, d2, d3] }
  | _ => none }
def FlattenRunsWrongFalsely : Prop := flattenRunsRow.holds Tryz.pinned (OpenSpec.ofChange flattenRunsWrong)

/-- 'gimletlaw26.FlattenKnown': WHATEVER THE INPUT: true; the input reads as it did. -/
def flattenKnownSpec : ChangeSpec := { name := "flattenKnown", fn := fun _ => fun
  | [] => { results := [.lit (.bool true)], args := [] }
  | _ => none }
def flattenKnownRow : OpenClaim := { program := "ytdeboephmbaihaagreat", sum := "3fd7e84bda58e57bf86c6ceaffeb8a0af6bbe0a7ac8c35f1b2135c5820fd6010", func := "gimlet/gimletlaw26.FlattenKnown", spec := "flattenKnown", unfollowed := true, recurses := true, apart := false }
def FlattenKnownSaid : Prop := flattenKnownRow.holds Tryz.pinned (OpenSpec.ofChange flattenKnownSpec)

/-- ITS FALSE NEIGHBOUR: 'it returns false'. Refute it at one input. -/
def flattenKnownWrong : ChangeSpec := { name := "flattenKnown", fn := fun _ => fun
  | [] => { results := [.lit (.bool false)], args := [] }
  | _ => none }
def FlattenKnownWrongFalsely : Prop := flattenKnownRow.holds Tryz.pinned (OpenSpec.ofChange flattenKnownWrong)

/-- 'gimletlaw26.FlattenSame': WHATEVER THE INPUT: true; the input reads as it did. -/
def flattenSameSpec : ChangeSpec := { name := "flattenSame", fn := fun _ => fun
  | [d1, d2, d3] => { results := [.lit (.bool true)], args := [d1, d2, d3] }
  | _ => none }
def flattenSameRow : OpenClaim := { program := "ytdeboephmbaihaagreat", sum := "3fd7e84bda58e57bf86c6ceaffeb8a0af6bbe0a7ac8c35f1b2135c5820fd6010", func := "gimlet/gimletlaw26.FlattenSame", spec := "flattenSame", unfollowed := true, recurses := true, loops := true, apart := false }
def FlattenSameSaid : Prop := flattenSameRow.holds Tryz.pinned (OpenSpec.ofChange flattenSameSpec)

/-- ITS FALSE NEIGHBOUR: 'it returns false'. Refute it at one input. -/
def flattenSameWrong : ChangeSpec := { name := "flattenSame", fn := fun _ => fun
  | [d1, d2, d3] => { results := [.lit (.bool false)], args := [d1, d2, d3] }
  | _ => none }
def FlattenSameWrongFalsely : Prop := flattenSameRow.holds Tryz.pinned (OpenSpec.ofChange flattenSameWrong)

/- THE SECOND FORM. 'bulk': how many values and letters a reading holds, each counted each time it is reached (what is shared counts as often as it is met; a slice's spare places count too). A statement '..UptoSaid' is the law's where the arguments, and the package variables that the reading takes, are together of bulk at most 1048576: NARROWER than '..Said'. Prove '..Said' where nothing that the law and all that it calls make is longer than what came in: it says more and counts as full. Else prove '..UptoSaid'. A law counts once. -/
mutual
def uptoBulk {H : Type} : DataW H → Nat
  | .lit (.string bytes) => bytes.length + 1
  | .lit _ => 1
  | .nil => 1
  | .ptr d => uptoBulk d + 1
  | .slice elems spare => uptoBulkAll elems + uptoBulkAll spare + 1
  | .agg parts => uptoBulkAll parts + 1
  | .iface _ d => uptoBulk d + 1
  | .map entries => uptoBulkEntries entries + 1
  | .held _ => 1
def uptoBulkAll {H : Type} : List (DataW H) → Nat
  | [] => 0
  | d :: r => uptoBulk d + uptoBulkAll r
def uptoBulkEntries {H : Type} : List (Lit × DataW H) → Nat
  | [] => 0
  | x :: r => uptoBulkEntry x + uptoBulkEntries r
def uptoBulkEntry {H : Type} : Lit × DataW H → Nat
  | (.string bytes, d) => bytes.length + uptoBulk d + 1
  | (_, d) => uptoBulk d + 1
 end
def uptoSmall : (H : Type) → List (DataW H) → Bool := fun _ ds => decide (uptoBulkAll ds ≤ 1048576)
def OpenSpec.upto (s : _root_.Go.ChangeSpec) : _root_.Go.OpenSpec := { _root_.Go.OpenSpec.ofChange s with cond := some uptoSmall }

/-- 'gimletlaw26.FlattenRuns', WHERE WHAT IT READS IS OF BULK AT MOST 1048576: true; the input reads as it did. -/
def flattenRunsUptoRow : OpenClaim := { program := "ytdeboephmbaihaagreat", sum := "3fd7e84bda58e57bf86c6ceaffeb8a0af6bbe0a7ac8c35f1b2135c5820fd6010", func := "gimlet/gimletlaw26.FlattenRuns", spec := "flattenRuns", unfollowed := true, recurses := true, loops := true, apart := false, narrowed := true }
def FlattenRunsUptoSaid : Prop := flattenRunsUptoRow.holds Tryz.pinned (OpenSpec.upto flattenRunsSpec)

/-- 'gimletlaw26.FlattenKnown', WHERE WHAT IT READS IS OF BULK AT MOST 1048576: true; the input reads as it did. -/
def flattenKnownUptoRow : OpenClaim := { program := "ytdeboephmbaihaagreat", sum := "3fd7e84bda58e57bf86c6ceaffeb8a0af6bbe0a7ac8c35f1b2135c5820fd6010", func := "gimlet/gimletlaw26.FlattenKnown", spec := "flattenKnown", unfollowed := true, recurses := true, apart := false, narrowed := true }
def FlattenKnownUptoSaid : Prop := flattenKnownUptoRow.holds Tryz.pinned (OpenSpec.upto flattenKnownSpec)

/-- 'gimletlaw26.FlattenSame', WHERE WHAT IT READS IS OF BULK AT MOST 1048576: true; the input reads as it did. -/
def flattenSameUptoRow : OpenClaim := { program := "ytdeboephmbaihaagreat", sum := "3fd7e84bda58e57bf86c6ceaffeb8a0af6bbe0a7ac8c35f1b2135c5820fd6010", func := "gimlet/gimletlaw26.FlattenSame", spec := "flattenSame", unfollowed := true, recurses := true, loops := true, apart := false, narrowed := true }
def FlattenSameUptoSaid : Prop := flattenSameUptoRow.holds Tryz.pinned (OpenSpec.upto flattenSameSpec)

end Rows
end Go.Proofs.YtdeboephmbaihaaGreat
