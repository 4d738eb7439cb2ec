/-
  No cell of these rows narrows 'for every input' (looked for: loops, veiled, ifaces, maps, wideKeys, modest, calm, conditions, laid).
  DERIVED. THE GIVEN ROWS OF THIS SEAT. 5 by the template 'for every input the law returns true; each argument reads behind the call as it read before'; 0 by the template 'total and deterministic' (their statements: YtjillekahongeaaTotals.lean).
  GIVEN WITH THE SEED: the statements are not yours to turn. If you find one false, say at which input.
  Laid BY PROGRAM, IN A SANDBOX (cutbox-rows.mjs): the forced cells as the released guide's own fill.sh prints them over the translation a1e66039f766ba0a… (all of the seat's roots in one cut). By AI agents, Wed Nov 11 2026. No macro, syntax, notation, axiom, sorry.
-/
import Derived.Test.YtjillekahongeaaChecked
import GoSem.Claim
import GoSem.ClaimJoined
import GoSem.ClaimMapViews
import Derived.JoinedTies
import Derived.KernelRfl
namespace Go.Proofs.Ytjillekahongeaa
/- THE CELL 'sum', in the pinned program and in every row, IS THE sha256 OF THE DUMP (.gsa) THAT YtjillekahongeaaProg.lean LOADS. Nothing in Lean hashes anything: it is a label: what it is worth is what the hold of that sum in a sandbox is worth. -/
noncomputable def Try.pinned : Pinned := { name := "ytjillekahongeaa", sum := "a1e66039f766ba0ad1978896adb79e2f2521c01be7bd22ffd855a77c688c1693", checked := Try.checked }
namespace Rows
def none {H : Type} : Left H := { results := [], args := [] }

/-- 'tranchelaw11.EpochNames': WHATEVER THE INPUT: true; the input reads as it did. -/
def epochNamesSpec : ChangeSpec := { name := "epochNames", fn := fun _ => fun
  | [] => { results := [.lit (.bool true)], args := [] }
  | _ => none }
def epochNamesRow : OpenClaim := { program := "ytjillekahongeaa", sum := "a1e66039f766ba0ad1978896adb79e2f2521c01be7bd22ffd855a77c688c1693", func := "tranche/tranchelaw11.EpochNames", spec := "epochNames", apart := false }
def EpochNamesSaid : Prop := epochNamesRow.holds Try.pinned (OpenSpec.ofChange epochNamesSpec)

/-- ITS FALSE NEIGHBOUR: 'it returns false'. Refute it at one input. -/
def epochNamesWrong : ChangeSpec := { name := "epochNames", fn := fun _ => fun
  | [] => { results := [.lit (.bool false)], args := [] }
  | _ => none }
def EpochNamesWrongFalsely : Prop := epochNamesRow.holds Try.pinned (OpenSpec.ofChange epochNamesWrong)

/-- 'tranchelaw11.EpochAge': WHATEVER THE INPUT: true; the input reads as it did. -/
def epochAgeSpec : ChangeSpec := { name := "epochAge", fn := fun _ => fun
  | [d1, d2, d3] => { results := [.lit (.bool true)], args := [d1, d2, d3] }
  | _ => none }
def epochAgeRow : OpenClaim := { program := "ytjillekahongeaa", sum := "a1e66039f766ba0ad1978896adb79e2f2521c01be7bd22ffd855a77c688c1693", func := "tranche/tranchelaw11.EpochAge", spec := "epochAge", apart := false }
def EpochAgeSaid : Prop := epochAgeRow.holds Try.pinned (OpenSpec.ofChange epochAgeSpec)

/-- ITS FALSE NEIGHBOUR: 'it returns false'. Refute it at one input. -/
def epochAgeWrong : ChangeSpec := { name := "epochAge", fn := fun _ => fun
  | [d1, d2, d3] => { results := [.lit (.bool false)], args := [d1, d2, d3] }
  | _ => none }
def EpochAgeWrongFalsely : Prop := epochAgeRow.holds Try.pinned (OpenSpec.ofChange epochAgeWrong)

/-- 'tranchelaw11.EpochPlays': WHATEVER THE INPUT: true; the input reads as it did. -/
def epochPlaysSpec : ChangeSpec := { name := "epochPlays", fn := fun _ => fun
  | [d1, d2, d3] => { results := [.lit (.bool true)], args := [d1, d2, d3] }
  | _ => none }
def epochPlaysRow : OpenClaim := { program := "ytjillekahongeaa", sum := "a1e66039f766ba0ad1978896adb79e2f2521c01be7bd22ffd855a77c688c1693", func := "tranche/tranchelaw11.EpochPlays", spec := "epochPlays", apart := false }
def EpochPlaysSaid : Prop := epochPlaysRow.holds Try.pinned (OpenSpec.ofChange epochPlaysSpec)

/-- ITS FALSE NEIGHBOUR: 'it returns false'. Refute it at one input. -/
def epochPlaysWrong : ChangeSpec := { name := "epochPlays", fn := fun _ => fun
  | [d1, d2, d3] => { results := [.lit (.bool false)], args := [d1, d2, d3] }
  | _ => none }
def EpochPlaysWrongFalsely : Prop := epochPlaysRow.holds Try.pinned (OpenSpec.ofChange epochPlaysWrong)

/-- 'tranchelaw11.EpochDense': WHATEVER THE INPUT: true; the input reads as it did. -/
def epochDenseSpec : ChangeSpec := { name := "epochDense", fn := fun _ => fun
  | [d1, d2, d3] => { results := [.lit (.bool true)], args := [d1, d2, d3] }
  | _ => none }
def epochDenseRow : OpenClaim := { program := "ytjillekahongeaa", sum := "a1e66039f766ba0ad1978896adb79e2f2521c01be7bd22ffd855a77c688c1693", func := "tranche/tranchelaw11.EpochDense", spec := "epochDense", apart := false }
def EpochDenseSaid : Prop := epochDenseRow.holds Try.pinned (OpenSpec.ofChange epochDenseSpec)

/-- ITS FALSE NEIGHBOUR: 'it returns false'. Refute it at one input. -/
def epochDenseWrong : ChangeSpec := { name := "epochDense", fn := fun _ => fun
  | [d1, d2, d3] => { results := [.lit (.bool false)], args := [d1, d2, d3] }
  | _ => none }
def EpochDenseWrongFalsely : Prop := epochDenseRow.holds Try.pinned (OpenSpec.ofChange epochDenseWrong)

/-- 'tranchelaw11.EpochNil': WHATEVER THE INPUT: true; the input reads as it did. -/
def epochNilSpec : ChangeSpec := { name := "epochNil", fn := fun _ => fun
  | [d] => { results := [.lit (.bool true)], args := [d] }
  | _ => none }
def epochNilRow : OpenClaim := { program := "ytjillekahongeaa", sum := "a1e66039f766ba0ad1978896adb79e2f2521c01be7bd22ffd855a77c688c1693", func := "tranche/tranchelaw11.EpochNil", spec := "epochNil", apart := false }
def EpochNilSaid : Prop := epochNilRow.holds Try.pinned (OpenSpec.ofChange epochNilSpec)

/-- ITS FALSE NEIGHBOUR: 'it returns false'. Refute it at one input. -/
def epochNilWrong : ChangeSpec := { name := "epochNil", fn := fun _ => fun
  | [d] => { results := [.lit (.bool false)], args := [d] }
  | _ => none }
def EpochNilWrongFalsely : Prop := epochNilRow.holds Try.pinned (OpenSpec.ofChange epochNilWrong)

/- THE SECOND FORM. 'bulk': how many values and letters a reading holds, each counted each time it is reached (what is shared counts as often as it is met; a slice's spare places count too). A statement '..UptoSaid' is the law's where the arguments, and the package variables that the reading takes, are together of bulk at most 1048576: NARROWER than '..Said'. Prove '..Said' where nothing that the law and all that it calls make is longer than what came in: it says more and counts as full. Else prove '..UptoSaid'. A law counts once. -/
mutual
def uptoBulk {H : Type} : DataW H → Nat
  | .lit (.string bytes) => bytes.length + 1
  | .lit _ => 1
  | .nil => 1
  | .ptr d => uptoBulk d + 1
  | .slice elems spare => uptoBulkAll elems + uptoBulkAll spare + 1
  | .agg parts => uptoBulkAll parts + 1
  | .iface _ d => uptoBulk d + 1
  | .map entries => uptoBulkEntries entries + 1
  | .held _ => 1
def uptoBulkAll {H : Type} : List (DataW H) → Nat
  | [] => 0
  | d :: r => uptoBulk d + uptoBulkAll r
def uptoBulkEntries {H : Type} : List (Lit × DataW H) → Nat
  | [] => 0
  | x :: r => uptoBulkEntry x + uptoBulkEntries r
def uptoBulkEntry {H : Type} : Lit × DataW H → Nat
  | (.string bytes, d) => bytes.length + uptoBulk d + 1
  | (_, d) => uptoBulk d + 1
 end
def uptoSmall : (H : Type) → List (DataW H) → Bool := fun _ ds => decide (uptoBulkAll ds ≤ 1048576)
def OpenSpec.upto (s : _root_.Go.ChangeSpec) : _root_.Go.OpenSpec := { _root_.Go.OpenSpec.ofChange s with cond := some uptoSmall }

/-- 'tranchelaw11.EpochNames', WHERE WHAT IT READS IS OF BULK AT MOST 1048576: true; the input reads as it did. -/
def epochNamesUptoRow : OpenClaim := { program := "ytjillekahongeaa", sum := "a1e66039f766ba0ad1978896adb79e2f2521c01be7bd22ffd855a77c688c1693", func := "tranche/tranchelaw11.EpochNames", spec := "epochNames", apart := false, narrowed := true }
def EpochNamesUptoSaid : Prop := epochNamesUptoRow.holds Try.pinned (OpenSpec.upto epochNamesSpec)

/-- 'tranchelaw11.EpochAge', WHERE WHAT IT READS IS OF BULK AT MOST 1048576: true; the input reads as it did. -/
def epochAgeUptoRow : OpenClaim := { program := "ytjillekahongeaa", sum := "a1e66039f766ba0ad1978896adb79e2f2521c01be7bd22ffd855a77c688c1693", func := "tranche/tranchelaw11.EpochAge", spec := "epochAge", apart := false, narrowed := true }
def EpochAgeUptoSaid : Prop := epochAgeUptoRow.holds Try.pinned (OpenSpec.upto epochAgeSpec)

/-- 'tranchelaw11.EpochPlays', WHERE WHAT IT READS IS OF BULK AT MOST 1048576: true; the input reads as it did. -/
def epochPlaysUptoRow : OpenClaim := { program := "ytjillekahongeaa", sum := "a1e66039f766ba0ad1978896adb79e2f2521c01be7bd22ffd855a77c688c1693", func := "tranche/tranchelaw11.EpochPlays", spec := "epochPlays", apart := false, narrowed := true }
def EpochPlaysUptoSaid : Prop := epochPlaysUptoRow.holds Try.pinned (OpenSpec.upto epochPlaysSpec)

/-- 'tranchelaw11.EpochDense', WHERE WHAT IT READS IS OF BULK AT MOST 1048576: true; the input reads as it did. -/
def epochDenseUptoRow : OpenClaim := { program := "ytjillekahongeaa", sum := "a1e66039f766ba0ad1978896adb79e2f2521c01be7bd22ffd855a77c688c1693", func := "tranche/tranchelaw11.EpochDense", spec := "epochDense", apart := false, narrowed := true }
def EpochDenseUptoSaid : Prop := epochDenseUptoRow.holds Try.pinned (OpenSpec.upto epochDenseSpec)

/-- 'tranchelaw11.EpochNil', WHERE WHAT IT READS IS OF BULK AT MOST 1048576: true; the input reads as it did. -/
def epochNilUptoRow : OpenClaim := { program := "ytjillekahongeaa", sum := "a1e66039f766ba0ad1978896adb79e2f2521c01be7bd22ffd855a77c688c1693", func := "tranche/tranchelaw11.EpochNil", spec := "epochNil", apart := false, narrowed := true }
def EpochNilUptoSaid : Prop := epochNilUptoRow.holds Try.pinned (OpenSpec.upto epochNilSpec)

end Rows
end Go.Proofs.Ytjillekahongeaa
