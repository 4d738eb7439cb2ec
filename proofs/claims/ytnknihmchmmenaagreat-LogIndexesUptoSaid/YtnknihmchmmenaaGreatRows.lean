/-
  No cell of these rows narrows 'for every input' (looked for: loops, veiled, ifaces, maps, wideKeys, modest, calm, conditions, laid).
  DERIVED. THE GIVEN ROWS OF THIS SEAT. 8 by the template 'for every input the law returns true; each argument reads behind the call as it read before'; 0 by the template 'total and deterministic' (their statements: YtnknihmchmmenaaGreatTotals.lean).
  GIVEN WITH THE SEED: the statements are not yours to turn. If you find one false, say at which input.
  Laid BY PROGRAM, IN A SANDBOX (cutbox-rows.mjs): the forced cells as the released guide's own fill.sh prints them over the translation 52afa6623e0a0b8d… (all of the seat's roots in one cut). By AI agents, Wed Nov 11 2026. No macro, syntax, notation, axiom, sorry.
-/
import Derived.Test.YtnknihmchmmenaaGreatChecked
import GoSem.Claim
import GoSem.ClaimJoined
import GoSem.ClaimMapViews
import Derived.JoinedTies
import Derived.KernelRfl
namespace Go.Proofs.YtnknihmchmmenaaGreat
/- THE CELL 'sum', in the pinned program and in every row, IS THE sha256 OF THE DUMP (.gsa) THAT YtnknihmchmmenaaGreatProg.lean LOADS. Nothing in Lean hashes anything: it is a label: what it is worth is what the hold of that sum in a sandbox is worth. -/
noncomputable def Tryz.pinned : Pinned := { name := "ytnknihmchmmenaagreat", sum := "52afa6623e0a0b8d88b42f85c0dc8cc3877a621f50ba2873c2082ddefc3232f0", checked := Tryz.checked }
namespace Rows
def none {H : Type} : Left H := { results := [], args := [] }

/-- 'tranchelaw12.LogEaches': WHATEVER THE INPUT: true; the input reads as it did. -/
def logEachesSpec : ChangeSpec := { name := "logEaches", fn := fun _ => fun
  | [d1, d2] => { results := [.lit (.bool true)], args := [d1, d2] }
  | _ => none }
def logEachesRow : OpenClaim := { program := "ytnknihmchmmenaagreat", sum := "52afa6623e0a0b8d88b42f85c0dc8cc3877a621f50ba2873c2082ddefc3232f0", func := "tranche/tranchelaw12.LogEaches", spec := "logEaches", inPlace := ["internal/bytealg.IndexByteString"], unfollowed := true, recurses := true, plainKeys := false, apart := false }
def LogEachesSaid : Prop := logEachesRow.holds Tryz.pinned (OpenSpec.ofChange logEachesSpec)

/-- ITS FALSE NEIGHBOUR: 'it returns false'. Refute it at one input. -/
def logEachesWrong : ChangeSpec := { name := "logEaches", fn := fun _ => fun
  | [d1, d2] => { results := [.lit (.bool false)], args := [d1, d2] }
  | _ => none }
def LogEachesWrongFalsely : Prop := logEachesRow.holds Tryz.pinned (OpenSpec.ofChange logEachesWrong)

/-- 'tranchelaw12.LogEntries': WHATEVER THE INPUT: true; the input reads as it did. -/
def logEntriesSpec : ChangeSpec := { name := "logEntries", fn := fun _ => fun
  | [d] => { results := [.lit (.bool true)], args := [d] }
  | _ => none }
def logEntriesRow : OpenClaim := { program := "ytnknihmchmmenaagreat", sum := "52afa6623e0a0b8d88b42f85c0dc8cc3877a621f50ba2873c2082ddefc3232f0", func := "tranche/tranchelaw12.LogEntries", spec := "logEntries", inPlace := ["internal/bytealg.IndexByteString"], unfollowed := true, recurses := true, plainKeys := false, apart := false }
def LogEntriesSaid : Prop := logEntriesRow.holds Tryz.pinned (OpenSpec.ofChange logEntriesSpec)

/-- ITS FALSE NEIGHBOUR: 'it returns false'. Refute it at one input. -/
def logEntriesWrong : ChangeSpec := { name := "logEntries", fn := fun _ => fun
  | [d] => { results := [.lit (.bool false)], args := [d] }
  | _ => none }
def LogEntriesWrongFalsely : Prop := logEntriesRow.holds Tryz.pinned (OpenSpec.ofChange logEntriesWrong)

/-- 'tranchelaw12.LogPlays': WHATEVER THE INPUT: true; the input reads as it did. -/
def logPlaysSpec : ChangeSpec := { name := "logPlays", fn := fun _ => fun
  | [d1, d2, d3] => { results := [.lit (.bool true)], args := [d1, d2, d3] }
  | _ => none }
def logPlaysRow : OpenClaim := { program := "ytnknihmchmmenaagreat", sum := "52afa6623e0a0b8d88b42f85c0dc8cc3877a621f50ba2873c2082ddefc3232f0", func := "tranche/tranchelaw12.LogPlays", spec := "logPlays", inPlace := ["internal/bytealg.IndexByteString"], unfollowed := true, recurses := true, plainKeys := false, apart := false }
def LogPlaysSaid : Prop := logPlaysRow.holds Tryz.pinned (OpenSpec.ofChange logPlaysSpec)

/-- ITS FALSE NEIGHBOUR: 'it returns false'. Refute it at one input. -/
def logPlaysWrong : ChangeSpec := { name := "logPlays", fn := fun _ => fun
  | [d1, d2, d3] => { results := [.lit (.bool false)], args := [d1, d2, d3] }
  | _ => none }
def LogPlaysWrongFalsely : Prop := logPlaysRow.holds Tryz.pinned (OpenSpec.ofChange logPlaysWrong)

/-- 'tranchelaw12.LogLoads': WHATEVER THE INPUT: true; the input reads as it did. -/
def logLoadsSpec : ChangeSpec := { name := "logLoads", fn := fun _ => fun
  | [d] => { results := [.lit (.bool true)], args := [d] }
  | _ => none }
def logLoadsRow : OpenClaim := { program := "ytnknihmchmmenaagreat", sum := "52afa6623e0a0b8d88b42f85c0dc8cc3877a621f50ba2873c2082ddefc3232f0", func := "tranche/tranchelaw12.LogLoads", spec := "logLoads", inPlace := ["internal/bytealg.IndexByteString"], unfollowed := true, recurses := true, plainKeys := false, apart := false }
def LogLoadsSaid : Prop := logLoadsRow.holds Tryz.pinned (OpenSpec.ofChange logLoadsSpec)

/-- ITS FALSE NEIGHBOUR: 'it returns false'. Refute it at one input. -/
def logLoadsWrong : ChangeSpec := { name := "logLoads", fn := fun _ => fun
  | [d] => { results := [.lit (.bool false)], args := [d] }
  | _ => none }
def LogLoadsWrongFalsely : Prop := logLoadsRow.holds Tryz.pinned (OpenSpec.ofChange logLoadsWrong)

/-- 'tranchelaw12.LogBack': WHATEVER THE INPUT: true; the input reads as it did. -/
def logBackSpec : ChangeSpec := { name := "logBack", fn := fun _ => fun
  | [d1, d2] => { results := [.lit (.bool true)], args := [d1, d2] }
  | _ => none }
def logBackRow : OpenClaim := { program := "ytnknihmchmmenaagreat", sum := "52afa6623e0a0b8d88b42f85c0dc8cc3877a621f50ba2873c2082ddefc3232f0", func := "tranche/tranchelaw12.LogBack", spec := "logBack", inPlace := ["internal/bytealg.IndexByteString"], unfollowed := true, recurses := true, plainKeys := false, apart := false }
def LogBackSaid : Prop := logBackRow.holds Tryz.pinned (OpenSpec.ofChange logBackSpec)

/-- ITS FALSE NEIGHBOUR: 'it returns false'. Refute it at one input. -/
def logBackWrong : ChangeSpec := { name := "logBack", fn := fun _ => fun
  | [d1, d2] => { results := [.lit (.bool false)], args := [d1, d2] }
  | _ => none }
def LogBackWrongFalsely : Prop := logBackRow.holds Tryz.pinned (OpenSpec.ofChange logBackWrong)

/-- 'tranchelaw12.LogIndexed': WHATEVER THE INPUT: true; the input reads as it did. -/
def logIndexedSpec : ChangeSpec := { name := "logIndexed", fn := fun _ => fun
  | [d1, d2] => { results := [.lit (.bool true)], args := [d1, d2] }
  | _ => none }
def logIndexedRow : OpenClaim := { program := "ytnknihmchmmenaagreat", sum := "52afa6623e0a0b8d88b42f85c0dc8cc3877a621f50ba2873c2082ddefc3232f0", func := "tranche/tranchelaw12.LogIndexed", spec := "logIndexed", inPlace := ["internal/bytealg.IndexByteString"], unfollowed := true, recurses := true, plainKeys := false, apart := false }
def LogIndexedSaid : Prop := logIndexedRow.holds Tryz.pinned (OpenSpec.ofChange logIndexedSpec)

/-- ITS FALSE NEIGHBOUR: 'it returns false'. Refute it at one input. -/
def logIndexedWrong : ChangeSpec := { name := "logIndexed", fn := fun _ => fun
  | [d1, d2] => { results := [.lit (.bool false)], args := [d1, d2] }
  | _ => none }
def LogIndexedWrongFalsely : Prop := logIndexedRow.holds Tryz.pinned (OpenSpec.ofChange logIndexedWrong)

/-- 'tranchelaw12.LogIndexes': WHATEVER THE INPUT: true; the input reads as it did. -/
def logIndexesSpec : ChangeSpec := { name := "logIndexes", fn := fun _ => fun
  | [d1, d2] => { results := [.lit (.bool true)], args := [d1, d2] }
  | _ => none }
def logIndexesRow : OpenClaim := { program := "ytnknihmchmmenaagreat", sum := "52afa6623e0a0b8d88b42f85c0dc8cc3877a621f50ba2873c2082ddefc3232f0", func := "tranche/tranchelaw12.LogIndexes", spec := "logIndexes", inPlace := ["internal/bytealg.IndexByteString"], unfollowed := true, recurses := true, plainKeys := false, apart := false }
def LogIndexesSaid : Prop := logIndexesRow.holds Tryz.pinned (OpenSpec.ofChange logIndexesSpec)

/-- ITS FALSE NEIGHBOUR: 'it returns false'. Refute it at one input. -/
def logIndexesWrong : ChangeSpec := { name := "logIndexes", fn := fun _ => fun
  | [d1, d2] => { results := [.lit (.bool false)], args := [d1, d2] }
  | _ => none }
def LogIndexesWrongFalsely : Prop := logIndexesRow.holds Tryz.pinned (OpenSpec.ofChange logIndexesWrong)

/-- 'tranchelaw12.LogNil': WHATEVER THE INPUT: true; the input reads as it did. -/
def logNilSpec : ChangeSpec := { name := "logNil", fn := fun _ => fun
  | [] => { results := [.lit (.bool true)], args := [] }
  | _ => none }
def logNilRow : OpenClaim := { program := "ytnknihmchmmenaagreat", sum := "52afa6623e0a0b8d88b42f85c0dc8cc3877a621f50ba2873c2082ddefc3232f0", func := "tranche/tranchelaw12.LogNil", spec := "logNil", inPlace := ["internal/bytealg.IndexByteString"], unfollowed := true, recurses := true, plainKeys := false, apart := false }
def LogNilSaid : Prop := logNilRow.holds Tryz.pinned (OpenSpec.ofChange logNilSpec)

/-- ITS FALSE NEIGHBOUR: 'it returns false'. Refute it at one input. -/
def logNilWrong : ChangeSpec := { name := "logNil", fn := fun _ => fun
  | [] => { results := [.lit (.bool false)], args := [] }
  | _ => none }
def LogNilWrongFalsely : Prop := logNilRow.holds Tryz.pinned (OpenSpec.ofChange logNilWrong)

/- THE SECOND FORM. 'bulk': how many values and letters a reading holds, each counted each time it is reached (what is shared counts as often as it is met; a slice's spare places count too). A statement '..UptoSaid' is the law's where the arguments, and the package variables that the reading takes, are together of bulk at most 1048576: NARROWER than '..Said'. Prove '..Said' where nothing that the law and all that it calls make is longer than what came in: it says more and counts as full. Else prove '..UptoSaid'. A law counts once. -/
mutual
def uptoBulk {H : Type} : DataW H → Nat
  | .lit (.string bytes) => bytes.length + 1
  | .lit _ => 1
  | .nil => 1
  | .ptr d => uptoBulk d + 1
  | .slice elems spare => uptoBulkAll elems + uptoBulkAll spare + 1
  | .agg parts => uptoBulkAll parts + 1
  | .iface _ d => uptoBulk d + 1
  | .map entries => uptoBulkEntries entries + 1
  | .held _ => 1
def uptoBulkAll {H : Type} : List (DataW H) → Nat
  | [] => 0
  | d :: r => uptoBulk d + uptoBulkAll r
def uptoBulkEntries {H : Type} : List (Lit × DataW H) → Nat
  | [] => 0
  | x :: r => uptoBulkEntry x + uptoBulkEntries r
def uptoBulkEntry {H : Type} : Lit × DataW H → Nat
  | (.string bytes, d) => bytes.length + uptoBulk d + 1
  | (_, d) => uptoBulk d + 1
 end
def uptoSmall : (H : Type) → List (DataW H) → Bool := fun _ ds => decide (uptoBulkAll ds ≤ 1048576)
def OpenSpec.upto (s : _root_.Go.ChangeSpec) : _root_.Go.OpenSpec := { _root_.Go.OpenSpec.ofChange s with cond := some uptoSmall }

/-- 'tranchelaw12.LogEaches', WHERE WHAT IT READS IS OF BULK AT MOST 1048576: true; the input reads as it did. -/
def logEachesUptoRow : OpenClaim := { program := "ytnknihmchmmenaagreat", sum := "52afa6623e0a0b8d88b42f85c0dc8cc3877a621f50ba2873c2082ddefc3232f0", func := "tranche/tranchelaw12.LogEaches", spec := "logEaches", inPlace := ["internal/bytealg.IndexByteString"], unfollowed := true, recurses := true, plainKeys := false, apart := false, narrowed := true }
def LogEachesUptoSaid : Prop := logEachesUptoRow.holds Tryz.pinned (OpenSpec.upto logEachesSpec)

/-- 'tranchelaw12.LogEntries', WHERE WHAT IT READS IS OF BULK AT MOST 1048576: true; the input reads as it did. -/
def logEntriesUptoRow : OpenClaim := { program := "ytnknihmchmmenaagreat", sum := "52afa6623e0a0b8d88b42f85c0dc8cc3877a621f50ba2873c2082ddefc3232f0", func := "tranche/tranchelaw12.LogEntries", spec := "logEntries", inPlace := ["internal/bytealg.IndexByteString"], unfollowed := true, recurses := true, plainKeys := false, apart := false, narrowed := true }
def LogEntriesUptoSaid : Prop := logEntriesUptoRow.holds Tryz.pinned (OpenSpec.upto logEntriesSpec)

/-- 'tranchelaw12.LogPlays', WHERE WHAT IT READS IS OF BULK AT MOST 1048576: true; the input reads as it did. -/
def logPlaysUptoRow : OpenClaim := { program := "ytnknihmchmmenaagreat", sum := "52afa6623e0a0b8d88b42f85c0dc8cc3877a621f50ba2873c2082ddefc3232f0", func := "tranche/tranchelaw12.LogPlays", spec := "logPlays", inPlace := ["internal/bytealg.IndexByteString"], unfollowed := true, recurses := true, plainKeys := false, apart := false, narrowed := true }
def LogPlaysUptoSaid : Prop := logPlaysUptoRow.holds Tryz.pinned (OpenSpec.upto logPlaysSpec)

/-- 'tranchelaw12.LogLoads', WHERE WHAT IT READS IS OF BULK AT MOST 1048576: true; the input reads as it did. -/
def logLoadsUptoRow : OpenClaim := { program := "ytnknihmchmmenaagreat", sum := "52afa6623e0a0b8d88b42f85c0dc8cc3877a621f50ba2873c2082ddefc3232f0", func := "tranche/tranchelaw12.LogLoads", spec := "logLoads", inPlace := ["internal/bytealg.IndexByteString"], unfollowed := true, recurses := true, plainKeys := false, apart := false, narrowed := true }
def LogLoadsUptoSaid : Prop := logLoadsUptoRow.holds Tryz.pinned (OpenSpec.upto logLoadsSpec)

/-- 'tranchelaw12.LogBack', WHERE WHAT IT READS IS OF BULK AT MOST 1048576: true; the input reads as it did. -/
def logBackUptoRow : OpenClaim := { program := "ytnknihmchmmenaagreat", sum := "52afa6623e0a0b8d88b42f85c0dc8cc3877a621f50ba2873c2082ddefc3232f0", func := "tranche/tranchelaw12.LogBack", spec := "logBack", inPlace := ["internal/bytealg.IndexByteString"], unfollowed := true, recurses := true, plainKeys := false, apart := false, narrowed := true }
def LogBackUptoSaid : Prop := logBackUptoRow.holds Tryz.pinned (OpenSpec.upto logBackSpec)

/-- 'tranchelaw12.LogIndexed', WHERE WHAT IT READS IS OF BULK AT MOST 1048576: true; the input reads as it did. -/
def logIndexedUptoRow : OpenClaim := { program := "ytnknihmchmmenaagreat", sum := "52afa6623e0a0b8d88b42f85c0dc8cc3877a621f50ba2873c2082ddefc3232f0", func := "tranche/tranchelaw12.LogIndexed", spec := "logIndexed", inPlace := ["internal/bytealg.IndexByteString"], unfollowed := true, recurses := true, plainKeys := false, apart := false, narrowed := true }
def LogIndexedUptoSaid : Prop := logIndexedUptoRow.holds Tryz.pinned (OpenSpec.upto logIndexedSpec)

/-- 'tranchelaw12.LogIndexes', WHERE WHAT IT READS IS OF BULK AT MOST 1048576: true; the input reads as it did. -/
def logIndexesUptoRow : OpenClaim := { program := "ytnknihmchmmenaagreat", sum := "52afa6623e0a0b8d88b42f85c0dc8cc3877a621f50ba2873c2082ddefc3232f0", func := "tranche/tranchelaw12.LogIndexes", spec := "logIndexes", inPlace := ["internal/bytealg.IndexByteString"], unfollowed := true, recurses := true, plainKeys := false, apart := false, narrowed := true }
def LogIndexesUptoSaid : Prop := logIndexesUptoRow.holds Tryz.pinned (OpenSpec.upto logIndexesSpec)

/-- 'tranchelaw12.LogNil', WHERE WHAT IT READS IS OF BULK AT MOST 1048576: true; the input reads as it did. -/
def logNilUptoRow : OpenClaim := { program := "ytnknihmchmmenaagreat", sum := "52afa6623e0a0b8d88b42f85c0dc8cc3877a621f50ba2873c2082ddefc3232f0", func := "tranche/tranchelaw12.LogNil", spec := "logNil", inPlace := ["internal/bytealg.IndexByteString"], unfollowed := true, recurses := true, plainKeys := false, apart := false, narrowed := true }
def LogNilUptoSaid : Prop := logNilUptoRow.holds Tryz.pinned (OpenSpec.upto logNilSpec)

end Rows
end Go.Proofs.YtnknihmchmmenaaGreat
