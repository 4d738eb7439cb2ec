/-
  Parts of what is proved for this claim; each declaration is one of the seat's texts.
-/
import Derived.Test.YtpjcebajkfeacaaGreatDoorBGA
import Derived.Test.YtpjcebajkfeacaaGreatDoorBGB
import Derived.Test.YtpjcebajkfeacaaGreatDoorBGC
import Derived.Test.YtpjcebajkfeacaaGreatDoorBGD
import Derived.Test.YtpjcebajkfeacaaGreatDoorBGF
import Derived.Test.YtpjcebajkfeacaaGreatDoorBGJ
import Derived.Test.YtpjcebajkfeacaaGreatDoorBGK
import Derived.Test.YtpjcebajkfeacaaGreatDoorBGL
import Derived.Test.YtpjcebajkfeacaaGreatDoorBGU
import Derived.Test.YtpjcebajkfeacaaGreatDoorBGV
import Derived.Test.YtpjcebajkfeacaaGreatDoorBGW
import Derived.Test.YtpjcebajkfeacaaGreatDoorBGX
import Derived.Test.YtpjcebajkfeacaaGreatDoorBHD
import Derived.Test.YtpjcebajkfeacaaGreatDoorBHF
import Derived.Test.YtpjcebajkfeacaaGreatDoorBHL
import Derived.Test.YtpjcebajkfeacaaGreatDoorBHN
import Derived.Test.YtpjcebajkfeacaaGreatDoorBGG
import Derived.Test.YtpjcebajkfeacaaGreatDoorBGI
import Derived.Test.YtpjcebajkfeacaaGreatDoorBGN
import Derived.Test.YtpjcebajkfeacaaGreatDoorBGQ
import Derived.Test.YtpjcebajkfeacaaGreatDoorBHQ
import Derived.WalkKit
import Derived.WalkSpells
import Derived.WalkLawsBesides
import Derived.ProofKit
import Derived.Deep.Slices
import Derived.Deep.AppendSrc
import Derived.Lib.Hide
import Derived.Still
import Derived.StillTactics
import Derived.Recover
import Derived.Defers
import Derived.Deep.QuietTactic
import Derived.BigQuiet
import Derived.Handy
import Derived.Laws.Bits64b
import Derived.Lib.Zigzag
import Derived.OwnWalk
import Derived.Deep.DeepCutAuto
import Derived.Lib.Bytealg
import Derived.Laws.Externs
import Derived.Deep.LoopGhost
import Derived.Laws.CopyRow
import Derived.Laws.IdiomCopy
import Derived.Maps.OwnSet
import Derived.Maps.RangeWalk
import Derived.Shelf.SortM.Plain
import Derived.Shelf.SortM.SortNone
import Derived.Ground.SlgmProg
import Derived.Maps.OwnOps
import Derived.Lib.ItoaNum
import Derived.Lib.Join
import Derived.Shelf.Strconv.Itoa4
import Derived.Shelf.Strings.BuilderK
import Derived.Shelf.Strings.OnBuilder
import Derived.Ground.NamesProg
import Derived.Lib.AppendIntMem
import Derived.Lib.UnsafeStr
import Derived.Deep.WholeRow
import Derived.Maps.Views
set_option linter.unusedVariables false
set_option linter.unusedSimpArgs false
namespace Go.Proofs.YtpjcebajkfeacaaGreatDoor
open Go Go.RowKit Go.Deep
def GivesZ (w : World) (z : Req) (er : Int) (at' : Nat) (e : Ending) (w' : World) : Prop := ∃ az cz, e = .returned (.tuple #[.agg #[.int .i64 z.client, .int .u64 z.token, .string z.name, .slice az z.args.length cz], .int .i64 er, .int .i64 at']) ∧
  RowKit.Hid (Rd requestSh w' (Fr w.heap.size w'.heap.size) [.int .i64 z.client, .int .u64 z.token, .string z.name, .slice az z.args.length cz] z ∧ Keep No w w')
theorem wf_u64q {n : Int} (h0 : 0 ≤ n) (h1 : n < 18446744073709551616) : (Lit.int .u64 n).wf = true := by
  simp [Lit.wf, IntKind.min, IntKind.max, IntKind.signed, IntKind.bits]; omega
theorem givesZ {w : World} {b : Bytes} {z : Req} {er : Int} {at' : Nat} (hA : AllB b) (hz : reqGet b = (z, er, at')) {e : Ending} {w' : World} (h : GivesRQ w (reqGet b) e w') : GivesZ w z er at' e w' := by
  have hok := reqGet_ok hA
  rw [hz] at h hok
  obtain ⟨az, nz, cz, rfl, ho, hk⟩ := h
  have hr := Own.rd ho
  obtain rfl : nz = z.args.length := (vals_len hr).1
  exact ⟨az, cz, rfl, ⟨[.int .i64 z.client], _, rfl, ⟨rfl, wf_i64 hok.1.c0 hok.1.c1⟩, [.int .u64 z.token], _, rfl, ⟨rfl, wf_u64q hok.1.t0 hok.1.t1⟩, [.string z.name], _, rfl, ⟨rfl, by have h2 : ByteArray.size z.2.2.1 ≤ 16 := hok.2.1; rw [maxLen_is]; omega⟩, [.slice az z.args.length cz], [], rfl, hr, rfl⟩, hk⟩
end Go.Proofs.YtpjcebajkfeacaaGreatDoor
namespace Go.Proofs.YtpjcebajkfeacaaGreatDoor
open Go Go.RowKit Go.Deep
theorem vals_bulk : ∀ (l : List Val), l.length ≤ (l.map valueSh.bulk).sum ∧ ∀ i (h : i < l.length), l[i].text.size ≤ (l.map valueSh.bulk).sum
  | [] => ⟨Nat.le_refl _, fun i h => absurd h (by simp)⟩
  | v :: l => by
    obtain ⟨h1, h2⟩ := vals_bulk l
    have e : valueSh.bulk v = (1 + (1 + ((v.text.size + 1) + 0))) + 1 := rfl
    simp only [List.map_cons, List.sum_cons, List.length_cons]
    refine ⟨by omega, fun i hi => ?_⟩
    cases i with
    | zero => show v.text.size ≤ _; omega
    | succ i => have := h2 i (by omega); simp only [List.getElem_cons_succ]; omega
theorem req_small {q : Req} (h : requestSh.bulk q ≤ 1048576) : q.Small := by
  have e : requestSh.bulk q = (1 + (1 + ((q.name.size + 1) + (((q.args.map valueSh.bulk).sum + 1) + 0)))) + 1 := rfl
  obtain ⟨h1, h2⟩ := vals_bulk q.args
  exact ⟨by omega, by omega, fun i hi => by have := h2 i hi; omega⟩
theorem bytes_len (l : Bytes) (h : bytesSh.bulk l ≤ 1048576) : l.length ≤ 1048576 := by
  have e : bytesSh.bulk l = (l.map (Sh.int .u8).bulk).sum + 1 := rfl
  have : ∀ l : Bytes, (l.map (Sh.int .u8).bulk).sum = l.length := fun l => by
    induction l with
    | nil => rfl
    | cons x l ih => simp only [List.map_cons, List.sum_cons, List.length_cons, ih]; show 1 + _ = _; omega
  rw [e, this] at h
  omega
end Go.Proofs.YtpjcebajkfeacaaGreatDoor
