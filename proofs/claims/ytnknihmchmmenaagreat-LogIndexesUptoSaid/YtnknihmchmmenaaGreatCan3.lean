/-
  A drawn region walked in one order (text Canon), behind a wall: a goal is not looked through, so that steps that are left out cost nothing.
-/
import Derived.Test.YtnknihmchmmenaaGreatGB
namespace Go.Proofs.YtnknihmchmmenaaGreat
open Go Go.RowKit
set_option linter.unusedVariables false
set_option linter.unusedSimpArgs false

section
variable {P : Program} {ops : Array Oper} {Q : Exit → Act → World → Prop}
structure CanW (P : Program) (ops : Array Oper) (Q : Exit → Act → World → Prop) (ll : List Nat) (xs : List (Nat × Nat)) (l : List Nat) (listed : Array Bool) (a : Act) (w : World) : Prop where
  out : wpCan P ops Q (fun i => ll.contains i) (fun i j => xs.contains (i, j)) l listed a w

theorem wp_region_canw {id : Nat} {a : Act} {w : World} (l ll : List Nat) (xs : List (Nat × Nat)) (hm : P.follows .mixedOrders = true) (hs : Region.noSelect ops = true) (hlen : (l.length == ops.size) = true)
    (hok : canOk ops (fun i => ll.contains i) (fun i j => xs.contains (i, j)) (fun i => xs.any fun x => x.1 == i) l (Array.replicate ops.size false) = true) (hQ : ∀ c a d v w, Q (.panic c) (a.put d v) w → Q (.panic c) a w)
    (h : CanW P ops Q ll xs l (Array.replicate ops.size false) a w.drew) : (Code.region id ops true).wp P Q a w :=
  wp_region_can l ll xs hm hs hlen hok hQ h.out
theorem canw_sil {i : Nat} {o : Oper} {rest ll : List Nat} {xs : List (Nat × Nat)} {listed : Array Bool} {a : Act} {w : World} (hi : ops[i]? = some o) (hl : ll.contains i = false)
    (h : ∀ K : Act → Prop, (∀ a, CanW P ops Q ll xs rest (listed.setIfInBounds i true) a w → K a) → if Region.wanted o (yielded ops a.tmps) = true then o.still P a w K else K (a.put o.dst undef)) :
    CanW P ops Q ll xs (i :: rest) listed a w := ⟨can_sil hi hl fun K hK => h K fun a hc => hK a hc.out⟩
theorem canw_loud {i : Nat} {o : Oper} {rest ll : List Nat} {xs : List (Nat × Nat)} {listed : Array Bool} {a : Act} {w : World} (ks : List Nat) (hi : ops[i]? = some o) (hl : ll.contains i = true) (hks : xs.filterMap (fun x => if x.2 = i then some x.1 else none) = ks)
    (h : ∀ K : Act → World → Prop, (∀ a' w', (∀ k ∈ ks, Stab P ops k a' w') → CanW P ops Q ll xs rest (listed.setIfInBounds i true) a' w' → K a' w') → wpList P ops (Mid Q K) [o] a w) :
    CanW P ops Q ll xs (i :: rest) listed a w := ⟨can_loud ks hi hl hks fun K hK => h K fun a' w' hs hc => hK a' w' hs hc.out⟩
theorem canw_nil {ll : List Nat} {xs : List (Nat × Nat)} {listed : Array Bool} {a : Act} {w : World} (h : Q .normal a w) : CanW P ops Q ll xs [] listed a w := ⟨can_nil h⟩
end
end Go.Proofs.YtnknihmchmmenaaGreat
