/-
  Parts of what is proved for this claim; each declaration is one of the seat's texts.
-/
import Derived.Test.YtcallmnhaikfpaaGreatDoorTGA
import Derived.Test.YtcallmnhaikfpaaGreatDoorTGC
import Derived.Test.YtcallmnhaikfpaaGreatDoorTGD
import Derived.Test.YtcallmnhaikfpaaGreatDoorTGE
import Derived.Test.YtcallmnhaikfpaaGreatDoorTGZ
import Derived.Test.YtcallmnhaikfpaaGreatDoorTHA
import Derived.Test.YtcallmnhaikfpaaGreatDoorTHB
import Derived.Test.YtcallmnhaikfpaaGreatDoorTHE
import Derived.Test.YtcallmnhaikfpaaGreatDoorTHF
import Derived.Test.YtcallmnhaikfpaaGreatDoorTHG
import Derived.Still
import Derived.StillTactics
import Derived.WalkKit
import Derived.WalkSpells
import Derived.WalkLawsBesides
import Derived.ProofKit
import Derived.Deep.Slices
import Derived.Deep.AppendSrc
import Derived.Lib.Hide
import Derived.Recover
import Derived.Defers
import Derived.Deep.QuietTactic
import Derived.BigQuiet
import Derived.Handy
import Derived.RangeFuncNested
import Derived.RangeFuncBound
import Derived.RangeFuncCalls
import Derived.RangeFuncLeaves
import Derived.Shelf.Abstract
import Derived.Shelf.RegionOpen
import Derived.OwnWalkIn
import Derived.TacticsInMore
import Derived.LoopNIn
import Derived.LoopIn
import Derived.Laws.Bits64b
import Derived.Lib.Zigzag
import Derived.OwnWalk
import Derived.Deep.DeepCutAuto
import Derived.Lib.Bytealg
import Derived.Laws.Externs
import Derived.Deep.LoopGhost
import Derived.Laws.CopyRow
import Derived.Laws.IdiomCopy
import Derived.Maps.OwnSet
import Derived.Maps.RangeWalk
import Derived.Shelf.SortM.Plain
import Derived.Shelf.SortM.SortNone
import Derived.Ground.SlgmProg
import Derived.Maps.OwnOps
import Derived.Lib.ConvBytes
import Derived.OrdersIn
set_option linter.unusedVariables false
set_option linter.unusedSimpArgs false
namespace Go.Proofs.YtcallmnhaikfpaaGreatDoor
open Go Go.RowKit Go.Deep
theorem rd_block {s : Sh} {w : World} {S : Nat → Prop} {b : Nat} {t : TypeId} {rows : List (List Value)} {l : List s.T} (hb : w.heap[b]? = some (.cells rows.flatten.toArray t (0, 0))) (hS : S b) (hl : rows.length = l.length) (hm : l.length ≤ maxLen)
    (h : ∀ i (h1 : i < rows.length) (h2 : i < l.length), Rd s w S rows[i] l[i]) : Rd (.slice s) w S [.slice (some ⟨b, 0, none⟩) l.length l.length] l := by
  refine ⟨_, _, rfl, Nat.le_refl _, hm, fun h => (by cases h), fun i hi => ⟨b, 0, rows[i], rfl, blk_lt hb, hS, (h i (by omega) hi).length, ?_, h i (by omega) hi⟩⟩
  have hsz : ∀ r ∈ rows, r.length = s.size := fun r hr => by
    obtain ⟨j, hj, rfl⟩ := List.getElem_of_mem hr
    exact (h j hj (by omega)).length
  have := RowAt.ofBlock hb (i * s.size) s.size
  simp only [List.toList_toArray] at this
  rw [flatten_part hsz i (by omega)] at this
  simpa using this
theorem lnum_any (w : World) (e : Int) : Calls Tryz.prog 6 #[.int .i64 e] w fun en w' => en = .returned (.int .i64 e) ∧ w' = w := by
  go_enter Tryz.func6, Tryz.ntmps6
  go_wp2
  go_ret
  exact ⟨rfl, rfl⟩
theorem lplan_any (w : World) (t : Int) (ht : (Lit.int .u64 t).wf = true) : Calls Tryz.prog 18 #[.int .u64 t] w fun e w' => ∃ b, e = .returned (.agg #[.int .i64 1, .int .u64 t, .string ⟨#[112]⟩, .slice none 0 0, .int .i64 2, .slice (some ⟨b, 0, none⟩) 1 1, .slice none 0 0]) ∧
    RowKit.Hid (Rd planSh w' (Fr w.heap.size w'.heap.size) [.int .i64 1, .int .u64 t, .string ⟨#[112]⟩, .slice none 0 0, .int .i64 2, .slice (some ⟨b, 0, none⟩) 1 1, .slice none 0 0] (planP t) ∧ Keep No w w') := by
  go_enter Tryz.func18, Tryz.ntmps18
  go_wp2
  have x0 := blk_new w (.cells #[.int .i64 1, .int .u64 t, .string ⟨#[112]⟩, .slice none 0 0, .int .i64 2, .slice (some ⟨w.heap.size + 1, 0, none⟩) 1 1, .slice none 0 0] 43)
  have K1 := (Keep.refl No w).alloc (.cells #[.int .i64 1, .int .u64 t, .string ⟨#[112]⟩, .slice none 0 0, .int .i64 2, .slice (some ⟨w.heap.size + 1, 0, none⟩) 1 1, .slice none 0 0] 43)
  have hs := World.size_alloc w (.cells #[.int .i64 1, .int .u64 t, .string ⟨#[112]⟩, .slice none 0 0, .int .i64 2, .slice (some ⟨w.heap.size + 1, 0, none⟩) 1 1, .slice none 0 0] 43)
  generalize (w.alloc (.cells #[.int .i64 1, .int .u64 t, .string ⟨#[112]⟩, .slice none 0 0, .int .i64 2, .slice (some ⟨w.heap.size + 1, 0, none⟩) 1 1, .slice none 0 0] 43)) = w1 at *
  have c0 := blk_cell (blk_alloc (o' := .cells #[.string ⟨#[97]⟩] 9) x0)
  have x1 := blk_new w1 (.cells #[.string ⟨#[97]⟩] 9)
  refine bodyPost_ret (v := .agg #[.int .i64 1, .int .u64 t, .string ⟨#[112]⟩, .slice none 0 0, .int .i64 2, .slice (some ⟨w.heap.size + 1, 0, none⟩) 1 1, .slice none 0 0]) (by simp [results, Tryz.results18, go_sem, c0]) rfl ⟨_, rfl, ?_, K1.alloc _⟩
  have hn : ∀ s : Sh, ∀ S, Rd (.slice s) (w1.alloc (.cells #[.string ⟨#[97]⟩] 9)) S [.slice none 0 0] [] := fun s S => ⟨none, 0, rfl, by simp, by simp, fun _ => ⟨rfl, rfl⟩, fun i hi => absurd hi (by simp)⟩
  rw [hs] at x1
  have hrd : Rd (.slice .str) (w1.alloc (.cells #[.string ⟨#[97]⟩] 9)) (Fr w.heap.size (w1.alloc (.cells #[.string ⟨#[97]⟩] 9)).heap.size) [.slice (some ⟨w.heap.size + 1, 0, none⟩) 1 1] [⟨#[97]⟩] := by
    refine rd_block (s := .str) (l := [⟨#[97]⟩]) (rows := [[.string ⟨#[97]⟩]]) x1 ⟨by omega, by simp; omega⟩ rfl (by decide) fun i h1 h2 => ?_
    obtain rfl : i = 0 := by simpa using h1
    exact ⟨rfl, by show (1 : Nat) ≤ maxLen; decide⟩
  exact plan_mk (planP t) (hn _ _) hrd (hn _ _) rfl ht (by show (1 : Nat) ≤ maxLen; decide) rfl
end Go.Proofs.YtcallmnhaikfpaaGreatDoor
namespace Go.Proofs.YtcallmnhaikfpaaGreatDoor
open Go Go.RowKit Go.Deep
def LogIn (w0 : World) (m : Nat) (w : World) (B : Nat) (x : Lg) : Prop := ∃ S : Nat → Prop, LogAt 80 w B S x ∧ (∀ k, S k → w0.heap.size ≤ k ∧ k < m) ∧ Keep No w0 w
theorem LogIn.more {w0 w w' : World} {m B : Nat} {x : Lg} (h : LogIn w0 m w B x) (hk : Keep No w w') : LogIn w0 m w' B x := by
  obtain ⟨S, h1, h2, h3⟩ := h
  exact ⟨S, h1.agree hk.agreeNo hk.size, h2, h3.trans hk⟩
theorem LogIn.keep {w0 w : World} {m B : Nat} {x : Lg} (h : LogIn w0 m w B x) : Keep No w0 w := by
  obtain ⟨S, h1, h2, h3⟩ := h
  exact h3
theorem LogIn.new {w w' : World} (h : LogAt 80 w' w.heap.size (One w.heap.size) lg0) (hk : Keep No w w') (hs : w'.heap.size = w.heap.size + 1) : LogIn w (w.heap.size + 1) w' w.heap.size lg0 :=
  ⟨_, h, fun k hk => by have : k = w.heap.size := hk; omega, hk⟩
theorem logAppend_in {w0 w : World} {m B : Nat} {x : Lg} (h : LogIn w0 m w B x) (hx : x.l.length ≤ 65536) (ep : Int) (hwe : (Lit.int .i64 ep).wf = true) (v : Value) (ps : List Plan) {U : Nat → Prop} (hps : Rd (.slice planSh) w U [v] ps) (hU : ∀ k, U k → m ≤ k)
    (hok : PlansOk ps) (hm : ps.length ≤ 4611686018427387904) :
    Calls Tryz.prog 11 #[.pointer (some ⟨B, 0, none⟩), .int .i64 ep, v] w fun e w' => e = .returned (.tuple #[.int .i64 (x.append ep ps).1.n, .int .i64 (x.append ep ps).1.err, .int .i64 (x.append ep ps).1.at']) ∧ RowKit.Hid (LogIn w0 w'.heap.size w' B (x.append ep ps).2) := by
  obtain ⟨S, h1, h2, h3⟩ := h
  refine (logAppend_any w B S U x h1 hx ep hwe v ps hps (fun k hk hS => by have := hU k hk; have := (h2 k hS).2; omega) hok hm).mono ?_
  rintro e w' ⟨rfl, S', g1, g2, g3⟩
  obtain ⟨ov, SO, -, -, -, -, -, g6⟩ := id g1
  refine ⟨rfl, S', g1, fun k hk => ⟨?_, g6 k hk⟩, h3.then g3 fun k hk hS => by have := (h2 k hS).1; omega⟩
  have := h3.size
  rcases g2 k hk with hS | hS
  · exact (h2 k hS).1
  · omega
theorem planP_fit (t : Int) : (planP t).Fit ∧ (planP t).Few :=
  ⟨⟨by show (1 : Nat) ≤ _; omega, by show (1 + 0 + 1) * 16 ≤ _; omega⟩, ⟨by show (0 : Nat) ≤ _; omega, by show (1 : Nat) ≤ _; omega, by show (0 : Nat) ≤ _; omega⟩⟩
theorem plan0_fit : plan0.Fit ∧ plan0.Few :=
  ⟨⟨by show (0 : Nat) ≤ _; omega, by show (0 + 0 + 1) * 16 ≤ _; omega⟩, ⟨by show (0 : Nat) ≤ _; omega, by show (0 : Nat) ≤ _; omega, by show (0 : Nat) ≤ _; omega⟩⟩
theorem xLive_few : xLive.Few := ⟨by decide, fun e he => by
  simp only [xLive, List.mem_cons, List.not_mem_nil, or_false] at he
  rcases he with rfl | rfl
  · exact (planP_fit 1).2
  · exact (planP_fit 2).2⟩
theorem xLive_fit : ∀ e ∈ xLive.l, e.plan.Fit ∧ e.err = 0 := fun e he => ⟨by
  simp only [xLive, List.mem_cons, List.not_mem_nil, or_false] at he
  rcases he with rfl | rfl
  · exact (planP_fit 1).1
  · exact (planP_fit 2).1, (live_good.ok e he).1⟩
set_option maxRecDepth 10000 in
set_option maxHeartbeats 2000000 in
theorem live_any (w : World) : Calls Tryz.prog 4 #[] w fun e w' => e = .returned (.bool true) ∧ Keep No w w' := by
  go_enter Tryz.func4, Tryz.ntmps4
  go_wp2_with fail
  refine (logNew_any w).mono ?_
  rintro e w1 ⟨rfl, hL1, hk1, hs1⟩
  have HL1 := Lib.hid (And.intro (LogIn.new hL1 hk1 hs1) hs1)
  clear hL1 hk1 hs1
  go_wp2_with fail
  refine (lplan_any w1 1 rfl).mono ?_
  rintro e w2 ⟨b2, rfl, H2⟩
  go_wp2_with fail
  refine (lplan_any w2 2 rfl).mono ?_
  rintro e w3 ⟨b3, rfl, H3⟩
  go_wp2_with fail
  have x4 := blk_new w3 (.cells #[.int .i64 1, .int .u64 1, .string ⟨#[112]⟩, .slice none 0 0, .int .i64 2, .slice (some ⟨b2, 0, none⟩) 1 1, .slice none 0 0, .int .i64 1, .int .u64 2, .string ⟨#[112]⟩, .slice none 0 0, .int .i64 2, .slice (some ⟨b3, 0, none⟩) 1 1, .slice none 0 0] 43)
  have k4 := (Keep.refl No w3).alloc (.cells #[.int .i64 1, .int .u64 1, .string ⟨#[112]⟩, .slice none 0 0, .int .i64 2, .slice (some ⟨b2, 0, none⟩) 1 1, .slice none 0 0, .int .i64 1, .int .u64 2, .string ⟨#[112]⟩, .slice none 0 0, .int .i64 2, .slice (some ⟨b3, 0, none⟩) 1 1, .slice none 0 0] 43)
  have hs1 := HL1.out.2
  have hs2 := H2.out.2.size
  have hs3 := H3.out.2.size
  obtain ⟨b4, hb4⟩ : ∃ b4, w3.heap.size = b4 := ⟨_, rfl⟩
  rw [hb4] at x4 ⊢
  generalize (w3.alloc (.cells #[.int .i64 1, .int .u64 1, .string ⟨#[112]⟩, .slice none 0 0, .int .i64 2, .slice (some ⟨b2, 0, none⟩) 1 1, .slice none 0 0, .int .i64 1, .int .u64 2, .string ⟨#[112]⟩, .slice none 0 0, .int .i64 2, .slice (some ⟨b3, 0, none⟩) 1 1, .slice none 0 0] 43)) = w4 at *
  have hps : Rd (.slice planSh) w4 (Up (w.heap.size + 1)) [.slice (some ⟨b4, 0, none⟩) 2 2] [planP 1, planP 2] := by
    refine rd_block (s := planSh) (l := [planP 1, planP 2]) (rows := [[.int .i64 1, .int .u64 1, .string ⟨#[112]⟩, .slice none 0 0, .int .i64 2, .slice (some ⟨b2, 0, none⟩) 1 1, .slice none 0 0], [.int .i64 1, .int .u64 2, .string ⟨#[112]⟩, .slice none 0 0, .int .i64 2, .slice (some ⟨b3, 0, none⟩) 1 1, .slice none 0 0]]) x4 (by show _ ≤ _; omega) rfl (by show (2 : Nat) ≤ maxLen; decide) fun i h1 h2 => ?_
    have hi : i < 2 := h1
    rcases (show i = 0 ∨ i = 1 by omega) with rfl | rfl
    · exact (H2.out.1.agree _ (H3.out.2.trans k4).agreeNo).mono _ fun k _ hk => by have := hk.1; show _ ≤ _; omega
    · exact (H3.out.1.agree _ k4.agreeNo).mono _ fun k _ hk => by have := hk.1; show _ ≤ _; omega
  have hA := logAppend_in (HL1.out.1.more ((H2.out.2.trans H3.out.2).trans k4)) (by decide) 3 rfl _ _ hps (fun k hk => hk) (fun p hp => by
    simp only [List.mem_cons, List.not_mem_nil, or_false] at hp
    rcases hp with rfl | rfl
    · exact planP_fit 1
    · exact planP_fit 2) (by show (2 : Nat) ≤ _; omega)
  rw [live1] at hA
  clear hps x4 k4 hs1 hs2 hs3 hb4 H2 H3 HL1
  refine hA.mono ?_
  clear hA
  rintro e w5 ⟨rfl, H5⟩
  go_wp2_with fail
  have hB := logAppend_in H5.out (by decide) 2 rfl (.slice none 0 0) [] (U := No) ⟨none, 0, rfl, by simp, by simp, fun _ => ⟨rfl, rfl⟩, fun i hi => absurd hi (by simp)⟩ (fun k hk => hk.elim) (fun p hp => by cases hp) (by simp)
  rw [live2] at hB
  refine hB.mono ?_
  clear hB H5
  rintro e w6 ⟨rfl, H6⟩
  go_wp2_with fail
  refine (lplan_any w6 3 rfl).mono ?_
  rintro e w7 ⟨b7, rfl, H7⟩
  go_wp2_with fail
  have x8 := blk_new w7 (.cells #[.int .i64 1, .int .u64 3, .string ⟨#[112]⟩, .slice none 0 0, .int .i64 2, .slice (some ⟨b7, 0, none⟩) 1 1, .slice none 0 0, .int .i64 0, .int .u64 0, .string ⟨#[]⟩, .slice none 0 0, .int .i64 0, .slice none 0 0, .slice none 0 0] 43)
  have k8 := (Keep.refl No w7).alloc (.cells #[.int .i64 1, .int .u64 3, .string ⟨#[112]⟩, .slice none 0 0, .int .i64 2, .slice (some ⟨b7, 0, none⟩) 1 1, .slice none 0 0, .int .i64 0, .int .u64 0, .string ⟨#[]⟩, .slice none 0 0, .int .i64 0, .slice none 0 0, .slice none 0 0] 43)
  have hs7 := H7.out.2.size
  obtain ⟨b8, hb8⟩ : ∃ b8, w7.heap.size = b8 := ⟨_, rfl⟩
  rw [hb8] at x8 ⊢
  generalize (w7.alloc (.cells #[.int .i64 1, .int .u64 3, .string ⟨#[112]⟩, .slice none 0 0, .int .i64 2, .slice (some ⟨b7, 0, none⟩) 1 1, .slice none 0 0, .int .i64 0, .int .u64 0, .string ⟨#[]⟩, .slice none 0 0, .int .i64 0, .slice none 0 0, .slice none 0 0] 43)) = w8 at *
  have hps : Rd (.slice planSh) w8 (Up w6.heap.size) [.slice (some ⟨b8, 0, none⟩) 2 2] [planP 3, plan0] := by
    refine rd_block (s := planSh) (l := [planP 3, plan0]) (rows := [[.int .i64 1, .int .u64 3, .string ⟨#[112]⟩, .slice none 0 0, .int .i64 2, .slice (some ⟨b7, 0, none⟩) 1 1, .slice none 0 0], [.int .i64 0, .int .u64 0, .string ⟨#[]⟩, .slice none 0 0, .int .i64 0, .slice none 0 0, .slice none 0 0]]) x8 (by show _ ≤ _; omega) rfl (by show (2 : Nat) ≤ maxLen; decide) fun i h1 h2 => ?_
    have hi : i < 2 := h1
    rcases (show i = 0 ∨ i = 1 by omega) with rfl | rfl
    · exact (H7.out.1.agree _ k8.agreeNo).mono _ fun k _ hk => hk.1
    · have hn : ∀ s : Sh, Rd (.slice s) w8 (Up w6.heap.size) [.slice none 0 0] [] := fun s => ⟨none, 0, rfl, by simp, by simp, fun _ => ⟨rfl, rfl⟩, fun i hi => absurd hi (by simp)⟩
      exact plan_mk plan0 (hn _) (hn _) (hn _) rfl rfl (Nat.zero_le _) rfl
  have hC := logAppend_in (H6.out.more (H7.out.2.trans k8)) (by decide) 4 rfl _ _ hps (fun k hk => hk) (fun p hp => by
    simp only [List.mem_cons, List.not_mem_nil, or_false] at hp
    rcases hp with rfl | rfl
    · exact planP_fit 3
    · exact plan0_fit) (by show (2 : Nat) ≤ _; omega)
  rw [live3] at hC
  clear hps x8 k8 hs7 hb8 H6 H7
  refine hC.mono ?_
  clear hC
  rintro e w9 ⟨rfl, H9⟩
  go_wp2_with fail
  obtain ⟨S9, hl9, hS9, hk9⟩ := id H9.out
  have hD := logAt_any w9 _ S9 xLive hl9 xLive_few 1
  have hat : xLive.at' 1 = (mkEnt 1 3 (planP 2), true) := rfl
  rw [hat] at hD
  clear hat hl9 hS9 hk9
  refine hD.mono ?_
  clear hD
  rintro e w10 ⟨cs, rfl, hr10, hk10⟩
  obtain ⟨a1, c1, a2, c2, a3, c3, ec0⟩ := ent_array hr10
  obtain ⟨n3, t5, m1, n7, m2, m3, ec⟩ : ∃ (n3 : Int) (t5 : ByteArray) (m1 : Nat) (n7 : Int) (m2 m3 : Nat), cs = #[.int .i64 1, .int .i64 3, .int .i64 n3, .int .u64 2, .string t5, .slice a1 m1 c1, .int .i64 n7, .slice a2 m2 c2, .slice a3 m3 c3] := ⟨_, _, _, _, _, _, ec0⟩
  clear ec0
  subst ec
  have H10 := Lib.hid (H9.out.more hk10)
  clear hr10 hk10 H9
  go_wp2_with fail
  have x11 := blk_new w10 (.cells #[.int .i64 1, .int .i64 3, .int .i64 n3, .int .u64 2, .string t5, .slice a1 m1 c1, .int .i64 n7, .slice a2 m2 c2, .slice a3 m3 c3] 58)
  have k11 := (Keep.refl No w10).alloc (.cells #[.int .i64 1, .int .i64 3, .int .i64 n3, .int .u64 2, .string t5, .slice a1 m1 c1, .int .i64 n7, .slice a2 m2 c2, .slice a3 m3 c3] 58)
  have H11 := Lib.hid (H10.out.more k11)
  obtain ⟨E, hE⟩ : ∃ E, w10.heap.size = E := ⟨_, rfl⟩
  rw [hE] at x11 ⊢
  generalize (w10.alloc (.cells #[.int .i64 1, .int .i64 3, .int .i64 n3, .int .u64 2, .string t5, .slice a1 m1 c1, .int .i64 n7, .slice a2 m2 c2, .slice a3 m3 c3] 58)) = w11 at *
  obtain ⟨S11, hl11, hS11, hk11⟩ := id H11.out
  have hE1 := logBytes_any w11 _ S11 xLive hl11 xLive_few xLive_fit (by decide)
  clear hl11 hS11 hk11 k11 H10 hE
  refine hE1.mono ?_
  clear hE1
  rintro e w12 ⟨a12, m12, c12, rfl, ho12⟩
  have y12 := ho12.2.blk x11 (fun x => x)
  have H12 := Lib.hid (H11.out.more ho12.2)
  have hld := logLoad_any w12 _ _ _ ho12.rd (of_decide_eq_true (by kernel_rfl))
  rw [live_load] at hld
  clear x11 H11 ho12
  go_wp2_with fail
  refine hld.mono ?_
  clear hld
  rintro e w13 ⟨LB, S13, rfl, hl13, -, hk13⟩
  have y13 := hk13.blk y12 (fun x => x)
  have H13 := Lib.hid (H12.out.more hk13)
  obtain ⟨S14, hl14, hS14, hk14⟩ := id H13.out
  have hlen1 := logLen_any w13 _ S14 xLive hl14
  have hep := logEpoch_any w13 _ S14 xLive hl14
  have hlen2 := logLen_any w13 LB S13 xLive hl13
  have e2 : ((xLive.l.length : Nat) : Int) = 2 := rfl
  have e3 : xLive.epoch = 3 := rfl
  rw [e2] at hlen1 hlen2
  rw [e3] at hep
  have c13 := blk_cell y13
  clear hl14 hS14 hk14 hl13 y12 y13 H12 e2 e3
  go_wp2_with (first | (go_at_call 6; refine (lnum_any _ _).mono ?_; rintro e w20 ⟨rfl, rfl⟩) | (go_at_call 12; first | (refine hlen1.mono ?_; clear hlen1; rintro e w20 ⟨rfl, rfl⟩) | (refine hlen2.mono ?_; clear hlen2; rintro e w20 ⟨rfl, rfl⟩)) | (go_at_call 20; refine hep.mono ?_; clear hep; rintro e w20 ⟨rfl, rfl⟩))
  go_ret
  exact ⟨rfl, H13.out.keep⟩
end Go.Proofs.YtcallmnhaikfpaaGreatDoor
