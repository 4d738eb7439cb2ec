/-
  Parts of what is proved for this claim; each declaration is one of the seat's texts.
-/
import Derived.Test.YtcallmnhaikfpaaGreatDoorTGA
import Derived.Test.YtcallmnhaikfpaaGreatDoorTGB
import Derived.Test.YtcallmnhaikfpaaGreatDoorTGC
import Derived.Test.YtcallmnhaikfpaaGreatDoorTGD
import Derived.Test.YtcallmnhaikfpaaGreatDoorTGF
import Derived.Test.YtcallmnhaikfpaaGreatDoorTGJ
import Derived.Test.YtcallmnhaikfpaaGreatDoorTGK
import Derived.Test.YtcallmnhaikfpaaGreatDoorTGS
import Derived.Test.YtcallmnhaikfpaaGreatDoorTGZ
import Derived.Test.YtcallmnhaikfpaaGreatDoorTHA
import Derived.Test.YtcallmnhaikfpaaGreatDoorTHC
import Derived.Test.YtcallmnhaikfpaaGreatDoorTHE
import Derived.RangeFuncNested
import Derived.RangeFuncBound
import Derived.RangeFuncCalls
import Derived.RangeFuncLeaves
import Derived.Shelf.Abstract
import Derived.Shelf.RegionOpen
import Derived.WalkKit
import Derived.OwnWalkIn
import Derived.TacticsInMore
import Derived.LoopNIn
import Derived.LoopIn
import Derived.WalkSpells
import Derived.WalkLawsBesides
import Derived.ProofKit
import Derived.Deep.Slices
import Derived.Deep.AppendSrc
import Derived.Lib.Hide
import Derived.Still
import Derived.StillTactics
import Derived.Recover
import Derived.Defers
import Derived.Deep.QuietTactic
import Derived.BigQuiet
import Derived.Handy
import Derived.Laws.Bits64b
import Derived.Lib.Zigzag
import Derived.OwnWalk
import Derived.Deep.DeepCutAuto
import Derived.Lib.Bytealg
import Derived.Laws.Externs
import Derived.Deep.LoopGhost
import Derived.Laws.CopyRow
import Derived.Laws.IdiomCopy
import Derived.Maps.OwnSet
import Derived.Maps.RangeWalk
import Derived.Shelf.SortM.Plain
import Derived.Shelf.SortM.SortNone
import Derived.Ground.SlgmProg
import Derived.Maps.OwnOps
import Derived.Lib.ConvBytes
import Derived.OrdersIn
set_option linter.unusedVariables false
set_option linter.unusedSimpArgs false
namespace Go.Proofs.YtcallmnhaikfpaaGreatDoor
open Go Go.RowKit Go.Deep
attribute [local go_sem] Oper.semAt_some
structure OutB (w : World) (F : Nat) (A : Nat → Prop) (v : Value) (l : Bytes) (wr : World) : Prop where
  keep : Keep No w wr
  blk : wr.heap[F]? = some (.cells #[v] 55 (0, 0))
  own : Own (.int .u8) 5 wr A v l
  AF : ¬ A F
  Aw : ∀ i, A i → w.heap.size ≤ i ∧ i < wr.heap.size
  Fw : w.heap.size ≤ F
theorem OutB.more {w : World} {F : Nat} {A : Nat → Prop} {v : Value} {l : Bytes} {wr w' : World} (h : OutB w F A v l wr) (hk : Keep No wr w') : OutB w F A v l w' :=
  ⟨h.keep.trans hk, hk.blk h.blk (fun x => x), h.own.agree hk.agreeNo, h.AF, fun i hi => ⟨(h.Aw i hi).1, Nat.lt_of_lt_of_le (h.Aw i hi).2 hk.size⟩, h.Fw⟩
theorem OutB.new1 {w W w6 : World} {v : Value} {l : Bytes} (hk : Keep No w W) (ho : OwnB W w6 v l) : OutB w w6.heap.size (Fr W.heap.size w6.heap.size) v l (w6.alloc (.cells #[v] 55)) := by
  have ka := (Keep.refl No w6).alloc (.cells #[v] 55)
  have h1 := hk.size
  have h2 := ho.2.size
  exact ⟨(hk.trans ho.2).trans ka, blk_new _ _, ho.1.agree ka.agreeNo, fun h => by have := h.2; omega, fun i hi => ⟨by have := hi.1; omega, by have := hi.2; simp; omega⟩, by omega⟩
theorem OutB.new2 {w W w6 : World} {F : Nat} {u v : Value} {l : Bytes} (hk : Keep No w W) (ho : OwnB W w6 v l) (hF : w6.heap[F]? = some (.cells #[u] 55 (0, 0))) (hF1 : F < W.heap.size) (hF2 : w.heap.size ≤ F) : OutB w F (Fr W.heap.size w6.heap.size) v l (w6.setCell ⟨F, 0, none⟩ v) := by
  have ks := keep_set w6 F 0 v
  have h1 := hk.size
  have h2 := ho.2.size
  have hb := blk_set hF 0 v
  exact ⟨(hk.trans ho.2).then ks fun i hi e => by (have : i = F := e; omega), by simpa using hb, ho.1.agree (ks.agree fun i _ hi e => by have : i = F := e; have := hi.1; omega), fun h => by have := h.1; omega, fun i hi => ⟨by have := hi.1; omega, by have := hi.2; simp; omega⟩, hF2⟩
def NoP (Q : Exit → Act → World → Prop) : Exit → Act → World → Prop
  | .normal, a, w => Q .normal a w
  | _, _, _ => False
theorem NoP.normal {Q : Exit → Act → World → Prop} {a : Act} {w : World} (h : Q .normal a w) : NoP Q .normal a w := h
theorem wp_nop {P : Program} {c : Code} {Q : Exit → Act → World → Prop} {a : Act} {w : World} (h : c.wp P (NoP Q) a w) : c.wp P Q a w :=
  wp_mono h fun e a w h => by cases e <;> first | exact h | exact False.elim h
def Lg.head (x : Lg) : Bytes := uintB x.epoch.toNat ++ uintB x.l.length
theorem keep_putNew {w W : World} (h : Keep No w W) {L : Nat} (hL : w.heap.size ≤ L) (o : Obj) : Keep No w (W.putObj L o) :=
  ⟨by simp [World.putObj]; exact h.os, by simp [World.putObj]; exact h.tape, by simp [World.putObj]; exact h.output, by simp [World.putObj]; exact h.size, fun k hk hn => (World.putObj_heap_other (by omega)).trans (h.block k hk hn)⟩
theorem agree_put {S : Nat → Prop} {W : World} {L : Nat} (hL : ¬ S L) (o : Obj) : Agree S W (W.putObj L o) := fun k _ hs => World.putObj_heap_other (fun e => hL (e ▸ hs))
theorem size_put (W : World) (L : Nat) (o : Obj) : (W.putObj L o).heap.size = W.heap.size := by simp [World.putObj]
theorem framed_len {e : Ent} (h : e.err = 0) : e.framed.length ≤ 4010 := by
  have h1 := Ent.bytes_length h
  have h2 := (uintB_length e.bytes.length).2
  unfold Ent.framed
  rw [List.length_append]; omega
theorem framed_all : ∀ (l : List Ent), (∀ e ∈ l, e.err = 0) → (l.flatMap Ent.framed).length ≤ 4010 * l.length
  | [], _ => by simp
  | e :: l, h => by
    have h1 := framed_len (h e List.mem_cons_self)
    have h2 := framed_all l fun e he => h e (List.mem_cons_of_mem _ he)
    rw [List.flatMap_cons, List.length_append, List.length_cons]; omega
theorem ent_array {w : World} {S : Nat → Prop} {cs : Array Value} {e : Ent} (h : Rd entrySh w S cs.toList e) :
    ∃ b1 k1 b2 k2 b3 k3, cs = #[.int .i64 e.seq, .int .i64 e.epoch, .int .i64 e.plan.client, .int .u64 e.plan.token, .string e.plan.name, .slice b1 e.plan.args.length k1, .int .i64 e.plan.how, .slice b2 e.plan.reads.length k2, .slice b3 e.plan.writes.length k3] := by
  obtain ⟨ps, e1, h3, w1, w2⟩ := ent_cells h
  obtain ⟨b1, k1, b2, k2, b3, k3, e3, -⟩ := plan_form h3
  subst e3
  exact ⟨b1, k1, b2, k2, b3, k3, by rw [← Array.toArray_toList (xs := cs), e1]⟩
def EltAt (x : Lg) (D k : Nat) (cs : Array Value) (W : World) : Prop := ∃ hk : k < x.l.length, Rd entrySh W (Up (D + 2)) cs.toList x.l[k]
theorem EltAt.keep {x : Lg} {D k : Nat} {cs : Array Value} {A C : World} (h : EltAt x D k cs A) (hk : Keep No A C) : EltAt x D k cs C := ⟨h.1, h.2.agree _ hk.agreeNo⟩
theorem EltAt.put {x : Lg} {D k : Nat} {cs : Array Value} {W : World} (h : EltAt x D k cs W) (o : Obj) : EltAt x D k cs (W.putObj (D + 1) o) :=
  ⟨h.1, h.2.agree _ (agree_put (fun hu => by have : D + 2 ≤ D + 1 := hu; omega) o)⟩
structure Bet (w : World) (F D : Nat) (x : Lg) (k : Nat) (W : World) : Prop where
  out : ∃ A v, OutB w F A v (x.head ++ (x.l.take k).flatMap Ent.framed) W ∧ ∀ i, A i → i ≠ D ∧ i ≠ D + 1
  low : D + 2 ≤ W.heap.size
  FD : F < D
  wD : w.heap.size ≤ D
theorem Bet.keep {w : World} {F D : Nat} {x : Lg} {k : Nat} {A C : World} (h : Bet w F D x k A) (hk : Keep No A C) : Bet w F D x k C := by
  obtain ⟨⟨R, v, h1, h2⟩, h3, h4, h5⟩ := h
  exact ⟨⟨R, v, h1.more hk, h2⟩, Nat.le_trans h3 hk.size, h4, h5⟩
theorem Bet.put {w : World} {F D : Nat} {x : Lg} {k : Nat} {W : World} (h : Bet w F D x k W) (o : Obj) : Bet w F D x k (W.putObj (D + 1) o) := by
  obtain ⟨⟨R, v, h1, h2⟩, h3, h4, h5⟩ := h
  exact ⟨⟨R, v, ⟨keep_putNew h1.keep (by omega) o, (World.putObj_heap_other (by omega)).trans h1.blk, h1.own.agree (agree_put (fun hR => (h2 _ hR).2 rfl) o), h1.AF, fun i hi => by rw [size_put]; exact h1.Aw i hi, h1.Fw⟩, h2⟩, by rw [size_put]; exact h3, h4, h5⟩
set_option maxRecDepth 10000 in
set_option maxHeartbeats 4000000 in
theorem logBytes_any (w : World) (B : Nat) (S : Nat → Prop) (x : Lg) (h : LogAt 80 w B S x) (hf : x.Few) (hfit : ∀ e ∈ x.l, e.plan.Fit ∧ e.err = 0) (he : 0 ≤ x.epoch) : Calls Tryz.prog 14 #[.pointer (some ⟨B, 0, none⟩)] w (Puts w x.bytes) := by
  have h0 := h
  obtain ⟨ov, SO, h1, h2, h3, h4, h5, h6⟩ := h
  obtain ⟨a1, d1, rfl, _⟩ := h2.form
  have cB := blk_cell h1
  have hB := blk_lt h1
  have f1 : x.epoch ≤ 9223372036854775807 := by have := h5; simp [Lit.wf, IntKind.min, IntKind.max, IntKind.signed, IntKind.bits] at this; omega
  have hl65 := hf.l
  have HH := Lib.hid (And.intro h0 (And.intro hf (And.intro he (And.intro f1 (And.intro h1 (And.intro h2 h4))))))
  clear h0 h2 h3 h4 h5 h6
  refine (callsIn_wide (n := 4)).1 ?_
  refine callsIn_of_wp_marks Tryz.func14 rfl trivial ?_ rfl
  simp only [Tryz.ntmps14, List.size_toArray, List.length_cons, List.length_nil, Nat.reduceAdd, Nat.reduceSub, Array.replicate_succ, Array.replicate_zero, List.push_toArray, List.append_toArray, List.nil_append, List.cons_append]
  refine wpIn_wide.2 ?_
  go_wp2_with fail
  go_cut [3] from 7 to 36 (fun p wx => ∃ F A v, p = .pointer (some ⟨F, 0, none⟩) ∧ RowKit.Hid (OutB w F A v x.head wx))
  case first =>
    refine wp_nop ?_
    refine wp_region_plan (.step 0 (.step 1 (.step 2 (.step 3 (.step 4 (.step 6 (.step 7 (.step 8 (.step 9 (.step 10 (.step 11 (.fork 5 13 (.fork 12 13 (.step 13 (.step 14 .done)) (.step 12 (.step 14 .done))) (.step 5 (.step 12 (.step 14 .done))))))))))))))) [5, 12, 13, 14] [(6, 5), (7, 5), (8, 5), (9, 5), (10, 5), (11, 5), (0, 13), (1, 13), (2, 13), (3, 13), (4, 13), (6, 13), (7, 13), (8, 13), (9, 13), (10, 13), (11, 13)] (by kernel_rfl) (by kernel_rfl) (by kernel_rfl) (by kernel_rfl) (by intro c a d v w h; cases d <;> exact h) ?_
    obtain ⟨h0, hf, he, f1, h1, h2, h4⟩ := HH.out
    have hp1 : ∀ W, Keep No w W → Calls Tryz.prog 35 #[.slice none 0 0, .int .u64 x.epoch] W (fun e w' => ∃ a m c, e = .returned (.slice a m c) ∧ w'.heap[B]? = some (.cells #[.slice a1 x.l.length d1, .int .i64 x.epoch] 80 (0, 0)) ∧ RowKit.Hid (OwnB W w' (.slice a m c) (uintB x.epoch.toNat))) := fun W hk =>
      (PutUint_any W No (.slice none 0 0) [] ⟨none, 0, rfl, by simp, by simp, fun _ => ⟨rfl, rfl⟩, fun i hi => absurd hi (by simp)⟩ x.epoch he (by omega) (by simp)).mono (by
        rintro e w' ⟨a, c, rfl, ho⟩
        exact ⟨a, _, c, rfl, (hk.trans ho.2).blk h1 (fun x => x), ho⟩)
    have hlu := (uintB_length x.epoch.toNat).2
    have hp2 : ∀ W W0 a m c, Keep No w W → Keep No w W0 → OwnB W0 W (.slice a m c) (uintB x.epoch.toNat) → Calls Tryz.prog 35 #[.slice a m c, .int .u64 x.l.length] W (fun e w' => ∃ a m c, e = .returned (.slice a m c) ∧ w'.heap[B]? = some (.cells #[.slice a1 x.l.length d1, .int .i64 x.epoch] 80 (0, 0)) ∧ RowKit.Hid (OwnB W w' (.slice a m c) x.head)) := fun W W0 a m c hk _ ho =>
      (PutUint_any W _ _ _ ho.rd (x.l.length : Int) (by omega) (by omega) (by omega)).mono (by
        rintro e w' ⟨a, c, rfl, ho⟩
        rw [Int.toNat_natCast] at ho
        exact ⟨a, _, c, rfl, (hk.trans ho.2).blk h1 (fun x => x), ho⟩)
    have HP := Lib.hid (And.intro hp1 hp2)
    have hwr : IntKind.u64.wrap x.epoch = x.epoch := by rw [IntKind.wrap_u64]; omega
    have hwl : IntKind.u64.wrap (x.l.length : Int) = (x.l.length : Int) := by rw [IntKind.wrap_u64]; omega
    clear h0 hf he f1 h2 h4 hp1 hp2 hlu
    iterate 11 (refine plan_sil rfl rfl (fun K hK => ?_); go_simp; refine hK _ ?_; clear hK K)
    try rw [hwr]
    try rw [hwl]
    have halw := fun o => blk_cell (blk_alloc (o' := o) (w := w) (HH.out.2.2.2.2.1))
    refine ⟨?_, ?_⟩
    · refine plan_op [6, 7, 8, 9, 10, 11] rfl rfl (fun K hK => ?_)
      go_wp2_with (go_at_call 35; refine (HP.out.1 _ ((Keep.refl No w).drew)).mono ?_; rintro e w5 ⟨a5, m5, c5, rfl, y5, HO5⟩)
      have e5 := blk_cell y5
      refine Mid.normal (hK _ _ ?_ ?_)
      · simp only [List.forall_mem_cons]
        refine ⟨fun _ => ?_, fun _ => ?_, fun _ => ?_, fun _ => ?_, fun _ => ?_, fun _ => ?_, fun _ h => (by cases h)⟩ <;> exact stab_of rfl (fun K hK => by go_simp; exact hK)
      clear hK K
      have K5 : Keep No w w5 := (Keep.refl No w).drew.trans HO5.out.2
      have hal5 := fun o => blk_cell (blk_alloc (o' := o) y5)
      refine ⟨?_, ?_⟩
      · refine plan_op [] rfl rfl (fun K hK => ?_)
        go_wp2_with (go_at_call 35; refine (HP.out.2 _ _ _ _ _ (K5) ((Keep.refl No w).drew) (HO5.out)).mono ?_; rintro e w6 ⟨a6, m6, c6, rfl, y6, HO6⟩)
        have e6 := blk_cell y6
        refine Mid.normal (hK _ _ (fun _ h => (by cases h)) ?_)
        clear hK K
        have hal6 := fun o => blk_cell (blk_alloc (o' := o) y6)
        refine plan_loud [0, 1, 2, 3, 4, 6, 7, 8, 9, 10, 11] rfl rfl rfl (fun K hK => ?_)
        go_wp2_with fail
        refine Mid.normal (hK _ _ ?_ ?_)
        · simp only [List.forall_mem_cons]
          refine ⟨fun _ => ?_, fun _ => ?_, fun _ => ?_, fun _ => ?_, fun _ => ?_, fun _ => ?_, fun _ => ?_, fun _ => ?_, fun _ => ?_, fun _ => ?_, fun _ => ?_, fun _ h => (by cases h)⟩ <;> exact stab_of rfl (fun K hK => by go_simp; exact hK)
        clear hK K
        refine plan_loud [] rfl rfl rfl (fun K hK => ?_)
        go_wp2_with fail
        refine Mid.normal (hK _ _ (fun _ h => (by cases h)) ?_)
        clear hK K
        refine plan_done (NoP.normal ?_)
        go_wp2_with fail
        go_meet
        case rel => exact ⟨_, _, _, rfl, OutB.new1 K5 HO6.out⟩
      · refine plan_op [0, 1, 2, 3, 4, 6, 7, 8, 9, 10, 11] rfl rfl (fun K hK => ?_)
        go_wp2_with fail
        refine Mid.normal (hK _ _ ?_ ?_)
        · simp only [List.forall_mem_cons]
          refine ⟨fun _ => ?_, fun _ => ?_, fun _ => ?_, fun _ => ?_, fun _ => ?_, fun _ => ?_, fun _ => ?_, fun _ => ?_, fun _ => ?_, fun _ => ?_, fun _ => ?_, fun _ h => (by cases h)⟩ <;> exact stab_of rfl (fun K hK => by go_simp; exact hK)
        clear hK K
        refine plan_loud [] rfl rfl rfl (fun K hK => ?_)
        go_wp2_with (go_at_call 35; refine (HP.out.2 _ _ _ _ _ (K5.alloc _) ((Keep.refl No w).drew) (HO5.out.more ((Keep.refl No w5).alloc _))).mono ?_; rintro e w6 ⟨a6, m6, c6, rfl, y6, HO6⟩)
        have z6 := HO6.out.2.blk (blk_new w5 _) (fun x => x)
        have e6 := blk_cell z6
        have g6 := blk_fro z6
        refine Mid.normal (hK _ _ (fun _ h => (by cases h)) ?_)
        clear hK K
        refine plan_loud [] rfl rfl rfl (fun K hK => ?_)
        go_wp2_with fail
        refine Mid.normal (hK _ _ (fun _ h => (by cases h)) ?_)
        clear hK K
        refine plan_done (NoP.normal ?_)
        go_wp2_with fail
        go_meet
        case rel => exact ⟨_, _, _, rfl, OutB.new2 (K5.alloc _) HO6.out z6 (by simp) (by have := K5.size; omega)⟩
    · refine plan_op [0, 1, 2, 3, 4, 6, 7, 8, 9, 10, 11] rfl rfl (fun K hK => ?_)
      go_wp2_with fail
      refine Mid.normal (hK _ _ ?_ ?_)
      · simp only [List.forall_mem_cons]
        refine ⟨fun _ => ?_, fun _ => ?_, fun _ => ?_, fun _ => ?_, fun _ => ?_, fun _ => ?_, fun _ => ?_, fun _ => ?_, fun _ => ?_, fun _ => ?_, fun _ => ?_, fun _ h => (by cases h)⟩ <;> exact stab_of rfl (fun K hK => by go_simp; exact hK)
      clear hK K
      refine plan_loud [6, 7, 8, 9, 10, 11] rfl rfl rfl (fun K hK => ?_)
      go_wp2_with (go_at_call 35; refine (HP.out.1 _ (by first | exact ((Keep.refl No w).alloc _).drew | exact ((Keep.refl No w).drew).alloc _)).mono ?_; rintro e w5 ⟨a5, m5, c5, rfl, y5, HO5⟩; have e5 := blk_cell y5)
      refine Mid.normal (hK _ _ ?_ ?_)
      · simp only [List.forall_mem_cons]
        refine ⟨fun _ => ?_, fun _ => ?_, fun _ => ?_, fun _ => ?_, fun _ => ?_, fun _ => ?_, fun _ h => (by cases h)⟩ <;> exact stab_of rfl (fun K hK => by go_simp; exact hK)
      clear hK K
      have KA : Keep No w ((w.alloc (.cells #[.slice none 0 0] 55)).drew) := ((Keep.refl No w).alloc _).drew
      have K5 : Keep No w w5 := KA.trans HO5.out.2
      have z5 := HO5.out.2.blk ((Keep.refl No _).drew.blk (blk_new w (.cells #[.slice none 0 0] 55)) (fun x => x)) (fun x => x)
      refine plan_loud [] rfl rfl rfl (fun K hK => ?_)
      go_wp2_with (go_at_call 35; refine (HP.out.2 _ _ _ _ _ K5 KA HO5.out).mono ?_; rintro e w6 ⟨a6, m6, c6, rfl, y6, HO6⟩)
      have z6 := HO6.out.2.blk z5 (fun x => x)
      have e6 := blk_cell z6
      have g6 := blk_fro z6
      refine Mid.normal (hK _ _ (fun _ h => (by cases h)) ?_)
      clear hK K
      refine plan_loud [] rfl rfl rfl (fun K hK => ?_)
      go_wp2_with fail
      refine Mid.normal (hK _ _ (fun _ h => (by cases h)) ?_)
      clear hK K
      refine plan_done (NoP.normal ?_)
      go_wp2_with fail
      go_meet
      case rel => exact ⟨_, _, _, rfl, OutB.new2 K5 HO6.out z6 (blk_lt z5) (Nat.le_refl _)⟩
  case rest =>
    obtain ⟨F, A, v, rfl, HO⟩ := hcut
    go_wp2_with (go_at_call 33; refine (logEach_any _ _).mono ?_; rintro e w5 ⟨rfl, rfl⟩)
    refine (wpIn_wide (n := 3)).1 ?_
    have kb := (Keep.refl No wc).alloc (.cells #[.pointer (some ⟨B, 0, none⟩)] 33)
    have yb := blk_new wc (.cells #[.pointer (some ⟨B, 0, none⟩)] 33)
    have HO5 := Lib.hid (HO.out.more kb)
    have hF5 := blk_lt HO.out.blk
    have hs5 : (wc.alloc (.cells #[.pointer (some ⟨B, 0, none⟩)] 33)).heap.size = wc.heap.size + 1 := by simp
    generalize (wc.alloc (.cells #[.pointer (some ⟨B, 0, none⟩)] 33)) = w5 at *
    refine wpIn_rangeT (gf := 60) (lb := #[.pointer (some ⟨wc.heap.size, 0, none⟩)]) rfl (enters_of Tryz.func60 (by kernel_rfl) rfl) (by omega) x.l.length (EltAt x w5.heap.size) (Bet w F w5.heap.size x) (fun _ _ _ => False)
      (fun k cs W o _ h => h.put o) (fun k A C h hk => h.keep hk) (fun k W o _ h => h.put o) (fun _ _ _ _ _ h => h) ?h0 ?hseq
      (fun (cs : Array Value) (a₁ : Act) (W : World) => ∃ E, w5.heap.size + 2 ≤ E ∧ a₁ = { tmps := #[Value.pointer (some ⟨B, 0, none⟩), undef, Value.slice none 0 0, Value.pointer (some ⟨F, 0, none⟩), Value.pointer (some ⟨E, 0, none⟩), undef, undef, u7, u8, u9, u10, u11, u12, u13, u14, u15, u16, u17, u18, u19, u20, u21, Value.pointer (some ⟨B, 0, none⟩), Value.func (Fn.func 60) #[] #[Value.pointer (some ⟨wc.heap.size, 0, none⟩)], Value.agg cs, u25, u26, u27, u28, u29, u30, u31, u32, u33, u34, u35], defers := [] } ∧ W.heap[E]? = some (Obj.cells cs 58 (0, 0))) ?assign (fun k cs A C h hk => h.keep hk) ?hA1 ?body ?done (fun _ _ _ _ h _ => h.elim)
    case h0 =>
      intro W hk hs
      obtain ⟨h1, h2⟩ := And.intro HO5.out hF5
      have hA := fun i hi => (HO.out.Aw i hi).2
      exact ⟨⟨A, v, by simpa using HO5.out.more hk, fun i hi => by have := hA i hi; omega⟩, by omega, by omega, by have := HO5.out.keep.size; omega⟩
    case hseq =>
      intro W1 J Jx hk hs hJI hJK hY hJ0
      obtain ⟨q0, qf, qe, q1, qh, q2, q4⟩ := HH.out
      exact each1_in 2 _ wc.heap.size B S SO x (by omega) a1 d1 qf J Jx W1 (fun k W' h => by
          obtain ⟨⟨A', v', g1, -⟩, -, -, -⟩ := hJI k W' h
          exact q2.rd.agree _ g1.keep.agreeNo) (fun k W' h => by have := (hJI k W' h).low; omega) hJK
        (fun k cs W' hk' hJ hR => hY k cs.toArray W' hk' hJ ⟨hk', by simpa using hR.mono _ (T := Up (w5.heap.size + 2)) fun i _ hi => by have := hi.1; rw [hs] at this; exact this⟩)
        (blk_cell (hk.blk yb (fun x => x)) 0) ((HO5.out.keep.trans hk).blk qh (fun x => x)) hJ0
    case assign =>
      intro k cs W K hI ⟨hkl, hx⟩ hW hK
      obtain ⟨b1, k1, b2, k2, b3, k3, ec⟩ := ent_array hx
      subst ec
      clear hx hI
      generalize x.l[k] = xk at *
      have hK2 := fun a h => hK a (W.alloc (.cells #[.int .i64 xk.seq, .int .i64 xk.epoch, .int .i64 xk.plan.client, .int .u64 xk.plan.token, .string xk.plan.name, .slice b1 xk.plan.args.length k1, .int .i64 xk.plan.how, .slice b2 xk.plan.reads.length k2, .slice b3 xk.plan.writes.length k3] 58)) ⟨W.heap.size, by omega, h, blk_new _ _⟩ ((Keep.refl No W).alloc _)
      clear hK
      gi_wp2
      rfl
    case hA1 =>
      rintro cs a₁ W o ⟨E, hE, ha, hb⟩ hlt
      exact ⟨E, hE, ha, (World.putObj_heap_other (by omega)).trans hb⟩
    case body =>
      rintro k cs a₁ W hk hI ⟨hkl, hx⟩ ⟨E, hE, rfl, hb⟩ hlt
      obtain ⟨hf1, hf2⟩ := hfit _ (List.getElem_mem hk)
      have hput := putEnt_any W _ No (.slice none 0 0) [] ⟨none, 0, rfl, by simp, by simp, fun _ => ⟨rfl, rfl⟩, fun i hi => absurd hi (by simp)⟩ (by simp) cs.toList x.l[k] hx hf1
      rw [if_pos hf2, hf2, List.nil_append] at hput
      obtain ⟨b1, k1, b2, k2, b3, k3, ec⟩ := ent_array hx
      subst ec
      obtain ⟨⟨A', v', g1, g2⟩, g3, g4, g5⟩ := hI
      have hput2 := hput.mono (R' := fun e w' => ∃ a m c, e = .returned (.tuple #[.slice a m c, .int .i64 0]) ∧ RowKit.Hid (OwnB W w' (.slice a m c) x.l[k].bytes)) (by
        rintro e w' ⟨a, m, c, rfl, ho⟩
        exact ⟨a, m, c, rfl, ho⟩)
      have hyy := blk_cell hb
      clear hput hx hb
      gi_wp2
      refine ⟨trivial, (CallsIn.inRound _ (callsIn_wide.2 hput2)).mono ?_⟩
      clear hput2 hyy
      rintro e w6 ⟨a6, m6, c6, rfl, HO6⟩
      have y6 := HO6.out.2.blk g1.blk (fun x => x)
      have e6 := blk_cell y6
      have e6f := blk_fro y6
      have hcv := run_string_back (P := Tryz.prog) 55 9 5 a6 c6 m6 Tryz.underlying55 Tryz.underlying5 Tryz.underlying9 HO6.out.rd
      have HG := Lib.hid (And.intro g1 (And.intro g2 (And.intro g3 (And.intro g4 g5))))
      clear g1 g2 g3 g4 g5
      gi_wp2
      refine wpIn_region_can _ [0, 1, 2, 3, 4, 5] [3, 4, 5] [(0, 3)] (by kernel_rfl) (by kernel_rfl) (by kernel_rfl) (by kernel_rfl) (by kernel_rfl) (by intro c a d v w h; cases d <;> exact h) (by rintro ⟨_, _, h⟩; exact h) ?_
      have hcvd := run_string_back (P := Tryz.prog) (w := w6.drew) 55 9 5 a6 c6 m6 Tryz.underlying55 Tryz.underlying5 Tryz.underlying9 (HO6.out.more (Keep.refl No w6).drew).rd
      clear hcv
      iterate 3 (refine can_sil rfl rfl (fun K hK => ?_); go_simp; refine hK _ ?_; clear hK K)
      have hbl := Ent.bytes_length hf2
      have hpt := (PutText_any w6.drew No (.slice none 0 0) [] ⟨none, 0, rfl, by simp, by simp, fun _ => ⟨rfl, rfl⟩, fun i hi => absurd hi (by simp)⟩ (textOf x.l[k].bytes) (by rw [textOf_size]; simp; omega)).mono (R' := fun e w7 => ∃ a m c, e = .returned (.slice a m c) ∧ w7.heap[F]? = some (.cells #[v'] 55 (0, 0)) ∧ RowKit.Hid (OwnB w6.drew w7 (.slice a m c) x.l[k].framed)) (by
        rintro e w7 ⟨a, c, rfl, ho⟩
        have : textB (textOf x.l[k].bytes) = x.l[k].framed := by unfold textB Ent.framed; rw [textOf_size, bytesOf_textOf (bytes_all HO6.out.rd)]
        rw [List.nil_append, this] at ho
        exact ⟨a, _, c, by rw [List.nil_append, this], ho.2.blk ((Keep.refl No w6).drew.blk y6 (fun x => x)) (fun x => x), ho⟩)
      refine can_loud [0] rfl rfl rfl (fun K hK => ?_)
      go_wp2_with (go_at_call 37; refine hpt.mono ?_; clear hpt; rintro e w7 ⟨a7, m7, c7, rfl, y7, HO7⟩; have e7 := blk_cell y7)
      refine Mid.normal (hK _ _ ?_ ?_)
      · simp only [List.forall_mem_cons]
        refine ⟨?_, stabs_nil⟩ <;> exact stab_of rfl (fun K hK => by go_simp; exact hK)
      clear hK K
      obtain ⟨g1, g2, g3, g4, g5⟩ := HG.out
      have g7 := (g1.more HO6.out.2).more ((Keep.refl No w6).drew.trans HO7.out.2)
      have hlen : (x.head ++ (x.l.take k).flatMap Ent.framed).length + x.l[k].framed.length ≤ 140737488355328 := by
        have l1 := framed_all (x.l.take k) fun e he => (hfit e (List.mem_of_mem_take he)).2
        have l2 := framed_len hf2
        have l3 := (uintB_length x.epoch.toNat).2
        have l4 := (uintB_length x.l.length).2
        have l5 : (x.l.take k).length ≤ k := by simp; omega
        simp only [Lg.head, List.length_append]
        omega
      obtain ⟨a8, m8, c8, w8, hrun, ho8, hk8⟩ := app_sliceA g7.own HO7.out.rd hlen
      have y8 := hk8.blk y7 g7.AF
      refine can_loud [] rfl rfl rfl (fun K hK => ?_)
      refine wpList_app rfl (.tmp 30) (.tmp 33) 55 55 rfl rfl rfl hrun ?_
      have e8 := blk_cell y8
      have e8f := blk_fro y8
      go_wp2_with fail
      refine Mid.normal (hK _ _ stabs_nil ?_)
      clear hK K
      refine can_loud [] rfl rfl rfl (fun K hK => ?_)
      go_wp2_with fail
      refine Mid.normal (hK _ _ stabs_nil ?_)
      clear hK K
      refine can_nil ?_
      have K67 : Keep No W w7 := (HO6.out.2).trans ((Keep.refl No w6).drew.trans HO7.out.2)
      have ks := keep_set w8 F 0 (.slice a8 m8 c8)
      have KW : Keep (fun i => A' i ∨ i = F) W (w8.setCell ⟨F, 0, none⟩ (.slice a8 m8 c8)) := ((K67.mono fun _ _ h => h.elim).then hk8 fun i _ h => .inl h).then ks fun i _ h => .inr h
      have hsz7 := K67.size
      have hsz8 := hk8.size
      have y9 := blk_set y8 0 (.slice a8 m8 c8)
      have hFA := g7.AF
      have hAw := g1.Aw
      have hFw := g1.Fw
      have hout : OutB w F (fun i => (A' i ∨ i = w7.heap.size) ∧ i < w8.heap.size) (.slice a8 m8 c8) (x.head ++ (x.l.take (k + 1)).flatMap Ent.framed) (w8.setCell ⟨F, 0, none⟩ (.slice a8 m8 c8)) := by
        refine ⟨g1.keep.then KW fun i hi h => ?_, by simpa using y9, ?_, fun h => ?_, fun i hi => ⟨?_, by simpa using hi.2⟩, g1.Fw⟩
        · rcases h with h | h
          · have := (hAw i h).1; omega
          · omega
        · rw [List.take_succ_eq_append_getElem hk, List.flatMap_append, ← List.append_assoc]
          have : [x.l[k]].flatMap Ent.framed = x.l[k].framed := by simp
          rw [this]
          exact ho8.agree (ks.agree fun i _ hi e => by
            have : i = F := e
            subst this
            rcases hi.1 with h | h
            · exact hFA h
            · omega)
        · rcases h.1 with h | h
          · exact hFA h
          · omega
        · rcases hi.1 with h | h
          · exact (hAw i h).1
          · omega
      refine ⟨fun b hb => ?_, ⟨_, _, hout, fun i hi => ?_⟩, ?_, g4, g5⟩
      · refine KW.block b (by omega) fun h => ?_
        rcases h with h | h
        · have := g2 b h; omega
        · omega
      · rcases hi.1 with h | h
        · exact g2 i h
        · omega
      · simp; omega
    case done =>
      intro W hI hD
      obtain ⟨⟨A', v', g1, g2⟩, g3, g4, g5⟩ := hI
      rw [List.take_length] at g1
      have c5 := blk_cell g1.blk
      have HB := Lib.hid (And.intro g1 (And.intro g2 (And.intro g3 g5)))
      obtain ⟨a8, m8, c8, rfl⟩ : ∃ a m c, v' = .slice a m c := by obtain ⟨a, c, h, -⟩ := g1.own.form; exact ⟨a, _, c, h⟩
      clear g1 g2 g3 g4 g5
      go_wp2_with fail
      refine ⟨by simp, .inl ⟨_, _, rfl, run_takeDeferred hD, ?_⟩⟩
      refine ⟨_, results_tmp rfl _ _ _, ?_⟩
      obtain ⟨g1, g2, g3, g5⟩ := HB.out
      have ho := (g1.own.agree (agree_put (fun h => (g2 _ h).1 rfl) (.deferred none))).mono (S' := Fr w.heap.size (W.putObj w5.heap.size (.deferred none)).heap.size) fun i hi => ⟨(g1.Aw i hi).1, by rw [size_put]; exact (g1.Aw i hi).2⟩
      exact ⟨_, _, _, rfl, ho, keep_putNew g1.keep g5 _⟩
end Go.Proofs.YtcallmnhaikfpaaGreatDoor
