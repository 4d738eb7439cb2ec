/-
  Parts of what is proved for this claim; each declaration is one of the seat's texts.
-/
import Derived.Test.YtcallmnhaikfpaaGreatDoorTGA
import Derived.Test.YtcallmnhaikfpaaGreatDoorTGC
import Derived.Test.YtcallmnhaikfpaaGreatDoorTGD
import Derived.Test.YtcallmnhaikfpaaGreatDoorTGF
import Derived.Test.YtcallmnhaikfpaaGreatDoorTGI
import Derived.Test.YtcallmnhaikfpaaGreatDoorTGJ
import Derived.Test.YtcallmnhaikfpaaGreatDoorTGK
import Derived.Test.YtcallmnhaikfpaaGreatDoorTHA
import Derived.Test.YtcallmnhaikfpaaGreatDoorTHB
import Derived.RangeFuncNested
import Derived.RangeFuncBound
import Derived.RangeFuncCalls
import Derived.RangeFuncLeaves
import Derived.Shelf.Abstract
import Derived.Shelf.RegionOpen
import Derived.WalkKit
import Derived.OwnWalkIn
import Derived.TacticsInMore
import Derived.LoopNIn
import Derived.LoopIn
import Derived.WalkSpells
import Derived.WalkLawsBesides
import Derived.ProofKit
import Derived.Deep.Slices
import Derived.Deep.AppendSrc
import Derived.Lib.Hide
import Derived.Still
import Derived.StillTactics
import Derived.Recover
import Derived.Defers
import Derived.Deep.QuietTactic
import Derived.BigQuiet
import Derived.Handy
import Derived.Laws.Bits64b
import Derived.Lib.Zigzag
import Derived.OwnWalk
import Derived.Deep.DeepCutAuto
import Derived.Lib.Bytealg
import Derived.Laws.Externs
import Derived.Deep.LoopGhost
import Derived.Laws.CopyRow
import Derived.Laws.IdiomCopy
import Derived.Maps.OwnSet
import Derived.Maps.RangeWalk
import Derived.Shelf.SortM.Plain
import Derived.Shelf.SortM.SortNone
import Derived.Ground.SlgmProg
import Derived.Maps.OwnOps
import Derived.Lib.ConvBytes
set_option linter.unusedVariables false
set_option linter.unusedSimpArgs false
namespace Go.Proofs.YtcallmnhaikfpaaGreatDoor
open Go Go.RowKit Go.Deep
attribute [local go_sem] Oper.semAt_some
theorem logEach_any (w : World) (p : Option Addr) : Calls Tryz.prog 33 #[.pointer p] w fun e w' => e = .returned (.func (.func 60) #[] #[.pointer (some ⟨w.heap.size, 0, none⟩)]) ∧ w' = w.alloc (.cells #[.pointer p] 33) := by
  have hmf : ∀ (fn : Fn) (first cap : Array Value) (w : World), (Instr.makeFunc fn first cap).run Tryz.prog w = .ok (.func fn first cap) w := fun _ _ _ _ => rfl
  go_enter Tryz.func33, Tryz.ntmps33
  go_wp2_with fail
  go_ret
  exact ⟨rfl, rfl⟩
set_option maxRecDepth 10000 in
set_option maxHeartbeats 2000000 in
theorem each1_in (n l Bx B : Nat) (S SO : Nat → Prop) (x : Lg) (hn : 1 ≤ n) (a : Option Addr) (c : Nat) (hf : x.Few) (J Jx : Nat → World → Prop) (W : World)
    (hJr : ∀ k W1, J k W1 → Rd (.slice entrySh) W1 SO [.slice a x.l.length c] x.l)
    (hJs : ∀ k W1, J k W1 → W.heap.size ≤ W1.heap.size)
    (hJK : ∀ k A C, J k A → Keep No A C → J k C)
    (hY : ∀ k cs W1 (hk : k < x.l.length), J k W1 → Rd entrySh W1 (Fr W.heap.size W1.heap.size) cs x.l[k] → YieldAt Fence.wide (n - 1) Tryz.prog l #[.agg cs.toArray] W1 fun e W' =>
      (e = .returned (.bool true) ∧ J (k + 1) W') ∨ (e = .returned (.bool false) ∧ Jx (k + 1) W'))
    (hc : W.cell? ⟨Bx, 0, none⟩ = some (.pointer (some ⟨B, 0, none⟩))) (hB : W.heap[B]? = some (.cells #[.slice a x.l.length c, .int .i64 x.epoch] 80 (0, 0))) (h0 : J 0 W) :
    CallsIn Fence.wide n Tryz.prog 60 #[.func (.yield l) #[] #[], .pointer (some ⟨Bx, 0, none⟩)] W fun e W' => (∃ v, e = .returned v) ∧ (J x.l.length W' ∨ ∃ k, k ≤ x.l.length ∧ Jx k W') := by
  have cB := blk_cell hB
  obtain ⟨a', c', ha, hlc, hcm, -⟩ := id (hJr 0 W h0)
  simp only [List.cons.injEq, Value.slice.injEq, and_true] at ha
  obtain ⟨rfl, -, rfl⟩ := ha
  have hl65 := hf.l
  refine callsIn_of_wp Tryz.func60 rfl trivial ?_ rfl
  simp only [Tryz.ntmps60, List.size_toArray, List.length_cons, List.length_nil, Nat.reduceAdd, Nat.reduceSub, Array.replicate_succ, Array.replicate_zero, List.push_toArray, List.append_toArray, List.nil_append, List.cons_append]
  have q1 : (x.l.length : Int) ≤ (c : Int) := by omega
  have q2 : (0 : Int) ≤ (x.l.length : Int) := by omega
  gi_wp2
  refine wpIn_wide.2 ?_
  go_quiet (fail)
  gi_wp2
  clear cB hB hc
  have HJ0 := Lib.hid (fun m => hJK 0 W _ h0 ((Keep.refl No W).drewN m))
  gi_loopw [23] (fun i wr => ∃ k : Nat, k ≤ x.l.length ∧ i = .int .i64 k ∧ RowKit.Hid (J k wr)) (fun i _ => x.l.length - (intOf i).toNat)
  case atStart => exact ⟨0, Nat.zero_le _, rfl, HJ0.out _⟩
  case round =>
    obtain ⟨k, hk, rfl, HJ⟩ := hrel
    by_cases hlt : k < x.l.length
    · obtain ⟨b, off, a1, c1, a2, c2, a3, c3, rfl, hb, -, hrow, hx⟩ := ents_get (hJr k wr HJ.out) k hlt
      obtain ⟨r0, r1, r2, r3, r4, r5, r6, r7, r8⟩ := row_nine hrow
      have hk1 := (Keep.refl No wr).alloc (.cells #[.int .i64 x.l[k].seq, .int .i64 x.l[k].epoch, .int .i64 x.l[k].plan.client, .int .u64 x.l[k].plan.token, .string x.l[k].plan.name, .slice a1 x.l[k].plan.args.length c1, .int .i64 x.l[k].plan.how, .slice a2 x.l[k].plan.reads.length c2, .slice a3 x.l[k].plan.writes.length c3] 58)
      have ht := told_cells _ SO _ _ (hx.agree _ hk1.agreeNo) (hf.e _ (List.getElem_mem hlt))
      have j0 : (0 : Int) ≤ k := by omega
      have j1 : (k : Int) < x.l.length := by omega
      have j3 : (k : Int) ≤ 9223372036854775806 := by omega
      have HX := Lib.hid (And.intro hlt hk1)
      clear hrow hx hk1 hk
      gi_wp2
      refine ⟨trivial, (callsIn_wide.2 ht).mono ?_⟩
      clear ht
      rintro e w6 ⟨u1, v1, u2, v2, u3, v3, rfl, HT⟩
      obtain ⟨fn, tmps, assign, body, hy, hR⟩ := hY k _ w6 HX.out.1 (hJK _ _ _ HJ.out (HX.out.2.trans HT.out.1)) (HT.out.2.mono _ fun i _ hi => ⟨Nat.le_trans (Nat.le_trans (hJs _ _ HJ.out) HX.out.2.size) hi.1, hi.2⟩)
      gi_wp2
      refine hR.mono ?_
      rintro e W3 (⟨rfl, hJ3⟩ | ⟨rfl, hJ3⟩)
      · gi_wp2
        go_roundw
        case rel => exact ⟨k + 1, HX.out.1, by simp, hJ3⟩
        case measure => simp [intOf]; have := HX.out.1; omega
      · gi_wp2
        refine bodyPost_ret (results_none rfl _ _ _) rfl ?_
        exact ⟨⟨_, rfl⟩, .inr ⟨k + 1, HX.out.1, hJ3⟩⟩
    · obtain rfl : k = x.l.length := by omega
      gi_wp2
      go_end0
      exact ⟨⟨_, rfl⟩, .inl HJ.out⟩
end Go.Proofs.YtcallmnhaikfpaaGreatDoor
namespace Go.Proofs.YtcallmnhaikfpaaGreatDoor
open Go Go.RowKit Go.Deep
def RoundEnd (D : Nat) (I : Nat → World → Prop) (Ix : Code → Nat → World → Prop) (k : Nat) (W : World) : Exit → Act → World → Prop
  | .normal, _, W' => (∀ b, b = D ∨ b = D + 1 → W'.heap[b]? = W.heap[b]?) ∧ I k W'
  | .ret, _, W' => (∀ b, b = D ∨ b = D + 1 → W'.heap[b]? = W.heap[b]?) ∧ Ix .ret k W'
  | .exit id, _, W' => (∀ b, b = D ∨ b = D + 1 → W'.heap[b]? = W.heap[b]?) ∧ Ix (.exit id) k W'
  | .goto t, _, W' => (∀ b, b = D ∨ b = D + 1 → W'.heap[b]? = W.heap[b]?) ∧ Ix (.goto t) k W'
  | _, _, _ => False
theorem wpIn_rangeTH {P : Program} {n : Nat} {g : Operand} {p : Tmp} {assign body : Code} {Q : Exit → Act → World → Prop} {a : Act} {w : World}
    {gf : Nat} {lb : Array Value} (hg : a.eval g = .func (.func gf) #[] lb) (eg : ∀ args w, (callFunc gf args).run P w = .ok (.enter gf args) w)
    (h1 : 1 ≤ n) (N : Nat) (T : Nat → Array Value → World → Prop) (I : Nat → World → Prop) (Ix : Code → Nat → World → Prop)
    (hT : ∀ k cs W o, w.heap.size + 1 < W.heap.size → T k cs W → T k cs (W.putObj (w.heap.size + 1) o))
    (hIK : ∀ k A C, I k A → Keep No A C → I k C) (hIo : ∀ k W o, w.heap.size + 1 < W.heap.size → I k W → I k (W.putObj (w.heap.size + 1) o)) (hXo : ∀ c k W o, w.heap.size + 1 < W.heap.size → Ix c k W → Ix c k (W.putObj (w.heap.size + 1) o))
    (h0 : ∀ W, Keep No w W → W.heap.size = w.heap.size + 2 → I 0 W)
    (hseq : ∀ (W1 : World) (J Jx : Nat → World → Prop), Keep No w W1 → W1.heap.size = w.heap.size + 2 → (∀ k W, J k W → I k W) → (∀ k A C, J k A → Keep No A C → J k C) →
      (∀ k cs W, k < N → J k W → T k cs W → YieldAt Fence.wide (n - 1 - 1) P (w.heap.size + 1) #[.agg cs] W fun e W' => (e = .returned (.bool true) ∧ J (k + 1) W') ∨ (e = .returned (.bool false) ∧ Jx (k + 1) W')) →
      J 0 W1 → CallsIn Fence.wide (n - 1) P gf (#[.func (.yield (w.heap.size + 1)) #[] #[]] ++ lb) W1 fun e W' => (∃ v, e = .returned v) ∧ (J N W' ∨ ∃ k, k ≤ N ∧ Jx k W'))
    (A1 : Array Value → Act → World → Prop)
    (hassign : ∀ (k : Nat) (cs : Array Value) (W : World) (K : Act → World → Prop), I k W → T k cs W → W.heap.size > w.heap.size + 1 → (∀ a₁ W', A1 cs a₁ W' → Keep No W W' → K a₁ W') →
      assign.wpIn (Fence.wide.inRound (w.heap.size + 1)) (n - 1 - 1) P (Exit.then K (fun _ _ _ => False)) { tmps := a.tmps.setIfInBounds p (.agg cs), defers := [] } W)
    (hTK : ∀ k cs A C, T k cs A → Keep No A C → T k cs C)
    (hA1 : ∀ cs a₁ W o, A1 cs a₁ W → w.heap.size + 1 < W.heap.size → A1 cs a₁ (W.putObj (w.heap.size + 1) o))
    (hbody : ∀ (k : Nat) (cs : Array Value) (a₁ : Act) (W : World), k < N → I k W → T k cs W → A1 cs a₁ W → w.heap.size + 1 < W.heap.size → (∃ r, W.heap[w.heap.size + 1]? = some (.loop r)) → body.wpIn (Fence.wide.inRound (w.heap.size + 1)) (n - 1 - 1) P (RoundEnd w.heap.size I Ix (k + 1) W) a₁ W)
    (hdone : ∀ W, I N W → W.heap[w.heap.size]? = some (.deferred (some [])) → Q .normal { a with defers := { target := .collected w.heap.size, args := #[] } :: a.defers } W)
    (hstop : ∀ c k W, k ≤ N → Ix c k W → W.heap[w.heap.size]? = some (.deferred (some [])) → c.wpIn Fence.wide n P Q { a with defers := { target := .collected w.heap.size, args := #[] } :: a.defers } W) :
    (Code.rangeFunc g #[p] assign body).wpIn Fence.wide n P Q a w := by
  refine wpIn_rangeFunc fun fn _ => ?_
  obtain ⟨L, hL⟩ : ∃ L, L = w.heap.size + 1 := ⟨_, rfl⟩
  obtain ⟨rec, hrec⟩ : ∃ rec : LoopState → Option Code → Loop, rec = fun st pe => { state := st, pending := pe, fn, tmps := a.tmps, params := #[p], assign, body, defers := w.heap.size } := ⟨_, rfl⟩
  obtain ⟨W1, hW1⟩ : ∃ W1, (w.alloc (.deferred (some []))).alloc (.loop (rec .ready none)) = W1 := ⟨_, rfl⟩
  have hK : Keep No w W1 := by rw [← hW1]; exact ((Keep.refl No w).alloc _).alloc _
  have hsz : W1.heap.size = w.heap.size + 2 := by rw [← hW1]; simp
  have hblkL : W1.heap[L]? = some (.loop (rec .ready none)) := by
    rw [← hW1, hL]; have := blk_new (w.alloc (.deferred (some []))) (.loop (rec .ready none)); rwa [World.size_alloc] at this
  have hblkD : W1.heap[w.heap.size]? = some (.deferred (some [])) := by rw [← hW1]; exact blk_alloc (blk_new w _)
  refine ⟨L, [{ target := .collected w.heap.size, args := #[] }], W1, { target := .fn (.func gf) lb, args := #[.func (.yield L) #[] #[]] }, W1, gf, #[.func (.yield L) #[] #[]] ++ lb, W1, ?_, ?_, fun _ _ => trivial, ?_, fun _ => h1, ?_⟩
  · rw [← hW1, hrec, hL]; exact run_enterLoop_outer _ _ _ _ _
  · simp only [resolve, hg]
    simp [go_sem]
  · simp [invoke, go_sem, eg]
  · rw [hL]
    refine (hseq W1 (fun k W => I k W ∧ W.heap[L]? = some (.loop (rec .ready none)) ∧ W.heap[w.heap.size]? = some (.deferred (some [])))
      (fun k W => ∃ c, Ix c k W ∧ W.heap[L]? = some (.loop (rec .done (some c))) ∧ W.heap[w.heap.size]? = some (.deferred (some []))) hK hsz (fun k W h => h.1)
      (fun k A C h hk => ⟨hIK k A C h.1 hk, hk.blk h.2.1 (fun x => x), hk.blk h.2.2 (fun x => x)⟩) ?_ ⟨h0 W1 hK hsz, hblkL, hblkD⟩).mono ?_
    · rintro k cs W hk ⟨hi, hl, hd⟩ ht
      have hlt : w.heap.size + 1 < W.heap.size := by rw [← hL]; exact blk_lt hl
      have hy := run_yield (P := P) (args := #[.agg cs]) hl (by rw [hrec]; rfl)
      rw [hrec] at hy
      rw [← hL]
      refine ⟨fn, _, assign, body, hy, roundIn_of_wpIn trivial ?_⟩
      rw [hL]
      have hz : ((#[p].zip #[Value.agg cs]).foldl (fun tmps (x : Tmp × Value) => match x with | (t, a) => tmps.setIfInBounds t a) a.tmps) = a.tmps.setIfInBounds p (.agg cs) := by simp
      have hgoal := fun K (hK : ∀ a₁ W', A1 cs a₁ W' → Keep No W W' → K a₁ W') => hassign k cs W K hi ht hlt hK
      rw [← hz] at hgoal
      refine hgoal _ fun a₁ W' hA hk' => ?_
      clear hgoal
      rw [← hL]
      have hl' := hk'.blk hl (fun x => x)
      have hd' := hk'.blk hd (fun x => x)
      have hlt' : L < W'.heap.size := blk_lt hl'
      refine ⟨_, run_beginRound hl' (by rw [hrec]), ?_⟩
      have hl2 : (W'.putObj L (.loop { rec .ready none with state := .busy })).heap[L]? = some (.loop { rec .ready none with state := .busy }) := World.putObj_heap_same hlt'
      have hd2 : (W'.putObj L (.loop { rec .ready none with state := .busy })).heap[w.heap.size]? = some (.deferred (some [])) := (World.putObj_heap_other (by omega)).trans hd'
      have hlt2 : L < (W'.putObj L (.loop { rec .ready none with state := .busy })).heap.size := blk_lt hl2
      have hfin : ∀ (jump : Option Code) (W3 : World), (∀ b, b = w.heap.size ∨ b = w.heap.size + 1 → W3.heap[b]? = (W'.putObj L (.loop { rec .ready none with state := .busy })).heap[b]?) →
          (Instr.endRound L jump).run P W3 = .ok (.bool jump.isNone) (W3.putObj L (.loop (rec (if jump.isNone then .ready else .done) jump))) ∧ L < W3.heap.size ∧
          (W3.putObj L (.loop (rec (if jump.isNone then .ready else .done) jump))).heap[L]? = some (.loop (rec (if jump.isNone then .ready else .done) jump)) ∧
          (W3.putObj L (.loop (rec (if jump.isNone then .ready else .done) jump))).heap[w.heap.size]? = some (.deferred (some [])) := fun jump W3 hs => by
        have hl3 := hs (w.heap.size + 1) (.inr rfl)
        rw [← hL, hl2] at hl3
        have hd3 := (hs w.heap.size (.inl rfl)).trans hd2
        have hr := run_endRound (P := P) jump hl3
        have hlt3 := blk_lt hl3
        have e : ({ ({ rec .ready none with state := .busy } : Loop) with state := if jump.isNone then .ready else .done, pending := jump } : Loop) = rec (if jump.isNone then .ready else .done) jump := by rw [hrec]
        rw [e] at hr
        exact ⟨hr, hlt3, World.putObj_heap_same hlt3, (World.putObj_heap_other (by omega)).trans hd3⟩
      subst hL
      refine wpIn_mono (hbody k cs a₁ _ hk (hIo k W' _ hlt' (hIK k W W' hi hk')) (hT k cs W' _ hlt' (hTK k cs W W' ht hk')) (hA1 cs a₁ W' _ hA hlt') hlt2 ⟨_, hl2⟩) ?_
      rintro e a3 W3 hp
      cases e with
      | normal =>
        obtain ⟨hs, hi3⟩ := hp
        obtain ⟨hr, h3, hl4, hd4⟩ := hfin none W3 hs
        exact ⟨_, _, hr, .inl ⟨rfl, hIo _ _ _ h3 hi3, hl4, hd4⟩⟩
      | ret =>
        obtain ⟨hs, hi3⟩ := hp
        obtain ⟨hr, h3, hl4, hd4⟩ := hfin (some .ret) W3 hs
        exact ⟨_, _, hr, .inr ⟨rfl, .ret, hXo _ _ _ _ h3 hi3, hl4, hd4⟩⟩
      | exit id =>
        obtain ⟨hs, hi3⟩ := hp
        obtain ⟨hr, h3, hl4, hd4⟩ := hfin (some (.exit id)) W3 hs
        exact ⟨_, _, hr, .inr ⟨rfl, .exit id, hXo _ _ _ _ h3 hi3, hl4, hd4⟩⟩
      | goto t =>
        obtain ⟨hs, hi3⟩ := hp
        obtain ⟨hr, h3, hl4, hd4⟩ := hfin (some (.goto t)) W3 hs
        exact ⟨_, _, hr, .inr ⟨rfl, .goto t, hXo _ _ _ _ h3 hi3, hl4, hd4⟩⟩
      | panic ch => exact hp.elim
      | outgrown => exact hp.elim
    · rintro e W2 ⟨⟨v, rfl⟩, ⟨hi, hl, hd⟩ | ⟨k, hk, c, hx, hl, hd⟩⟩
      · have hr := run_endLoop (P := P) hl (by rw [hrec]; simp)
        have hlt := blk_lt hl
        subst hL
        exact ⟨_, _, by rw [hrec] at hr; exact hr, hdone _ (hIo _ _ _ hlt hi) ((World.putObj_heap_other (by omega)).trans hd)⟩
      · have hr := run_endLoop (P := P) hl (by rw [hrec]; simp)
        have hlt := blk_lt hl
        subst hL
        exact ⟨_, _, by rw [hrec] at hr; exact hr, hstop c k _ hk (hXo _ _ _ _ hlt hx) ((World.putObj_heap_other (by omega)).trans hd)⟩
theorem wpIn_rangeT {P : Program} {n : Nat} {g : Operand} {p : Tmp} {assign body : Code} {Q : Exit → Act → World → Prop} {a : Act} {w : World}
    {gf : Nat} {lb : Array Value} (hg : a.eval g = .func (.func gf) #[] lb) (eg : ∀ args w, (callFunc gf args).run P w = .ok (.enter gf args) w)
    (h1 : 1 ≤ n) (N : Nat) (T : Nat → Array Value → World → Prop) (I : Nat → World → Prop) (Ix : Code → Nat → World → Prop)
    (hT : ∀ k cs W o, w.heap.size + 1 < W.heap.size → T k cs W → T k cs (W.putObj (w.heap.size + 1) o))
    (hIK : ∀ k A C, I k A → Keep No A C → I k C) (hIo : ∀ k W o, w.heap.size + 1 < W.heap.size → I k W → I k (W.putObj (w.heap.size + 1) o)) (hXo : ∀ c k W o, w.heap.size + 1 < W.heap.size → Ix c k W → Ix c k (W.putObj (w.heap.size + 1) o))
    (h0 : ∀ W, Keep No w W → W.heap.size = w.heap.size + 2 → I 0 W)
    (hseq : ∀ (W1 : World) (J Jx : Nat → World → Prop), Keep No w W1 → W1.heap.size = w.heap.size + 2 → (∀ k W, J k W → I k W) → (∀ k A C, J k A → Keep No A C → J k C) →
      (∀ k cs W, k < N → J k W → T k cs W → YieldAt Fence.wide (n - 1 - 1) P (w.heap.size + 1) #[.agg cs] W fun e W' => (e = .returned (.bool true) ∧ J (k + 1) W') ∨ (e = .returned (.bool false) ∧ Jx (k + 1) W')) →
      J 0 W1 → CallsIn Fence.wide (n - 1) P gf (#[.func (.yield (w.heap.size + 1)) #[] #[]] ++ lb) W1 fun e W' => (∃ v, e = .returned v) ∧ (J N W' ∨ ∃ k, k ≤ N ∧ Jx k W'))
    (A1 : Array Value → Act → World → Prop)
    (hassign : ∀ (k : Nat) (cs : Array Value) (W : World) (K : Act → World → Prop), I k W → T k cs W → W.heap.size > w.heap.size + 1 → (∀ a₁ W', A1 cs a₁ W' → Keep No W W' → K a₁ W') →
      assign.wpIn (Fence.wide.inRound (w.heap.size + 1)) (n - 1 - 1) P (Exit.then K (fun _ _ _ => False)) { tmps := a.tmps.setIfInBounds p (.agg cs), defers := [] } W)
    (hTK : ∀ k cs A C, T k cs A → Keep No A C → T k cs C)
    (hA1 : ∀ cs a₁ W o, A1 cs a₁ W → w.heap.size + 1 < W.heap.size → A1 cs a₁ (W.putObj (w.heap.size + 1) o))
    (hbody : ∀ (k : Nat) (cs : Array Value) (a₁ : Act) (W : World), k < N → I k W → T k cs W → A1 cs a₁ W → w.heap.size + 1 < W.heap.size → body.wpIn (Fence.wide.inRound (w.heap.size + 1)) (n - 1 - 1) P (RoundEnd w.heap.size I Ix (k + 1) W) a₁ W)
    (hdone : ∀ W, I N W → W.heap[w.heap.size]? = some (.deferred (some [])) → Q .normal { a with defers := { target := .collected w.heap.size, args := #[] } :: a.defers } W)
    (hstop : ∀ c k W, k ≤ N → Ix c k W → W.heap[w.heap.size]? = some (.deferred (some [])) → c.wpIn Fence.wide n P Q { a with defers := { target := .collected w.heap.size, args := #[] } :: a.defers } W) :
    (Code.rangeFunc g #[p] assign body).wpIn Fence.wide n P Q a w :=
  wpIn_rangeTH hg eg h1 N T I Ix hT hIK hIo hXo h0 hseq A1 hassign hTK hA1 (fun k cs a₁ W h1 h2 h3 h4 h5 _ => hbody k cs a₁ W h1 h2 h3 h4 h5) hdone hstop
end Go.Proofs.YtcallmnhaikfpaaGreatDoor
namespace Go.Proofs.YtcallmnhaikfpaaGreatDoor
open Go Go.RowKit Go.Deep
theorem app_sliceA {w : World} {A : Nat → Prop} {v : Value} {l : Bytes} (h : Own (.int .u8) 5 w A v l) {S : Nat → Prop} {u : Value} {xs : Bytes} (hr : Rd bytesSh w S [u] xs) (hl : l.length + xs.length ≤ 140737488355328) :
    ∃ a m c w', (Builtin.append_ #[55, 55] 55 #[v, u]).run Tryz.prog w = .ok (.slice a m c) w' ∧ Own (.int .u8) 5 w' (fun i => (A i ∨ i = w.heap.size) ∧ i < w'.heap.size) (.slice a m c) (l ++ xs) ∧ Keep A w w' := by
  obtain ⟨i0, hi, hz0, hz1, hz2⟩ := info_parts Tryz.infoByte
  obtain ⟨rows0, hrl, hrr, hsrc⟩ := Rd.rows hr
  have hs := hsrc Tryz.prog 55 5 Tryz.underlying55 w (Agree.refl _ _)
  have e : rows0.flatten = xs.map (Value.int .u8) := by
    have : rows0 = xs.map fun x => [Value.int .u8 x] := by
      apply List.ext_getElem (by simp [hrl])
      intro i h1 h2
      have := hrr i h1 (by simpa using h2)
      rw [List.getElem_map]
      exact this.1
    rw [this, flat_flatten]
  rw [e, hrl] at hs
  have hx := bytes_all hr
  obtain ⟨g, rows, T, h1, h2, h3, h4, h5⟩ := h
  have hxr := flat_flatten xs
  obtain ⟨a, c, w', g', hr', ho', hg', hk', hsz⟩ := own_append h1 55 55 55 i0 _ 1 Tryz.underlying55 hi hz0 hz1 hz2 rfl (x := u) (news := xs.map fun x => [Value.int .u8 x]) (by
    rw [List.length_map, hxr]; exact hs) (fun r hr => by obtain ⟨y, -, rfl⟩ := List.mem_map.1 hr; rfl) (by rw [List.length_map, h2]; omega) (by rw [List.length_map, h2]; omega)
  rw [List.length_map, h2] at hr' ho'
  refine ⟨a, _, c, w', hr', ⟨g', rows ++ xs.map (fun x => [Value.int .u8 x]), No, ho', by simp [h2], fun i hi hi' => ?_, fun b hb => ⟨?_, fun x => x⟩, fun _ x => x.elim⟩, hk'.mono fun i _ hg => (h4 i hg).1⟩
  · by_cases hlt : i < rows.length
    · rw [List.getElem_append_left hlt, List.getElem_append_left (by omega)]
      exact Rd.ofFlat _ rfl (h3 i hlt (by omega))
    · simp only [List.length_append, List.length_map] at hi hi'
      have e1 : (rows ++ xs.map fun x => [Value.int .u8 x])[i]'(by simp; omega) = (xs.map fun x => [Value.int .u8 x])[i - rows.length]'(by simp; omega) := List.getElem_append_right (by omega)
      have e2 : (l ++ xs)[i]'(by simp; omega) = xs[i - l.length]'(by omega) := List.getElem_append_right (by omega)
      rw [e1, e2]
      have e3 : xs[i - l.length]'(by omega) = xs[i - rows.length]'(by omega) := by simp only [h2]
      rw [e3]
      exact flat_rows xs hx _ _ _
  · have hlt := ho'.lt hb
    rcases hg' with rfl | rfl
    · exact ⟨.inl (h4 b hb).1, hlt⟩
    · cases hb; exact ⟨.inr rfl, hlt⟩
end Go.Proofs.YtcallmnhaikfpaaGreatDoor
