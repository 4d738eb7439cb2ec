/-
  A range over a function whose elements are read in memory, in the round of another: the law.
-/
import Derived.Test.YtnknihmchmmenaaGreatHE
namespace Go.Proofs.YtnknihmchmmenaaGreat
open Go Go.RowKit Go.Deep
set_option linter.unusedVariables false
set_option linter.unusedSimpArgs false

/-- how a round of the inner loop may be left: L is the loop's own block -/
def RoundEndN (L : Nat) (I : Nat → World → Prop) (Ix : Code → Nat → World → Prop) (k : Nat) (W : World) : Exit → Act → World → Prop
  | .normal, _, W' => W'.heap[L]? = W.heap[L]? ∧ I k W'
  | .ret, _, W' => W'.heap[L]? = W.heap[L]? ∧ Ix .ret k W'
  | .exit id, _, W' => W'.heap[L]? = W.heap[L]? ∧ Ix (.exit id) k W'
  | .goto t, _, W' => W'.heap[L]? = W.heap[L]? ∧ Ix (.goto t) k W'
  | _, _, _ => False

theorem wpIn_rangeTN {P : Program} {n : Nat} {g : Operand} {p : Tmp} {assign body : Code} {Q : Exit → Act → World → Prop} {a : Act} {w : World}
    {gf : Nat} {lb : Array Value} (hg : a.eval g = .func (.func gf) #[] lb) (eg : ∀ args w, (callFunc gf args).run P w = .ok (.enter gf args) w)
    (h1 : 1 ≤ n) {l0 : Nat} {r0 : Loop} (hl0 : w.heap[l0]? = some (.loop r0)) (N : Nat) (T : Nat → Array Value → World → Prop) (I : Nat → World → Prop) (Ix : Code → Nat → World → Prop)
    (hT : ∀ k cs W o, w.heap.size < W.heap.size → T k cs W → T k cs (W.putObj w.heap.size o))
    (hIK : ∀ k A C, I k A → Keep No A C → I k C) (hIo : ∀ k W o, w.heap.size < W.heap.size → I k W → I k (W.putObj w.heap.size o)) (hXo : ∀ c k W o, w.heap.size < W.heap.size → Ix c k W → Ix c k (W.putObj w.heap.size o))
    (h0 : ∀ W, Keep No w W → W.heap.size = w.heap.size + 1 → I 0 W)
    (hseq : ∀ (W1 : World) (J Jx : Nat → World → Prop), Keep No w W1 → W1.heap.size = w.heap.size + 1 → (∀ k W, J k W → I k W) → (∀ k A C, J k A → Keep No A C → J k C) →
      (∀ k cs W, k < N → J k W → T k cs W → YieldAt Fence.wide (n - 1 - 1) P w.heap.size #[.agg cs] W fun e W' => (e = .returned (.bool true) ∧ J (k + 1) W') ∨ (e = .returned (.bool false) ∧ Jx (k + 1) W')) →
      J 0 W1 → CallsIn Fence.wide (n - 1) P gf (#[.func (.yield w.heap.size) #[] #[]] ++ lb) W1 fun e W' => (∃ v, e = .returned v) ∧ (J N W' ∨ ∃ k, k ≤ N ∧ Jx k W'))
    (A1 : Array Value → Act → World → Prop)
    (hassign : ∀ (k : Nat) (cs : Array Value) (W : World) (K : Act → World → Prop), I k W → T k cs W → W.heap.size > w.heap.size → (∀ a₁ W', A1 cs a₁ W' → Keep No W W' → K a₁ W') →
      assign.wpIn (Fence.wide.inRound w.heap.size) (n - 1 - 1) P (Exit.then K (fun _ _ _ => False)) { tmps := a.tmps.setIfInBounds p (.agg cs), defers := [] } W)
    (hTK : ∀ k cs A C, T k cs A → Keep No A C → T k cs C)
    (hA1 : ∀ cs a₁ W o, A1 cs a₁ W → w.heap.size < W.heap.size → A1 cs a₁ (W.putObj w.heap.size o))
    (hbody : ∀ (k : Nat) (cs : Array Value) (a₁ : Act) (W : World), k < N → I k W → T k cs W → A1 cs a₁ W → w.heap.size < W.heap.size → body.wpIn (Fence.wide.inRound w.heap.size) (n - 1 - 1) P (RoundEndN w.heap.size I Ix (k + 1) W) a₁ W)
    (hdone : ∀ W, I N W → Q .normal a W)
    (hstop : ∀ c k W, k ≤ N → Ix c k W → c.wpIn (Fence.wide.inRound l0) n P Q a W) :
    (Code.rangeFunc g #[p] assign body).wpIn (Fence.wide.inRound l0) n P Q a w := by
  refine wpIn_rangeFunc fun fn _ => ?_
  obtain ⟨L, hL⟩ : ∃ L, L = w.heap.size := ⟨_, rfl⟩
  obtain ⟨rec, hrec⟩ : ∃ rec : LoopState → Option Code → Loop, rec = fun st pe => { state := st, pending := pe, fn, tmps := a.tmps, params := #[p], assign, body, defers := r0.defers } := ⟨_, rfl⟩
  obtain ⟨W1, hW1⟩ : ∃ W1, w.alloc (.loop (rec .ready none)) = W1 := ⟨_, rfl⟩
  have hK : Keep No w W1 := by rw [← hW1]; exact (Keep.refl No w).alloc _
  have hsz : W1.heap.size = w.heap.size + 1 := by rw [← hW1]; simp
  have hblkL : W1.heap[L]? = some (.loop (rec .ready none)) := by
    rw [← hW1, hL]; exact blk_new w _
  refine ⟨L, [], W1, { target := .fn (.func gf) lb, args := #[.func (.yield L) #[] #[]] }, W1, gf, #[.func (.yield L) #[] #[]] ++ lb, W1, ?_, ?_, fun _ _ => trivial, ?_, fun _ => h1, ?_⟩
  · rw [← hW1, hrec, hL]; exact run_enterLoop_inner hl0 _ _ _ _ _
  · simp only [resolve, hg]
    simp [go_sem]
  · simp [invoke, go_sem, eg]
  · rw [hL]
    refine (hseq W1 (fun k W => I k W ∧ W.heap[L]? = some (.loop (rec .ready none)))
      (fun k W => ∃ c, Ix c k W ∧ W.heap[L]? = some (.loop (rec .done (some c)))) hK hsz (fun k W h => h.1)
      (fun k A C h hk => ⟨hIK k A C h.1 hk, hk.blk h.2 (fun x => x)⟩) ?_ ⟨h0 W1 hK hsz, hblkL⟩).mono ?_
    · rintro k cs W hk ⟨hi, hl⟩ ht
      have hlt : w.heap.size < W.heap.size := by rw [← hL]; exact blk_lt hl
      have hy := run_yield (P := P) (args := #[.agg cs]) hl (by rw [hrec]; rfl)
      rw [hrec] at hy
      rw [← hL]
      refine ⟨fn, _, assign, body, hy, roundIn_of_wpIn trivial ?_⟩
      rw [hL]
      have hz : ((#[p].zip #[Value.agg cs]).foldl (fun tmps (x : Tmp × Value) => match x with | (t, a) => tmps.setIfInBounds t a) a.tmps) = a.tmps.setIfInBounds p (.agg cs) := by simp
      have hgoal := fun K (hK : ∀ a₁ W', A1 cs a₁ W' → Keep No W W' → K a₁ W') => hassign k cs W K hi ht hlt hK
      rw [← hz] at hgoal
      refine hgoal _ fun a₁ W' hA hk' => ?_
      clear hgoal
      rw [← hL]
      have hl' := hk'.blk hl (fun x => x)
      have hlt' : L < W'.heap.size := blk_lt hl'
      refine ⟨_, run_beginRound hl' (by rw [hrec]), ?_⟩
      have hl2 : (W'.putObj L (.loop { rec .ready none with state := .busy })).heap[L]? = some (.loop { rec .ready none with state := .busy }) := World.putObj_heap_same hlt'
      have hlt2 : L < (W'.putObj L (.loop { rec .ready none with state := .busy })).heap.size := blk_lt hl2
      have hfin : ∀ (jump : Option Code) (W3 : World), W3.heap[L]? = (W'.putObj L (.loop { rec .ready none with state := .busy })).heap[L]? →
          (Instr.endRound L jump).run P W3 = .ok (.bool jump.isNone) (W3.putObj L (.loop (rec (if jump.isNone then .ready else .done) jump))) ∧ L < W3.heap.size ∧
          (W3.putObj L (.loop (rec (if jump.isNone then .ready else .done) jump))).heap[L]? = some (.loop (rec (if jump.isNone then .ready else .done) jump)) := fun jump W3 hs => by
        have hl3 := hs.trans hl2
        have hr := run_endRound (P := P) jump hl3
        have hlt3 := blk_lt hl3
        have e : ({ ({ rec .ready none with state := .busy } : Loop) with state := if jump.isNone then .ready else .done, pending := jump } : Loop) = rec (if jump.isNone then .ready else .done) jump := by rw [hrec]
        rw [e] at hr
        exact ⟨hr, hlt3, World.putObj_heap_same hlt3⟩
      subst hL
      refine wpIn_mono (hbody k cs a₁ _ hk (hIo k W' _ hlt' (hIK k W W' hi hk')) (hT k cs W' _ hlt' (hTK k cs W W' ht hk')) (hA1 cs a₁ W' _ hA hlt') hlt2) ?_
      rintro e a3 W3 hp
      cases e with
      | normal =>
        obtain ⟨hs, hi3⟩ := hp
        obtain ⟨hr, h3, hl4⟩ := hfin none W3 hs
        exact ⟨_, _, hr, .inl ⟨rfl, hIo _ _ _ h3 hi3, hl4⟩⟩
      | ret =>
        obtain ⟨hs, hi3⟩ := hp
        obtain ⟨hr, h3, hl4⟩ := hfin (some .ret) W3 hs
        exact ⟨_, _, hr, .inr ⟨rfl, .ret, hXo _ _ _ _ h3 hi3, hl4⟩⟩
      | exit id =>
        obtain ⟨hs, hi3⟩ := hp
        obtain ⟨hr, h3, hl4⟩ := hfin (some (.exit id)) W3 hs
        exact ⟨_, _, hr, .inr ⟨rfl, .exit id, hXo _ _ _ _ h3 hi3, hl4⟩⟩
      | goto t =>
        obtain ⟨hs, hi3⟩ := hp
        obtain ⟨hr, h3, hl4⟩ := hfin (some (.goto t)) W3 hs
        exact ⟨_, _, hr, .inr ⟨rfl, .goto t, hXo _ _ _ _ h3 hi3, hl4⟩⟩
      | panic ch => exact hp.elim
      | outgrown => exact hp.elim
    · rintro e W2 ⟨⟨v, rfl⟩, ⟨hi, hl⟩ | ⟨k, hk, c, hx, hl⟩⟩
      · have hr := run_endLoop (P := P) hl (by rw [hrec]; simp)
        have hlt := blk_lt hl
        subst hL
        exact ⟨_, _, by rw [hrec] at hr; exact hr, hdone _ (hIo _ _ _ hlt hi)⟩
      · have hr := run_endLoop (P := P) hl (by rw [hrec]; simp)
        have hlt := blk_lt hl
        subst hL
        exact ⟨_, _, by rw [hrec] at hr; exact hr, hstop c k _ hk (hXo _ _ _ _ hlt hx)⟩
/-- .. left by one exit alone -/
theorem wpIn_rangeTNx {P : Program} {n : Nat} {g : Operand} {p : Tmp} {assign body : Code} {Q : Exit → Act → World → Prop} {a : Act} {w : World}
    {gf : Nat} {lb : Array Value} (hg : a.eval g = .func (.func gf) #[] lb) (eg : ∀ args w, (callFunc gf args).run P w = .ok (.enter gf args) w)
    (h1 : 1 ≤ n) {l0 : Nat} {r0 : Loop} (hl0 : w.heap[l0]? = some (.loop r0)) (N : Nat) (T : Nat → Array Value → World → Prop) (I : Nat → World → Prop) (id : Nat)
    (hT : ∀ k cs W o, w.heap.size < W.heap.size → T k cs W → T k cs (W.putObj w.heap.size o))
    (hIK : ∀ k A C, I k A → Keep No A C → I k C) (hIo : ∀ k W o, w.heap.size < W.heap.size → I k W → I k (W.putObj w.heap.size o))
    (h0 : ∀ W, Keep No w W → W.heap.size = w.heap.size + 1 → I 0 W)
    (hseq : ∀ (W1 : World) (J Jx : Nat → World → Prop), Keep No w W1 → W1.heap.size = w.heap.size + 1 → (∀ k W, J k W → I k W) → (∀ k A C, J k A → Keep No A C → J k C) →
      (∀ k cs W, k < N → J k W → T k cs W → YieldAt Fence.wide (n - 1 - 1) P w.heap.size #[.agg cs] W fun e W' => (e = .returned (.bool true) ∧ J (k + 1) W') ∨ (e = .returned (.bool false) ∧ Jx (k + 1) W')) →
      J 0 W1 → CallsIn Fence.wide (n - 1) P gf (#[.func (.yield w.heap.size) #[] #[]] ++ lb) W1 fun e W' => (∃ v, e = .returned v) ∧ (J N W' ∨ ∃ k, k ≤ N ∧ Jx k W'))
    (A1 : Array Value → Act → World → Prop)
    (hassign : ∀ (k : Nat) (cs : Array Value) (W : World) (K : Act → World → Prop), I k W → T k cs W → W.heap.size > w.heap.size → (∀ a₁ W', A1 cs a₁ W' → Keep No W W' → K a₁ W') →
      assign.wpIn (Fence.wide.inRound w.heap.size) (n - 1 - 1) P (Exit.then K (fun _ _ _ => False)) { tmps := a.tmps.setIfInBounds p (.agg cs), defers := [] } W)
    (hTK : ∀ k cs A C, T k cs A → Keep No A C → T k cs C)
    (hA1 : ∀ cs a₁ W o, A1 cs a₁ W → w.heap.size < W.heap.size → A1 cs a₁ (W.putObj w.heap.size o))
    (hbody : ∀ (k : Nat) (cs : Array Value) (a₁ : Act) (W : World), k < N → I k W → T k cs W → A1 cs a₁ W → w.heap.size < W.heap.size → body.wpIn (Fence.wide.inRound w.heap.size) (n - 1 - 1) P (RoundEndN w.heap.size I (fun c k W => c = .exit id ∧ I k W) (k + 1) W) a₁ W)
    (hdone : ∀ k W, k ≤ N → I k W → Q .normal a W) (hexit : ∀ W, Q .normal a W → Q (.exit id) a W) :
    (Code.rangeFunc g #[p] assign body).wpIn (Fence.wide.inRound l0) n P Q a w :=
  wpIn_rangeTN hg eg h1 hl0 N T I (fun c k W => c = .exit id ∧ I k W) hT hIK hIo (fun c k W o h hx => ⟨hx.1, hIo k W o h hx.2⟩) h0 hseq A1 hassign hTK hA1 hbody (fun W h => hdone N W (Nat.le_refl _) h) (fun c k W hk hx => by
    obtain ⟨hc, hi⟩ := hx
    subst hc
    exact wpIn_exit (hexit W (hdone k W hk hi)))
/-- the element stands in a block of its own -/
def AtBox (a : Act) (p q : Tmp) (te : TypeId) (lo : Nat) (cs : Array Value) (a₁ : Act) (W : World) : Prop := ∃ E, lo ≤ E ∧ a₁ = { tmps := (a.tmps.setIfInBounds p (.agg cs)).setIfInBounds q (.pointer (some ⟨E, 0, none⟩)), defers := [] } ∧ W.heap[E]? = some (.cells cs te (0, 0))
theorem AtBox.put {a : Act} {p q : Tmp} {te : TypeId} {lo L : Nat} {cs : Array Value} {a₁ : Act} {W : World} (h : AtBox a p q te lo cs a₁ W) (hL : L < lo) (o : Obj) : AtBox a p q te lo cs a₁ (W.putObj L o) := by
  obtain ⟨E, h1, h2, h3⟩ := h
  exact ⟨E, h1, h2, (World.putObj_heap_other (by omega)).trans h3⟩
theorem wpIn_rangeTHq {P : Program} {n : Nat} {g : Operand} {p : Tmp} {assign body : Code} {Q : Exit → Act → World → Prop} {a : Act} {w : World}
    {gf : Nat} {lb : Array Value} (hg : a.eval g = .func (.func gf) #[] lb) (eg : ∀ args w, (callFunc gf args).run P w = .ok (.enter gf args) w)
    (h1 : 1 ≤ n) (N : Nat) (T : Nat → Array Value → World → Prop) (I : Nat → World → Prop) (Ix : Code → Nat → World → Prop)
    (hT : ∀ k cs W o, w.heap.size + 1 < W.heap.size → T k cs W → T k cs (W.putObj (w.heap.size + 1) o))
    (hIK : ∀ k A C, I k A → Keep No A C → I k C) (hIo : ∀ k W o, w.heap.size + 1 < W.heap.size → I k W → I k (W.putObj (w.heap.size + 1) o)) (hXo : ∀ c k W o, w.heap.size + 1 < W.heap.size → Ix c k W → Ix c k (W.putObj (w.heap.size + 1) o))
    (h0 : ∀ W, Keep No w W → W.heap.size = w.heap.size + 2 → I 0 W)
    (hseq : ∀ (W1 : World) (J Jx : Nat → World → Prop), Keep No w W1 → W1.heap.size = w.heap.size + 2 → (∀ k W, J k W → I k W) → (∀ k A C, J k A → Keep No A C → J k C) →
      (∀ k cs W, k < N → J k W → T k cs W → YieldAt Fence.wide (n - 1 - 1) P (w.heap.size + 1) #[.agg cs] W fun e W' => (e = .returned (.bool true) ∧ J (k + 1) W') ∨ (e = .returned (.bool false) ∧ Jx (k + 1) W')) →
      J 0 W1 → CallsIn Fence.wide (n - 1) P gf (#[.func (.yield (w.heap.size + 1)) #[] #[]] ++ lb) W1 fun e W' => (∃ v, e = .returned v) ∧ (J N W' ∨ ∃ k, k ≤ N ∧ Jx k W'))
    (q : Tmp) (te : TypeId)
    (hassign : ∀ (k : Nat) (cs : Array Value) (W : World) (K : Act → World → Prop), I k W → T k cs W → W.heap.size > w.heap.size + 1 → (∀ a₁ W', AtBox a p q te (w.heap.size + 2) cs a₁ W' → Keep No W W' → K a₁ W') →
      assign.wpIn (Fence.wide.inRound (w.heap.size + 1)) (n - 1 - 1) P (Exit.then K (fun _ _ _ => False)) { tmps := a.tmps.setIfInBounds p (.agg cs), defers := [] } W)
    (hTK : ∀ k cs A C, T k cs A → Keep No A C → T k cs C)
    (hbody : ∀ (k : Nat) (cs : Array Value) (a₁ : Act) (W : World), k < N → I k W → T k cs W → AtBox a p q te (w.heap.size + 2) cs a₁ W → w.heap.size + 1 < W.heap.size → (∃ r, W.heap[w.heap.size + 1]? = some (.loop r)) → body.wpIn (Fence.wide.inRound (w.heap.size + 1)) (n - 1 - 1) P (RoundEnd w.heap.size I Ix (k + 1) W) a₁ W)
    (hdone : ∀ W, I N W → W.heap[w.heap.size]? = some (.deferred (some [])) → Q .normal { a with defers := { target := .collected w.heap.size, args := #[] } :: a.defers } W)
    (hstop : ∀ c k W, k ≤ N → Ix c k W → W.heap[w.heap.size]? = some (.deferred (some [])) → c.wpIn Fence.wide n P Q { a with defers := { target := .collected w.heap.size, args := #[] } :: a.defers } W) :
    (Code.rangeFunc g #[p] assign body).wpIn Fence.wide n P Q a w :=
  wpIn_rangeTH hg eg h1 N T I Ix hT hIK hIo hXo h0 hseq (AtBox a p q te (w.heap.size + 2)) hassign hTK (fun cs a₁ W o h _ => h.put (by omega) o) hbody hdone hstop
theorem wpIn_rangeTNq {P : Program} {n : Nat} {g : Operand} {p : Tmp} {assign body : Code} {Q : Exit → Act → World → Prop} {a : Act} {w : World}
    {gf : Nat} {lb : Array Value} (hg : a.eval g = .func (.func gf) #[] lb) (eg : ∀ args w, (callFunc gf args).run P w = .ok (.enter gf args) w)
    (h1 : 1 ≤ n) {l0 : Nat} {r0 : Loop} (hl0 : w.heap[l0]? = some (.loop r0)) (N : Nat) (T : Nat → Array Value → World → Prop) (I : Nat → World → Prop) (id : Nat)
    (hT : ∀ k cs W o, w.heap.size < W.heap.size → T k cs W → T k cs (W.putObj w.heap.size o))
    (hIK : ∀ k A C, I k A → Keep No A C → I k C) (hIo : ∀ k W o, w.heap.size < W.heap.size → I k W → I k (W.putObj w.heap.size o))
    (h0 : ∀ W, Keep No w W → W.heap.size = w.heap.size + 1 → I 0 W)
    (hseq : ∀ (W1 : World) (J Jx : Nat → World → Prop), Keep No w W1 → W1.heap.size = w.heap.size + 1 → (∀ k W, J k W → I k W) → (∀ k A C, J k A → Keep No A C → J k C) →
      (∀ k cs W, k < N → J k W → T k cs W → YieldAt Fence.wide (n - 1 - 1) P w.heap.size #[.agg cs] W fun e W' => (e = .returned (.bool true) ∧ J (k + 1) W') ∨ (e = .returned (.bool false) ∧ Jx (k + 1) W')) →
      J 0 W1 → CallsIn Fence.wide (n - 1) P gf (#[.func (.yield w.heap.size) #[] #[]] ++ lb) W1 fun e W' => (∃ v, e = .returned v) ∧ (J N W' ∨ ∃ k, k ≤ N ∧ Jx k W'))
    (q : Tmp) (te : TypeId)
    (hassign : ∀ (k : Nat) (cs : Array Value) (W : World) (K : Act → World → Prop), I k W → T k cs W → W.heap.size > w.heap.size → (∀ a₁ W', AtBox a p q te (w.heap.size + 1) cs a₁ W' → Keep No W W' → K a₁ W') →
      assign.wpIn (Fence.wide.inRound w.heap.size) (n - 1 - 1) P (Exit.then K (fun _ _ _ => False)) { tmps := a.tmps.setIfInBounds p (.agg cs), defers := [] } W)
    (hTK : ∀ k cs A C, T k cs A → Keep No A C → T k cs C)
    (hbody : ∀ (k : Nat) (cs : Array Value) (a₁ : Act) (W : World), k < N → I k W → T k cs W → AtBox a p q te (w.heap.size + 1) cs a₁ W → w.heap.size < W.heap.size → body.wpIn (Fence.wide.inRound w.heap.size) (n - 1 - 1) P (RoundEndN w.heap.size I (fun c k W => c = .exit id ∧ I k W) (k + 1) W) a₁ W)
    (hdone : ∀ k W, k ≤ N → I k W → Q .normal a W) (hexit : ∀ W, Q .normal a W → Q (.exit id) a W) :
    (Code.rangeFunc g #[p] assign body).wpIn (Fence.wide.inRound l0) n P Q a w :=
  wpIn_rangeTNx hg eg h1 hl0 N T I id hT hIK hIo h0 hseq (AtBox a p q te (w.heap.size + 1)) hassign hTK (fun cs a₁ W o h _ => h.put (by omega) o) hbody hdone hexit
end Go.Proofs.YtnknihmchmmenaaGreat
