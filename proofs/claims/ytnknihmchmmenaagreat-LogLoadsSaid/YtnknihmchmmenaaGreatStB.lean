/-
  Does a log tell what the document's does: it does.
-/
import Derived.Test.YtnknihmchmmenaaGreatStC
import Derived.Test.YtnknihmchmmenaaGreatHL
namespace Go.Proofs.YtnknihmchmmenaaGreat
open Go Go.RowKit Go.Deep
set_option linter.unusedVariables false
set_option linter.unusedSimpArgs false

attribute [local go_sem] Oper.semAt_some

/-- ahead of the range: what the iterator holds, and the number of rounds -/
structure AtEach (w : World) (LB WB b3 b4 : Nat) (S T : Nat → Prop) (x : Lg) (m Bx Bn : Nat) (wr : World) : Prop where
  st : StAt w LB WB b3 b4 S T x wr
  it : wr.heap[Bx]? = some (.cells #[.pointer (some ⟨LB, 0, none⟩)] 23 (0, 0))
  nn : wr.heap[Bn]? = some (.cells #[.int .i64 0] 3 (0, 0))
  mx : m ≤ Bx
  xn : Bx < Bn
  lt : Bn < wr.heap.size
/-- between two rounds -/
structure BetE (w : World) (LB WB b3 b4 : Nat) (S T : Nat → Prop) (x : Lg) (Bn D k : Nat) (W : World) : Prop where
  st : StAt w LB WB b3 b4 S T x W
  nn : W.heap[Bn]? = some (.cells #[.int .i64 k] 3 (0, 0))
  low : D + 2 ≤ W.heap.size
theorem BetE.keep {w : World} {LB WB b3 b4 : Nat} {S T : Nat → Prop} {x : Lg} {Bn D k : Nat} {A C : World} (h : BetE w LB WB b3 b4 S T x Bn D k A) (hk : Keep No A C) : BetE w LB WB b3 b4 S T x Bn D k C :=
  ⟨h.st.more hk, hk.blk h.nn (fun x => x), Nat.le_trans h.low hk.size⟩
/-- the loop's own block turns -/
structure Apart (w : World) (b3 b4 : Nat) (S T : Nat → Prop) (Bn D : Nat) : Prop where
  b4 : b4 < D
  b3 : b3 < D
  n : Bn < D
  w : w.heap.size ≤ D
  S : ∀ k, S k → k < D
  T : ∀ k, T k → k < D
theorem BetE.put {w : World} {LB WB b3 b4 : Nat} {S T : Nat → Prop} {x : Lg} {Bn D k : Nat} {W : World} (h : BetE w LB WB b3 b4 S T x Bn D k W) (hA : Apart w b3 b4 S T Bn D) (o : Obj) : BetE w LB WB b3 b4 S T x Bn D k (W.putObj (D + 1) o) := by
  have h1 := hA.b3
  have h2 := hA.b4
  have h3 := hA.n
  have h4 := hA.w
  have hs := h.st
  refine ⟨⟨keep_putNew hs.keep (by omega) o, (World.putObj_heap_other (by omega)).trans hs.k3, (World.putObj_heap_other (by omega)).trans hs.k4, hs.l1.agree (agree_put (fun hh => by have := hA.S _ hh; omega) o) (by rw [size_put]; exact Nat.le_refl _), hs.l2.agree (agree_put (fun hh => by have := hA.T _ hh; omega) o) (by rw [size_put]; exact Nat.le_refl _), hs.w3, hs.w4, hs.m3⟩, (World.putObj_heap_other (by omega)).trans h.nn, by rw [size_put]; exact h.low⟩

set_option maxRecDepth 10000 in
set_option maxHeartbeats 8000000 in
theorem stands_any (w : World) (LB WB : Nat) (S T : Nat → Prop) (x : Lg) (h1 : LogAt 117 w LB S x) (h2 : LogAt 43 w WB T x) (hg : x.Good) :
    Calls Tryz.prog 38 #[.pointer (some ⟨LB, 0, none⟩), .pointer (some ⟨WB, 0, none⟩)] w fun e w' => e = .returned (.bool true) ∧ Keep No w w' := by
  have hSw : ∀ k, S k → k < w.heap.size := by obtain ⟨ov, SO, -, -, -, -, -, h6⟩ := h1; exact h6
  have hTw : ∀ k, T k → k < w.heap.size := by obtain ⟨ov, SO, -, -, -, -, -, h6⟩ := h2; exact h6
  have HH := Lib.hid (And.intro h1 (And.intro h2 (And.intro hg (And.intro hSw hTw))))
  have hl65 := hg.len
  clear h1 h2 hg hSw hTw
  refine (callsIn_wide (n := 4)).1 ?_
  refine callsIn_of_wp_marks Tryz.func38 rfl trivial ?_ rfl
  simp only [Tryz.ntmps38, List.size_toArray, List.length_cons, List.length_nil, Nat.reduceAdd, Nat.reduceSub, Array.replicate_succ, Array.replicate_zero, List.push_toArray, List.append_toArray, List.nil_append, List.cons_append]
  refine wpIn_wide.2 ?_
  go_wp2_with fail
  have HS0 : RowKit.Hid (StAt w LB WB w.heap.size (w.heap.size + 1) S T x ((w.alloc (.cells #[.pointer (some ⟨WB, 0, none⟩)] 24)).alloc (.cells #[.bool false] 4))) := by
    obtain ⟨h1, h2, hg, hSw, hTw⟩ := HH.out
    have k1 := (Keep.refl No w).alloc (.cells #[.pointer (some ⟨WB, 0, none⟩)] 24)
    have k2 := k1.alloc (.cells #[.bool false] 4)
    have hn := blk_new (w.alloc (.cells #[.pointer (some ⟨WB, 0, none⟩)] 24)) (.cells #[.bool false] 4)
    rw [World.size_alloc] at hn
    exact ⟨k2, blk_alloc (blk_new w _), hn, h1.agree k2.agreeNo k2.size, h2.agree k2.agreeNo k2.size, Nat.le_refl _, Nat.le_succ _, Nat.lt_succ_self _⟩
  have hb4 : (w.alloc (.cells #[.pointer (some ⟨WB, 0, none⟩)] 24)).heap.size = w.heap.size + 1 := by simp
  generalize ((w.alloc (.cells #[.pointer (some ⟨WB, 0, none⟩)] 24)).alloc (.cells #[.bool false] 4)) = w2 at *
  try rw [hb4]
  clear hb4
  generalize hb3 : w.heap.size = b3 at *
  generalize hb4 : b3 + 1 = b4 at *
  have HB := Lib.hid (And.intro hb3 hb4)
  clear hb3 hb4
  have hHS : RowKit.Hid (x.Few ∧ (∀ e ∈ x.l, e.plan.Fit ∧ e.err = 0) ∧ 0 ≤ x.epoch ∧ x.bytes.length ≤ 140737488355328) := ⟨HH.out.2.2.1.few, HH.out.2.2.1.fit, HH.out.2.2.1.ep0, lg_bytes_le HH.out.2.2.1⟩
  have HS1 := Lib.hid (HS0.out.more (Keep.refl No w2).drew)
  refine wp_nop ?_
  refine wp_region_can [0, 2, 3, 4, 5, 6, 1, 7, 8, 9, 11, 12, 13, 14, 10, 15, 16, 17, 18, 20, 19, 21, 22, 23, 24] [1, 10, 19, 21, 22] [(2, 1), (3, 1), (4, 1), (5, 1), (6, 1), (11, 10), (12, 10), (13, 10), (14, 10), (20, 19)] (by kernel_rfl) (by kernel_rfl) (by kernel_rfl) (by kernel_rfl) (by intro c a d v w h; cases d <;> exact h) ?_
  generalize w2.drew = wd at *
  clear HS0
  obtain ⟨aw, cw, hWB, hWR⟩ := HS1.out.cellW
  have cW := blk_cell hWB
  have c3 := blk_cell HS1.out.k3
  have hld := logLen_any wd LB S x HS1.out.l1
  have hed := logEpoch_any wd LB S x HS1.out.l1
  have hby := (logBytes_any wd LB S x HS1.out.l1 hHS.1 hHS.2.1 hHS.2.2.1).mono (R' := fun e w' => ∃ a n c, e = .returned (.slice a n c) ∧ w'.cell? ⟨b3, 0, none⟩ = some (.pointer (some ⟨WB, 0, none⟩)) ∧ RowKit.Hid (Rd bytesSh w' (Fr wd.heap.size w'.heap.size) [.slice a n c] x.bytes ∧ StAt w LB WB b3 b4 S T x w')) (by
    rintro e w' ⟨a, n, c, rfl, ho⟩
    have h' := HS1.out.more ho.2
    exact ⟨a, n, c, rfl, blk_cell h'.k3 0, ho.rd, h'⟩)
  clear hWB hWR
  iterate 6 (refine can_sil rfl rfl (fun K hK => ?_); go_simp; refine hK _ ?_; clear hK K)
  refine can_loud [2, 3, 4, 5, 6] rfl rfl rfl (fun K hK => ?_)
  go_wp2_with (go_at_call 41; refine hld.mono ?_; clear hld; rintro e w5 ⟨rfl, rfl⟩)
  refine Mid.normal (hK _ _ ?_ ?_)
  · simp only [List.forall_mem_cons]
    refine ⟨?_, ?_, ?_, ?_, ?_, stabs_nil⟩ <;> exact stab_of rfl (fun K hK => by go_simp; exact hK)
  clear hK K
  iterate 7 (refine can_sil rfl rfl (fun K hK => ?_); go_simp; refine hK _ ?_; clear hK K)
  refine can_loud [11, 12, 13, 14] rfl rfl rfl (fun K hK => ?_)
  go_wp2_with (go_at_call 15; refine hed.mono ?_; clear hed; rintro e w5 ⟨rfl, rfl⟩)
  refine Mid.normal (hK _ _ ?_ ?_)
  · simp only [List.forall_mem_cons]
    refine ⟨?_, ?_, ?_, ?_, stabs_nil⟩ <;> exact stab_of rfl (fun K hK => by go_simp; exact hK)
  clear hK K
  iterate 5 (refine can_sil rfl rfl (fun K hK => ?_); go_simp; refine hK _ ?_; clear hK K)
  refine can_loud [20] rfl rfl rfl (fun K hK => ?_)
  go_wp2_with (go_at_call 42; refine hby.mono ?_; clear hby; rintro e w5 ⟨a5, n5, c5, rfl, q5, H5⟩)
  refine Mid.normal (hK _ _ ?_ ?_)
  · simp only [List.forall_mem_cons]
    refine ⟨?_, stabs_nil⟩ <;> exact stab_of rfl (fun K hK => by go_simp; exact hK)
  clear hK K
  clear cW c3
  have hrb := (rBytes_any w5 WB T x H5.out.2.l2 hHS.1 hHS.2.1 hHS.2.2.1).mono (R' := fun e w' => ∃ a n c, e = .returned (.slice a n c) ∧ RowKit.Hid (Rd bytesSh w' (Fr w5.heap.size w'.heap.size) [.slice a n c] x.bytes ∧ Rd bytesSh w' (Fr wd.heap.size w5.heap.size) [.slice a5 n5 c5] x.bytes ∧ StAt w LB WB b3 b4 S T x w')) (by
    rintro e w' ⟨a, n, c, rfl, ho⟩
    exact ⟨a, n, c, rfl, ho.rd, H5.out.1.agree _ ho.2.agreeNo, H5.out.2.more ho.2⟩)
  refine can_loud [] rfl rfl rfl (fun K hK => ?_)
  go_wp2_with (go_at_call 94; refine hrb.mono ?_; clear hrb; rintro e w6 ⟨a6, n6, c6, rfl, H6⟩)
  refine Mid.normal (hK _ _ stabs_nil ?_)
  clear hK K q5
  have hsm := same_eq_bytes w6 _ _ a5 a6 n5 c5 n6 c6 x.bytes H6.out.2.1 H6.out.1
  refine can_loud [] rfl rfl rfl (fun K hK => ?_)
  go_wp2_with (go_at_call 24; refine hsm.mono ?_; clear hsm; rintro e w7 ⟨rfl, e7⟩; subst e7)
  refine Mid.normal (hK _ _ stabs_nil ?_)
  clear hK K
  iterate 2 (refine can_sil rfl rfl (fun K hK => ?_); go_simp; refine hK _ ?_; clear hK K)
  refine can_nil (NoP.normal ?_)
  have HS7 : RowKit.Hid (StAt w LB WB b3 b4 S T x w7) := H6.out.2.2
  clear H5 H6
  obtain ⟨aw', cw', hWB, hWR⟩ := HS7.out.cellW
  have cW := blk_cell hWB
  have c3 := blk_cell HS7.out.k3
  have e65 : (x.l.length : Int) ≤ 65536 := by omega
  have hfr := (logFrom_any w7 LB S x HS7.out.l1 hHS.1 (-3) ((x.l.length + 1 : Nat) : Int) (by omega)).mono (R' := fun e w' => ∃ a7 c7, e = .returned (.slice a7 x.l.length c7) ∧ RowKit.Hid (StAt w LB WB b3 b4 S T x w' ∧ Keep No w7 w' ∧ Rd (.slice entrySh) w' (Fr w7.heap.size w'.heap.size) [.slice a7 x.l.length c7] x.l)) (by
    rintro e w' ⟨v, rfl, ho, hk⟩
    rw [from_whole x (-3) (by omega) _ (by omega)] at ho
    obtain ⟨a7, c7, hv, -⟩ := Own.form ho
    subst hv
    exact ⟨a7, c7, rfl, HS7.out.more hk, hk, Own.rd ho⟩)
  rw [show ((x.l.length + 1 : Nat) : Int) = (x.l.length : Int) + 1 by omega] at hfr
  have HS7b := Lib.hid (And.intro (HS7.out.keep.size) (blk_lt HS7.out.k4))
  clear hWB hWR HS1
  go_wp2_with (first | (go_at_call 36; refine hfr.mono ?_; clear hfr; rintro e w8 ⟨a8, c8, rfl, H8⟩; obtain ⟨aw8, cw8, hWB8, hWR8⟩ := H8.out.1.cellW; have cW8 := blk_cell hWB8; have c38 := blk_cell H8.out.1.k3; have hent := lentries_eq w8 _ T a8 aw8 c8 cw8 x.l H8.out.2.2 hWR8 (by omega)) | (go_at_call 35; refine hent.mono ?_; clear hent cW8 c38; rintro e w9 ⟨rfl, hk9⟩; have H9 := Lib.hid hk9; clear hk9))
  have HL0 : RowKit.Hid (StAt w LB WB b3 b4 S T x w9 ∧ Rd (.slice entrySh) w9 (Up w7.heap.size) [.slice a8 x.l.length c8] x.l ∧ w7.heap.size ≤ w9.heap.size) := ⟨H8.out.1.more H9.out, (H8.out.2.2.agree _ H9.out.agreeNo).mono _ fun i _ hi => hi.1, Nat.le_trans H8.out.2.1.size H9.out.size⟩
  have HM : RowKit.Hid (b4 < w7.heap.size ∧ w.heap.size ≤ w7.heap.size ∧ (∀ k, S k → k < w7.heap.size) ∧ (∀ k, T k → k < w7.heap.size)) := by
    obtain ⟨h1, h2⟩ := HS7b.out
    obtain ⟨-, -, -, hSw, hTw⟩ := HH.out
    have := HB.out.1
    exact ⟨h2, h1, fun k hk => by have := hSw k hk; omega, fun k hk => by have := hTw k hk; omega⟩
  clear H8 H9 hWB8 hWR8 HS7b cW c3
  generalize w7.heap.size = m at *
  go_loopw [6] (fun i wr => ∃ k : Nat, i = .int .i64 k ∧ k ≤ x.l.length ∧ RowKit.Hid (StAt w LB WB b3 b4 S T x wr ∧ Kin (Up m) w9 wr ∧ m ≤ wr.heap.size)) (fun i _ => x.l.length - (intOf i).toNat)
  case atStart => exact ⟨0, rfl, Nat.zero_le _, ⟨HL0.out.1, Kin.refl _ _, HL0.out.2.2⟩⟩
  case round =>
    obtain ⟨k, rfl, hk, HR⟩ := hrel
    rename World => wo
    by_cases hlt : k < x.l.length
    · obtain ⟨b, off, xe, y1, z1, y2, z2, y3, z3, rfl, hrow, hpl⟩ := kin_ents HR.out.2.1 HL0.out.2.1 k hlt
      obtain ⟨r0, r1, r2, r3, r4, r5, r6, r7, r8⟩ := row_nine hrow
      have hsp := (spoil_one hpl HR.out.2.2).mono (R' := fun e w' => e = .returned (.tuple #[]) ∧ RowKit.Hid (StAt w LB WB b3 b4 S T x w' ∧ Kin (Up m) w9 w' ∧ m ≤ w'.heap.size)) (by
        rintro e w' ⟨rfl, hk⟩
        obtain ⟨q1, q2, q3, q4⟩ := HM.out
        exact ⟨rfl, HR.out.1.over q1 q2 q3 q4 hk.out.keep, HR.out.2.1.trans hk.out, Nat.le_trans HR.out.2.2 hk.out.keep.size⟩)
      have j0 : (0 : Int) ≤ (k : Int) := by omega
      have j1 : (k : Int) < (x.l.length : Int) := by omega
      have j3 : (k : Int) ≤ 9223372036854775806 := by omega
      have HLT : RowKit.Hid (k < x.l.length) := hlt
      clear hrow hpl hlt hk
      generalize xe.seq = v0 at *
      generalize xe.epoch = v1 at *
      generalize xe.plan.client = v2 at *
      generalize xe.plan.token = v3 at *
      generalize xe.plan.name = v4 at *
      generalize xe.plan.how = v5 at *
      generalize xe.plan.args.length = n1 at *
      generalize xe.plan.reads.length = n2 at *
      generalize xe.plan.writes.length = n3 at *
      go_wp2_with (go_at_call 34; refine hsp.mono ?_; clear hsp; rintro e w10 ⟨rfl, H10⟩)
      go_roundw
      case rel => exact ⟨k + 1, by simp, HLT.out, H10⟩
      case measure => simp [intOf]; have := HLT.out; omega
    · have hke : k = x.l.length := by omega
      subst hke
      have HS10 : RowKit.Hid (StAt w LB WB b3 b4 S T x wo ∧ m ≤ wo.heap.size) := ⟨HR.out.1, HR.out.2.2⟩
      clear hlt hk HR HL0
      go_wp2_with fail
      go_loopw [7] (fun i wr => ∃ s : Int, i = .int .i64 s ∧ -1 ≤ s ∧ s ≤ x.l.length + 1 ∧ RowKit.Hid (StAt w LB WB b3 b4 S T x wr ∧ m ≤ wr.heap.size)) (fun i _ => ((x.l.length : Int) + 1 - intOf i).toNat)
      case atStart => exact ⟨-1, rfl, by omega, by omega, HS10⟩
      case round =>
        clear HS10
        obtain ⟨s, rfl, hs0, hs1, HR⟩ := hrel
        rename World => wi
        obtain ⟨aw1, cw1, hWB1, -⟩ := HR.out.1.cellW
        have cW1 := blk_cell hWB1
        have c31 := blk_cell HR.out.1.k3
        by_cases hlt : s ≤ x.l.length
        · have d1 : decide (s ≤ (x.l.length : Int)) = true := by simpa using hlt
          have hat : ∀ xe b, x.at' s = (xe, b) → Calls Tryz.prog 56 #[.pointer (some ⟨LB, 0, none⟩), .int .i64 s] wi fun e w' => ∃ y1 z1 y2 z2 y3 z3, e = .returned (.tuple #[.agg #[.int .i64 xe.seq, .int .i64 xe.epoch, .int .i64 xe.plan.client, .int .u64 xe.plan.token, .string xe.plan.name, .slice y1 xe.plan.args.length z1, .int .i64 xe.plan.how, .slice y2 xe.plan.reads.length z2, .slice y3 xe.plan.writes.length z3], .bool b]) ∧ RowKit.Hid (StAt w LB WB b3 b4 S T x w' ∧ Rd entrySh w' (Up m) [.int .i64 xe.seq, .int .i64 xe.epoch, .int .i64 xe.plan.client, .int .u64 xe.plan.token, .string xe.plan.name, .slice y1 xe.plan.args.length z1, .int .i64 xe.plan.how, .slice y2 xe.plan.reads.length z2, .slice y3 xe.plan.writes.length z3] xe ∧ m ≤ w'.heap.size) := fun xe b hx => (logAt_any wi LB S x HR.out.1.l1 hHS.1 s).mono (by
            rintro e w' ⟨cs, rfl, hr, hk⟩
            rw [hx] at hr ⊢
            obtain ⟨y1, z1, y2, z2, y3, z3, ec⟩ := ent_array hr
            subst ec
            have hm := HR.out.2
            exact ⟨y1, z1, y2, z2, y3, z3, rfl, HR.out.1.more hk, hr.mono _ fun i _ hi => Nat.le_trans hm hi.1, Nat.le_trans hm hk.size⟩)
          have hrat : ∀ xe b, x.at' s = (xe, b) → ∀ W, StAt w LB WB b3 b4 S T x W → Calls Tryz.prog 95 #[.pointer (some ⟨WB, 0, none⟩), .int .i64 s] W fun e w' => ∃ y1 z1 y2 z2 y3 z3, e = .returned (.tuple #[.agg #[.int .i64 xe.seq, .int .i64 xe.epoch, .int .i64 xe.plan.client, .int .u64 xe.plan.token, .string xe.plan.name, .slice y1 xe.plan.args.length z1, .int .i64 xe.plan.how, .slice y2 xe.plan.reads.length z2, .slice y3 xe.plan.writes.length z3], .bool b]) ∧ RowKit.Hid (StAt w LB WB b3 b4 S T x w' ∧ Rd entrySh w' (Fr W.heap.size w'.heap.size) [.int .i64 xe.seq, .int .i64 xe.epoch, .int .i64 xe.plan.client, .int .u64 xe.plan.token, .string xe.plan.name, .slice y1 xe.plan.args.length z1, .int .i64 xe.plan.how, .slice y2 xe.plan.reads.length z2, .slice y3 xe.plan.writes.length z3] xe ∧ Keep No W w') := fun xe b hx W hW => (rAt_any W WB T x hW.l2 hHS.1 s).mono (by
            rintro e w' ⟨cs, rfl, hr, hk⟩
            rw [hx] at hr ⊢
            obtain ⟨y1, z1, y2, z2, y3, z3, ec⟩ := ent_array hr
            subst ec
            exact ⟨y1, z1, y2, z2, y3, z3, rfl, hW.more hk, hr, hk⟩)
          cases hx : x.at' s with
          | mk xe b =>
          have hat := hat xe b hx
          have hrat := hrat xe b hx
          have hbb : (b != b) = false := by cases b <;> rfl
          have hwr : IntKind.i64.wrap (s + 1) = s + 1 := by rw [IntKind.wrap_i64]; omega
          have HX : RowKit.Hid (-1 ≤ s ∧ s ≤ x.l.length) := ⟨hs0, hlt⟩
          have HRAT := Lib.hid hrat
          clear hx hrat hlt hs0 hs1 hWB1 HR
          generalize xe.seq = v0 at *
          generalize xe.epoch = v1 at *
          generalize xe.plan.client = v2 at *
          generalize xe.plan.token = v3 at *
          generalize xe.plan.name = v4 at *
          generalize xe.plan.how = v5 at *
          generalize xe.plan.args.length = n1 at *
          generalize xe.plan.reads.length = n2 at *
          generalize xe.plan.writes.length = n3 at *
          go_wp2_with (first
            | (go_at_call 56; refine hat.mono ?_; clear hat cW1 c31; rintro e w10 ⟨y1, z1, y2, z2, y3, z3, rfl, H10⟩; have HS11 := Lib.hid (H10.out.1.more ((Keep.refl No w10).alloc (.cells #[.int .i64 v0, .int .i64 v1, .int .i64 v2, .int .u64 v3, .string v4, .slice y1 n1 z1, .int .i64 v5, .slice y2 n2 z2, .slice y3 n3 z3] 40))); have x11 := blk_new w10 (.cells #[.int .i64 v0, .int .i64 v1, .int .i64 v2, .int .u64 v3, .string v4, .slice y1 n1 z1, .int .i64 v5, .slice y2 n2 z2, .slice y3 n3 z3] 40); have c311 := blk_cell HS11.out.k3)
            | (go_at_call 95; refine (HRAT.out _ HS11.out).mono ?_; clear c311; rintro e w12 ⟨p1, q1, p2, q2, p3, q3, rfl, H12⟩; have k10 := Lib.hid (((Keep.refl No w10).alloc (.cells #[.int .i64 v0, .int .i64 v1, .int .i64 v2, .int .u64 v3, .string v4, .slice y1 n1 z1, .int .i64 v5, .slice y2 n2 z2, .slice y3 n3 z3] 40)).trans H12.out.2.2); have x12 := H12.out.2.2.blk x11 (fun h => h); clear x11 HS11; have k13 := Lib.hid ((Keep.refl No w12).alloc (.cells #[.int .i64 v0, .int .i64 v1, .int .i64 v2, .int .u64 v3, .string v4, .slice p1 n1 q1, .int .i64 v5, .slice p2 n2 q2, .slice p3 n3 q3] 40)); have x13 := blk_alloc (o' := .cells #[.int .i64 v0, .int .i64 v1, .int .i64 v2, .int .u64 v3, .string v4, .slice p1 n1 q1, .int .i64 v5, .slice p2 n2 q2, .slice p3 n3 q3] 40) x12; have x14 := blk_new w12 (.cells #[.int .i64 v0, .int .i64 v1, .int .i64 v2, .int .u64 v3, .string v4, .slice p1 n1 q1, .int .i64 v5, .slice p2 n2 q2, .slice p3 n3 q3] 40); have c13 := blk_cell x13; have c14 := blk_cell x14; have heq := (rEqual_any (w12.alloc (.cells #[.int .i64 v0, .int .i64 v1, .int .i64 v2, .int .u64 v3, .string v4, .slice p1 n1 q1, .int .i64 v5, .slice p2 n2 q2, .slice p3 n3 q3] 40)) _ _ _ _ xe xe ((H10.out.2.1.agree _ k10.out.agreeNo).agree _ k13.out.agreeNo) (H12.out.2.1.agree _ k13.out.agreeNo)).mono (R' := fun e w' => e = .returned (.bool true) ∧ RowKit.Hid (Keep No (w12.alloc (.cells #[.int .i64 v0, .int .i64 v1, .int .i64 v2, .int .u64 v3, .string v4, .slice p1 n1 q1, .int .i64 v5, .slice p2 n2 q2, .slice p3 n3 q3] 40)) w')) (by rintro e w' ⟨rfl, hk⟩; exact ⟨by rw [(Ent.eqb_iff _ _).2 rfl], hk⟩))
            | fail)
          refine heq.mono ?_
          clear heq c13 c14
          rintro e w15 ⟨rfl, H15⟩
          have x15 := H15.out.blk x13 (fun h => h)
          have c15 := blk_cell x15
          have HP := Lib.hid (And.intro (H12.out.1.more (k13.out.trans H15.out)) (And.intro (H10.out.2.1.agree _ (k10.out.trans (k13.out.trans H15.out)).agreeNo) (Nat.le_trans H10.out.2.2 (k10.out.trans (k13.out.trans H15.out)).size)))
          obtain ⟨ps, eps, hpl, -⟩ := ent_cells HP.out.2.1
          simp only [List.cons.injEq] at eps
          have hps : Rd planSh w15 (Up m) [.int .i64 v2, .int .u64 v3, .string v4, .slice y1 n1 z1, .int .i64 v5, .slice y2 n2 z2, .slice y3 n3 z3] xe.plan := by rw [eps.2.2]; exact hpl
          have hsp := (spoil_one hps HP.out.2.2).mono (R' := fun e w' => e = .returned (.tuple #[]) ∧ RowKit.Hid (StAt w LB WB b3 b4 S T x w' ∧ m ≤ w'.heap.size)) (by
            rintro e w' ⟨rfl, hk⟩
            obtain ⟨q1, q2, q3, q4⟩ := HM.out
            exact ⟨rfl, HP.out.1.over q1 q2 q3 q4 hk.out.keep, Nat.le_trans HP.out.2.2 hk.out.keep.size⟩)
          clear hps hpl eps HP H15 x13 x14 x12 k13 k10 H12 H10 HRAT
          go_wp2_with (go_at_call 34; refine hsp.mono ?_; clear hsp c15; rintro e w16 ⟨rfl, H16⟩)
          go_roundw
          case rel => exact ⟨s + 1, by first | rfl | (rw [hwr]), by have := HX.out.1; omega, by have := HX.out.2; omega, H16⟩
          case measure => simp [intOf]; have := HX.out; omega
        · have d1 : decide (s ≤ (x.l.length : Int)) = false := by simpa using hlt
          have HS17 : RowKit.Hid (StAt w LB WB b3 b4 S T x wi ∧ m ≤ wi.heap.size) := HR
          clear hlt hs0 hs1 hWB1 HR
          go_wp2_with fail
          have k18 := (Keep.refl No wi).alloc (.cells #[.pointer (some ⟨LB, 0, none⟩)] 23)
          have y18 := blk_new wi (.cells #[.pointer (some ⟨LB, 0, none⟩)] 23)
          have hs18 : (wi.alloc (.cells #[.pointer (some ⟨LB, 0, none⟩)] 23)).heap.size = wi.heap.size + 1 := by simp
          have HS18 : RowKit.Hid (StAt w LB WB b3 b4 S T x (wi.alloc (.cells #[.pointer (some ⟨LB, 0, none⟩)] 23)) ∧ m ≤ wi.heap.size) := ⟨HS17.out.1.more k18, HS17.out.2⟩
          have hne := fun w => each_ne_nil wi.heap.size w
          go_upto_region 22 with (go_at_call 12; refine (logEach_any _ _).mono ?_; rintro e w5 ⟨rfl, rfl⟩)
          have HC0 : RowKit.Hid (AtEach w LB WB b3 b4 S T x m wi.heap.size (wi.heap.size + 1) ((wi.alloc (.cells #[.pointer (some ⟨LB, 0, none⟩)] 23)).alloc (.cells #[.int .i64 0] 3))) := by
            have ka := (Keep.refl No (wi.alloc (.cells #[.pointer (some ⟨LB, 0, none⟩)] 23))).alloc (.cells #[.int .i64 0] 3)
            have yn := blk_new (wi.alloc (.cells #[.pointer (some ⟨LB, 0, none⟩)] 23)) (.cells #[.int .i64 0] 3)
            rw [hs18] at yn
            exact ⟨HS18.out.1.more ka, blk_alloc y18, yn, HS18.out.2, Nat.lt_succ_self _, by simp⟩
          go_cut [12, 13, 106] from 5 (fun f p g wx => ∃ Bx Bn, f = .func (.func 59) #[] #[.pointer (some ⟨Bx, 0, none⟩)] ∧ p = .pointer (some ⟨Bn, 0, none⟩) ∧ g = .func (.func 59) #[] #[.pointer (some ⟨Bx, 0, none⟩)] ∧ RowKit.Hid (AtEach w LB WB b3 b4 S T x m Bx Bn wx))
          case first =>
            go_wp2_with fail
            go_meet
            case rel => exact ⟨_, _, rfl, rfl, rfl, HC0⟩
          case rest =>
            clear HC0 HS18 HS17 k18 y18 hs18 hne
            obtain ⟨Bx, Bn, rfl, rfl, rfl, HC⟩ := hcut
            go_wp2_with fail
            refine (wpIn_wide (n := 3)).1 ?_
            have HA : RowKit.Hid (Apart w b3 b4 S T Bn wc.heap.size) := by
              obtain ⟨q1, q2, q3, q4⟩ := HM.out
              have h1 := HC.out.mx
              have h2 := HC.out.xn
              have h3 := HC.out.lt
              have h4 := HC.out.st.m3
              exact ⟨by omega, by omega, h3, by omega, fun k hk => by have := q3 k hk; omega, fun k hk => by have := q4 k hk; omega⟩
            refine wpIn_rangeT (gf := 59) (lb := #[.pointer (some ⟨Bx, 0, none⟩)]) rfl (enters_of Tryz.func59 (by kernel_rfl) rfl) (by omega) x.l.length (EltAt x wc.heap.size) (BetE w LB WB b3 b4 S T x Bn wc.heap.size) (fun _ _ _ => False)
              (fun k cs W o _ h => h.put o) (fun k A C h hk => h.keep hk) (fun k W o _ h => h.put HA.out o) (fun _ _ _ _ _ h => h) ?h0 ?hseq
              (fun (cs : Array Value) (a₁ : Act) (W : World) => ∃ E, wc.heap.size + 2 ≤ E ∧ a₁ = { tmps := #[Value.pointer (some ⟨LB, 0, none⟩), Value.pointer (some ⟨WB, 0, none⟩), undef, Value.pointer (some ⟨b3, 0, none⟩), Value.pointer (some ⟨b4, 0, none⟩), u5, u6, u7, u8, u9, u10, u11, Value.func (Fn.func 59) #[] #[Value.pointer (some ⟨Bx, 0, none⟩)], Value.pointer (some ⟨Bn, 0, none⟩), Value.pointer (some ⟨E, 0, none⟩), u15, u16, u17, u18, u19, u20, u21, u22, u23, u24, u25, u26, u27, u28, u29, u30, u31, u32, u33, u34, u35, u36, u37, u38, u39, u40, u41, u42, u43, u44, u45, u46, u47, u48, u49, u50, u51, u52, u53, u54, u55, u56, u57, u58, u59, u60, u61, u62, u63, u64, u65, u66, u67, u68, u69, u70, u71, u72, u73, u74, u75, u76, u77, u78, u79, u80, u81, u82, u83, u84, u85, u86, u87, u88, u89, u90, u91, u92, u93, u94, u95, u96, u97, u98, u99, u100, u101, u102, u103, u104, u105, Value.func (Fn.func 59) #[] #[Value.pointer (some ⟨Bx, 0, none⟩)], Value.agg cs, u108, u109, u110, u111, u112, u113, u114, u115, u116, u117, u118, u119, u120, u121, u122, u123, u124, u125, u126, u127, u128, u129, u130, u131, u132, u133, u134, u135, u136, u137, u138, u139, u140, u141, u142, u143, u144, u145, u146, u147, u148, u149, u150, u151, u152, u153], defers := [] } ∧ W.heap[E]? = some (Obj.cells cs 40 (0, 0))) ?assign (fun k cs A C h hk => h.keep hk) ?hA1 ?body ?done (fun _ _ _ _ h _ => h.elim)
            case h0 =>
              intro W hk hs
              exact ⟨HC.out.st.more hk, hk.blk HC.out.nn (fun x => x), by omega⟩
            case hseq =>
              intro W1 J Jx hk hs hJI hJK hY hJ0
              obtain ⟨ov, SO, g1, g2, g3, g4, g5, g6⟩ := HH.out.1
              obtain ⟨a1, d1, rfl, -⟩ := g2.form
              exact each1_in 2 _ Bx LB S SO x (by omega) a1 d1 hHS.1 J Jx W1 (fun k W' h => by
                  have := (hJI k W' h).st.keep
                  exact g2.rd.agree _ this.agreeNo) (fun k W' h => by have := (hJI k W' h).low; omega) hJK
                (fun k cs W' hk' hJ hR => hY k cs.toArray W' hk' hJ ⟨hk', by simpa using hR.mono _ (T := Up (wc.heap.size + 2)) fun i _ hi => by have := hi.1; rw [hs] at this; exact this⟩)
                (blk_cell (hk.blk HC.out.it (fun x => x)) 0) ((HC.out.st.keep.trans hk).blk g1 (fun x => x)) hJ0
            case assign =>
              intro k cs W K hI ⟨hkl, hx⟩ hW hK
              obtain ⟨b1, k1, b2, k2, b3', k3, ec⟩ := ent_array hx
              subst ec
              clear hx hI
              generalize x.l[k] = xk at *
              have hK2 := fun a h => hK a (W.alloc (.cells #[.int .i64 xk.seq, .int .i64 xk.epoch, .int .i64 xk.plan.client, .int .u64 xk.plan.token, .string xk.plan.name, .slice b1 xk.plan.args.length k1, .int .i64 xk.plan.how, .slice b2 xk.plan.reads.length k2, .slice b3' xk.plan.writes.length k3] 40)) ⟨W.heap.size, by omega, h, blk_new _ _⟩ ((Keep.refl No W).alloc _)
              clear hK
              gi_wp2
              rfl
            case hA1 =>
              rintro cs a₁ W o ⟨E, hE, ha, hb⟩ hlt
              exact ⟨E, hE, ha, (World.putObj_heap_other (by omega)).trans hb⟩
            case body =>
              rintro k cs a₁ W hk hI ⟨hkl, hx⟩ ⟨E, hE, rfl, hb⟩ hlt
              obtain ⟨y1, z1, y2, z2, y3, z3, ec⟩ := ent_array hx
              subst ec
              obtain ⟨aw2, cw2, hWB2, hWR2⟩ := hI.st.cellW
              obtain ⟨bb, oo, p1, q1, p2, q2, p3, q3, rfl, -, -, hrow, hx2⟩ := ents_get hWR2 k hk
              obtain ⟨r0, r1, r2, r3, r4, r5, r6, r7, r8⟩ := row_nine hrow
              have kd : Keep No W W.drew := (Keep.refl No W).drew
              have heq := (rEqual_any W.drew _ _ _ _ x.l[k] x.l[k] (hx.agree _ kd.agreeNo) (hx2.agree _ kd.agreeNo)).mono (R' := fun e w' => e = .returned (.bool true) ∧ RowKit.Hid (Keep No W w')) (by
                rintro e w' ⟨rfl, hk⟩
                exact ⟨by rw [(Ent.eqb_iff _ _).2 rfl], kd.trans hk⟩)
              have j0 : (0 : Int) ≤ (k : Int) := by omega
              have j1 : (k : Int) < (x.l.length : Int) := by omega
              have d2 : decide ((x.l.length : Int) ≤ (k : Int)) = false := by simp; omega
              have c13 := blk_cell hI.nn
              have c3 := blk_cell hI.st.k3
              have cW := blk_cell hWB2
              have cE := blk_cell hb
              generalize x.l[k] = xk at *
              have HX := Lib.hid (And.intro hI (And.intro hx (And.intro hb (And.intro hk (And.intro hE hlt)))))
              clear hx hx2 hrow hWB2 hWR2 hI hb kd hE hlt hk
              generalize xk.seq = v0 at *
              generalize xk.epoch = v1 at *
              generalize xk.plan.client = v2 at *
              generalize xk.plan.token = v3 at *
              generalize xk.plan.name = v4 at *
              generalize xk.plan.how = v5 at *
              generalize xk.plan.args.length = n1 at *
              generalize xk.plan.reads.length = n2 at *
              generalize xk.plan.writes.length = n3 at *
              gi_wp2
              refine wpIn_region_can _ [0, 1, 2, 3, 4, 5, 6, 7, 8, 9, 10, 11, 12, 13, 14, 15, 16, 17, 18] [16] [] (by kernel_rfl) (by kernel_rfl) (by kernel_rfl) (by kernel_rfl) (by kernel_rfl) (by intro c a d v w h; cases d <;> exact h) (by rintro ⟨_, _, h⟩; exact h) ?_
              iterate 16 (refine can_sil rfl rfl (fun K hK => ?_); go_simp; refine hK _ ?_; clear hK K)
              refine can_loud [] rfl rfl rfl (fun K hK => ?_)
              go_wp2_with (go_at_call 13; refine heq.mono ?_; clear heq; rintro e w6 ⟨rfl, H6⟩)
              refine Mid.normal (hK _ _ stabs_nil ?_)
              clear hK K
              iterate 2 (refine can_sil rfl rfl (fun K hK => ?_); go_simp; refine hK _ ?_; clear hK K)
              refine can_nil ?_
              obtain ⟨hI, hx, hb, hk, hE, hlt⟩ := HX.out
              have hI6 := hI.keep H6.out
              have c136 := blk_cell hI6.nn
              have cE6 := blk_cell (H6.out.blk hb (fun h => h))
              obtain ⟨ps, eps, hpl, -⟩ := ent_cells (hx.agree _ H6.out.agreeNo)
              simp only [List.cons.injEq] at eps
              have hps : Rd planSh w6 (Up (wc.heap.size + 2)) [.int .i64 v2, .int .u64 v3, .string v4, .slice y1 n1 z1, .int .i64 v5, .slice y2 n2 z2, .slice y3 n3 z3] xk.plan := by rw [eps.2.2]; exact hpl
              have hsp := (spoil_one hps hI6.low).mono (R' := fun e w' => e = .returned (.tuple #[]) ∧ w'.heap[Bn]? = some (.cells #[.int .i64 k] 3 (0, 0)) ∧ RowKit.Hid (StAt w LB WB b3 b4 S T x w' ∧ Keep (Up (wc.heap.size + 2)) W w')) (by
                rintro e w' ⟨rfl, hk⟩
                have hA := HA.out
                have h1 := hA.n
                exact ⟨rfl, hk.out.keep.blk hI6.nn (fun hu => by have : wc.heap.size + 2 ≤ Bn := hu; omega), hI6.st.over (by have := hA.b4; omega) (by have := hA.w; omega) (fun k hk => by have := hA.S k hk; omega) (fun k hk => by have := hA.T k hk; omega) hk.out.keep, (H6.out.mono fun _ _ h => h.elim).trans hk.out.keep⟩)
              clear c13 c3 cW cE r0 r1 r2 r3 r4 r5 r6 r7 r8 hI hx hb hk hE hlt hI6 eps hpl hps d2
              gi_wp2
              refine ⟨trivial, (CallsIn.inRound _ (callsIn_wide.2 hsp)).mono ?_⟩
              clear hsp cE6 c136
              rintro e w7 ⟨rfl, y7, H7⟩
              have c7 := blk_cell y7
              have f7 := blk_fro y7
              have j3 : (k : Int) ≤ 9223372036854775806 := by omega
              gi_wp2
              have hkk : ((k : Int) + 1) = ((k + 1 : Nat) : Int) := by omega
              have hA := HA.out
              have h1 := hA.n
              have y8 := blk_set y7 0 (.int .i64 ((k + 1 : Nat) : Int))
              have ks := keep_set w7 Bn 0 (.int .i64 ((k + 1 : Nat) : Int))
              have hsz := H7.out.2.size
              obtain ⟨hI, hx, hb, hk, hE, hlt⟩ := HX.out
              have hst := H7.out.1
              rw [hkk]
              refine ⟨fun b hb => ?_, ⟨⟨?_, ?_, ?_, ?_, ?_, hst.w3, hst.w4, hst.m3⟩, by simpa using y8, ?_⟩⟩
              · rw [ks.block b (by have := hI.low; omega) (fun h => by have : b = Bn := h; omega)]
                exact H7.out.2.block b (by have := hI.low; omega) fun hu => by have : wc.heap.size + 2 ≤ b := hu; omega
              · refine hst.keep.then ks fun i hi e => ?_
                have : i = Bn := e
                have h2 := HC.out.mx
                have h3 := HC.out.xn
                have h4 := HM.out.2.1
                omega
              · exact ks.blk hst.k3 (fun e => by have : b3 = Bn := e; have h2 := HC.out.mx; have h3 := HC.out.xn; have h4 := HM.out.1; have h5 := hst.m3; omega)
              · exact ks.blk hst.k4 (fun e => by have : b4 = Bn := e; have h2 := HC.out.mx; have h3 := HC.out.xn; have h4 := HM.out.1; omega)
              · exact hst.l1.agree (ks.agree fun i _ hi e => by have : i = Bn := e; have h2 := HC.out.mx; have h3 := HC.out.xn; have h4 := HM.out.2.2.1 i hi; omega) ks.size
              · exact hst.l2.agree (ks.agree fun i _ hi e => by have : i = Bn := e; have h2 := HC.out.mx; have h3 := HC.out.xn; have h4 := HM.out.2.2.2 i hi; omega) ks.size
              · have := hI.low
                have := ks.size
                omega
            case done =>
              intro W hI hD
              have hst := hI.st
              obtain ⟨aw2, cw2, hWB2, hWR2⟩ := hst.cellW
              have c13 := blk_cell hI.nn
              have c3 := blk_cell hst.k3
              have cW := blk_cell hWB2
              have hfr := (logFrom_any W.drew LB S x (hst.more (Keep.refl No W).drew).l1 hHS.1 0 (x.l.length : Nat) (by omega)).mono (R' := fun e w' => ∃ a7 c7, e = .returned (.slice a7 x.l.length c7) ∧ w'.cell? ⟨b3, 0, none⟩ = some (.pointer (some ⟨WB, 0, none⟩)) ∧ w'.cell? ⟨WB, 0, none⟩ = some (.slice aw2 x.l.length cw2) ∧ RowKit.Hid (Keep No W w' ∧ Rd (.slice entrySh) w' (Fr W.heap.size w'.heap.size) [.slice a7 x.l.length c7] x.l)) (by
                rintro e w' ⟨v, rfl, ho, hk⟩
                rw [from_whole x 0 (by omega) _ (by omega)] at ho
                obtain ⟨a7, c7, hv, -⟩ := Own.form ho
                subst hv
                have hkk := (Keep.refl No W).drew.trans hk
                exact ⟨a7, c7, rfl, blk_cell (hkk.blk hst.k3 (fun h => h)) 0, blk_cell (hkk.blk hWB2 (fun h => h)) 0, hkk, Own.rd ho⟩)
              have HZ := Lib.hid (And.intro hI (And.intro hD hWR2))
              clear hI hst hWB2 hD hWR2
              go_wp2_with fail
              refine wp_nop ?_
              refine wp_region_can [0, 1, 2, 3, 4, 5, 6, 7, 8, 9, 10, 11, 12, 13, 15, 16, 17, 18, 14, 19, 20, 21] [14, 19, 21] [(15, 14), (16, 14), (17, 14), (18, 14)] (by kernel_rfl) (by kernel_rfl) (by kernel_rfl) (by kernel_rfl) (by intro c a d v w h; cases d <;> exact h) ?_
              iterate 18 (refine can_sil rfl rfl (fun K hK => ?_); go_simp; refine hK _ ?_; clear hK K)
              refine can_loud [15, 16, 17, 18] rfl rfl rfl (fun K hK => ?_)
              go_wp2_with (go_at_call 36; refine hfr.mono ?_; clear hfr; rintro e w6 ⟨a6, c6, rfl, g3, gW, H6⟩)
              refine Mid.normal (hK _ _ ?_ ?_)
              · simp only [List.forall_mem_cons]
                refine ⟨?_, ?_, ?_, ?_, stabs_nil⟩ <;> exact stab_of rfl (fun K hK => by go_simp; exact hK)
              clear hK K
              have hent := (lentries_eq w6 _ T a6 aw2 c6 cw2 x.l H6.out.2 (HZ.out.2.2.agree _ H6.out.1.agreeNo) (by omega)).mono (R' := fun e w' => e = .returned (.bool true) ∧ w'.heap[b4]? = some (.cells #[.bool false] 4 (0, 0)) ∧ RowKit.Hid (Keep No W w')) (by
                rintro e w' ⟨rfl, hk⟩
                have hkk := H6.out.1.trans hk
                exact ⟨rfl, hkk.blk HZ.out.1.st.k4 (fun h => h), hkk⟩)
              refine can_loud [] rfl rfl rfl (fun K hK => ?_)
              go_wp2_with (go_at_call 35; refine hent.mono ?_; clear hent; rintro e w7 ⟨rfl, y7, H7⟩)
              refine Mid.normal (hK _ _ stabs_nil ?_)
              clear hK K
              refine can_sil rfl rfl (fun K hK => ?_); go_simp; refine hK _ ?_; clear hK K
              have c47 := blk_cell y7
              have f47 := blk_fro y7
              refine can_loud [] rfl rfl rfl (fun K hK => ?_)
              go_wp2_with fail
              refine Mid.normal (hK _ _ stabs_nil ?_)
              clear hK K
              refine can_nil (NoP.normal ?_)
              have y8 := blk_set y7 0 (.bool true)
              have ks := keep_set w7 b4 0 (.bool true)
              have hA := HA.out
              have h1 := hA.b4
              have hD8 := ks.blk (H7.out.blk HZ.out.2.1 (fun h => h)) (fun e => by have : wc.heap.size = b4 := e; omega)
              have hk8 : Keep No w (w7.setCell ⟨b4, 0, none⟩ (.bool true)) := (HZ.out.1.st.keep.trans H7.out).then ks fun i hi e => by
                have : i = b4 := e
                have := HZ.out.1.st.w4
                omega
              generalize w7.setCell ⟨b4, 0, none⟩ (.bool true) = w8 at *
              clear c13 c3 cW g3 gW c47 f47
              go_wp2_with fail
              refine ⟨by simp, .inl ⟨_, _, rfl, run_takeDeferred hD8, ?_⟩⟩
              have y9 : (w8.putObj wc.heap.size (.deferred none)).heap[b4]? = some (.cells #[.bool true] 4 (0, 0)) := (World.putObj_heap_other (by omega)).trans (by simpa using y8)
              have c49 := blk_cell y9 0
              refine ⟨.bool true, by simp [results, Tryz.results38, go_sem, c49], ⟨rfl, keep_putNew hk8 hA.w _⟩⟩
end Go.Proofs.YtnknihmchmmenaaGreat
