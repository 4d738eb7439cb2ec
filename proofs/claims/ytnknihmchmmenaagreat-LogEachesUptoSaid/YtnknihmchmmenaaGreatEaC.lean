/-
  LogEaches: what the law does.
-/
import Derived.Test.YtnknihmchmmenaaGreatEaB
import Derived.Test.YtnknihmchmmenaaGreatHL
namespace Go.Proofs.YtnknihmchmmenaaGreat
open Go Go.RowKit Go.Deep
set_option linter.unusedVariables false
set_option linter.unusedSimpArgs false

theorem run_store_func {P : Program} {w : World} {a : Addr} {m : Mode} (f : Fn) (b c : Array Value) : (store a (.func f b c) m).run P w = stored P w a (.func f b c) m := run_store P w a _ m rfl
attribute [local go_sem] Oper.semAt_some run_store_func

/-- the fixed facts, at any later world -/
structure EaGet (w : World) (WB b3 b4 b5 b6 b7 : Nat) (T : Nat → Prop) (x : Lg) (st : Int) (Bx : Nat) (av : Option Addr) (cv : Nat) (W : World) : Prop where
  k3 : W.heap[b3]? = some (.cells #[.int .i64 st] 3 (0, 0))
  k4 : W.heap[b4]? = some (.cells #[.bool false] 4 (0, 0))
  k6 : W.heap[b6]? = some (.cells #[.pointer (some ⟨WB, 0, none⟩)] 24 (0, 0))
  k7 : W.heap[b7]? = some (.cells #[.func (.func 59) #[] #[.pointer (some ⟨Bx, 0, none⟩)]] 28 (0, 0))
  kw : W.heap[WB]? = some (.cells #[.slice av x.l.length cv, .int .i64 x.epoch] 43 (0, 0))
  rw : Rd (.slice entrySh) W T [.slice av x.l.length cv] x.l
theorem EaBase.wcell {w : World} {LB WB b3 b4 b5 b6 Bx b7 b8 : Nat} {S T : Nat → Prop} {x : Lg} {st : Int} {w0 : World} (h : EaBase w LB WB b3 b4 b5 b6 Bx b7 b8 S T x st w0) :
    ∃ av cv, ∀ W, Keep (fun i => S i ∨ i = b8) w0 W → EaGet w WB b3 b4 b5 b6 b7 T x st Bx av cv W := by
  obtain ⟨ov, SO, h1, h2, h3, h4, h5, h6⟩ := h.l2
  obtain ⟨a1, d1, rfl, _⟩ := h2.form
  have o3 := h.o3; have o4 := h.o4; have o5 := h.o5; have o6 := h.o6; have ox := h.ox; have o7 := h.o7; have o8 := h.o8
  have hs := h.s
  have ht := h.t
  have hTn : ∀ i, T i → ¬ (S i ∨ i = b8) := fun i hi hh => by
    rcases hh with hh | hh
    · exact h.dis i hh hi
    · have := ht i hi; omega
  have hn : ∀ i, (i ≤ b4 ∨ (b5 ≤ i ∧ i < b8)) → ¬ (S i ∨ i = b8) := fun i hi hh => by
    rcases hh with hh | hh
    · have := hs i hh; omega
    · omega
  exact ⟨a1, d1, fun W hk => ⟨hk.blk h.k3 (hn _ (by omega)), hk.blk h.k4 (hn _ (by omega)), hk.blk h.k6 (hn _ (by omega)), hk.blk h.k7 (hn _ (by omega)), hk.blk h1 (hTn _ h3), ((h2.agree (hk.agree fun i _ hi => hTn i (h4 i hi).1)).rd).mono _ fun i _ hi => (h4 i hi).1⟩⟩
theorem EaBase.lcell {w : World} {LB WB b3 b4 b5 b6 Bx b7 b8 : Nat} {S T : Nat → Prop} {x : Lg} {st : Int} {w0 : World} (h : EaBase w LB WB b3 b4 b5 b6 Bx b7 b8 S T x st w0) :
    ∃ av cv, w0.heap[LB]? = some (.cells #[.slice av x.l.length cv, .int .i64 x.epoch] 117 (0, 0)) ∧ S LB ∧ Rd (.slice entrySh) w0 S [.slice av x.l.length cv] x.l := by
  obtain ⟨ov, SO, h1, h2, h3, h4, h5, h6⟩ := h.l1
  obtain ⟨a1, d1, rfl, _⟩ := h2.form
  exact ⟨a1, d1, h1, h3, h2.rd.mono _ fun i _ hi => (h4 i hi).1⟩

/-- between two rounds of the inner range -/
structure InI (w0 : World) (b10 L j : Nat) (W : World) : Prop where
  keep : Keep (One b10) w0 W
  nn : W.heap[b10]? = some (.cells #[.int .i64 j] 3 (0, 0))
  low : L + 1 ≤ W.heap.size
theorem InI.more {w0 : World} {b10 L j : Nat} {A C : World} (h : InI w0 b10 L j A) (hk : Keep No A C) : InI w0 b10 L j C :=
  ⟨h.keep.thenNo hk, hk.blk h.nn (fun x => x), Nat.le_trans h.low hk.size⟩
theorem InI.put {w0 : World} {b10 L j : Nat} {W : World} (h : InI w0 b10 L j W) (hL : w0.heap.size = L) (hb : b10 < L) (o : Obj) : InI w0 b10 L j (W.putObj L o) :=
  ⟨keepM_put h.keep (by omega) o, (World.putObj_heap_other (by omega)).trans h.nn, by rw [size_put]; exact h.low⟩
/-- an element of the inner range -/
def EltN (x : Lg) (L k : Nat) (cs : Array Value) (W : World) : Prop := ∃ hk : k < x.l.length, Rd entrySh W (Up (L + 1)) cs.toList x.l[k]
theorem EltN.keep {x : Lg} {L k : Nat} {cs : Array Value} {A C : World} (h : EltN x L k cs A) (hk : Keep No A C) : EltN x L k cs C := ⟨h.1, h.2.agree _ hk.agreeNo⟩
theorem EltN.put {x : Lg} {L k : Nat} {cs : Array Value} {W : World} (h : EltN x L k cs W) (o : Obj) : EltN x L k cs (W.putObj L o) :=
  ⟨h.1, h.2.agree _ (agree_put (fun hu => by have : L + 1 ≤ L := hu; omega) o)⟩

set_option maxRecDepth 10000 in
set_option maxHeartbeats 8000000 in
theorem LogEaches_main (w : World) (a : Option Addr) (c : Nat) (l : List Act') (h : Rd (.slice actSh) w (Lt w.heap.size) [.slice a l.length c] l) (hb : (l.map actSh.bulk).sum ≤ 1048576) (st : Int) :
    Calls Tryz.prog 3 #[.slice a l.length c, .int .i64 st] w fun e w' => e = .returned (.bool true) ∧ Keep No w w' := by
  have HH := Lib.hid (And.intro h hb)
  clear h hb
  refine (callsIn_wide (n := 8)).1 ?_
  refine callsIn_of_wp_marks Tryz.func3 rfl trivial ?_ rfl
  simp only [Tryz.ntmps3, List.size_toArray, List.length_cons, List.length_nil, Nat.reduceAdd, Nat.reduceSub, Array.replicate_succ, Array.replicate_zero, List.push_toArray, List.append_toArray, List.nil_append, List.cons_append]
  refine wpIn_wide.2 ?_
  go_wp2_with fail
  have k2 := ((Keep.refl No w).alloc (.cells #[.int .i64 st] 3)).alloc (.cells #[.bool false] 4)
  have x3 := blk_alloc (o' := .cells #[.bool false] 4) (blk_new w (.cells #[.int .i64 st] 3))
  have x4 := blk_new (w.alloc (.cells #[.int .i64 st] 3)) (.cells #[.bool false] 4)
  rw [World.size_alloc] at x4
  generalize ((w.alloc (.cells #[.int .i64 st] 3)).alloc (.cells #[.bool false] 4)) = w2 at *
  try rw [World.size_alloc]
  generalize hb3 : w.heap.size = b3 at *
  generalize hb4 : b3 + 1 = b4 at *
  have H2 := Lib.hid (And.intro k2 (And.intro x3 (And.intro x4 (And.intro hb3 hb4))))
  have hboth := both_any w2 a c l (HH.out.1.agree _ k2.agreeNo |>.mono _ fun i _ hi => by have := k2.size; have h2 : i < b3 := hi; show i < w2.heap.size; omega) HH.out.2
  clear k2 x3 x4 hb3 hb4
  refine hboth.mono ?_
  clear hboth
  rintro e w3 ⟨LB, WB, rfl, x, H3⟩
  have x5 := blk_alloc (o' := .cells #[.pointer (some ⟨WB, 0, none⟩)] 24) (blk_new w3 (.cells #[.pointer (some ⟨LB, 0, none⟩)] 23))
  have x6 := blk_new (w3.alloc (.cells #[.pointer (some ⟨LB, 0, none⟩)] 23)) (.cells #[.pointer (some ⟨WB, 0, none⟩)] 24)
  rw [World.size_alloc] at x6
  have k5 := ((Keep.refl No w3).alloc (.cells #[.pointer (some ⟨LB, 0, none⟩)] 23)).alloc (.cells #[.pointer (some ⟨WB, 0, none⟩)] 24)
  go_upto_region 2 with fail
  generalize ((w3.alloc (.cells #[.pointer (some ⟨LB, 0, none⟩)] 23)).alloc (.cells #[.pointer (some ⟨WB, 0, none⟩)] 24)) = w5 at *
  try rw [World.size_alloc]
  obtain ⟨b5, hb5⟩ : ∃ b5, w3.heap.size = b5 := ⟨_, rfl⟩
  obtain ⟨b6, hb6⟩ : ∃ b6, b5 + 1 = b6 := ⟨_, rfl⟩
  rw [hb5] at x5 x6 ⊢
  rw [hb6] at x6 ⊢
  have c5 := blk_cell x5
  have h6l := blk_lt x6
  have H5 := Lib.hid (And.intro x5 (And.intro x6 (And.intro k5 (And.intro hb5 (And.intro hb6 h6l)))))
  clear x5 x6 k5 hb5 hb6 h6l
  have x7 := blk_alloc (o' := .cells #[.func (.func 59) #[] #[.pointer (some ⟨w5.heap.size, 0, none⟩)]] 28) (blk_new w5 (.cells #[.pointer (some ⟨LB, 0, none⟩)] 23))
  have x8 := blk_new (w5.alloc (.cells #[.pointer (some ⟨LB, 0, none⟩)] 23)) (.cells #[.func (.func 59) #[] #[.pointer (some ⟨w5.heap.size, 0, none⟩)]] 28)
  rw [World.size_alloc] at x8
  have k7 := ((Keep.refl No w5).alloc (.cells #[.pointer (some ⟨LB, 0, none⟩)] 23)).alloc (.cells #[.func (.func 59) #[] #[.pointer (some ⟨w5.heap.size, 0, none⟩)]] 28)
  have hs7 : ((w5.alloc (.cells #[.pointer (some ⟨LB, 0, none⟩)] 23)).alloc (.cells #[.func (.func 59) #[] #[.pointer (some ⟨w5.heap.size, 0, none⟩)]] 28)).heap.size = w5.heap.size + 1 + 1 := by simp
  go_upto_region 5 with (go_at_call 12; refine (logEach_any _ _).mono ?_; rintro e w6 ⟨rfl, rfl⟩)
  generalize ((w5.alloc (.cells #[.pointer (some ⟨LB, 0, none⟩)] 23)).alloc (.cells #[.func (.func 59) #[] #[.pointer (some ⟨w5.heap.size, 0, none⟩)]] 28)) = w7 at *
  try rw [World.size_alloc]
  obtain ⟨Bx, hBx⟩ : ∃ Bx, w5.heap.size = Bx := ⟨_, rfl⟩
  obtain ⟨b7, hb7⟩ : ∃ b7, Bx + 1 = b7 := ⟨_, rfl⟩
  rw [hBx] at x7 x8 hs7 ⊢
  rw [hb7] at x8 hs7 ⊢
  have c7 := blk_cell x8
  have hne := each_ne_nil Bx
  have H7 := Lib.hid (And.intro x7 (And.intro x8 (And.intro k7 (And.intro hBx (And.intro hb7 hs7)))))
  clear x7 x8 k7 hBx hb7 hs7 c5
  have x9 := blk_new w7 (.cells #[.int .i64 0] 3)
  have k9 := (Keep.refl No w7).alloc (.cells #[.int .i64 0] 3)
  have hs9 : (w7.alloc (.cells #[.int .i64 0] 3)).heap.size = w7.heap.size + 1 := by simp
  go_upto_region 8 with fail
  generalize (w7.alloc (.cells #[.int .i64 0] 3)) = w9 at *
  obtain ⟨S, T, hS⟩ : ∃ S T, RowKit.Hid (EaBase w LB WB b3 b4 b5 b6 Bx b7 w7.heap.size S T x st w9 ∧ x.Good ∧ x.l.length ≤ 600) := by
    obtain ⟨hg, h6, S, T, g1, g2, g3, g4, g5, g6⟩ := H3.out
    obtain ⟨p1, p2, p3, p4, p5⟩ := H2.out
    obtain ⟨q1, q2, q3, q4, q5, q6⟩ := H5.out
    obtain ⟨r1, r2, r3, r4, r5, r6⟩ := H7.out
    have kk := (q3.trans r3).trans k9
    have kk7 := r3.trans k9
    have hS3 : ∀ k, S k → k < w3.heap.size := by obtain ⟨ov, SO, -, -, -, -, -, h⟩ := g2; exact h
    have hT3 : ∀ k, T k → k < w3.heap.size := by obtain ⟨ov, SO, -, -, -, -, -, h⟩ := g3; exact h
    have hw4 := blk_lt p3
    have hz1 := q3.size
    have hz2 := g1.size
    exact ⟨S, T, ⟨⟨p1.trans (g1.trans kk), (g1.trans kk).blk p2 (fun x => x), (g1.trans kk).blk p3 (fun x => x), kk7.blk q1 (fun x => x), kk7.blk q2 (fun x => x), k9.blk r1 (fun x => x), k9.blk r2 (fun x => x), x9, g2.agree kk.agreeNo kk.size, g3.agree kk.agreeNo kk.size, g4, fun k hk => ⟨by have := (g5 k hk).1; omega, by have := hS3 k hk; omega⟩, fun k hk => ⟨by have := (g6 k hk).1; omega, by have := hT3 k hk; omega⟩, by omega, by omega, by omega, by omega, by omega, by omega, by omega, by omega⟩, hg, h6⟩⟩
  clear x9 k9 hs9 hne c7 H2 H3 H5 H7
  have c7 := blk_cell hS.out.1.k7
  generalize w7.heap.size = b8 at *
  go_cut [5, 6, 7, 8, 23] from 5 (fun p5 p6 p7 p8 g wx => p5 = .pointer (some ⟨b5, 0, none⟩) ∧ p6 = .pointer (some ⟨b6, 0, none⟩) ∧ p7 = .pointer (some ⟨b7, 0, none⟩) ∧ p8 = .pointer (some ⟨b8, 0, none⟩) ∧ g = .func (.func 59) #[] #[.pointer (some ⟨Bx, 0, none⟩)] ∧ RowKit.Hid (EaBase w LB WB b3 b4 b5 b6 Bx b7 b8 S T x st wx ∧ x.Good ∧ x.l.length ≤ 600))
  case first =>
    go_wp2_with fail
    go_meet
    case rel => exact ⟨rfl, rfl, rfl, rfl, rfl, hS⟩
  case rest =>
    clear hS c7
    obtain ⟨rfl, rfl, rfl, rfl, rfl, HC⟩ := hcut
    go_wp2_with fail
    refine (wpIn_wide (n := 6)).1 ?_
    obtain ⟨av, cv, hLB, hSL, hvw⟩ := HC.out.1.lcell
    obtain ⟨aw, cw, hget⟩ := HC.out.1.wcell
    have HL := Lib.hid (And.intro hLB (And.intro hSL (And.intro hvw hget)))
    have hS8 : ∀ i, S i → i ≠ b8 ∧ i < wc.heap.size := fun i hi => by
      have hB := HC.out.1
      have := hB.s i hi; have := hB.o5; have := hB.o6; have := hB.ox; have := hB.o7; have := hB.o8; have := hB.o9
      omega
    have HS8 := Lib.hid hS8
    clear hLB hSL hvw hget hS8
    refine wpIn_rangeTHq (gf := 59) (lb := #[.pointer (some ⟨Bx, 0, none⟩)]) rfl (enters_of Tryz.func59 (by kernel_rfl) rfl) (by omega) x.l.length (EltAt x wc.heap.size) (EaI wc S b8 st av x.l.length cv x.l wc.heap.size) (fun _ _ _ => False)
      (fun k cs W o _ h => h.put o) (fun k A C h hk => h.more hk) (fun k W o _ h => h.put rfl HC.out.1.o9 o) (fun _ _ _ _ _ h => h) ?h0 ?hseq 9 40 ?assign (fun k cs A C h hk => h.keep hk) ?body ?done (fun _ _ _ _ h _ => h.elim)
    case h0 =>
      intro W hk hs
      exact ⟨hk.mono fun _ _ h => h.elim, fun _ => hk.mono fun _ _ h => h.elim, ⟨S, HL.out.2.2.1.agree _ hk.agreeNo, fun i hi => ⟨(HS8.out i hi).1, .inl (HS8.out i hi).2⟩⟩, hk.blk HC.out.1.k8 (fun x => x), by omega⟩
    case hseq =>
      intro W1 J Jx hk hs hJI hJK hY hJ0
      exact each1_in 5 _ Bx LB S (fun _ => True) x (by omega) av cv HC.out.2.1.few J Jx W1 (fun k W' h => by
          obtain ⟨V, h1, h2⟩ := (hJI k W' h).view
          exact h1.mono _ fun _ _ _ => trivial) (fun k W' h => by have := (hJI k W' h).low; omega) hJK
        (fun k cs W' hk' hJ hR => hY k cs.toArray W' hk' hJ ⟨hk', by simpa using hR.mono _ (T := Up (wc.heap.size + 2)) fun i _ hi => by have := hi.1; rw [hs] at this; exact this⟩)
        (blk_cell (hk.blk HC.out.1.it (fun x => x)) 0) (hk.blk HL.out.1 (fun x => x)) hJ0
    case assign =>
      intro k cs W K hI ⟨hkl, hx⟩ hW hK
      obtain ⟨b1, k1, b2, k2, b3', k3, ec⟩ := ent_array hx
      subst ec
      clear hx hI
      generalize x.l[k] = xk at *
      have hK2 := fun a h => hK a (W.alloc (.cells #[.int .i64 xk.seq, .int .i64 xk.epoch, .int .i64 xk.plan.client, .int .u64 xk.plan.token, .string xk.plan.name, .slice b1 xk.plan.args.length k1, .int .i64 xk.plan.how, .slice b2 xk.plan.reads.length k2, .slice b3' xk.plan.writes.length k3] 40)) ⟨W.heap.size, by omega, h, blk_new _ _⟩ ((Keep.refl No W).alloc _)
      clear hK
      gi_wp2
    case body =>
      rintro k cs a₁ W hk hI ⟨hkl, hx⟩ ⟨E, hE, rfl, hb⟩ hlt ⟨rl, hrl⟩
      obtain ⟨y1, z1, y2, z2, y3, z3, ec⟩ := ent_array hx
      subst ec
      have hget := HL.out.2.2.2 W hI.keep
      obtain ⟨bb, oo, p1, q1, p2, q2, p3, q3, haw, -, -, hrow, hx2⟩ := ents_get hget.rw k hk
      obtain ⟨r0, r1, r2, r3, r4, r5, r6, r7, r8⟩ := row_nine hrow
      have kd : Keep No W W.drew := (Keep.refl No W).drew
      have heq := (rEqual_any W.drew _ _ _ _ x.l[k] x.l[k] (hx.agree _ kd.agreeNo) (hx2.agree _ kd.agreeNo)).mono (R' := fun e w' => e = .returned (.bool true) ∧ RowKit.Hid (Keep No W w')) (by
        rintro e w' ⟨rfl, hk⟩
        exact ⟨by rw [(Ent.eqb_iff _ _).2 rfl], kd.trans hk⟩)
      have j0 : (0 : Int) ≤ (k : Int) := by omega
      have j1 : (k : Int) < (x.l.length : Int) := by omega
      have d2 : decide ((x.l.length : Int) ≤ (k : Int)) = false := by simp; omega
      have c13 := blk_cell hI.nn
      have c3 := blk_cell hget.k6
      have cW := blk_cell hget.kw
      have cE := blk_cell hb
      generalize x.l[k] = xk at *
      have HX := Lib.hid (And.intro hI (And.intro hb (And.intro hk (And.intro hlt hrl))))
      have HAW := Lib.hid haw
      clear hx hx2 hrow hI hb kd hlt hk hrl hget
      rw [haw] at cW
      clear haw
      generalize xk.seq = v0 at *
      generalize xk.epoch = v1 at *
      generalize xk.plan.client = v2 at *
      generalize xk.plan.token = v3 at *
      generalize xk.plan.name = v4 at *
      generalize xk.plan.how = v5 at *
      generalize xk.plan.args.length = n1 at *
      generalize xk.plan.reads.length = n2 at *
      generalize xk.plan.writes.length = n3 at *
      simp only [List.setIfInBounds_toArray, List.set_cons_zero, List.set_cons_succ]
      gi_wp2
      refine wpIn_region_can _ [0, 1, 2, 3, 4, 5, 6, 7, 8, 9, 10, 11, 12, 13, 14, 15, 16, 17, 18] [16] [] (by kernel_rfl) (by kernel_rfl) (by kernel_rfl) (by kernel_rfl) (by kernel_rfl) (by intro c a d v w h; cases d <;> exact h) (by rintro ⟨_, _, h⟩; exact h) ?_
      iterate 16 (refine can_sil rfl rfl (fun K hK => ?_); go_simp; refine hK _ ?_; clear hK K)
      refine can_loud [] rfl rfl rfl (fun K hK => ?_)
      go_wp2_with (go_at_call 13; refine heq.mono ?_; clear heq; rintro e w6 ⟨rfl, H6⟩)
      refine Mid.normal (hK _ _ stabs_nil ?_)
      clear hK K
      iterate 2 (refine can_sil rfl rfl (fun K hK => ?_); go_simp; refine hK _ ?_; clear hK K)
      refine can_nil ?_
      have hI6 := HX.out.1.more H6.out
      have hg6 := HL.out.2.2.2 w6 hI6.keep
      have c136 := blk_cell hI6.nn
      have c36 := blk_cell hg6.k3
      clear c13 c3 cW cE r0 r1 r2 r3 r4 r5 r6 r7 r8 d2
      have H6b := Lib.hid (And.intro hI6 hg6)
      clear hI6 hg6
      have j3 : (k : Int) ≤ 9223372036854775806 := by have := HX.out.2.2.1; have := HC.out.2.2; omega
      by_cases hst : (k : Int) = st
      · have d3 : decide ((k : Int) = st) = true := by simpa using hst
        have d3b : ((k : Int) == st) = true := by simpa using hst
        have x10 := blk_new w6 (.cells #[.int .i64 0] 3)
        have k10 := (Keep.refl No w6).alloc (.cells #[.int .i64 0] 3)
        have hs10 : (w6.alloc (.cells #[.int .i64 0] 3)).heap.size = w6.heap.size + 1 := by simp
        have c7 := blk_cell (k10.blk H6b.out.2.k7 (fun x => x))
        have HST := Lib.hid hst
        clear hst
        gi_wp2
        generalize (w6.alloc (.cells #[.int .i64 0] 3)) = w7 at *
        obtain ⟨b10, hb10⟩ : ∃ b10, w6.heap.size = b10 := ⟨_, rfl⟩
        rw [hb10] at x10 hs10 ⊢
        have HK : RowKit.Hid (Keep No w6 w7 ∧ w7.heap[b10]? = some (.cells #[.int .i64 0] 3 (0, 0)) ∧ w7.heap.size = b10 + 1 ∧ wc.heap.size + 2 ≤ b10) := ⟨k10, x10, hs10, by have := H6b.out.1.low; omega⟩
        have HKL : RowKit.Hid (∀ W', Keep (One b10) w7 W' → Keep (One b8) wc W') := fun W' hk => ((H6b.out.1.log (by have := HST.out; omega)).thenNo HK.out.1).then hk fun i hi e => by
          have : i = b10 := e
          have := HK.out.2.2.2
          omega
        clear c136 c36 c7 d3 d3b x10 k10 hs10
        have hb10L : b10 < w7.heap.size := by have := HK.out.2.2.1; omega
        refine wpIn_rangeTNq (gf := 59) (lb := #[.pointer (some ⟨Bx, 0, none⟩)]) rfl (enters_of Tryz.func59 (by kernel_rfl) rfl) (by omega) (l0 := wc.heap.size + 1) (r0 := rl) ((H6.out.trans HK.out.1).blk HX.out.2.2.2.2 (fun x => x)) x.l.length (EltN x w7.heap.size) (InI w7 b10 w7.heap.size) 2
          (fun k cs W o _ h => h.put o) (fun k A C h hk => h.more hk) (fun k W o _ h => h.put rfl hb10L o) ?ih0 ?ihseq 11 40 ?iassign (fun k cs A C h hk => h.keep hk) ?ibody ?idone (fun W h => h)
        case ih0 =>
          intro W' hk hs
          exact ⟨hk.mono fun _ _ h => h.elim, hk.blk HK.out.2.1 (fun x => x), by omega⟩
        case ihseq =>
          intro W1 J Jx hk hs hJI hJK hY hJ0
          have hk1 := HKL.out W1 (hk.mono fun _ _ h => h.elim)
          exact each1_in 3 _ Bx LB S S x (by omega) av cv HC.out.2.1.few J Jx W1 (fun j W' h => HL.out.2.2.1.agree _ ((HKL.out W' (hJI j W' h).keep).agree fun i _ hi e => (HS8.out i hi).1 e)) (fun j W' h => by have := (hJI j W' h).low; omega) hJK
            (fun j cs W' hk' hJ hR => hY j cs.toArray W' hk' hJ ⟨hk', by simpa using hR.mono _ (T := Up (w7.heap.size + 1)) fun i _ hi => by have := hi.1; rw [hs] at this; exact this⟩)
            (blk_cell (hk1.blk HC.out.1.it (fun e => by have : Bx = b8 := e; have := HC.out.1.o7; have := HC.out.1.o8; omega)) 0) (hk1.blk HL.out.1 (fun e => (HS8.out _ HL.out.2.1).1 e)) hJ0
        case iassign =>
          intro j cs W' K hI' ⟨hjl, hx⟩ hW' hK
          obtain ⟨b1, k1, b2, k2, b3', k3, ec⟩ := ent_array hx
          subst ec
          clear hx hI'
          generalize x.l[j] = xk at *
          have hK2 := fun a h => hK a (W'.alloc (.cells #[.int .i64 xk.seq, .int .i64 xk.epoch, .int .i64 xk.plan.client, .int .u64 xk.plan.token, .string xk.plan.name, .slice b1 xk.plan.args.length k1, .int .i64 xk.plan.how, .slice b2 xk.plan.reads.length k2, .slice b3' xk.plan.writes.length k3] 40)) ⟨W'.heap.size, by omega, h, blk_new _ _⟩ ((Keep.refl No W').alloc _)
          clear hK
          gi_wp2
        case ibody =>
          rintro j cs a₁ W2 hj hIn ⟨hjl, hx⟩ ⟨E2, hE2, rfl, hb2⟩ hlt2
          obtain ⟨yy1, zz1, yy2, zz2, yy3, zz3, ec⟩ := ent_array hx
          subst ec
          have hget := HL.out.2.2.2 W2 ((H6b.out.1.keep.thenNo HK.out.1).then hIn.keep fun i hi e => by
            have : i = b10 := e
            have := HK.out.2.2.2
            omega)
          obtain ⟨bb2, oo2, p1, q1, p2, q2, p3, q3, haw2, -, -, hrow, hx2⟩ := ents_get hget.rw j hj
          have hbo : (⟨bb, oo, none⟩ : Addr) = ⟨bb2, oo2, none⟩ := Option.some.inj (HAW.out.symm.trans haw2)
          simp only [Addr.mk.injEq, and_true] at hbo
          obtain ⟨rfl, rfl⟩ := hbo
          obtain ⟨r0, r1, r2, r3, r4, r5, r6, r7, r8⟩ := row_nine hrow
          have kd : Keep No W2 W2.drew := (Keep.refl No W2).drew
          have heq := (rEqual_any W2.drew _ _ _ _ x.l[j] x.l[j] (hx.agree _ kd.agreeNo) (hx2.agree _ kd.agreeNo)).mono (R' := fun e w' => e = .returned (.bool true) ∧ RowKit.Hid (Keep No W2 w')) (by
            rintro e w' ⟨rfl, hk⟩
            exact ⟨by rw [(Ent.eqb_iff _ _).2 rfl], kd.trans hk⟩)
          have i0 : (0 : Int) ≤ (j : Int) := by omega
          have i1 : (j : Int) < (x.l.length : Int) := by omega
          have e2 : decide ((x.l.length : Int) ≤ (j : Int)) = false := by simp; omega
          have i3 : (j : Int) ≤ 9223372036854775806 := by have := HC.out.2.2; omega
          have c13 := blk_cell hIn.nn
          have c3 := blk_cell hget.k6
          have cW := blk_cell hget.kw
          have cE := blk_cell hb2
          generalize x.l[j] = xk at *
          have HX2 := Lib.hid (And.intro hIn (And.intro hlt2 hj))
          clear hx hx2 hrow hIn hb2 kd hlt2 hj hget
          rw [haw2] at cW
          clear haw2
          generalize xk.seq = t0 at *
          generalize xk.epoch = t1 at *
          generalize xk.plan.client = t2 at *
          generalize xk.plan.token = t3 at *
          generalize xk.plan.name = t4 at *
          generalize xk.plan.how = t5 at *
          generalize xk.plan.args.length = s1 at *
          generalize xk.plan.reads.length = s2 at *
          generalize xk.plan.writes.length = s3 at *
          simp only [List.setIfInBounds_toArray, List.set_cons_zero, List.set_cons_succ]
          gi_wp2
          refine wpIn_region_can _ [0, 1, 2, 3, 4, 5, 6, 7, 8, 9, 10, 11, 12, 13, 14, 15, 16, 17, 18] [16] [] (by kernel_rfl) (by kernel_rfl) (by kernel_rfl) (by kernel_rfl) (by kernel_rfl) (by intro c a d v w h; cases d <;> exact h) (by rintro ⟨_, _, h⟩; exact h) ?_
          iterate 16 (refine can_sil rfl rfl (fun K hK => ?_); go_simp; refine hK _ ?_; clear hK K)
          refine can_loud [] rfl rfl rfl (fun K hK => ?_)
          go_wp2_with (go_at_call 13; refine heq.mono ?_; clear heq; rintro e w8 ⟨rfl, H8⟩)
          refine Mid.normal (hK _ _ stabs_nil ?_)
          clear hK K
          iterate 2 (refine can_sil rfl rfl (fun K hK => ?_); go_simp; refine hK _ ?_; clear hK K)
          refine can_nil ?_
          have hI8 := HX2.out.1.more H8.out
          have c138 := blk_cell hI8.nn
          have f138 := blk_fro hI8.nn
          have y9 := blk_set hI8.nn 0 (.int .i64 ((j : Int) + 1))
          have c139 := blk_cell y9
          have ks := keep_set w8 b10 0 (.int .i64 ((j : Int) + 1))
          have HE9 : RowKit.Hid ((w8.setCell ⟨b10, 0, none⟩ (.int .i64 ((j : Int) + 1))).heap[w7.heap.size]? = W2.heap[w7.heap.size]? ∧ InI w7 b10 w7.heap.size (j + 1) (w8.setCell ⟨b10, 0, none⟩ (.int .i64 ((j : Int) + 1)))) := by
            refine ⟨?_, hI8.keep.then ks fun i _ e => e, ?_, Nat.le_trans hI8.low ks.size⟩
            · rw [ks.block _ (by have := hI8.low; omega) (fun e => by have : w7.heap.size = b10 := e; omega)]
              exact H8.out.block _ (by have := HX2.out.1.low; omega) fun x => x
            · rw [show ((j + 1 : Nat) : Int) = (j : Int) + 1 by omega]
              simpa using y9
          clear c13 c3 cW cE r0 r1 r2 r3 r4 r5 r6 r7 r8 e2 y9 ks hI8
          by_cases hj2 : (2 : Int) < (j : Int) + 1
          · have e4 : decide ((2 : Int) < (j : Int) + 1) = true := by simpa using hj2
            clear hj2
            gi_wp2
            exact ⟨HE9.out.1, rfl, HE9.out.2⟩
          · have e4 : decide ((2 : Int) < (j : Int) + 1) = false := by simpa using hj2
            clear hj2
            gi_wp2
            exact HE9.out
        case idone =>
          intro j W3 hj hIn
          have hk3 := HKL.out W3 hIn.keep
          have hB := HC.out.1
          have o5 := hB.o5; have o6 := hB.o6; have ox := hB.ox; have o7 := hB.o7; have o8 := hB.o8
          have c53 := blk_cell (hk3.blk hB.k5 (fun e => by have : b5 = b8 := e; omega))
          have hl3 : LogAt 117 W3.drew LB S x := (hB.l1.agree (hk3.agree fun i _ hi e => (HS8.out i hi).1 e) hk3.size).agree ((Keep.refl No W3).drew).agreeNo ((Keep.refl No W3).drew).size
          have hep := logEpoch_any W3.drew LB S x hl3
          have hn3 : W3.heap[b8]? = some (.cells #[.int .i64 k] 3 (0, 0)) := hIn.keep.blk (HK.out.1.blk H6b.out.1.nn (fun x => x)) (fun e => by have : b8 = b10 := e; have := HK.out.2.2.2; have := hB.o9; omega)
          have hk73 : Keep S W W3 := ((H6.out.trans HK.out.1).mono fun _ _ h => h.elim).then hIn.keep fun i hi e => by
            have : i = b10 := e
            have := HK.out.2.2.2
            have := H6.out.size
            omega
          have HD3 := Lib.hid (And.intro hk3 (And.intro hn3 (And.intro hk73 hIn.low)))
          clear hl3 hk3 hn3 hk73 hIn o5 o6 ox o7 o8 hB hj
          gi_wp2
          refine wpIn_region_can _ [0, 1, 2, 3, 4, 5] [2, 3, 4, 5] [(0, 2), (0, 3), (0, 4)] (by kernel_rfl) (by kernel_rfl) (by kernel_rfl) (by kernel_rfl) (by kernel_rfl) (by intro c a d v w h; cases d <;> exact h) (by rintro ⟨_, _, h⟩; exact h) ?_
          iterate 2 (refine can_sil rfl rfl (fun K hK => ?_); go_simp; refine hK _ ?_; clear hK K)
          refine can_loud [0] rfl rfl rfl (fun K hK => ?_)
          go_wp2_with (go_at_call 15; refine hep.mono ?_; clear hep; rintro e w9 ⟨rfl, hw9⟩; subst hw9)
          refine Mid.normal (hK _ _ ?_ ?_)
          · simp only [List.forall_mem_cons]
            refine ⟨?_, stabs_nil⟩ <;> exact stab_of rfl (fun K hK => by go_simp; exact hK)
          clear hK K
          have hpl := (lplan_any W3.drew 9 rfl).mono (R' := fun e w' => ∃ b, e = .returned (.agg #[.int .i64 1, .int .u64 9, .string ⟨#[112]⟩, .slice none 0 0, .int .i64 2, .slice (some ⟨b, 0, none⟩) 1 1, .slice none 0 0]) ∧ w'.heap[b5]? = some (.cells #[.pointer (some ⟨LB, 0, none⟩)] 23 (0, 0)) ∧ RowKit.Hid (Rd planSh w' (Up (wc.heap.size + 2)) [.int .i64 1, .int .u64 9, .string ⟨#[112]⟩, .slice none 0 0, .int .i64 2, .slice (some ⟨b, 0, none⟩) 1 1, .slice none 0 0] (planP 9) ∧ Keep No W3 w')) (by
            rintro e w' ⟨b, rfl, hh⟩
            have hkk := (Keep.refl No W3).drew.trans hh.out.2
            have hB := HC.out.1
            refine ⟨b, rfl, hkk.blk (HD3.out.1.blk hB.k5 (fun e => by have : b5 = b8 := e; have := hB.o6; have := hB.ox; have := hB.o7; have := hB.o8; omega)) (fun x => x), hh.out.1.mono _ fun i _ hi => ?_, hkk⟩
            have h1 : W3.heap.size ≤ i := hi.1
            have := HD3.out.2.2.2
            have := HK.out.2.2
            show _ ≤ _
            omega)
          refine can_loud [0] rfl rfl rfl (fun K hK => ?_)
          go_wp2_with (go_at_call 16; refine hpl.mono ?_; clear hpl; rintro e w10 ⟨bp, rfl, y10, H10⟩)
          have c510 := blk_cell y10
          have c510a := fun o => blk_cell (blk_alloc (o' := o) y10)
          refine Mid.normal (hK _ _ ?_ ?_)
          · simp only [List.forall_mem_cons]
            refine ⟨?_, stabs_nil⟩ <;> exact stab_of rfl (fun K hK => by go_simp; exact hK)
          clear hK K
          refine can_loud [0] rfl rfl rfl (fun K hK => ?_)
          go_wp2_with fail
          refine Mid.normal (hK _ _ ?_ ?_)
          · simp only [List.forall_mem_cons]
            refine ⟨?_, stabs_nil⟩ <;> exact stab_of rfl (fun K hK => by go_simp; exact hK)
          clear hK K c510 c510a c53
          have ka := (Keep.refl No w10).alloc (.cells #[.int .i64 1, .int .u64 9, .string ⟨#[112]⟩, .slice none 0 0, .int .i64 2, .slice (some ⟨bp, 0, none⟩) 1 1, .slice none 0 0] 38)
          have hlow10 : wc.heap.size + 2 ≤ w10.heap.size := by
            have := H10.out.2.size
            have := HD3.out.2.2.2
            have := HK.out.2.2
            omega
          have hap := ea_append HC.out.1 HC.out.2.1 HC.out.2.2 HL.out.1 (k := k) ((HD3.out.1.thenNo H10.out.2).thenNo ka) ((H10.out.2.trans ka).blk HD3.out.2.1 (fun x => x)) (Nat.le_trans hlow10 ka.size) (a := some ⟨w10.heap.size, 0, none⟩) (m := 1) (c := 1) ((ea_one H10.out.1 hlow10).mono _ fun i _ hi => hi.1)
          have hap2 := hap.mono (R' := fun e w' => ∃ r1 r2 r3, e = .returned (.tuple #[.int .i64 r1, .int .i64 r2, .int .i64 r3]) ∧ w'.heap[b8]? = some (.cells #[.int .i64 k] 3 (0, 0)) ∧ RowKit.Hid (Keep S W w' ∧ Keep (fun i => S i ∨ i = b8) wc w' ∧ (∃ V : Nat → Prop, Rd (.slice entrySh) w' V [.slice av x.l.length cv] x.l ∧ ∀ i, V i → i ≠ b8 ∧ (i < wc.heap.size ∨ wc.heap.size + 2 ≤ i)) ∧ wc.heap.size + 2 ≤ w'.heap.size)) (by
            rintro e w' ⟨⟨r1, r2, r3, rfl⟩, g1, g2⟩
            exact ⟨r1, r2, r3, rfl, g1, ((HD3.out.2.2.1.thenNo H10.out.2).thenNo ka).trans g2.out.1, g2.out.2⟩)
          clear hap ka
          refine can_loud [] rfl rfl rfl (fun K hK => ?_)
          go_wp2_with (go_at_call 14; refine hap2.mono ?_; clear hap2; rintro e w11 ⟨r1, r2, r3, rfl, y11, H11⟩)
          refine Mid.normal (hK _ _ stabs_nil ?_)
          clear hK K
          refine can_nil ?_
          have c811 := blk_cell y11
          have f811 := blk_fro y11
          gi_wp2
          refine ⟨fun b hb => ?_, ?_⟩
          · have ks := keep_set w11 b8 0 (.int .i64 ((k : Int) + 1))
            have h8 := HC.out.1.o9
            have hl := HX.out.1.low
            rw [ks.block b (by have := H11.out.1.size; omega) (fun h => by have : b = b8 := h; omega)]
            exact H11.out.1.block b (by omega) fun hs => by have := (HS8.out b hs).2; omega
          · exact EaI.step H11.out.2.1 (fun h => absurd h (by have := HST.out; omega)) H11.out.2.2.1 y11 H11.out.2.2.2
      · have d3 : decide ((k : Int) = st) = false := by simpa using hst
        have d3b : ((k : Int) == st) = false := by simpa using hst
        have f13 := blk_fro H6b.out.1.nn
        have HST := Lib.hid hst
        clear hst
        gi_wp2
        refine ⟨fun b hb => ?_, ?_⟩
        · have ks := keep_set w6 b8 0 (.int .i64 ((k : Int) + 1))
          have h8 := HC.out.1.o9
          have hl := HX.out.1.low
          rw [ks.block b (by have := H6.out.size; omega) (fun h => by have : b = b8 := h; omega)]
          exact H6.out.block b (by omega) fun x => x
        · exact EaI.step H6b.out.1.keep (fun h => H6b.out.1.log (by omega)) H6b.out.1.view H6b.out.1.nn H6b.out.1.low
    case done =>
      intro W hI hD
      have hg := HL.out.2.2.2 W hI.keep
      have c13 := blk_cell hI.nn
      have c3 := blk_cell hg.k6
      have cW := blk_cell hg.kw
      have HZ := Lib.hid (And.intro hI (And.intro hD hg))
      clear hI hD hg
      go_wp2_with fail
      refine wp_nop ?_
      refine wp_region_can [0, 1, 2, 3, 4, 5, 6, 7, 8, 9, 10] [8, 10] [] (by kernel_rfl) (by kernel_rfl) (by kernel_rfl) (by kernel_rfl) (by intro c a d v w h; cases d <;> exact h) ?_
      iterate 8 (refine can_sil rfl rfl (fun K hK => ?_); go_simp; refine hK _ ?_; clear hK K)
      have hlive := (live_any W.drew).mono (R' := fun e w' => e = .returned (.bool true) ∧ w'.heap[b4]? = some (.cells #[.bool false] 4 (0, 0)) ∧ RowKit.Hid (Keep No W w')) (by
        rintro e w' ⟨rfl, hk⟩
        have hkk := (Keep.refl No W).drew.trans hk
        exact ⟨rfl, hkk.blk HZ.out.2.2.k4 (fun h => h), hkk⟩)
      refine can_loud [] rfl rfl rfl (fun K hK => ?_)
      go_wp2_with (go_at_call 17; refine hlive.mono ?_; clear hlive; rintro e w7 ⟨rfl, y7, H7⟩)
      refine Mid.normal (hK _ _ stabs_nil ?_)
      clear hK K
      refine can_sil rfl rfl (fun K hK => ?_); go_simp; refine hK _ ?_; clear hK K
      have c47 := blk_cell y7
      have f47 := blk_fro y7
      refine can_loud [] rfl rfl rfl (fun K hK => ?_)
      go_wp2_with fail
      refine Mid.normal (hK _ _ stabs_nil ?_)
      clear hK K
      refine can_nil (NoP.normal ?_)
      have y8 := blk_set y7 0 (.bool true)
      have ks := keep_set w7 b4 0 (.bool true)
      have hB := HC.out.1
      have o3 := hB.o3; have o4 := hB.o4; have o5 := hB.o5; have o6 := hB.o6; have ox := hB.ox; have o7 := hB.o7; have o8 := hB.o8; have o9 := hB.o9
      have hD8 := ks.blk (H7.out.blk HZ.out.2.1 (fun h => h)) (fun e => by have : wc.heap.size = b4 := e; omega)
      have hk8 : Keep No w (w7.setCell ⟨b4, 0, none⟩ (.bool true)) := ((hB.keep.then (HZ.out.1.keep.thenNo H7.out) fun i hi e => by
        rcases e with e | e
        · have := hB.s i e; omega
        · omega)).then ks fun i hi e => by
          have : i = b4 := e
          omega
      generalize w7.setCell ⟨b4, 0, none⟩ (.bool true) = w8 at *
      clear c13 c3 cW c47 f47
      go_wp2_with fail
      refine ⟨by simp, .inl ⟨_, _, rfl, run_takeDeferred hD8, ?_⟩⟩
      have y9 : (w8.putObj wc.heap.size (.deferred none)).heap[b4]? = some (.cells #[.bool true] 4 (0, 0)) := (World.putObj_heap_other (by omega)).trans (by simpa using y8)
      have c49 := blk_cell y9 0
      refine ⟨.bool true, by simp [results, Tryz.results3, go_sem, c49], ⟨rfl, keep_putNew hk8 (by have := hB.keep.size; exact this) _⟩⟩

theorem LogEaches_calls (w : World) (v : Value) (l : List Act') (h : Rd (.slice actSh) w (Lt w.heap.size) [v] l) (hb : (Sh.slice actSh).bulk l ≤ 1048576) (st : Int) (wf : (Lit.int .i64 st).wf = true) :
    Calls Tryz.prog 3 #[v, .int .i64 st] w fun e w' => e = .returned (.bool true) ∧ Keep No w w' := by
  obtain ⟨a, c, hv, -⟩ := id h
  simp only [List.cons.injEq, and_true] at hv
  subst hv
  have hb' : (l.map actSh.bulk).sum ≤ 1048576 := by have : (l.map actSh.bulk).sum + 1 ≤ 1048576 := hb; omega
  exact LogEaches_main w a c l h hb' st
end Go.Proofs.YtnknihmchmmenaaGreat
