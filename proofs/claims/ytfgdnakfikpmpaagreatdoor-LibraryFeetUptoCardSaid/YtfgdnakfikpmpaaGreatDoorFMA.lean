/-
  Parts of what is proved for this claim; each declaration is one of the seat's texts.
-/
import Derived.Test.YtfgdnakfikpmpaaGreatDoorFLK
set_option linter.unusedVariables false
set_option linter.unusedSimpArgs false
namespace Go.Proofs.YtfgdnakfikpmpaaGreatDoor
open Go Go.RowKit Go.Deep
def largeB (p : Prc) : Bool := decide (500 < p.kinds.length) || decide (500 < p.reads.length) || decide (500 < p.writes.length) || decide (1000 < p.pgm.code.length) || decide (1000 < p.pgm.consts.length)
set_option maxHeartbeats 4000000 in
theorem large_any (w : World) (a1 a2 a3 a4 a5 : Option Addr) (c1 c2 c3 c4 c5 : Nat) (p : Prc) (hl : p.kinds.length ≤ 9223372036854775807 ∧ p.reads.length ≤ 9223372036854775807 ∧ p.writes.length ≤ 9223372036854775807 ∧ p.pgm.consts.length ≤ 9223372036854775807 ∧ p.pgm.code.length ≤ 9223372036854775807) :
    Calls Tryz.prog 13 #[.agg #[.string p.name, .slice a1 p.kinds.length c1, .bool p.dep, .slice a2 p.reads.length c2, .slice a3 p.writes.length c3, .int .i64 p.pgm.args, .slice a4 p.pgm.consts.length c4, .slice a5 p.pgm.code.length c5]] w fun e w' => e = .returned (.bool (largeB p)) ∧ RowKit.Hid (Keep No w w') := by
  obtain ⟨n1, h1⟩ : ∃ n, p.kinds.length = n := ⟨_, rfl⟩
  obtain ⟨n2, h2⟩ : ∃ n, p.reads.length = n := ⟨_, rfl⟩
  obtain ⟨n3, h3⟩ : ∃ n, p.writes.length = n := ⟨_, rfl⟩
  obtain ⟨n4, h4⟩ : ∃ n, p.pgm.consts.length = n := ⟨_, rfl⟩
  obtain ⟨n5, h5⟩ : ∃ n, p.pgm.code.length = n := ⟨_, rfl⟩
  have hB : largeB p = (decide (500 < n1) || decide (500 < n2) || decide (500 < n3) || decide (1000 < n5) || decide (1000 < n4)) := by
    unfold largeB; rw [h1, h2, h3, h4, h5]
  rw [hB]
  rw [h1, h2, h3, h4, h5] at *
  clear hB h1 h2 h3 h4 h5
  have K := (Keep.refl No w).alloc (.cells #[.string p.name, .slice a1 n1 c1, .bool p.dep, .slice a2 n2 c2, .slice a3 n3 c3, .int .i64 p.pgm.args, .slice a4 n4 c4, .slice a5 n5 c5] 29)
  have x1 := blk_new w (.cells #[.string p.name, .slice a1 n1 c1, .bool p.dep, .slice a2 n2 c2, .slice a3 n3 c3, .int .i64 p.pgm.args, .slice a4 n4 c4, .slice a5 n5 c5] 29)
  have q1 := blk_cell x1
  have HK := Lib.hid K
  clear K x1
  go_enter Tryz.func13, Tryz.ntmps13
  go_upto_region 1 with fail
  generalize (w.alloc (.cells #[.string p.name, .slice a1 n1 c1, .bool p.dep, .slice a2 n2 c2, .slice a3 n3 c3, .int .i64 p.pgm.args, .slice a4 n4 c4, .slice a5 n5 c5] 29)) = w1 at *
  by_cases g1 : (500 : Int) < n1 <;> by_cases g2 : (500 : Int) < n2 <;> by_cases g3 : (500 : Int) < n3 <;> by_cases g5 : (1000 : Int) < n5 <;> by_cases g4 : (1000 : Int) < n4
  all_goals
    go_wp2_with fail
    go_ret
    refine ⟨?_, HK⟩
    congr 2
    simp
    omega
end Go.Proofs.YtfgdnakfikpmpaaGreatDoor
namespace Go.Proofs.YtfgdnakfikpmpaaGreatDoor
open Go Go.RowKit Go.Deep
theorem own_step {s : Sh} {l : List s.T} {W : World} {S : Nat → Prop} {v : Value} {P : Nat} {xs : Array Value} {T : TypeId} (h : Rd (.slice s) W S [v] l) (hf : s.flat = true) (b0 : W.heap[P]? = some (.cells xs T (0, 0))) (hP : P + 2 ≤ W.heap.size) (t e : TypeId) (bytes : Nat) (z : Value)
    (ht : Tryz.prog.underlying t = some (.slice e)) (hi : (Tryz.prog.info? e).map (fun i => (i.zero, i.size, i.bytes)) = some (some z, s.size, bytes)) (hzs : z.cells.size = s.size) (hl : l.length ≤ 1048576) (hb : bytes ≤ 4096) (j : Nat) :
    ∃ a c W', (Builtin.append_ #[t, t] t #[.slice (some ⟨W.heap.size, 0, none⟩) 0 0, v]).run Tryz.prog (W.alloc (.cells #[] e)) = .ok (.slice a l.length c) W' ∧ (∀ o, (W.alloc (.cells #[] e)).cell? ⟨P, o, none⟩ = xs[o]?) ∧ (∀ o, W'.cell? ⟨P, o, none⟩ = xs[o]?) ∧ (∀ o, W'.frozen? ⟨P, o, none⟩ = false) ∧
      (W'.setCell ⟨P, j, none⟩ (.slice a l.length c)).heap[P]? = some (.cells (xs.setIfInBounds j (.slice a l.length c)) T (0, 0)) ∧
      RowKit.Hid (Rd (.slice s) (W'.setCell ⟨P, j, none⟩ (.slice a l.length c)) (Up (P + 2)) [.slice a l.length c] l ∧ Keep (One P) W (W'.setCell ⟨P, j, none⟩ (.slice a l.length c))) := by
  obtain ⟨i0, hi0, hz0, hz1, hz2⟩ := info_parts hi
  obtain ⟨a, c, W', hrun, ho, hk⟩ := clone_app h hf t e t i0 z bytes ht hi0 hz0 hz1 hz2 hzs hl hb
  have x := hk.blk b0 (fun x => x)
  exact ⟨a, c, W', hrun, blk_cell (blk_alloc b0), blk_cell x, blk_fro x, blk_set x j _, ((ho.agree (agree_set (Fr.not (by omega)) j _)).rd).mono (.slice s) (fun k _ hk => by have := hk.1; show P + 2 ≤ k; omega), ((Keep.refl (One P) W).thenNo hk).trans (keep_set W' P j _)⟩
theorem up_keep {s : Sh} {W W' : World} {P : Nat} {cs : List Value} {x : s.T} (h : Rd s W (Up (P + 2)) cs x) (hk : Keep (One P) W W') : Rd s W' (Up (P + 2)) cs x :=
  h.agree s (hk.agree fun k _ hs e => by have : k = P := e; have : P + 2 ≤ k := hs; omega)
theorem lo_keep {s : Sh} {W W' : World} {P : Nat} {cs : List Value} {x : s.T} (h : Rd s W (Lt P) cs x) (hk : Keep (One P) W W') : Rd s W' (Lt P) cs x :=
  h.agree s (hk.agree fun k _ hs e => by have : k = P := e; have : k < P := hs; omega)
theorem keep_one8 (w : World) (b : Nat) (y0 y1 y2 y3 y4 y5 y6 y7 : Value) : Keep (One b) w ((((((((w.setCell ⟨b, 0, none⟩ y0).setCell ⟨b, 1, none⟩ y1).setCell ⟨b, 2, none⟩ y2).setCell ⟨b, 3, none⟩ y3).setCell ⟨b, 4, none⟩ y4).setCell ⟨b, 5, none⟩ y5).setCell ⟨b, 6, none⟩ y6).setCell ⟨b, 7, none⟩ y7) :=
  (((((((keep_set w b 0 y0).trans (keep_set _ b 1 y1)).trans (keep_set _ b 2 y2)).trans (keep_set _ b 3 y3)).trans (keep_set _ b 4 y4)).trans (keep_set _ b 5 y5)).trans (keep_set _ b 6 y6)).trans (keep_set _ b 7 y7)
set_option maxRecDepth 10000 in
set_option maxHeartbeats 2000000 in
theorem own8_any (w : World) (S : Nat → Prop) (cs : List Value) (p : Prc) (h : Rd procSh w S cs p) (l1 : p.kinds.length ≤ 1048576) (l2 : p.reads.length ≤ 1048576) (l3 : p.writes.length ≤ 1048576) (l4 : p.pgm.consts.length ≤ 1048576) (l5 : p.pgm.code.length ≤ 1048576) :
    Calls Tryz.prog 15 #[.agg cs.toArray] w (CopiedP w p) := by
  obtain ⟨a1, c1, a2, c2, a3, c3, a4, c4, a5, c5, rfl, h1, h2, h3, h4, h5, w1, w2⟩ := proc_cells (h.mono procSh (T := Lt w.heap.size) fun k hk _ => hk)
  have b0 := blk_alloc (o' := .cells #[.string ⟨#[]⟩, .slice none 0 0, .bool false, .slice none 0 0, .slice none 0 0, .int .i64 0, .slice none 0 0, .slice none 0 0] 29) (blk_new w (.cells #[.string p.name, .slice a1 p.kinds.length c1, .bool p.dep, .slice a2 p.reads.length c2, .slice a3 p.writes.length c3, .int .i64 p.pgm.args, .slice a4 p.pgm.consts.length c4, .slice a5 p.pgm.code.length c5] 29))
  have b1 := blk_new (w.alloc (.cells #[.string p.name, .slice a1 p.kinds.length c1, .bool p.dep, .slice a2 p.reads.length c2, .slice a3 p.writes.length c3, .int .i64 p.pgm.args, .slice a4 p.pgm.consts.length c4, .slice a5 p.pgm.code.length c5] 29)) (.cells #[.string ⟨#[]⟩, .slice none 0 0, .bool false, .slice none 0 0, .slice none 0 0, .int .i64 0, .slice none 0 0, .slice none 0 0] 29)
  have K0 := ((Keep.refl No w).alloc (.cells #[.string p.name, .slice a1 p.kinds.length c1, .bool p.dep, .slice a2 p.reads.length c2, .slice a3 p.writes.length c3, .int .i64 p.pgm.args, .slice a4 p.pgm.consts.length c4, .slice a5 p.pgm.code.length c5] 29)).alloc (.cells #[.string ⟨#[]⟩, .slice none 0 0, .bool false, .slice none 0 0, .slice none 0 0, .int .i64 0, .slice none 0 0, .slice none 0 0] 29)
  simp only [World.size_alloc] at b1
  have HW := Lib.hid (And.intro w1 w2)
  clear h w1 w2
  go_enter Tryz.func15, Tryz.ntmps15
  go_upto_region 1 with fail
  generalize (w.alloc (.cells #[.string p.name, .slice a1 p.kinds.length c1, .bool p.dep, .slice a2 p.reads.length c2, .slice a3 p.writes.length c3, .int .i64 p.pgm.args, .slice a4 p.pgm.consts.length c4, .slice a5 p.pgm.code.length c5] 29)).alloc (.cells #[.string ⟨#[]⟩, .slice none 0 0, .bool false, .slice none 0 0, .slice none 0 0, .int .i64 0, .slice none 0 0, .slice none 0 0] 29) = u0 at *
  obtain ⟨P, hP⟩ : ∃ P, w.heap.size = P := ⟨_, rfl⟩
  have HP := Lib.hid hP
  rw [hP] at b0 b1 h1 h2 h3 h4 h5 ⊢
  clear hP
  have hP0 : P + 2 ≤ u0.heap.size := blk_lt b1
  have R1 := Lib.hid (h1.agree _ K0.agreeNo)
  have R2 := Lib.hid (h2.agree _ K0.agreeNo)
  have R3 := Lib.hid (h3.agree _ K0.agreeNo)
  have R4 := Lib.hid (h4.agree _ K0.agreeNo)
  have R5 := Lib.hid (h5.agree _ K0.agreeNo)
  have KK := Lib.hid K0
  have U0 := Lib.hid (Keep.refl (One P) u0)
  have B1 := Lib.hid b1
  have H0 := Lib.hid (And.intro b0 hP0)
  have HL := Lib.hid (And.intro l1 (And.intro l2 (And.intro l3 (And.intro l4 l5))))
  clear h1 h2 h3 h4 h5 K0 l1 l2 l3 l4 l5 b0 b1 hP0
  obtain ⟨x1, y1, v1, hrun, q1, q2, f2, b0, N1⟩ := own_step R1.out rfl H0.out.1 H0.out.2 22 3 8 (.int .i64 0) Tryz.underlying22 Tryz.infoClI rfl HL.out.1 (by decide) 1
  go_upto_region 2 with (at_builtin; refine wpList_app rfl (.tmp 3) (.tmp 5) 22 22 rfl rfl rfl hrun ?_)
  generalize v1.setCell ⟨P, 1, none⟩ (.slice x1 p.kinds.length y1) = u1 at *
  have b0 : u1.heap[P]? = some (.cells #[.string p.name, .slice x1 p.kinds.length y1, .bool p.dep, .slice a2 p.reads.length c2, .slice a3 p.writes.length c3, .int .i64 p.pgm.args, .slice a4 p.pgm.consts.length c4, .slice a5 p.pgm.code.length c5] 29 (0, 0)) := by simpa using b0
  have U1 := Lib.hid (U0.out.trans N1.out.2)
  have H1 := Lib.hid (And.intro b0 (Nat.le_trans H0.out.2 N1.out.2.size))
  clear hrun q1 q2 f2 b0
  obtain ⟨x2, y2, v2, hrun, q1, q2, f2, b0, N2⟩ := own_step (lo_keep R2.out U1.out) rfl H1.out.1 H1.out.2 23 9 16 (.string ⟨#[]⟩) Tryz.underlying23 Tryz.infoText rfl HL.out.2.1 (by decide) 3
  go_upto_region 3 with (at_builtin; refine wpList_app rfl (.tmp 8) (.tmp 10) 23 23 rfl rfl rfl hrun ?_)
  generalize v2.setCell ⟨P, 3, none⟩ (.slice x2 p.reads.length y2) = u2 at *
  have b0 : u2.heap[P]? = some (.cells #[.string p.name, .slice x1 p.kinds.length y1, .bool p.dep, .slice x2 p.reads.length y2, .slice a3 p.writes.length c3, .int .i64 p.pgm.args, .slice a4 p.pgm.consts.length c4, .slice a5 p.pgm.code.length c5] 29 (0, 0)) := by simpa using b0
  have U2 := Lib.hid (U1.out.trans N2.out.2)
  have H2 := Lib.hid (And.intro b0 (Nat.le_trans H1.out.2 N2.out.2.size))
  clear hrun q1 q2 f2 b0
  obtain ⟨x3, y3, v3, hrun, q1, q2, f2, b0, N3⟩ := own_step (lo_keep R3.out U2.out) rfl H2.out.1 H2.out.2 23 9 16 (.string ⟨#[]⟩) Tryz.underlying23 Tryz.infoText rfl HL.out.2.2.1 (by decide) 4
  go_upto_region 4 with (at_builtin; refine wpList_app rfl (.tmp 13) (.tmp 15) 23 23 rfl rfl rfl hrun ?_)
  generalize v3.setCell ⟨P, 4, none⟩ (.slice x3 p.writes.length y3) = u3 at *
  have b0 : u3.heap[P]? = some (.cells #[.string p.name, .slice x1 p.kinds.length y1, .bool p.dep, .slice x2 p.reads.length y2, .slice x3 p.writes.length y3, .int .i64 p.pgm.args, .slice a4 p.pgm.consts.length c4, .slice a5 p.pgm.code.length c5] 29 (0, 0)) := by simpa using b0
  have U3 := Lib.hid (U2.out.trans N3.out.2)
  have H3 := Lib.hid (And.intro b0 (Nat.le_trans H2.out.2 N3.out.2.size))
  clear hrun q1 q2 f2 b0
  obtain ⟨x4, y4, v4, hrun, q1, q2, f2, b0, N4⟩ := own_step (lo_keep R4.out U3.out) rfl H3.out.1 H3.out.2 24 47 32 (.agg #[.int .i64 0, .int .i64 0, .string ⟨#[]⟩]) Tryz.underlying24 Tryz.infoValue rfl HL.out.2.2.2.1 (by decide) 6
  go_upto_region 5 with (at_builtin; refine wpList_app rfl (.tmp 18) (.tmp 21) 24 24 rfl rfl rfl hrun ?_)
  generalize v4.setCell ⟨P, 6, none⟩ (.slice x4 p.pgm.consts.length y4) = u4 at *
  have b0 : u4.heap[P]? = some (.cells #[.string p.name, .slice x1 p.kinds.length y1, .bool p.dep, .slice x2 p.reads.length y2, .slice x3 p.writes.length y3, .int .i64 p.pgm.args, .slice x4 p.pgm.consts.length y4, .slice a5 p.pgm.code.length c5] 29 (0, 0)) := by simpa using b0
  have U4 := Lib.hid (U3.out.trans N4.out.2)
  have H4 := Lib.hid (And.intro b0 (Nat.le_trans H3.out.2 N4.out.2.size))
  clear hrun q1 q2 f2 b0
  obtain ⟨x5, y5, v5, hrun, q1, q2, f2, b0, N5⟩ := own_step (lo_keep R5.out U4.out) rfl H4.out.1 H4.out.2 25 144 16 (.agg #[.int .i64 0, .int .i64 0]) Tryz.underlying25 Tryz.infoClN rfl HL.out.2.2.2.2 (by decide) 7
  go_upto_region 6 with (at_builtin; refine wpList_app rfl (.tmp 25) (.tmp 28) 25 25 rfl rfl rfl hrun ?_)
  generalize v5.setCell ⟨P, 7, none⟩ (.slice x5 p.pgm.code.length y5) = u5 at *
  have b0 : u5.heap[P]? = some (.cells #[.string p.name, .slice x1 p.kinds.length y1, .bool p.dep, .slice x2 p.reads.length y2, .slice x3 p.writes.length y3, .int .i64 p.pgm.args, .slice x4 p.pgm.consts.length y4, .slice x5 p.pgm.code.length y5] 29 (0, 0)) := by simpa using b0
  have U5 := Lib.hid (U4.out.trans N5.out.2)
  have H5 := Lib.hid (And.intro b0 (Nat.le_trans H4.out.2 N5.out.2.size))
  have c0 := blk_cell b0
  have f0 := blk_fro b0
  clear hrun q1 q2 f2 b0
  have b1 := U5.out.blk B1.out (fun e => by have : P + 1 = P := e; omega)
  have c1 := blk_cell b1
  have f1 := blk_fro b1
  go_wp2_with fail
  have y6 := blk_eight b1 (.string p.name) (.slice x1 p.kinds.length y1) (.bool p.dep) (.slice x2 p.reads.length y2) (.slice x3 p.writes.length y3) (.int .i64 p.pgm.args) (.slice x4 p.pgm.consts.length y4) (.slice x5 p.pgm.code.length y5)
  have k6 : Keep (One (P + 1)) u5 ((((((((u5.setCell ⟨P + 1, 0, none⟩ (.string p.name)).setCell ⟨P + 1, 1, none⟩ (.slice x1 p.kinds.length y1)).setCell ⟨P + 1, 2, none⟩ (.bool p.dep)).setCell ⟨P + 1, 3, none⟩ (.slice x2 p.reads.length y2)).setCell ⟨P + 1, 4, none⟩ (.slice x3 p.writes.length y3)).setCell ⟨P + 1, 5, none⟩ (.int .i64 p.pgm.args)).setCell ⟨P + 1, 6, none⟩ (.slice x4 p.pgm.consts.length y4)).setCell ⟨P + 1, 7, none⟩ (.slice x5 p.pgm.code.length y5)) := by
    exact keep_one8 u5 (P + 1) _ _ _ _ _ _ _ _
  have s6 := blk_cell y6
  have KF := (KK.out.then U5.out fun i hi e => by have : i = P := e; have := HP.out; omega).then k6 fun i hi e => by have : i = P + 1 := e; have := HP.out; omega
  have fin : ∀ (s : Sh) (v : Value) (l : List s.T), Rd (.slice s) u5 (Up (P + 2)) [v] l → Rd (.slice s) ((((((((u5.setCell ⟨P + 1, 0, none⟩ (.string p.name)).setCell ⟨P + 1, 1, none⟩ (.slice x1 p.kinds.length y1)).setCell ⟨P + 1, 2, none⟩ (.bool p.dep)).setCell ⟨P + 1, 3, none⟩ (.slice x2 p.reads.length y2)).setCell ⟨P + 1, 4, none⟩ (.slice x3 p.writes.length y3)).setCell ⟨P + 1, 5, none⟩ (.int .i64 p.pgm.args)).setCell ⟨P + 1, 6, none⟩ (.slice x4 p.pgm.consts.length y4)).setCell ⟨P + 1, 7, none⟩ (.slice x5 p.pgm.code.length y5)) (Fr w.heap.size ((((((((u5.setCell ⟨P + 1, 0, none⟩ (.string p.name)).setCell ⟨P + 1, 1, none⟩ (.slice x1 p.kinds.length y1)).setCell ⟨P + 1, 2, none⟩ (.bool p.dep)).setCell ⟨P + 1, 3, none⟩ (.slice x2 p.reads.length y2)).setCell ⟨P + 1, 4, none⟩ (.slice x3 p.writes.length y3)).setCell ⟨P + 1, 5, none⟩ (.int .i64 p.pgm.args)).setCell ⟨P + 1, 6, none⟩ (.slice x4 p.pgm.consts.length y4)).setCell ⟨P + 1, 7, none⟩ (.slice x5 p.pgm.code.length y5)).heap.size) [v] l := fun s v l hr =>
    (hr.agree (.slice s) (k6.agree fun k _ hs e => by have : k = P + 1 := e; have : P + 2 ≤ k := hs; omega)).mono (.slice s) fun k hk hs => ⟨by have : P + 2 ≤ k := hs; have := HP.out; omega, hk⟩
  refine bodyPost_ret (v := .agg #[.string p.name, .slice x1 p.kinds.length y1, .bool p.dep, .slice x2 p.reads.length y2, .slice x3 p.writes.length y3, .int .i64 p.pgm.args, .slice x4 p.pgm.consts.length y4, .slice x5 p.pgm.code.length y5]) (by simp [results, Tryz.results15, go_sem, s6]) rfl ⟨_, rfl, ?_, KF⟩
  exact proc_mk p (fin _ _ _ (up_keep (up_keep (up_keep (up_keep N1.out.1 N2.out.2) N3.out.2) N4.out.2) N5.out.2)) (fin _ _ _ (up_keep (up_keep (up_keep N2.out.1 N3.out.2) N4.out.2) N5.out.2)) (fin _ _ _ (up_keep (up_keep N3.out.1 N4.out.2) N5.out.2)) (fin _ _ _ (up_keep N4.out.1 N5.out.2)) (fin _ _ _ N5.out.1) HW.out.1 HW.out.2
end Go.Proofs.YtfgdnakfikpmpaaGreatDoor
namespace Go.Proofs.YtfgdnakfikpmpaaGreatDoor
open Go Go.RowKit Go.Deep
def Prc.footE (p : Prc) (args : List Val) : Fp × Int := if p.chk ≠ 0 then (mkFp [] [], 80) else p.foot args
theorem footE_cases (p : Prc) (args : List Val) : (p.chk ≠ 0 ∧ p.footE args = (mkFp [] [], 80)) ∨ (p.chk = 0 ∧ p.dep = true ∧ p.footE args = (mkFp [] [], 83)) ∨ (p.chk = 0 ∧ p.dep = false ∧ suitsB p.kinds args = false ∧ p.footE args = (mkFp [] [], 82)) ∨ (p.chk = 0 ∧ p.dep = false ∧ suitsB p.kinds args = true ∧ p.footE args = p.foot args) := by
  by_cases hc : p.chk = 0
  · have hfe : p.footE args = p.foot args := by unfold Prc.footE; rw [if_neg (fun e => e hc)]
    rw [hfe]
    refine .inr ?_
    by_cases hd : p.dep = true
    · exact .inl ⟨hc, hd, by unfold Prc.foot; rw [if_pos hd]⟩
    · have hd' : p.dep = false := by simpa using hd
      by_cases hs : suitsB p.kinds args = true
      · exact .inr (.inr ⟨hc, hd', hs, rfl⟩)
      · have hs' : suitsB p.kinds args = false := by simpa using hs
        exact .inr (.inl ⟨hc, hd', hs', by unfold Prc.foot; rw [if_neg hd, if_pos hs']⟩)
  · exact .inl ⟨hc, by unfold Prc.footE; rw [if_pos hc]⟩
set_option maxRecDepth 10000 in
set_option maxHeartbeats 4000000 in
theorem libFootE_any (w : World) (S T : Nat → Prop) (cs : List Value) (p : Prc) (h : Rd procSh w S cs p) (hnm : p.name.size ≤ 9223372036854775807) (hsum : p.reads.length + p.writes.length ≤ 9223372036854775807) (args : List Val) (a : Option Addr) (c : Nat) (ha : Rd (.slice valueSh) w T [.slice a args.length c] args) (ht : Tab w) :
    Calls Tryz.prog 23 #[.agg cs.toArray, .slice a args.length c] w (GivesFC w (p.footE args)) := by
  have hcases := footE_cases p args
  by_cases hlast : p.chk = 0 ∧ p.dep = false ∧ suitsB p.kinds args = true
  · have : p.footE args = p.foot args := by
      rcases hcases with h1 | h1 | h1 | h1
      · exact absurd hlast.1 h1.1
      · rw [hlast.2.1] at h1; exact absurd h1.2.1 (by simp)
      · rw [hlast.2.2] at h1; exact absurd h1.2.2.1 (by simp)
      · exact h1.2.2.2
    rw [this]
    exact libFoot_any w S T cs p h (chk_home hlast.1) hlast.2.1 args a c ha hlast.2.2 ht
  obtain ⟨a1, c1, a2, c2, a3, c3, a4, c4, a5, c5, rfl, h1, h2, h3, h4, h5, w1, w2⟩ := proc_cells h
  have K0 := ((Keep.refl No w).alloc (.cells #[.string p.name, .slice a1 p.kinds.length c1, .bool p.dep, .slice a2 p.reads.length c2, .slice a3 p.writes.length c3, .int .i64 p.pgm.args, .slice a4 p.pgm.consts.length c4, .slice a5 p.pgm.code.length c5] 29)).alloc (.cells #[.slice none 0 0, .slice none 0 0] 49)
  have x0 := blk_alloc (o' := .cells #[.slice none 0 0, .slice none 0 0] 49) (blk_new w (.cells #[.string p.name, .slice a1 p.kinds.length c1, .bool p.dep, .slice a2 p.reads.length c2, .slice a3 p.writes.length c3, .int .i64 p.pgm.args, .slice a4 p.pgm.consts.length c4, .slice a5 p.pgm.code.length c5] 29))
  have y0 := blk_new (w.alloc (.cells #[.string p.name, .slice a1 p.kinds.length c1, .bool p.dep, .slice a2 p.reads.length c2, .slice a3 p.writes.length c3, .int .i64 p.pgm.args, .slice a4 p.pgm.consts.length c4, .slice a5 p.pgm.code.length c5] 29)) (.cells #[.slice none 0 0, .slice none 0 0] 49)
  simp only [World.size_alloc] at y0
  obtain ⟨ce, hce⟩ : ∃ ce, p.chk = ce := ⟨_, rfl⟩
  obtain ⟨sb, hsb⟩ : ∃ sb, suitsB p.kinds args = sb := ⟨_, rfl⟩
  obtain ⟨db, hdb⟩ : ∃ db, p.dep = db := ⟨_, rfl⟩
  obtain ⟨er, her⟩ : ∃ er, p.footE args = (mkFp [] [], er) ∧ ((ce ≠ 0 ∧ er = 80) ∨ (ce = 0 ∧ db = true ∧ er = 83) ∨ (ce = 0 ∧ db = false ∧ sb = false ∧ er = 82)) := by
    rcases hcases with h1 | h1 | h1 | h1
    · exact ⟨80, h1.2, .inl ⟨by rw [← hce]; exact h1.1, rfl⟩⟩
    · exact ⟨83, h1.2.2, .inr (.inl ⟨by rw [← hce]; exact h1.1, by rw [← hdb]; exact h1.2.1, rfl⟩)⟩
    · exact ⟨82, h1.2.2.2, .inr (.inr ⟨by rw [← hce]; exact h1.1, by rw [← hdb]; exact h1.2.1, by rw [← hsb]; exact h1.2.2.1, rfl⟩)⟩
    · exact absurd ⟨h1.1, h1.2.1, h1.2.2.1⟩ hlast
  have hch := (libCheck_any _ S p.kinds.length p.reads.length p.writes.length c1 c2 c3 a1 a2 a3 (.slice a4 p.pgm.consts.length c4) (.slice a5 p.pgm.code.length c5) p _ rfl rfl rfl (h1.agree _ K0.agreeNo) (h2.agree _ K0.agreeNo) (h3.agree _ K0.agreeNo) hnm hsum (pgSays_any (h4.agree _ K0.agreeNo) (h5.agree _ K0.agreeNo))).mono (R' := fun e w2 => e = .returned (.int .i64 ce) ∧ w2.heap[w.heap.size]? = some (.cells #[.string p.name, .slice a1 p.kinds.length c1, .bool p.dep, .slice a2 p.reads.length c2, .slice a3 p.writes.length c3, .int .i64 p.pgm.args, .slice a4 p.pgm.consts.length c4, .slice a5 p.pgm.code.length c5] 29 (0, 0)) ∧ w2.heap[w.heap.size + 1]? = some (.cells #[.slice none 0 0, .slice none 0 0] 49 (0, 0)) ∧ RowKit.Hid (Keep No w w2)) (by
    rintro e w2 ⟨rfl, hk⟩
    exact ⟨by rw [← hce]; rfl, hk.blk x0 (fun x => x), hk.blk y0 (fun x => x), K0.trans hk⟩)
  have HSU : RowKit.Hid (∀ W, Keep No w W → Calls Tryz.prog 28 #[.agg #[.string p.name, .slice a1 p.kinds.length c1, .bool p.dep, .slice a2 p.reads.length c2, .slice a3 p.writes.length c3, .int .i64 p.pgm.args, .slice a4 p.pgm.consts.length c4, .slice a5 p.pgm.code.length c5], .slice a args.length c] W fun e w2 => e = .returned (.int .i64 (if sb then 0 else 82)) ∧ RowKit.Hid (Keep No W w2)) := fun W hW => by
    refine (suits_any W S T _ _ _ _ _ _ _ ⟨rfl, rfl, rfl, rfl, rfl, rfl, rfl⟩ a1 a c1 c p.kinds args (h1.agree _ hW.agreeNo) (ha.agree _ hW.agreeNo)).mono ?_
    rintro e w2 ⟨rfl, hk⟩
    rw [hsb]
    exact ⟨rfl, hk⟩
  rw [her.1]
  have q0 := blk_cell x0
  have hor := her.2
  clear h h1 h2 h3 h4 h5 w1 w2 K0 x0 y0 ha ht hsb her hcases hlast hce hsum hnm
  rw [hdb] at hch HSU q0 ⊢
  clear hdb
  rcases hor with ⟨hc, rfl⟩ | ⟨rfl, rfl, rfl⟩ | ⟨rfl, rfl, rfl, rfl⟩
  · have hcb : (ce != 0) = true := by simpa using hc
    have HC := Lib.hid hc
    clear hc HSU
    go_enter Tryz.func23, Tryz.ntmps23
    go_wp2_with (go_at_call 17; refine hch.mono ?_; clear hch; rintro e w3 ⟨rfl, x3, y3, HK3⟩; clear q0; have q3 := blk_cell x3; have r3 := blk_cell y3; have f3 := blk_fro y3)
    have hk1 := two_nil HK3.out (Nat.le_succ w.heap.size)
    have z1 := blk_cell (blk_two y3 (.slice none 0 0) (.slice none 0 0))
    refine bodyPost_ret (v := .tuple #[.agg #[.slice none 0 0, .slice none 0 0], .int .i64 80]) (by simp [results, Tryz.results23, go_sem, z1]) rfl ?_
    exact ⟨_, _, _, _, _, _, rfl, hk1.1, hk1.2⟩
  · clear HSU
    go_enter Tryz.func23, Tryz.ntmps23
    go_wp2_with (go_at_call 17; refine hch.mono ?_; clear hch; rintro e w3 ⟨rfl, x3, y3, HK3⟩; clear q0; have q3 := blk_cell x3; have r3 := blk_cell y3; have f3 := blk_fro y3)
    have hk1 := two_nil HK3.out (Nat.le_succ w.heap.size)
    have z1 := blk_cell (blk_two y3 (.slice none 0 0) (.slice none 0 0))
    refine bodyPost_ret (v := .tuple #[.agg #[.slice none 0 0, .slice none 0 0], .int .i64 83]) (by simp [results, Tryz.results23, go_sem, z1]) rfl ?_
    exact ⟨_, _, _, _, _, _, rfl, hk1.1, hk1.2⟩
  · go_enter Tryz.func23, Tryz.ntmps23
    go_wp2_with (first | (go_at_call 17; refine hch.mono ?_; clear hch; rintro e w3 ⟨rfl, x3, y3, HK3⟩; clear q0; have q3 := blk_cell x3) | (go_at_call 28; refine (HSU.out _ HK3.out).mono ?_; rintro e w4 ⟨rfl, HK4⟩; have y4 := HK4.out.blk y3 (fun x => x); have r4 := blk_cell y4; have f4 := blk_fro y4))
    have hk1 := two_nil (HK3.out.trans HK4.out) (Nat.le_succ w.heap.size)
    have z1 := blk_cell (blk_two y4 (.slice none 0 0) (.slice none 0 0))
    refine bodyPost_ret (v := .tuple #[.agg #[.slice none 0 0, .slice none 0 0], .int .i64 82]) (by simp [results, Tryz.results23, go_sem, z1]) rfl ?_
    exact ⟨_, _, _, _, _, _, rfl, hk1.1, hk1.2⟩
end Go.Proofs.YtfgdnakfikpmpaaGreatDoor
