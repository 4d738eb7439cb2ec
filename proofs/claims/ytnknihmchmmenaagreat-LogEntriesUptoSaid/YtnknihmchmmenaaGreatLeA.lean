/-
  LogEntries: what the law does.
-/
import Derived.Test.YtnknihmchmmenaaGreatHJ
import Derived.Test.YtnknihmchmmenaaGreatHK
import Derived.Test.YtnknihmchmmenaaGreatHW
import Derived.Test.YtnknihmchmmenaaGreatGB
import Derived.Test.YtnknihmchmmenaaGreatGJ
import Derived.Test.YtnknihmchmmenaaGreatCan3
import Derived.Test.YtnknihmchmmenaaGreatGZ
import Derived.Test.YtnknihmchmmenaaGreatLeP
import Derived.Test.YtnknihmchmmenaaGreatHC
import Derived.Test.YtnknihmchmmenaaGreatHO
namespace Go.Proofs.YtnknihmchmmenaaGreat
open Go Go.RowKit Go.Deep
set_option linter.unusedVariables false
set_option linter.unusedSimpArgs false

@[reducible] def twoSh : Sh := .struct (.cons entrySh (.cons entrySh (.cons bytesSh (.cons bytesSh .nil))))
theorem two_cells {w : World} {S : Nat → Prop} {cs : List Value} {x : twoSh.T} (h : Rd twoSh w S cs x) :
    ∃ es fs a c a' c', cs = es ++ (fs ++ [.slice a x.2.2.1.length c, .slice a' x.2.2.2.1.length c']) ∧ Rd entrySh w S es x.1 ∧ Rd entrySh w S fs x.2.1 ∧ Rd bytesSh w S [.slice a x.2.2.1.length c] x.2.2.1 ∧ Rd bytesSh w S [.slice a' x.2.2.2.1.length c'] x.2.2.2.1 := by
  obtain ⟨es, _, rfl, h1, fs, _, rfl, h2, ga, _, rfl, h3, ra, _, rfl, h4, rfl⟩ := h
  obtain ⟨a, c, rfl, -⟩ := id h3
  obtain ⟨a', c', rfl, -⟩ := id h4
  exact ⟨es, fs, a, c, a', c', by simp, h1, h2, h3, h4⟩

/-- once the four are laid apart: the entries' blocks -/
structure Apart (w : World) (E F : Nat) (es fs : Array Value) (wr : World) : Prop where
  keep : Keep No w wr
  e : wr.heap[E]? = some (.cells es 40 (0, 0))
  f : wr.heap[F]? = some (.cells fs 40 (0, 0))
  ne : E ≠ F
  Ew : w.heap.size ≤ E
  Fw : w.heap.size ≤ F

theorem Apart.more {w : World} {E F : Nat} {es fs : Array Value} {wr w' : World} (h : Apart w E F es fs wr) (k : Keep No wr w') : Apart w E F es fs w' :=
  ⟨h.keep.trans k, k.blk h.e (fun x => x), k.blk h.f (fun x => x), h.ne, h.Ew, h.Fw⟩
/-- an entry and its code are given back, cells by name -/
def GivesEV (W : World) (z : Ent) (er : Int) (e : Ending) (w' : World) : Prop := ∃ (v0 v1 v2 v3 v6 : Int) (v4 : ByteArray) (v5 v7 v8 : Option Addr) (m5 k5 m7 k7 m8 k8 : Nat),
  e = .returned (.tuple #[.agg #[.int .i64 v0, .int .i64 v1, .int .i64 v2, .int .u64 v3, .string v4, .slice v5 m5 k5, .int .i64 v6, .slice v7 m7 k7, .slice v8 m8 k8], .int .i64 er]) ∧
  RowKit.Hid (Rd entrySh w' (Fr W.heap.size w'.heap.size) [.int .i64 v0, .int .i64 v1, .int .i64 v2, .int .u64 v3, .string v4, .slice v5 m5 k5, .int .i64 v6, .slice v7 m7 k7, .slice v8 m8 k8] z ∧ Keep No W w')
theorem gei_v {W : World} {z : Ent × Int} {e : Ending} {w' : World} (h : GivesEI W z e w') : GivesEV W z.1 z.2 e w' := by
  obtain ⟨⟨cs⟩, rfl, hr, hk⟩ := h
  obtain ⟨ps, e1, h3, -⟩ := ent_cells hr
  obtain ⟨a1, c1, a2, c2, a3, c3, e2, -⟩ := plan_form h3
  subst e2
  subst e1
  exact ⟨_, _, _, _, _, _, _, _, _, _, _, _, _, _, _, rfl, hr, hk⟩

theorem esame_eq (w : World) (S T : Nat → Prop) (a1 a2 : Option Addr) (n1 c1 n2 c2 : Nat) (b : Bytes) (h1 : Rd bytesSh w S [.slice a1 n1 c1] b) (h2 : Rd bytesSh w T [.slice a2 n2 c2] b) : Calls Tryz.prog 24 #[.slice a1 n1 c1, .slice a2 n2 c2] w fun e w' => e = .returned (.bool true) ∧ w' = w := by
  have e1 := run_string_back (P := Tryz.prog) 53 9 5 a1 c1 n1 Tryz.underlying53 Tryz.underlying5 Tryz.underlying9 h1
  have e2 := run_string_back (P := Tryz.prog) 53 9 5 a2 c2 n2 Tryz.underlying53 Tryz.underlying5 Tryz.underlying9 h2
  clear h1 h2
  generalize textOf b = t at *
  go_enter Tryz.func24, Tryz.ntmps24
  go_wp2_with fail
  go_ret
  exact ⟨by simp, by first | rfl | trivial⟩
theorem from_whole (x : Lg) (s : Int) (hs : s ≤ 0) (n : Nat) (h : x.l.length ≤ n) : x.from' s n = x.l := by
  unfold Lg.from'
  rw [show s.toNat = 0 by omega, List.drop_zero, Int.toNat_natCast, List.take_of_length_le h]

theorem enum_eq (w : World) (e : Int) : Calls Tryz.prog 25 #[.int .i64 e] w fun en w' => en = .returned (.int .i64 e) ∧ w = w' :=
  (lnum_any w e).mono (by rintro _ _ ⟨rfl, rfl⟩; exact ⟨rfl, rfl⟩)
theorem ent_plan {w : World} {S : Nat → Prop} {v0 v1 : Value} {ps : List Value} {x : Ent} (h : Rd entrySh w S (v0 :: v1 :: ps) x) : Rd planSh w S ps x.plan := by
  obtain ⟨ps', e, h3, -⟩ := ent_cells h
  cases e
  exact h3

set_option maxRecDepth 10000 in
set_option maxHeartbeats 4000000 in
theorem LogEntries_main (w : World) (p0 p1 p2 p3 p6 : Int) (p4 : ByteArray) (p5 p7 p8 : Option Addr) (pm5 pk5 pm7 pk7 pm8 pk8 : Nat) (q0 q1 q2 q3 q6 : Int) (q4 : ByteArray) (q5 q7 q8 : Option Addr) (qm5 qk5 qm7 qk7 qm8 qk8 : Nat) (a1 a2 : Option Addr) (n1 c1 n2 c2 : Nat) (x y : Ent) (hx : Rd entrySh w (Lt w.heap.size) [.int .i64 p0, .int .i64 p1, .int .i64 p2, .int .u64 p3, .string p4, .slice p5 pm5 pk5, .int .i64 p6, .slice p7 pm7 pk7, .slice p8 pm8 pk8] x) (hy : Rd entrySh w (Lt w.heap.size) [.int .i64 q0, .int .i64 q1, .int .i64 q2, .int .u64 q3, .string q4, .slice q5 qm5 qk5, .int .i64 q6, .slice q7 qm7 qk7, .slice q8 qm8 qk8] y) (bx : partsN x.plan ≤ 1048575) (by' : partsN y.plan ≤ 1048575) (ahead raw : Bytes) (hn1 : ahead.length = n1) (hn2 : raw.length = n2) (ha : Rd bytesSh w (Lt w.heap.size) [.slice a1 n1 c1] ahead) (hr : Rd bytesSh w (Lt w.heap.size) [.slice a2 n2 c2] raw) (ba : n1 ≤ 1048576) (br : n2 ≤ 1048576) (fx : x.plan.Fit) :
    Calls Tryz.prog 4 #[.agg #[(.int .i64 p0), (.int .i64 p1), (.int .i64 p2), (.int .u64 p3), (.string p4), (.slice p5 pm5 pk5), (.int .i64 p6), (.slice p7 pm7 pk7), (.slice p8 pm8 pk8), (.int .i64 q0), (.int .i64 q1), (.int .i64 q2), (.int .u64 q3), (.string q4), (.slice q5 qm5 qk5), (.int .i64 q6), (.slice q7 qm7 qk7), (.slice q8 qm8 qk8), .slice a1 n1 c1, .slice a2 n2 c2]] w fun e w' => e = .returned (.bool true) ∧ Keep No w w' := by
  have HFX := Lib.hid fx
  clear fx
  have HH := Lib.hid (And.intro hx (And.intro hy (And.intro bx by')))
  have HB := Lib.hid (And.intro hn1 (And.intro hn2 (And.intro ha (And.intro hr (And.intro ba br)))))
  clear hx hy bx by' hn1 hn2 ha hr ba br
  go_enter Tryz.func4, Tryz.ntmps4
  go_upto_region 1 with fail
  have x1 := blk_new w (.cells #[(.int .i64 p0), (.int .i64 p1), (.int .i64 p2), (.int .u64 p3), (.string p4), (.slice p5 pm5 pk5), (.int .i64 p6), (.slice p7 pm7 pk7), (.slice p8 pm8 pk8), (.int .i64 q0), (.int .i64 q1), (.int .i64 q2), (.int .u64 q3), (.string q4), (.slice q5 qm5 qk5), (.int .i64 q6), (.slice q7 qm7 qk7), (.slice q8 qm8 qk8), .slice a1 n1 c1, .slice a2 n2 c2] 55)
  have K1 := (Keep.refl No w).alloc (.cells #[(.int .i64 p0), (.int .i64 p1), (.int .i64 p2), (.int .u64 p3), (.string p4), (.slice p5 pm5 pk5), (.int .i64 p6), (.slice p7 pm7 pk7), (.slice p8 pm8 pk8), (.int .i64 q0), (.int .i64 q1), (.int .i64 q2), (.int .u64 q3), (.string q4), (.slice q5 qm5 qk5), (.int .i64 q6), (.slice q7 qm7 qk7), (.slice q8 qm8 qk8), .slice a1 n1 c1, .slice a2 n2 c2] 55)
  generalize (w.alloc (.cells #[(.int .i64 p0), (.int .i64 p1), (.int .i64 p2), (.int .u64 p3), (.string p4), (.slice p5 pm5 pk5), (.int .i64 p6), (.slice p7 pm7 pk7), (.slice p8 pm8 pk8), (.int .i64 q0), (.int .i64 q1), (.int .i64 q2), (.int .u64 q3), (.string q4), (.slice q5 qm5 qk5), (.int .i64 q6), (.slice q7 qm7 qk7), (.slice q8 qm8 qk8), .slice a1 n1 c1, .slice a2 n2 c2] 55)) = w1 at *
  have kd : Keep No w1 w1.drew := (Keep.refl No w1).drew
  have y1 := kd.blk x1 (fun x => x)
  have c0 := blk_cell y1
  have c0a := fun o => blk_cell (blk_alloc (o' := o) y1)
  have c0b := fun o o' => blk_cell (blk_alloc (o' := o') (blk_alloc (o' := o) y1))
  go_cut [3, 4, 5, 6] (fun t3 t4 t5 t6 wx => ∃ E F : Nat, t3 = .pointer (some ⟨E, 0, none⟩) ∧ t4 = .pointer (some ⟨F, 0, none⟩) ∧ t5 = .slice a1 n1 c1 ∧ t6 = .slice a2 n2 c2 ∧ RowKit.Hid (Apart w E F #[(.int .i64 p0), (.int .i64 p1), (.int .i64 p2), (.int .u64 p3), (.string p4), (.slice p5 pm5 pk5), (.int .i64 p6), (.slice p7 pm7 pk7), (.slice p8 pm8 pk8)] #[(.int .i64 q0), (.int .i64 q1), (.int .i64 q2), (.int .u64 q3), (.string q4), (.slice q5 qm5 qk5), (.int .i64 q6), (.slice q7 qm7 qk7), (.slice q8 qm8 qk8)] wx))
  case first =>
    refine wp_region_plan (.step 0 (.step 1 (.step 2 (.step 3 (.step 4 (.step 5 (.step 6 (.step 7 (.fork 8 9 (.step 9 (.step 10 (.step 11 (.step 12 (.step 13 .done))))) (.step 8 (.step 10 (.step 11 (.step 12 (.step 13 .done)))))))))))))) [8, 9, 10, 11] [(0, 8), (1, 8), (2, 8), (3, 8), (4, 8), (5, 8), (6, 8), (7, 8), (0, 9), (1, 9), (2, 9), (3, 9), (4, 9), (5, 9), (6, 9), (7, 9), (2, 10), (3, 10), (4, 10), (5, 10), (6, 10), (7, 10), (4, 11), (5, 11), (6, 11), (7, 11)] (by kernel_rfl) (by kernel_rfl) (by kernel_rfl) (by kernel_rfl) (by intro c a d v w h; cases d <;> exact h) ?_
    generalize w1.drew = wd at *
    iterate 8 (refine plan_sil rfl rfl (fun K hK => ?_); go_simp; refine hK _ ?_; clear hK K)
    refine ⟨?_, ?_⟩
    · refine plan_op [0, 1, 2, 3, 4, 5, 6, 7] rfl rfl (fun K hK => ?_)
      go_wp2_with fail
      refine Mid.normal (hK _ _ ?_ ?_)
      · simp only [List.forall_mem_cons]
        refine ⟨fun _ => ?_, fun _ => ?_, fun _ => ?_, fun _ => ?_, fun _ => ?_, fun _ => ?_, fun _ => ?_, fun _ => ?_, fun _ h => (by cases h)⟩ <;> exact stab_of rfl (fun K hK => by go_simp; exact hK)
      clear hK K
      refine plan_loud [0, 1, 2, 3, 4, 5, 6, 7] rfl rfl rfl (fun K hK => ?_)
      go_wp2_with fail
      refine Mid.normal (hK _ _ ?_ ?_)
      · simp only [List.forall_mem_cons]
        refine ⟨fun _ => ?_, fun _ => ?_, fun _ => ?_, fun _ => ?_, fun _ => ?_, fun _ => ?_, fun _ => ?_, fun _ => ?_, fun _ h => (by cases h)⟩ <;> exact stab_of rfl (fun K hK => by go_simp; exact hK)
      clear hK K
      have bE := blk_alloc (o' := (.cells #[.int .i64 0, .int .i64 0, .int .i64 0, .int .u64 0, .string ⟨#[]⟩, .slice none 0 0, .int .i64 0, .slice none 0 0, .slice none 0 0] 40)) (blk_new wd (.cells #[.int .i64 0, .int .i64 0, .int .i64 0, .int .u64 0, .string ⟨#[]⟩, .slice none 0 0, .int .i64 0, .slice none 0 0, .slice none 0 0] 40))
      have bF := blk_new (wd.alloc (.cells #[.int .i64 0, .int .i64 0, .int .i64 0, .int .u64 0, .string ⟨#[]⟩, .slice none 0 0, .int .i64 0, .slice none 0 0, .slice none 0 0] 40)) (.cells #[.int .i64 0, .int .i64 0, .int .i64 0, .int .u64 0, .string ⟨#[]⟩, .slice none 0 0, .int .i64 0, .slice none 0 0, .slice none 0 0] 40)
      have bB := blk_alloc (o' := (.cells #[.int .i64 0, .int .i64 0, .int .i64 0, .int .u64 0, .string ⟨#[]⟩, .slice none 0 0, .int .i64 0, .slice none 0 0, .slice none 0 0] 40)) (blk_alloc (o' := (.cells #[.int .i64 0, .int .i64 0, .int .i64 0, .int .u64 0, .string ⟨#[]⟩, .slice none 0 0, .int .i64 0, .slice none 0 0, .slice none 0 0] 40)) y1)
      have KA : Keep No wd ((wd.alloc (.cells #[.int .i64 0, .int .i64 0, .int .i64 0, .int .u64 0, .string ⟨#[]⟩, .slice none 0 0, .int .i64 0, .slice none 0 0, .slice none 0 0] 40)).alloc (.cells #[.int .i64 0, .int .i64 0, .int .i64 0, .int .u64 0, .string ⟨#[]⟩, .slice none 0 0, .int .i64 0, .slice none 0 0, .slice none 0 0] 40)) := ((Keep.refl No wd).alloc _).alloc _
      have hB := blk_lt y1
      rw [World.size_alloc] at bF
      try rw [World.size_alloc]
      obtain ⟨F, hF⟩ : ∃ x, wd.heap.size + 1 = x := ⟨_, rfl⟩
      obtain ⟨E, hE⟩ : ∃ x, wd.heap.size = x := ⟨_, rfl⟩
      rw [hF] at bF ⊢
      rw [hE] at bE hB ⊢
      rw [hE] at hF
      have j1 : ¬ E = F := by omega
      have j2 : ¬ F = E := by omega
      have j3 : ¬ E = w.heap.size := by omega
      have j4 : ¬ w.heap.size = E := by omega
      have j5 : ¬ F = w.heap.size := by omega
      have j6 : ¬ w.heap.size = F := by omega
      clear c0 c0a c0b
      generalize ((wd.alloc (.cells #[.int .i64 0, .int .i64 0, .int .i64 0, .int .u64 0, .string ⟨#[]⟩, .slice none 0 0, .int .i64 0, .slice none 0 0, .slice none 0 0] 40)).alloc (.cells #[.int .i64 0, .int .i64 0, .int .i64 0, .int .u64 0, .string ⟨#[]⟩, .slice none 0 0, .int .i64 0, .slice none 0 0, .slice none 0 0] 40)) = w3 at *
      have cE := blk_cell bE
      have fE := blk_fro bE
      have c0 := blk_cell bB
      refine plan_loud [2, 3, 4, 5, 6, 7] rfl rfl rfl (fun K hK => ?_)
      go_wp2_with fail
      refine Mid.normal (hK _ _ ?_ ?_)
      · simp only [List.forall_mem_cons]
        refine ⟨fun _ => ?_, fun _ => ?_, fun _ => ?_, fun _ => ?_, fun _ => ?_, fun _ => ?_, fun _ h => (by cases h)⟩ <;> exact stab_of rfl (fun K hK => by go_simp; exact hK)
      clear hK K
      have uE := blk_all9 bE (.int .i64 p0) (.int .i64 p1) (.int .i64 p2) (.int .u64 p3) (.string p4) (.slice p5 pm5 pk5) (.int .i64 p6) (.slice p7 pm7 pk7) (.slice p8 pm8 pk8)
      have kE := keep_all9 w3 E (.int .i64 p0) (.int .i64 p1) (.int .i64 p2) (.int .u64 p3) (.string p4) (.slice p5 pm5 pk5) (.int .i64 p6) (.slice p7 pm7 pk7) (.slice p8 pm8 pk8)
      clear cE fE c0
      generalize (((((((((w3.setCell ⟨E, 0, none⟩ (.int .i64 p0)).setCell ⟨E, 1, none⟩ (.int .i64 p1)).setCell ⟨E, 2, none⟩ (.int .i64 p2)).setCell ⟨E, 3, none⟩ (.int .u64 p3)).setCell ⟨E, 4, none⟩ (.string p4)).setCell ⟨E, 5, none⟩ (.slice p5 pm5 pk5)).setCell ⟨E, 6, none⟩ (.int .i64 p6)).setCell ⟨E, 7, none⟩ (.slice p7 pm7 pk7)).setCell ⟨E, 8, none⟩ (.slice p8 pm8 pk8)) = w4 at *
      have bB4 := kE.blk bB (fun e => j4 e)
      have bF4 := kE.blk bF (fun e => j2 e)
      have cF := blk_cell bF4
      have fF := blk_fro bF4
      have c0 := blk_cell bB4
      refine plan_loud [4, 5, 6, 7] rfl rfl rfl (fun K hK => ?_)
      go_wp2_with fail
      refine Mid.normal (hK _ _ ?_ ?_)
      · simp only [List.forall_mem_cons]
        refine ⟨fun _ => ?_, fun _ => ?_, fun _ => ?_, fun _ => ?_, fun _ h => (by cases h)⟩ <;> exact stab_of rfl (fun K hK => by go_simp; exact hK)
      clear hK K
      have uF := blk_all9 bF4 (.int .i64 q0) (.int .i64 q1) (.int .i64 q2) (.int .u64 q3) (.string q4) (.slice q5 qm5 qk5) (.int .i64 q6) (.slice q7 qm7 qk7) (.slice q8 qm8 qk8)
      have kF := keep_all9 w4 F (.int .i64 q0) (.int .i64 q1) (.int .i64 q2) (.int .u64 q3) (.string q4) (.slice q5 qm5 qk5) (.int .i64 q6) (.slice q7 qm7 qk7) (.slice q8 qm8 qk8)
      clear cF fF c0
      generalize (((((((((w4.setCell ⟨F, 0, none⟩ (.int .i64 q0)).setCell ⟨F, 1, none⟩ (.int .i64 q1)).setCell ⟨F, 2, none⟩ (.int .i64 q2)).setCell ⟨F, 3, none⟩ (.int .u64 q3)).setCell ⟨F, 4, none⟩ (.string q4)).setCell ⟨F, 5, none⟩ (.slice q5 qm5 qk5)).setCell ⟨F, 6, none⟩ (.int .i64 q6)).setCell ⟨F, 7, none⟩ (.slice q7 qm7 qk7)).setCell ⟨F, 8, none⟩ (.slice q8 qm8 qk8)) = w5 at *
      have uE5 := kF.blk uE (fun e => j1 e)
      have HA : RowKit.Hid (Apart w E F #[(.int .i64 p0), (.int .i64 p1), (.int .i64 p2), (.int .u64 p3), (.string p4), (.slice p5 pm5 pk5), (.int .i64 p6), (.slice p7 pm7 pk7), (.slice p8 pm8 pk8)] #[(.int .i64 q0), (.int .i64 q1), (.int .i64 q2), (.int .u64 q3), (.string q4), (.slice q5 qm5 qk5), (.int .i64 q6), (.slice q7 qm7 qk7), (.slice q8 qm8 qk8)] w5) := ⟨(((K1.trans kd).trans KA).then kE fun i hi e => by (have : i = E := e; omega)).then kF fun i hi e => by (have : i = F := e; omega), uE5, uF, j1, by omega, by omega⟩
      clear uE uF kE kF uE5 bB bE bF bB4 bF4
      iterate 2 (refine plan_sil rfl rfl (fun K hK => ?_); go_simp; refine hK _ ?_; clear hK K)
      refine plan_done ?_
      go_wp2_with fail
      go_meet
      case rel => exact ⟨E, F, rfl, rfl, rfl, rfl, HA⟩
    · refine plan_op [0, 1, 2, 3, 4, 5, 6, 7] rfl rfl (fun K hK => ?_)
      go_wp2_with fail
      refine Mid.normal (hK _ _ ?_ ?_)
      · simp only [List.forall_mem_cons]
        refine ⟨fun _ => ?_, fun _ => ?_, fun _ => ?_, fun _ => ?_, fun _ => ?_, fun _ => ?_, fun _ => ?_, fun _ => ?_, fun _ h => (by cases h)⟩ <;> exact stab_of rfl (fun K hK => by go_simp; exact hK)
      clear hK K
      refine plan_loud [0, 1, 2, 3, 4, 5, 6, 7] rfl rfl rfl (fun K hK => ?_)
      go_wp2_with fail
      refine Mid.normal (hK _ _ ?_ ?_)
      · simp only [List.forall_mem_cons]
        refine ⟨fun _ => ?_, fun _ => ?_, fun _ => ?_, fun _ => ?_, fun _ => ?_, fun _ => ?_, fun _ => ?_, fun _ => ?_, fun _ h => (by cases h)⟩ <;> exact stab_of rfl (fun K hK => by go_simp; exact hK)
      clear hK K
      have bF := blk_alloc (o' := (.cells #[.int .i64 0, .int .i64 0, .int .i64 0, .int .u64 0, .string ⟨#[]⟩, .slice none 0 0, .int .i64 0, .slice none 0 0, .slice none 0 0] 40)) (blk_new wd (.cells #[.int .i64 0, .int .i64 0, .int .i64 0, .int .u64 0, .string ⟨#[]⟩, .slice none 0 0, .int .i64 0, .slice none 0 0, .slice none 0 0] 40))
      have bE := blk_new (wd.alloc (.cells #[.int .i64 0, .int .i64 0, .int .i64 0, .int .u64 0, .string ⟨#[]⟩, .slice none 0 0, .int .i64 0, .slice none 0 0, .slice none 0 0] 40)) (.cells #[.int .i64 0, .int .i64 0, .int .i64 0, .int .u64 0, .string ⟨#[]⟩, .slice none 0 0, .int .i64 0, .slice none 0 0, .slice none 0 0] 40)
      have bB := blk_alloc (o' := (.cells #[.int .i64 0, .int .i64 0, .int .i64 0, .int .u64 0, .string ⟨#[]⟩, .slice none 0 0, .int .i64 0, .slice none 0 0, .slice none 0 0] 40)) (blk_alloc (o' := (.cells #[.int .i64 0, .int .i64 0, .int .i64 0, .int .u64 0, .string ⟨#[]⟩, .slice none 0 0, .int .i64 0, .slice none 0 0, .slice none 0 0] 40)) y1)
      have KA : Keep No wd ((wd.alloc (.cells #[.int .i64 0, .int .i64 0, .int .i64 0, .int .u64 0, .string ⟨#[]⟩, .slice none 0 0, .int .i64 0, .slice none 0 0, .slice none 0 0] 40)).alloc (.cells #[.int .i64 0, .int .i64 0, .int .i64 0, .int .u64 0, .string ⟨#[]⟩, .slice none 0 0, .int .i64 0, .slice none 0 0, .slice none 0 0] 40)) := ((Keep.refl No wd).alloc _).alloc _
      have hB := blk_lt y1
      rw [World.size_alloc] at bE
      try rw [World.size_alloc]
      obtain ⟨E, hE⟩ : ∃ x, wd.heap.size + 1 = x := ⟨_, rfl⟩
      obtain ⟨F, hF⟩ : ∃ x, wd.heap.size = x := ⟨_, rfl⟩
      rw [hE] at bE ⊢
      rw [hF] at bF hB ⊢
      rw [hF] at hE
      have j1 : ¬ E = F := by omega
      have j2 : ¬ F = E := by omega
      have j3 : ¬ E = w.heap.size := by omega
      have j4 : ¬ w.heap.size = E := by omega
      have j5 : ¬ F = w.heap.size := by omega
      have j6 : ¬ w.heap.size = F := by omega
      clear c0 c0a c0b
      generalize ((wd.alloc (.cells #[.int .i64 0, .int .i64 0, .int .i64 0, .int .u64 0, .string ⟨#[]⟩, .slice none 0 0, .int .i64 0, .slice none 0 0, .slice none 0 0] 40)).alloc (.cells #[.int .i64 0, .int .i64 0, .int .i64 0, .int .u64 0, .string ⟨#[]⟩, .slice none 0 0, .int .i64 0, .slice none 0 0, .slice none 0 0] 40)) = w3 at *
      have cE := blk_cell bE
      have fE := blk_fro bE
      have c0 := blk_cell bB
      refine plan_loud [2, 3, 4, 5, 6, 7] rfl rfl rfl (fun K hK => ?_)
      go_wp2_with fail
      refine Mid.normal (hK _ _ ?_ ?_)
      · simp only [List.forall_mem_cons]
        refine ⟨fun _ => ?_, fun _ => ?_, fun _ => ?_, fun _ => ?_, fun _ => ?_, fun _ => ?_, fun _ h => (by cases h)⟩ <;> exact stab_of rfl (fun K hK => by go_simp; exact hK)
      clear hK K
      have uE := blk_all9 bE (.int .i64 p0) (.int .i64 p1) (.int .i64 p2) (.int .u64 p3) (.string p4) (.slice p5 pm5 pk5) (.int .i64 p6) (.slice p7 pm7 pk7) (.slice p8 pm8 pk8)
      have kE := keep_all9 w3 E (.int .i64 p0) (.int .i64 p1) (.int .i64 p2) (.int .u64 p3) (.string p4) (.slice p5 pm5 pk5) (.int .i64 p6) (.slice p7 pm7 pk7) (.slice p8 pm8 pk8)
      clear cE fE c0
      generalize (((((((((w3.setCell ⟨E, 0, none⟩ (.int .i64 p0)).setCell ⟨E, 1, none⟩ (.int .i64 p1)).setCell ⟨E, 2, none⟩ (.int .i64 p2)).setCell ⟨E, 3, none⟩ (.int .u64 p3)).setCell ⟨E, 4, none⟩ (.string p4)).setCell ⟨E, 5, none⟩ (.slice p5 pm5 pk5)).setCell ⟨E, 6, none⟩ (.int .i64 p6)).setCell ⟨E, 7, none⟩ (.slice p7 pm7 pk7)).setCell ⟨E, 8, none⟩ (.slice p8 pm8 pk8)) = w4 at *
      have bB4 := kE.blk bB (fun e => j4 e)
      have bF4 := kE.blk bF (fun e => j2 e)
      have cF := blk_cell bF4
      have fF := blk_fro bF4
      have c0 := blk_cell bB4
      refine plan_loud [4, 5, 6, 7] rfl rfl rfl (fun K hK => ?_)
      go_wp2_with fail
      refine Mid.normal (hK _ _ ?_ ?_)
      · simp only [List.forall_mem_cons]
        refine ⟨fun _ => ?_, fun _ => ?_, fun _ => ?_, fun _ => ?_, fun _ h => (by cases h)⟩ <;> exact stab_of rfl (fun K hK => by go_simp; exact hK)
      clear hK K
      have uF := blk_all9 bF4 (.int .i64 q0) (.int .i64 q1) (.int .i64 q2) (.int .u64 q3) (.string q4) (.slice q5 qm5 qk5) (.int .i64 q6) (.slice q7 qm7 qk7) (.slice q8 qm8 qk8)
      have kF := keep_all9 w4 F (.int .i64 q0) (.int .i64 q1) (.int .i64 q2) (.int .u64 q3) (.string q4) (.slice q5 qm5 qk5) (.int .i64 q6) (.slice q7 qm7 qk7) (.slice q8 qm8 qk8)
      clear cF fF c0
      generalize (((((((((w4.setCell ⟨F, 0, none⟩ (.int .i64 q0)).setCell ⟨F, 1, none⟩ (.int .i64 q1)).setCell ⟨F, 2, none⟩ (.int .i64 q2)).setCell ⟨F, 3, none⟩ (.int .u64 q3)).setCell ⟨F, 4, none⟩ (.string q4)).setCell ⟨F, 5, none⟩ (.slice q5 qm5 qk5)).setCell ⟨F, 6, none⟩ (.int .i64 q6)).setCell ⟨F, 7, none⟩ (.slice q7 qm7 qk7)).setCell ⟨F, 8, none⟩ (.slice q8 qm8 qk8)) = w5 at *
      have uE5 := kF.blk uE (fun e => j1 e)
      have HA : RowKit.Hid (Apart w E F #[(.int .i64 p0), (.int .i64 p1), (.int .i64 p2), (.int .u64 p3), (.string p4), (.slice p5 pm5 pk5), (.int .i64 p6), (.slice p7 pm7 pk7), (.slice p8 pm8 pk8)] #[(.int .i64 q0), (.int .i64 q1), (.int .i64 q2), (.int .u64 q3), (.string q4), (.slice q5 qm5 qk5), (.int .i64 q6), (.slice q7 qm7 qk7), (.slice q8 qm8 qk8)] w5) := ⟨(((K1.trans kd).trans KA).then kE fun i hi e => by (have : i = E := e; omega)).then kF fun i hi e => by (have : i = F := e; omega), uE5, uF, j1, by omega, by omega⟩
      clear uE uF kE kF uE5 bB bE bF bB4 bF4
      iterate 2 (refine plan_sil rfl rfl (fun K hK => ?_); go_simp; refine hK _ ?_; clear hK K)
      refine plan_done ?_
      go_wp2_with fail
      go_meet
      case rel => exact ⟨E, F, rfl, rfl, rfl, rfl, HA⟩
  case rest =>
    obtain ⟨E, F, rfl, rfl, rfl, rfl, HA⟩ := hcut
    have cE := blk_cell HA.out.e
    have hpx : Calls Tryz.prog 18 #[.agg #[.int .i64 p2, .int .u64 p3, .string p4, .slice p5 pm5 pk5, .int .i64 p6, .slice p7 pm7 pk7, .slice p8 pm8 pk8]] wc fun e w' => e = .returned (.int .i64 (partsN x.plan)) ∧ RowKit.Hid (Apart w E F #[.int .i64 p0, .int .i64 p1, .int .i64 p2, .int .u64 p3, .string p4, .slice p5 pm5 pk5, .int .i64 p6, .slice p7 pm7 pk7, .slice p8 pm8 pk8] #[.int .i64 q0, .int .i64 q1, .int .i64 q2, .int .u64 q3, .string q4, .slice q5 qm5 qk5, .int .i64 q6, .slice q7 qm7 qk7, .slice q8 qm8 qk8] w') := (lparts_any wc _ [.int .i64 p2, .int .u64 p3, .string p4, .slice p5 pm5 pk5, .int .i64 p6, .slice p7 pm7 pk7, .slice p8 pm8 pk8] x.plan ((ent_plan HH.out.1).agree _ HA.out.keep.agreeNo) (by have := HH.out.2.2.1; omega)).mono (by rintro e w' ⟨rfl, hk⟩; exact ⟨rfl, HA.out.more hk⟩)
    have hpy : ∀ w2, Apart w E F #[.int .i64 p0, .int .i64 p1, .int .i64 p2, .int .u64 p3, .string p4, .slice p5 pm5 pk5, .int .i64 p6, .slice p7 pm7 pk7, .slice p8 pm8 pk8] #[.int .i64 q0, .int .i64 q1, .int .i64 q2, .int .u64 q3, .string q4, .slice q5 qm5 qk5, .int .i64 q6, .slice q7 qm7 qk7, .slice q8 qm8 qk8] w2 → Calls Tryz.prog 18 #[.agg #[.int .i64 q2, .int .u64 q3, .string q4, .slice q5 qm5 qk5, .int .i64 q6, .slice q7 qm7 qk7, .slice q8 qm8 qk8]] w2 fun e w' => e = .returned (.int .i64 (partsN y.plan)) ∧ RowKit.Hid (Apart w E F #[.int .i64 p0, .int .i64 p1, .int .i64 p2, .int .u64 p3, .string p4, .slice p5 pm5 pk5, .int .i64 p6, .slice p7 pm7 pk7, .slice p8 pm8 pk8] #[.int .i64 q0, .int .i64 q1, .int .i64 q2, .int .u64 q3, .string q4, .slice q5 qm5 qk5, .int .i64 q6, .slice q7 qm7 qk7, .slice q8 qm8 qk8] w') := fun w2 ha => (lparts_any w2 _ [.int .i64 q2, .int .u64 q3, .string q4, .slice q5 qm5 qk5, .int .i64 q6, .slice q7 qm7 qk7, .slice q8 qm8 qk8] y.plan ((ent_plan HH.out.2.1).agree _ ha.keep.agreeNo) (by have := HH.out.2.2.2; omega)).mono (by rintro e w' ⟨rfl, hk⟩; exact ⟨rfl, ha.more hk⟩)
    have HPY := Lib.hid hpy
    clear hpy
    by_cases hpl : 40000 < partsN x.plan
    · have b1 : decide ((40000 : Int) < (partsN x.plan : Int)) = true := by simp; omega
      clear hpl
      generalize (partsN x.plan : Int) = px at *
      go_wp2_with (first | (go_at_call 18; refine hpx.mono ?_; clear hpx; rintro e w2 ⟨rfl, HA2⟩) | (go_at_call 17; refine (live_any _).mono ?_; rintro e w3 ⟨rfl, hk3⟩))
      go_ret
      exact ⟨by simp, HA2.out.keep.trans hk3⟩
    · have b1 : decide ((40000 : Int) < (partsN x.plan : Int)) = false := by simp; omega
      have HPX := Lib.hid hpl
      clear hpl
      generalize hpxn : (partsN x.plan : Int) = px at *
      by_cases hql : 40000 < partsN y.plan
      · have b2 : decide ((40000 : Int) < (partsN y.plan : Int)) = true := by simp; omega
        clear hql
        go_wp2_with (first | (go_at_call 18; first | (refine hpx.mono ?_; clear hpx; rintro e w2 ⟨rfl, HA2⟩; have cF := blk_cell HA2.out.f) | (refine (HPY.out _ HA2.out).mono ?_; clear HPY; rintro e w4 ⟨rfl, HA4⟩)) | (go_at_call 17; refine (live_any _).mono ?_; rintro e w3 ⟨rfl, hk3⟩))
        go_ret
        exact ⟨by simp, HA4.out.keep.trans hk3⟩
      · have b2 : decide ((40000 : Int) < (partsN y.plan : Int)) = false := by simp; omega
        have HQL := Lib.hid hql
        clear hql
        go_upto_region 4 with (go_at_call 18; first | (refine hpx.mono ?_; clear hpx; rintro e w2 ⟨rfl, HA2⟩; have cF := blk_cell HA2.out.f) | (refine (HPY.out _ HA2.out).mono ?_; clear HPY; rintro e w4 ⟨rfl, HA4⟩))
        obtain ⟨a5, c5, w5, hrun5, ho5⟩ := clone_bytesApp w4 _ _ ahead (HB.out.2.2.1.agree _ HA4.out.keep.agreeNo) (by have := HB.out.1; have := HB.out.2.2.2.2.1; omega)
        obtain ⟨a6, c6, w6, hrun6, ho6⟩ := app_byte ho5 7 (by omega) (by omega) (by have := HB.out.1; have := HB.out.2.2.2.2.1; omega)
        rw [HB.out.1] at hrun5 hrun6 ho5 ho6
        have HO6 := Lib.hid ho6
        clear ho5 ho6 cE cF
        go_upto_region 5 with (at_builtin; first | (refine wpList_app rfl (.tmp 35) (.tmp 36) 53 53 rfl rfl rfl hrun5 ?_; clear hrun5) | (refine wpList_app rfl (.tmp 37) (.tmp 38) 53 53 rfl rfl rfl hrun6 ?_; clear hrun6))
        have HA6 := Lib.hid (HA4.out.more HO6.out.2)
        have hcap : n1 ≤ c6 ∧ ∃ b6 o6, a6 = some ⟨b6, o6, none⟩ := by
          have h7 := HO6.out.1.rd
          obtain ⟨av, cv, hv, hle, hmax, hnil, hel⟩ := h7
          simp only [List.cons.injEq, Value.slice.injEq, and_true] at hv
          obtain ⟨rfl, h8, rfl⟩ := hv
          obtain ⟨b, off, row, h1, -⟩ := hel 0 (by simp)
          exact ⟨by omega, b, off, h1⟩
        obtain ⟨hc6, b6, o6, rfl⟩ := hcap
        have i0 : (n1 : Int) ≤ (c6 : Int) := by omega
        have i1 : (0 : Int) ≤ (n1 : Int) := by omega
        have kd6 : Keep No w6 w6.drew := (Keep.refl No w6).drew
        have HA7 := Lib.hid (HA6.out.more kd6)
        have hent := (rEntry_any w6.drew _ [.int .i64 p0, .int .i64 p1, .int .i64 p2, .int .u64 p3, .string p4, .slice p5 pm5 pk5, .int .i64 p6, .slice p7 pm7 pk7, .slice p8 pm8 pk8] x (HH.out.1.agree _ HA7.out.keep.agreeNo) (by
          have h := HPX.out
          unfold partsN at h
          exact ⟨by omega, by omega, by omega⟩))
        have cE := blk_cell HA7.out.e
        have HK67 := Lib.hid kd6
        clear kd6
        refine wp_region_canw [0, 1, 2, 3, 4, 5, 6, 7, 8, 9, 10, 11] [5, 6] [(0, 5), (1, 5), (2, 5), (3, 5)] (by kernel_rfl) (by kernel_rfl) (by kernel_rfl) (by kernel_rfl) (by intro c a d v w h; cases d <;> exact h) ?_
        generalize w6.drew = w7 at *
        iterate 5 (refine canw_sil rfl rfl (fun K hK => ?_); go_simp; refine hK _ ?_; clear hK K)
        have hent2 := hent.mono (R' := fun e w8 => ∃ es : Array Value, e = .returned (.agg es) ∧ RowKit.Hid (Rd entrySh w8 (Fr w7.heap.size w8.heap.size) es.toList x ∧ Keep No w7 w8)) (by
          rintro e w8 ⟨cs, rfl, h1, h2⟩
          exact ⟨cs, rfl, h1, h2⟩)
        clear hent
        refine canw_loud [0, 1, 2, 3] rfl rfl rfl (fun K hK => ?_)
        go_wp2_with (go_at_call 20; refine hent2.mono ?_; clear hent2; rintro e w8 ⟨es, rfl, HE8⟩)
        refine Mid.normal (hK _ _ ?_ ?_)
        · simp only [List.forall_mem_cons]
          refine ⟨?_, ?_, ?_, ?_, stabs_nil⟩ <;> exact stab_of rfl (fun K hK => by go_simp; exact hK)
        clear hK K
        have hput := (putEnt_any w8 _ _ (.slice (some ⟨b6, o6, none⟩) n1 c6) ahead (rd_front ((HO6.out.1.rd.agree _ HK67.out.agreeNo).agree _ HE8.out.2.agreeNo) HB.out.1) (by have := HB.out.1; have := HB.out.2.2.2.2.1; omega) es.toList x HE8.out.1 HFX.out).mono (R' := fun e w9 => ∃ a n k, e = .returned (.tuple #[.slice a n k, .int .i64 x.err]) ∧ RowKit.Hid (OwnB w8 w9 (.slice a n k) (if x.err = 0 then ahead ++ x.bytes else []))) (by
          rintro e w9 ⟨a, n, k, rfl, ho⟩
          exact ⟨a, n, k, rfl, ho⟩)
        rw [Array.toArray_toList] at hput
        refine canw_loud [] rfl rfl rfl (fun K hK => ?_)
        go_wp2_with (go_at_call 19; refine hput.mono ?_; clear hput; rintro e w9 ⟨a9, n9, k9, rfl, HO9⟩)
        refine Mid.normal (hK _ _ stabs_nil ?_)
        clear hK K
        iterate 5 (refine canw_sil rfl rfl (fun K hK => ?_); go_simp; refine hK _ ?_; clear hK K)
        refine canw_nil ?_
        have HA9 := Lib.hid (HA7.out.more (HE8.out.2.trans HO9.out.2))
        have c9 := blk_cell HA9.out.e
        have hreq : entGetR raw = entGet raw := by
          have hA := bytes_all HB.out.2.2.2.1
          have hb := HB.out.2.2.2.2.2
          have hn := HB.out.2.1
          rw [entGetR_eq hA (by omega)]
          exact entGet_same hA (by omega) 1073741824 raw.length (.inl (by decide)) (.inr (Nat.le_refl _))
        have HGF : RowKit.Hid (∀ W, Keep No w9 W → Calls Tryz.prog 22 #[.slice a2 n2 c2] W (GivesEV W (entGet raw).1 (entGet raw).2)) := fun W hk =>
          (getEnt_any W _ _ raw (HB.out.2.2.2.1.agree _ (HA9.out.keep.trans hk).agreeNo) (by have := HB.out.2.1; have := HB.out.2.2.2.2.2; omega)).mono (fun e w' h => gei_v h)
        have HRF : RowKit.Hid (∀ W, Keep No w9 W → Calls Tryz.prog 23 #[.slice a2 n2 c2] W (GivesEV W (entGet raw).1 (entGet raw).2)) := fun W hk =>
          (rgetEnt_any W _ _ raw (HB.out.2.2.2.1.agree _ (HA9.out.keep.trans hk).agreeNo) (by have := HB.out.2.1; have := HB.out.2.2.2.2.2; omega)).mono (fun e w' h => by rw [hreq] at h; exact gei_v h)
        clear hreq
        generalize (entGet raw).1 = z at *
        generalize (entGet raw).2 = er at *
        have hrput := (rputEnt_any w9 _ _ (.slice a1 n1 c1) ahead (HB.out.2.2.1.agree _ HA9.out.keep.agreeNo) (by have := HB.out.1; have := HB.out.2.2.2.2.1; omega) [.int .i64 p0, .int .i64 p1, .int .i64 p2, .int .u64 p3, .string p4, .slice p5 pm5 pk5, .int .i64 p6, .slice p7 pm7 pk7, .slice p8 pm8 pk8] x (HH.out.1.agree _ HA9.out.keep.agreeNo) HFX.out).mono (R' := fun e w10 => ∃ a n k, e = .returned (.tuple #[.slice a n k, .int .i64 x.err]) ∧ RowKit.Hid (OwnB w9 w10 (.slice a n k) (if x.err = 0 then ahead ++ x.bytes else []))) (by
          rintro e w10 ⟨a, n, k, rfl, ho⟩
          exact ⟨a, n, k, rfl, ho⟩)
        have HR9 : RowKit.Hid (Rd bytesSh w9 (Fr w8.heap.size w9.heap.size) [.slice a9 n9 k9] (if x.err = 0 then ahead ++ x.bytes else [])) := HO9.out.rd
        have H7 : RowKit.Hid (b6 < w9.heap.size ∧ w9.cell? ⟨b6, o6 + n1, none⟩ = some (.int .u8 7)) := by
          obtain ⟨a', c', h1, -, -, -, h2⟩ := bytes_at HO6.out.1.rd
          obtain ⟨b, off, h3, -, h4, h5, -⟩ := h2 n1 (by have := HB.out.1; simp; omega)
          simp only [Value.slice.injEq] at h1
          rw [← h1.1] at h3
          simp only [Option.some.injEq, Addr.mk.injEq, and_true] at h3
          obtain ⟨rfl, rfl⟩ := h3
          have hk := (HK67.out.trans HE8.out.2).trans HO9.out.2
          have h6 := hk.block b6 h4 (fun x => x)
          refine ⟨by have := hk.size; omega, ?_⟩
          have h7 : (ahead ++ [7])[n1]'(by have := HB.out.1; simp; omega) = 7 := by
            rw [List.getElem_append_right (by have := HB.out.1; omega)]
            simp
          rw [h7] at h5
          rw [← h5]
          simp only [World.cell?, h6]
        clear HE8 HO9 HO6 HA6 HA7 HK67 cE i0
        generalize (if x.err = 0 then ahead ++ x.bytes else []) = L at *
        generalize x.err = xe at *
        go_upto_region 9 with (first
          | (go_at_call 21; refine hrput.mono ?_; clear hrput; rintro e w10 ⟨a10, n10, k10, rfl, HO10⟩; have hget := HGF.out _ HO10.out.2)
          | (go_at_call 22; refine hget.mono ?_; clear hget; rintro e w11 ⟨x0, x1, x2, x3, x6, x4, x5, x7, x8, xm5, xk5, xm7, xk7, xm8, xk8, rfl, HGx⟩; have hrget := HRF.out _ ((HO10.out.2.trans HGx.out.2).alloc (.cells #[.int .i64 x0, .int .i64 x1, .int .i64 x2, .int .u64 x3, .string x4, .slice x5 xm5 xk5, .int .i64 x6, .slice x7 xm7 xk7, .slice x8 xm8 xk8] 40)))
          | (go_at_call 23; refine hrget.mono ?_; clear hrget; rintro e w12 ⟨y0, y1, y2, y3, y6, y4, y5, y7, y8, ym5, yk5, ym7, yk7, ym8, yk8, rfl, HGy⟩))
        have kx := (Keep.refl No w11).alloc (.cells #[.int .i64 x0, .int .i64 x1, .int .i64 x2, .int .u64 x3, .string x4, .slice x5 xm5 xk5, .int .i64 x6, .slice x7 xm7 xk7, .slice x8 xm8 xk8] 40)
        have bX := blk_alloc (o' := (.cells #[.int .i64 y0, .int .i64 y1, .int .i64 y2, .int .u64 y3, .string y4, .slice y5 ym5 yk5, .int .i64 y6, .slice y7 ym7 yk7, .slice y8 ym8 yk8] 40)) (HGy.out.2.blk (blk_new w11 (.cells #[.int .i64 x0, .int .i64 x1, .int .i64 x2, .int .u64 x3, .string x4, .slice x5 xm5 xk5, .int .i64 x6, .slice x7 xm7 xk7, .slice x8 xm8 xk8] 40)) (fun x => x))
        have bY := blk_new w12 (.cells #[.int .i64 y0, .int .i64 y1, .int .i64 y2, .int .u64 y3, .string y4, .slice y5 ym5 yk5, .int .i64 y6, .slice y7 ym7 yk7, .slice y8 ym8 yk8] 40)
        have ky : Keep No w11 (w12.alloc (.cells #[.int .i64 y0, .int .i64 y1, .int .i64 y2, .int .u64 y3, .string y4, .slice y5 ym5 yk5, .int .i64 y6, .slice y7 ym7 yk7, .slice y8 ym8 yk8] 40)) := (kx.trans HGy.out.2).alloc _
        have ky2 := (Keep.refl No w12).alloc (.cells #[.int .i64 y0, .int .i64 y1, .int .i64 y2, .int .u64 y3, .string y4, .slice y5 ym5 yk5, .int .i64 y6, .slice y7 ym7 yk7, .slice y8 ym8 yk8] 40)
        have k13 : Keep No w9 (w12.alloc (.cells #[.int .i64 y0, .int .i64 y1, .int .i64 y2, .int .u64 y3, .string y4, .slice y5 ym5 yk5, .int .i64 y6, .slice y7 ym7 yk7, .slice y8 ym8 yk8] 40)) := (HO10.out.2.trans HGx.out.2).trans ky
        have rX : Rd entrySh (w12.alloc (.cells #[.int .i64 y0, .int .i64 y1, .int .i64 y2, .int .u64 y3, .string y4, .slice y5 ym5 yk5, .int .i64 y6, .slice y7 ym7 yk7, .slice y8 ym8 yk8] 40)) (Fr w10.heap.size w11.heap.size) [.int .i64 x0, .int .i64 x1, .int .i64 x2, .int .u64 x3, .string x4, .slice x5 xm5 xk5, .int .i64 x6, .slice x7 xm7 xk7, .slice x8 xm8 xk8] z := HGx.out.1.agree _ ky.agreeNo
        have rY := HGy.out.1.agree _ ky2.agreeNo
        have r10 : Rd bytesSh (w12.alloc (.cells #[.int .i64 y0, .int .i64 y1, .int .i64 y2, .int .u64 y3, .string y4, .slice y5 ym5 yk5, .int .i64 y6, .slice y7 ym7 yk7, .slice y8 ym8 yk8] 40)) (Fr w9.heap.size w10.heap.size) [.slice a10 n10 k10] L := HO10.out.rd.agree _ (HGx.out.2.trans ky).agreeNo
        clear kx ky ky2
        generalize (w12.alloc (.cells #[.int .i64 y0, .int .i64 y1, .int .i64 y2, .int .u64 y3, .string y4, .slice y5 ym5 yk5, .int .i64 y6, .slice y7 ym7 yk7, .slice y8 ym8 yk8] 40)) = w13 at *
        generalize w12.heap.size = Y at *
        generalize w11.heap.size = X at *
        have HA13 := Lib.hid (HA9.out.more k13)
        have HF : RowKit.Hid (w13.heap[X]? = some (.cells #[.int .i64 x0, .int .i64 x1, .int .i64 x2, .int .u64 x3, .string x4, .slice x5 xm5 xk5, .int .i64 x6, .slice x7 xm7 xk7, .slice x8 xm8 xk8] 40 (0, 0)) ∧ w13.heap[Y]? = some (.cells #[.int .i64 y0, .int .i64 y1, .int .i64 y2, .int .u64 y3, .string y4, .slice y5 ym5 yk5, .int .i64 y6, .slice y7 ym7 yk7, .slice y8 ym8 yk8] 40 (0, 0)) ∧ (∃ S, Rd entrySh w13 S [.int .i64 x0, .int .i64 x1, .int .i64 x2, .int .u64 x3, .string x4, .slice x5 xm5 xk5, .int .i64 x6, .slice x7 xm7 xk7, .slice x8 xm8 xk8] z) ∧ (∃ S, Rd entrySh w13 S [.int .i64 y0, .int .i64 y1, .int .i64 y2, .int .u64 y3, .string y4, .slice y5 ym5 yk5, .int .i64 y6, .slice y7 ym7 yk7, .slice y8 ym8 yk8] z) ∧ Rd bytesSh w13 (Fr w8.heap.size w9.heap.size) [.slice a9 n9 k9] L ∧ Rd bytesSh w13 (Fr w9.heap.size w10.heap.size) [.slice a10 n10 k10] L ∧ b6 < w13.heap.size) := ⟨bX, bY, ⟨_, rX⟩, ⟨_, rY⟩, HR9.out.agree _ k13.agreeNo, r10, by have := H7.out.1; have := k13.size; omega⟩
        have c7 : w13.cell? ⟨b6, o6 + n1, none⟩ = some (.int .u8 7) := by
          rw [← H7.out.2]
          simp only [World.cell?, k13.block b6 H7.out.1 (fun x => x)]
        have HA14 := Lib.hid (HA13.out.more (Keep.refl No w13).drew)
        have hsame := esame_eq w13.drew _ _ a9 a10 n9 k9 n10 k10 L HF.out.2.2.2.2.1 HF.out.2.2.2.2.2.1
        have cX := blk_cell (show w13.drew.heap[X]? = some (.cells #[.int .i64 x0, .int .i64 x1, .int .i64 x2, .int .u64 x3, .string x4, .slice x5 xm5 xk5, .int .i64 x6, .slice x7 xm7 xk7, .slice x8 xm8 xk8] 40 (0, 0)) from HF.out.1)
        have cY := blk_cell (show w13.drew.heap[Y]? = some (.cells #[.int .i64 y0, .int .i64 y1, .int .i64 y2, .int .u64 y3, .string y4, .slice y5 ym5 yk5, .int .i64 y6, .slice y7 ym7 yk7, .slice y8 ym8 yk8] 40 (0, 0)) from HF.out.2.1)
        have hc7 : w13.drew.cell? ⟨b6, o6 + n1, none⟩ = some (.int .u8 7) := c7
        have heqz : Calls Tryz.prog 13 #[.agg #[.int .i64 x0, .int .i64 x1, .int .i64 x2, .int .u64 x3, .string x4, .slice x5 xm5 xk5, .int .i64 x6, .slice x7 xm7 xk7, .slice x8 xm8 xk8], .agg #[.int .i64 y0, .int .i64 y1, .int .i64 y2, .int .u64 y3, .string y4, .slice y5 ym5 yk5, .int .i64 y6, .slice y7 ym7 yk7, .slice y8 ym8 yk8]] w13.drew fun e w' => e = .returned (.bool true) ∧ RowKit.Hid (Keep No w13.drew w') := by
          obtain ⟨S1, r1⟩ := HF.out.2.2.1
          obtain ⟨S2, r2⟩ := HF.out.2.2.2.1
          refine (rEqual_any w13.drew S1 S2 _ _ z z r1 r2).mono ?_
          rintro e w' ⟨rfl, hk⟩
          exact ⟨by rw [(Ent.eqb_iff _ _).2 rfl], hk⟩
        have HSE : RowKit.Hid (∀ W, Keep No w13.drew W → Calls Tryz.prog 26 #[.agg #[.int .i64 p0, .int .i64 p1, .int .i64 p2, .int .u64 p3, .string p4, .slice p5 pm5 pk5, .int .i64 p6, .slice p7 pm7 pk7, .slice p8 pm8 pk8], .agg #[.int .i64 q0, .int .i64 q1, .int .i64 q2, .int .u64 q3, .string q4, .slice q5 qm5 qk5, .int .i64 q6, .slice q7 qm7 qk7, .slice q8 qm8 qk8]] W fun e w' => e = .returned (.bool (x.eqb y)) ∧ RowKit.Hid (Keep No w13.drew w' ∧ Apart w E F #[.int .i64 p0, .int .i64 p1, .int .i64 p2, .int .u64 p3, .string p4, .slice p5 pm5 pk5, .int .i64 p6, .slice p7 pm7 pk7, .slice p8 pm8 pk8] #[.int .i64 q0, .int .i64 q1, .int .i64 q2, .int .u64 q3, .string q4, .slice q5 qm5 qk5, .int .i64 q6, .slice q7 qm7 qk7, .slice q8 qm8 qk8] w')) := fun W hk =>
          (sEqual_any W _ _ _ _ x y (HH.out.1.agree _ (HA14.out.keep.trans hk).agreeNo) (HH.out.2.1.agree _ (HA14.out.keep.trans hk).agreeNo)).mono (by
            rintro e w' ⟨rfl, hk'⟩
            exact ⟨rfl, hk.trans hk', HA14.out.more (hk.trans hk')⟩)
        have HRE : RowKit.Hid (∀ W, Keep No w13.drew W → Calls Tryz.prog 13 #[.agg #[.int .i64 p0, .int .i64 p1, .int .i64 p2, .int .u64 p3, .string p4, .slice p5 pm5 pk5, .int .i64 p6, .slice p7 pm7 pk7, .slice p8 pm8 pk8], .agg #[.int .i64 q0, .int .i64 q1, .int .i64 q2, .int .u64 q3, .string q4, .slice q5 qm5 qk5, .int .i64 q6, .slice q7 qm7 qk7, .slice q8 qm8 qk8]] W fun e w' => e = .returned (.bool (x.eqb y)) ∧ RowKit.Hid (Keep No w13.drew w' ∧ Apart w E F #[.int .i64 p0, .int .i64 p1, .int .i64 p2, .int .u64 p3, .string p4, .slice p5 pm5 pk5, .int .i64 p6, .slice p7 pm7 pk7, .slice p8 pm8 pk8] #[.int .i64 q0, .int .i64 q1, .int .i64 q2, .int .u64 q3, .string q4, .slice q5 qm5 qk5, .int .i64 q6, .slice q7 qm7 qk7, .slice q8 qm8 qk8] w')) := fun W hk =>
          (rEqual_any W _ _ _ _ x y (HH.out.1.agree _ (HA14.out.keep.trans hk).agreeNo) (HH.out.2.1.agree _ (HA14.out.keep.trans hk).agreeNo)).mono (by
            rintro e w' ⟨rfl, hk'⟩
            exact ⟨rfl, hk.trans hk', HA14.out.more (hk.trans hk')⟩)
        have HRI : RowKit.Hid (∀ W, Keep No w13.drew W → Calls Tryz.prog 27 #[.agg #[.int .i64 p2, .int .u64 p3, .string p4, .slice p5 pm5 pk5, .int .i64 p6, .slice p7 pm7 pk7, .slice p8 pm8 pk8]] W fun e w' => e = .returned (.int .i64 x.plan.right) ∧ RowKit.Hid (Keep No w13.drew w' ∧ Apart w E F #[.int .i64 p0, .int .i64 p1, .int .i64 p2, .int .u64 p3, .string p4, .slice p5 pm5 pk5, .int .i64 p6, .slice p7 pm7 pk7, .slice p8 pm8 pk8] #[.int .i64 q0, .int .i64 q1, .int .i64 q2, .int .u64 q3, .string q4, .slice q5 qm5 qk5, .int .i64 q6, .slice q7 qm7 qk7, .slice q8 qm8 qk8] w')) := fun W hk =>
          (right_any W _ _ x.plan ((ent_plan HH.out.1).agree _ (HA14.out.keep.trans hk).agreeNo) HFX.out).mono (by
            rintro e w' ⟨rfl, hk'⟩
            exact ⟨rfl, hk.trans hk', HA14.out.more (hk.trans hk')⟩)
        have HRR : RowKit.Hid (∀ W, Keep No w13.drew W → Calls Tryz.prog 28 #[.agg #[.int .i64 p2, .int .u64 p3, .string p4, .slice p5 pm5 pk5, .int .i64 p6, .slice p7 pm7 pk7, .slice p8 pm8 pk8]] W fun e w' => e = .returned (.int .i64 x.plan.right) ∧ RowKit.Hid (Keep No w13.drew w' ∧ Apart w E F #[.int .i64 p0, .int .i64 p1, .int .i64 p2, .int .u64 p3, .string p4, .slice p5 pm5 pk5, .int .i64 p6, .slice p7 pm7 pk7, .slice p8 pm8 pk8] #[.int .i64 q0, .int .i64 q1, .int .i64 q2, .int .u64 q3, .string q4, .slice q5 qm5 qk5, .int .i64 q6, .slice q7 qm7 qk7, .slice q8 qm8 qk8] w')) := fun W hk =>
          (rRight_any W _ _ x.plan ((ent_plan HH.out.1).agree _ (HA14.out.keep.trans hk).agreeNo) HFX.out).mono (by
            rintro e w' ⟨rfl, hk'⟩
            exact ⟨rfl, hk.trans hk', HA14.out.more (hk.trans hk')⟩)
        clear bX bY k13 rX rY r10 HA9 c9 HGF HRF c7 HR9 H7 HO10
        have i2 : (n1 : Int) < (n1 : Int) + 1 := by omega
        refine wp_region_canw [0, 1, 2, 3, 4, 6, 5, 7, 8, 9, 10, 11, 12, 13, 14, 15, 16, 17, 18, 19, 20, 21, 22, 23, 25, 24, 26, 27, 28, 29, 30, 32, 33, 31, 34, 35, 36, 37, 38, 39, 42, 43, 40, 41, 44, 45, 46, 47, 48, 49, 50] [2, 5, 20, 24, 31, 34, 40, 41, 44, 48] [(6, 5), (25, 24), (32, 31), (33, 31), (42, 40), (43, 40), (42, 41), (43, 41)] (by kernel_rfl) (by kernel_rfl) (by kernel_rfl) (by kernel_rfl) (by intro c a d v w h; cases d <;> exact h) ?_
        generalize w13.drew = wd at *
        generalize x.eqb y = qb at *
        generalize x.plan.right = pr at *
        iterate 2 (refine canw_sil rfl rfl (fun K hK => ?_); go_simp; refine hK _ ?_; clear hK K)
        refine canw_loud [] rfl rfl rfl (fun K hK => ?_)
        go_wp2_with (go_at_call 24; refine hsame.mono ?_; clear hsame; rintro e w20 ⟨rfl, hw20⟩; subst hw20)
        refine Mid.normal (hK _ _ stabs_nil ?_)
        clear hK K
        iterate 3 (refine canw_sil rfl rfl (fun K hK => ?_); go_simp; refine hK _ ?_; clear hK K)
        refine canw_loud [6] rfl rfl rfl (fun K hK => ?_)
        go_wp2_with (go_at_call 25; refine (enum_eq _ _).mono ?_; rintro e w20 ⟨rfl, rfl⟩)
        refine Mid.normal (hK _ _ ?_ ?_)
        · simp only [List.forall_mem_cons]
          refine ⟨?_, stabs_nil⟩ <;> exact stab_of rfl (fun K hK => by go_simp; exact hK)
        clear hK K
        iterate 13 (refine canw_sil rfl rfl (fun K hK => ?_); go_simp; refine hK _ ?_; clear hK K)
        refine canw_loud [] rfl rfl rfl (fun K hK => ?_)
        go_wp2_with (go_at_call 13; refine heqz.mono ?_; clear heqz; rintro e w15 ⟨rfl, HK15⟩)
        refine Mid.normal (hK _ _ stabs_nil ?_)
        clear hK K cX cY hc7
        have HA15 := Lib.hid (HA14.out.more HK15.out)
        have cE := blk_cell HA15.out.e
        have cF := blk_cell HA15.out.f
        have hse := HSE.out _ HK15.out
        iterate 4 (refine canw_sil rfl rfl (fun K hK => ?_); go_simp; refine hK _ ?_; clear hK K)
        refine canw_loud [25] rfl rfl rfl (fun K hK => ?_)
        go_wp2_with (go_at_call 25; refine (enum_eq _ _).mono ?_; rintro e w20 ⟨rfl, rfl⟩)
        refine Mid.normal (hK _ _ ?_ ?_)
        · simp only [List.forall_mem_cons]
          refine ⟨?_, stabs_nil⟩ <;> exact stab_of rfl (fun K hK => by go_simp; exact hK)
        clear hK K
        iterate 7 (refine canw_sil rfl rfl (fun K hK => ?_); go_simp; refine hK _ ?_; clear hK K)
        refine canw_loud [32, 33] rfl rfl rfl (fun K hK => ?_)
        go_wp2_with (go_at_call 26; refine hse.mono ?_; clear hse; rintro e w16 ⟨rfl, H16⟩)
        have cE16 := blk_cell H16.out.2.e
        have cF16 := blk_cell H16.out.2.f
        refine Mid.normal (hK _ _ ?_ ?_)
        · simp only [List.forall_mem_cons]
          refine ⟨?_, ?_, stabs_nil⟩ <;> exact stab_of rfl (fun K hK => by go_simp; exact hK)
        clear hK K
        have hre := HRE.out _ H16.out.1
        refine canw_loud [] rfl rfl rfl (fun K hK => ?_)
        go_wp2_with (go_at_call 13; refine hre.mono ?_; clear hre; rintro e w17 ⟨rfl, H17⟩)
        refine Mid.normal (hK _ _ stabs_nil ?_)
        clear hK K cE cF cE16 cF16
        have cE := blk_cell H17.out.2.e
        have hri := HRI.out _ H17.out.1
        iterate 7 (refine canw_sil rfl rfl (fun K hK => ?_); go_simp; refine hK _ ?_; clear hK K)
        refine canw_loud [42, 43] rfl rfl rfl (fun K hK => ?_)
        go_wp2_with (go_at_call 27; refine hri.mono ?_; clear hri; rintro e w18 ⟨rfl, H18⟩)
        have cE18 := blk_cell H18.out.2.e
        refine Mid.normal (hK _ _ ?_ ?_)
        · simp only [List.forall_mem_cons]
          refine ⟨?_, ?_, stabs_nil⟩ <;> exact stab_of rfl (fun K hK => by go_simp; exact hK)
        clear hK K
        refine canw_loud [42, 43] rfl rfl rfl (fun K hK => ?_)
        go_wp2_with (go_at_call 25; refine (enum_eq _ _).mono ?_; rintro e w20 ⟨rfl, rfl⟩)
        refine Mid.normal (hK _ _ ?_ ?_)
        · simp only [List.forall_mem_cons]
          refine ⟨?_, ?_, stabs_nil⟩ <;> exact stab_of rfl (fun K hK => by go_simp; exact hK)
        clear hK K
        have hrr := HRR.out _ H18.out.1
        refine canw_loud [] rfl rfl rfl (fun K hK => ?_)
        go_wp2_with (go_at_call 28; refine hrr.mono ?_; clear hrr; rintro e w19 ⟨rfl, H19⟩)
        refine Mid.normal (hK _ _ stabs_nil ?_)
        clear hK K cE cE18
        iterate 3 (refine canw_sil rfl rfl (fun K hK => ?_); go_simp; refine hK _ ?_; clear hK K)
        refine canw_loud [] rfl rfl rfl (fun K hK => ?_)
        go_wp2_with (go_at_call 17; refine (live_any _).mono ?_; rintro e w21 ⟨rfl, hk21⟩; have H21 := Lib.hid hk21; clear hk21)
        refine Mid.normal (hK _ _ stabs_nil ?_)
        clear hK K
        iterate 2 (refine canw_sil rfl rfl (fun K hK => ?_); go_simp; refine hK _ ?_; clear hK K)
        refine canw_nil ?_
        go_wp2_with fail
        go_ret
        exact ⟨by simp, H19.out.2.keep.trans H21.out⟩
end Go.Proofs.YtnknihmchmmenaaGreat
