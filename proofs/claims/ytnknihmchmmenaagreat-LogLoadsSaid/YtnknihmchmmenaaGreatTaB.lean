/-
  The law's spoil: it writes over lists that are its own.
-/
import Derived.Test.YtnknihmchmmenaaGreatTaA
import Derived.Test.YtnknihmchmmenaaGreatHB
import Derived.Test.YtnknihmchmmenaaGreatGU
namespace Go.Proofs.YtnknihmchmmenaaGreat
open Go Go.RowKit Go.Deep
set_option linter.unusedVariables false
set_option linter.unusedSimpArgs false

/-- the text that is written -/
def spoilt : ByteArray := ⟨#[115, 112, 111, 105, 108, 116]⟩
theorem spoilt_le : spoilt.size ≤ maxLen := by decide
/-- inside a plan's round: the plan's own block, and what has turned -/
structure SpoilIn (S : Nat → Prop) (w : World) (P : Nat) (cs : Array Value) (wr : World) : Prop where
  kin : Kin S w wr
  blk : wr.heap[P]? = some (.cells cs 38 (0, 0))
theorem SpoilIn.on {S : Nat → Prop} {w : World} {P : Nat} {cs : Array Value} {wr w' : World} (h : SpoilIn S w P cs wr) (hP : ¬ S P) (hk : Kin S wr w') : SpoilIn S w P cs w' := ⟨h.kin.trans hk, hk.keep.blk h.blk hP⟩

theorem kin_vals {U S : Nat → Prop} {w w' : World} (h : Kin U w w') {a : Option Addr} {n c : Nat} {l : List Val} (hr : Rd (.slice valueSh) w S [.slice a n c] l) (i : Nat) (hi : i < n) :
    ∃ b off x0 x1 x2, a = some ⟨b, off, none⟩ ∧ S b ∧ RowAt w' b (off + i * 3) [.int .i64 x0, .int .i64 x1, .string x2] := by
  obtain ⟨l', hl, hr'⟩ := h.slice hr
  obtain ⟨b, off, row, ha, -, hb, hS, -, hrow, hx⟩ := hr'.elem' i (by omega)
  obtain ⟨rfl, -, -⟩ := val_cells hx
  exact ⟨b, off, _, _, _, ha, hS, hrow⟩
theorem kin_strs {U S : Nat → Prop} {w w' : World} (h : Kin U w w') {a : Option Addr} {n c : Nat} {l : List ByteArray} (hr : Rd (.slice .str) w S [.slice a n c] l) (i : Nat) (hi : i < n) :
    ∃ b off x0, a = some ⟨b, off, none⟩ ∧ S b ∧ RowAt w' b (off + i) [.string x0] := by
  obtain ⟨l', hl, hr'⟩ := h.slice hr
  obtain ⟨b, off, row, ha, -, hb, hS, -, hrow, hx⟩ := Rd.elem' (s := .str) hr' i (by omega)
  obtain ⟨rfl, -⟩ := hx
  simp only [Sh.size, Nat.mul_one] at hrow
  exact ⟨b, off, _, ha, hS, hrow⟩

theorem Like.int_of {k : IntKind} {x : Int} {b : Value} (h : Like (.int k x) b) (y : Int) (hy : (Lit.int k y).wf = true) : Like b (.int k y) := by
  cases h with
  | same => exact .int _ _ _ hy
  | int => exact .int _ _ _ hy
theorem Like.str_of {x : ByteArray} {b : Value} (h : Like (.string x) b) (y : ByteArray) (hy : y.size ≤ maxLen) : Like b (.string y) := by
  cases h with
  | same => exact .str _ _ hy
  | str => exact .str _ _ hy
theorem Like.emp_of {a : Option Addr} {n c : Nat} {b : Value} (h : Like (.slice a n c) b) : Like b (.slice none 0 0) := by
  cases h with
  | same => exact .emp _ _ _
  | emp => exact .same _
/-- a plan's row may be written over -/
theorem kin_plan {U : Nat → Prop} {w w' : World} (h : Kin U w w') {b o : Nat} {v1 v2 v4 : Int} {v3 : ByteArray} {a1 a2 a3 : Option Addr} {n1 n2 n3 c1 c2 c3 : Nat} (hr : RowAt w b o [.int .i64 v1, .int .u64 v2, .string v3, .slice a1 n1 c1, .int .i64 v4, .slice a2 n2 c2, .slice a3 n3 c3]) :
    ∃ u0 u1 u2 u3 u4 u5 u6, RowAt w' b o [u0, u1, u2, u3, u4, u5, u6] ∧ LikeL [u0, u1, u2, u3, u4, u5, u6] [.int .i64 0, .int .u64 0, .string ⟨#[]⟩, .slice none 0 0, .int .i64 77, .slice none 0 0, .slice none 0 0] := by
  obtain ⟨cs', h1, h2⟩ := h.row hr
  cases h2 with
  | cons l0 t => cases t with
  | cons l1 t => cases t with
  | cons l2 t => cases t with
  | cons l3 t => cases t with
  | cons l4 t => cases t with
  | cons l5 t => cases t with
  | cons l6 t => cases t with
  | nil => exact ⟨_, _, _, _, _, _, _, h1, .cons (l0.int_of _ rfl) (.cons (l1.int_of _ rfl) (.cons (l2.str_of _ (Nat.zero_le _)) (.cons l3.emp_of (.cons (l4.int_of _ rfl) (.cons l5.emp_of (.cons l6.emp_of .nil))))))⟩

set_option maxRecDepth 10000 in
set_option maxHeartbeats 4000000 in
theorem lspoil_any (w : World) (S : Nat → Prop) (a : Option Addr) (n c : Nat) (ps : List Plan) (h : Rd (.slice planSh) w S [.slice a n c] ps) (hS : ∀ k, S k → k < w.heap.size) :
    Calls Tryz.prog 34 #[.slice a n c] w fun e w' => e = .returned (.tuple #[]) ∧ Kin S w w' := by
  have hn63 : n ≤ 9223372036854775807 := by
    obtain ⟨a', c', e, h1, h2, -⟩ := h
    simp only [List.cons.injEq, Value.slice.injEq, and_true] at e
    rw [maxLen_is] at h2
    omega
  have HH := Lib.hid (And.intro h hS)
  clear h hS
  go_enter Tryz.func34, Tryz.ntmps34
  go_wp2_with fail
  go_loopw [2] (fun i wr => ∃ k : Nat, i = .int .i64 k ∧ k ≤ n ∧ RowKit.Hid (Kin S w wr)) (fun i _ => n - (intOf i).toNat)
  case atStart => exact ⟨0, rfl, Nat.zero_le _, Kin.refl _ _⟩
  case round =>
    obtain ⟨k, rfl, hk, HA⟩ := hrel
    rename World => wo
    by_cases hlt : k < n
    · obtain ⟨h, hS⟩ := HH.out
      obtain ⟨l', hl', hr'⟩ : ∃ l' : List Plan, l'.length = n ∧ Rd (.slice planSh) wo S [.slice a n c] l' := Kin.slice HA.out h
      obtain ⟨b, off, x1, y1, x2, y2, x3, y3, rfl, -, hbl, hbS, hr, hx⟩ := planAt' hr' k (by omega)
      obtain ⟨d1, e1, d2, e2, d3, e3, hcs, g1, g2, g3, -⟩ := plan_cells hx
      simp only [List.cons.injEq, Value.slice.injEq, and_true, true_and] at hcs
      obtain ⟨⟨rfl, rfl⟩, ⟨rfl, rfl⟩, rfl, rfl⟩ := hcs
      have m1 : l'[k].args.length ≤ 9223372036854775807 := by
        obtain ⟨a', c', e, h1, h2, -⟩ := g1
        rw [maxLen_is] at h2
        omega
      have m2 : l'[k].reads.length ≤ 9223372036854775807 := by
        obtain ⟨a', c', e, h1, h2, -⟩ := g2
        rw [maxLen_is] at h2
        omega
      have m3 : l'[k].writes.length ≤ 9223372036854775807 := by
        obtain ⟨a', c', e, h1, h2, -⟩ := g3
        rw [maxLen_is] at h2
        omega
      obtain ⟨r0, r1, r2, r3, r4, r5, r6⟩ := row_seven hr
      have hrow := hr
      generalize l'[k] = pk at *
      clear hr' hl'
      have j0 : (0 : Int) ≤ (k : Int) := by omega
      have j1 : (k : Int) < (n : Int) := by omega
      have j3 : (k : Int) ≤ 9223372036854775806 := by omega
      have HX := Lib.hid (And.intro hlt (And.intro hbS (And.intro hrow (And.intro g1 (And.intro g2 g3)))))
      have hPS : ¬ S wo.heap.size := fun hh => by have := hS _ hh; have := HA.out.keep.size; omega
      clear hr hx hbl hbS hrow g1 g2 g3 h hS hlt hk
      generalize pk.client = v1 at *
      generalize pk.token = v2 at *
      generalize pk.name = v3 at *
      generalize pk.how = v4 at *
      generalize pk.args.length = n1 at *
      generalize pk.reads.length = n2 at *
      generalize pk.writes.length = n3 at *
      go_wp2_with fail
      have HW0 := Lib.hid (And.intro HA.out ((Kin.ofKeep (S := S) ((Keep.refl No wo).alloc (.cells #[.int .i64 v1, .int .u64 v2, .string v3, .slice y1 n1 x1, .int .i64 v4, .slice y2 n2 x2, .slice y3 n3 x3] 38)))))
      have x0 := blk_new wo (.cells #[.int .i64 v1, .int .u64 v2, .string v3, .slice y1 n1 x1, .int .i64 v4, .slice y2 n2 x2, .slice y3 n3 x3] 38)
      have HI0 : RowKit.Hid (SpoilIn S wo wo.heap.size #[.int .i64 v1, .int .u64 v2, .string v3, .slice y1 n1 x1, .int .i64 v4, .slice y2 n2 x2, .slice y3 n3 x3] (wo.alloc (.cells #[.int .i64 v1, .int .u64 v2, .string v3, .slice y1 n1 x1, .int .i64 v4, .slice y2 n2 x2, .slice y3 n3 x3] 38))) := ⟨HW0.out.2, x0⟩
      generalize (wo.alloc (.cells #[.int .i64 v1, .int .u64 v2, .string v3, .slice y1 n1 x1, .int .i64 v4, .slice y2 n2 x2, .slice y3 n3 x3] 38)) = w1 at *
      clear x0 r0 r1 r2 r3 r4 r5 r6 HW0
      obtain ⟨P, hP⟩ : ∃ P, wo.heap.size = P := ⟨_, rfl⟩
      rw [hP] at hPS HI0
      rw [hP]
      clear hP
      go_loopw [4] (fun i wx => ∃ j : Nat, i = .int .i64 j ∧ j ≤ n1 ∧ RowKit.Hid (SpoilIn S wo P #[.int .i64 v1, .int .u64 v2, .string v3, .slice y1 n1 x1, .int .i64 v4, .slice y2 n2 x2, .slice y3 n3 x3] wx)) (fun i _ => n1 - (intOf i).toNat)
      case atStart => exact ⟨0, rfl, Nat.zero_le _, HI0⟩
      case round =>
        clear HI0
        obtain ⟨j, rfl, hj, HI⟩ := hrel
        have q := blk_cell HI.out.blk
        by_cases hlt : j < n1
        · obtain ⟨b', off', z0, z1, z2, rfl, hbS', hrw⟩ := kin_vals HI.out.kin HX.out.2.2.2.1 j hlt
          have i0 : (0 : Int) ≤ (j : Int) := by omega
          have i1 : (j : Int) < (n1 : Int) := by omega
          have i3 : (j : Int) ≤ 9223372036854775806 := by omega
          obtain ⟨p0, f0⟩ := hrw 0 (by simp)
          obtain ⟨p1, f1⟩ := hrw 1 (by simp)
          obtain ⟨p2, f2⟩ := hrw 2 (by simp)
          simp only [List.getElem?_cons_zero, List.getElem?_cons_succ, Nat.add_zero] at p0 p1 p2 f0 f1 f2
          have hnew := HI.out.on hPS (Kin.all hbS' (LikeL.cons (Like.int .i64 z0 77 rfl) (.cons (Like.int .i64 z1 0 rfl) (.cons (Like.str z2 ⟨#[]⟩ (Nat.zero_le _)) .nil))) hrw)
          have HN := Lib.hid hnew
          have HLT : RowKit.Hid (j < n1) := hlt
          clear hnew hrw hlt hj
          go_wp2_with fail
          go_roundw
          case rel => exact ⟨j + 1, by simp, HLT.out, HN⟩
          case measure => simp [intOf]; have := HLT.out; omega
        · have hjn : n1 = j := by omega
          subst hjn
          clear hlt hj
          go_wp2_with fail
          go_loopw [5] (fun i wx => ∃ j : Nat, i = .int .i64 j ∧ j ≤ n2 ∧ RowKit.Hid (SpoilIn S wo P #[.int .i64 v1, .int .u64 v2, .string v3, .slice y1 n1 x1, .int .i64 v4, .slice y2 n2 x2, .slice y3 n3 x3] wx)) (fun i _ => n2 - (intOf i).toNat)
          case atStart => exact ⟨0, rfl, Nat.zero_le _, HI⟩
          case round =>
            clear HI
            obtain ⟨j, rfl, hj, HI⟩ := hrel
            have q := blk_cell HI.out.blk
            by_cases hlt : j < n2
            · obtain ⟨b', off', z0, rfl, hbS', hrw⟩ := kin_strs HI.out.kin HX.out.2.2.2.2.1 j hlt
              have i0 : (0 : Int) ≤ (j : Int) := by omega
              have i1 : (j : Int) < (n2 : Int) := by omega
              have i3 : (j : Int) ≤ 9223372036854775806 := by omega
              obtain ⟨p0, f0⟩ := hrw 0 (by simp)
              simp only [List.getElem?_cons_zero, Nat.add_zero] at p0 f0
              have hnew := HI.out.on hPS (Kin.all hbS' (LikeL.cons (Like.str z0 spoilt spoilt_le) .nil) hrw)
              have HN := Lib.hid hnew
              have HLT : RowKit.Hid (j < n2) := hlt
              clear hnew hrw hlt hj
              go_wp2_with fail
              go_roundw
              case rel => exact ⟨j + 1, by simp, HLT.out, HN⟩
              case measure => simp [intOf]; have := HLT.out; omega
            · have hjn : n2 = j := by omega
              subst hjn
              clear hlt hj
              go_wp2_with fail
              go_loopw [6] (fun i wx => ∃ j : Nat, i = .int .i64 j ∧ j ≤ n3 ∧ RowKit.Hid (SpoilIn S wo P #[.int .i64 v1, .int .u64 v2, .string v3, .slice y1 n1 x1, .int .i64 v4, .slice y2 n2 x2, .slice y3 n3 x3] wx)) (fun i _ => n3 - (intOf i).toNat)
              case atStart => exact ⟨0, rfl, Nat.zero_le _, HI⟩
              case round =>
                clear HI
                obtain ⟨j, rfl, hj, HI⟩ := hrel
                have q := blk_cell HI.out.blk
                by_cases hlt : j < n3
                · obtain ⟨b', off', z0, rfl, hbS', hrw⟩ := kin_strs HI.out.kin HX.out.2.2.2.2.2 j hlt
                  have i0 : (0 : Int) ≤ (j : Int) := by omega
                  have i1 : (j : Int) < (n3 : Int) := by omega
                  have i3 : (j : Int) ≤ 9223372036854775806 := by omega
                  obtain ⟨p0, f0⟩ := hrw 0 (by simp)
                  simp only [List.getElem?_cons_zero, Nat.add_zero] at p0 f0
                  have hnew := HI.out.on hPS (Kin.all hbS' (LikeL.cons (Like.str z0 spoilt spoilt_le) .nil) hrw)
                  have HN := Lib.hid hnew
                  have HLT : RowKit.Hid (j < n3) := hlt
                  clear hnew hrw hlt hj
                  go_wp2_with fail
                  go_roundw
                  case rel => exact ⟨j + 1, by simp, HLT.out, HN⟩
                  case measure => simp [intOf]; have := HLT.out; omega
                · have hjn : n3 = j := by omega
                  subst hjn
                  clear hlt hj
                  obtain ⟨t0, t1, t2, t3, t4, t5, t6, hrw, hlk⟩ := kin_plan HI.out.kin HX.out.2.2.1
                  obtain ⟨p0, f0⟩ := hrw 0 (by simp)
                  obtain ⟨p1, f1⟩ := hrw 1 (by simp)
                  obtain ⟨p2, f2⟩ := hrw 2 (by simp)
                  obtain ⟨p3, f3⟩ := hrw 3 (by simp)
                  obtain ⟨p4, f4⟩ := hrw 4 (by simp)
                  obtain ⟨p5, f5⟩ := hrw 5 (by simp)
                  obtain ⟨p6, f6⟩ := hrw 6 (by simp)
                  simp only [List.getElem?_cons_zero, List.getElem?_cons_succ, Nat.add_zero] at p0 p1 p2 p3 p4 p5 p6 f0 f1 f2 f3 f4 f5 f6
                  have HN := Lib.hid ((HA.out.trans HI.out.kin).trans (Kin.all HX.out.2.1 hlk hrw))
                  clear hrw hlk
                  go_wp2_with fail
                  go_roundw
                  case rel => exact ⟨k + 1, by simp, HX.out.1, HN⟩
                  case measure => simp [intOf]; have := HX.out.1; omega
    · obtain rfl : k = n := by omega
      clear hlt hk
      go_wp2_with fail
      go_end0
      exact ⟨rfl, HA.out⟩
end Go.Proofs.YtnknihmchmmenaaGreat
