/-
  The contracts of package epoch's functions that make copies: slices.Clone at values and strings, copied.
-/
import Derived.Test.YtjillekahongeaaShapes
namespace Go.Proofs.Ytjillekahongeaa
open Go Go.RowKit Go.Deep
theorem Try.infoValue : (Try.prog.info? 68).map (fun i => (i.zero, i.size, i.bytes)) = some (some (.agg #[.int .i64 0, .int .i64 0, .string ⟨#[]⟩]), 3, 32) := by kernel_rfl
theorem Try.infoString : (Try.prog.info? 9).map (fun i => (i.zero, i.size, i.bytes)) = some (some (.string ⟨#[]⟩), 1, 16) := by kernel_rfl

set_option maxHeartbeats 400000 in
theorem clone_values (w : World) (S : Nat → Prop) (v : Value) (l : List valueSh.T) (h : Rd (.slice valueSh) w S [v] l) (hl : l.length ≤ 1048576) :
    Calls Try.prog 31 #[v] w (Cloned valueSh 68 w l) := by
  obtain ⟨i0, hi, hz0, hz1, hz2⟩ := info_parts Try.infoValue
  obtain ⟨a, c, hv, hc, hn⟩ := Rd.sliceForm h
  obtain rfl : v = .slice a l.length c := by simpa using hv
  clear hv
  have hq := fun (a : Option Addr) (n c : Nat) (w : World) => Lib.run_eql_slice_nil (P := Try.prog) w 30 68 a n c 0 0 Try.underlying30
  cases a with
  | none =>
    obtain ⟨rfl, rfl⟩ := hn rfl
    go_enter Try.func31, Try.ntmps31
    go_wp2
    go_ret
    exact ⟨none, 0, rfl, Own.nil _ _ _ _, Keep.refl _ _⟩
  | some a =>
    obtain ⟨a', c', w', hrun, ho, hk⟩ := clone_app h rfl 30 68 30 i0 _ 32 Try.underlying30 hi hz0 hz1 hz2 rfl hl (by decide)
    clear h hn
    go_enter Try.func31, Try.ntmps31
    go_wp2_with (at_builtin; refine wpList_app rfl (.tmp 5) (.tmp 6) 30 30 rfl rfl rfl hrun ?_)
    go_ret
    exact ⟨_, _, rfl, ho, hk⟩

set_option maxHeartbeats 400000 in
theorem clone_strings (w : World) (S : Nat → Prop) (v : Value) (l : List ByteArray) (h : Rd (.slice .str) w S [v] l) (hl : l.length ≤ 1048576) :
    Calls Try.prog 32 #[v] w (Cloned .str 9 w l) := by
  obtain ⟨i0, hi, hz0, hz1, hz2⟩ := info_parts Try.infoString
  obtain ⟨a, c, hv, hc, hn⟩ := Rd.sliceForm h
  obtain rfl : v = .slice a l.length c := by simpa using hv
  clear hv
  have hq := fun (a : Option Addr) (n c : Nat) (w : World) => Lib.run_eql_slice_nil (P := Try.prog) w 33 9 a n c 0 0 Try.underlying33
  cases a with
  | none =>
    obtain ⟨rfl, rfl⟩ := hn rfl
    go_enter Try.func32, Try.ntmps32
    go_wp2
    go_ret
    exact ⟨none, 0, rfl, Own.nil _ _ _ _, Keep.refl _ _⟩
  | some a =>
    obtain ⟨a', c', w', hrun, ho, hk⟩ := clone_app h rfl 33 9 33 i0 _ 16 Try.underlying33 hi hz0 hz1 hz2 rfl hl (by decide)
    clear h hn
    go_enter Try.func32, Try.ntmps32
    go_wp2_with (at_builtin; refine wpList_app rfl (.tmp 5) (.tmp 6) 33 33 rfl rfl rfl hrun ?_)
    go_ret
    exact ⟨_, _, rfl, ho, hk⟩

/-- a plan in lists of its own -/
def Copied (w : World) (p : Plan) (e : Ending) (w' : World) : Prop :=
  ∃ cs : Array Value, e = .returned (.agg cs) ∧ Rd planSh w' (Fr w.heap.size w'.heap.size) cs.toList p ∧ Keep No w w'

set_option maxHeartbeats 400000 in
theorem copied_any (w : World) (S : Nat → Prop) (cs : List Value) (p : Plan) (h : Rd planSh w S cs p) (l1 : p.args.length ≤ 1048576) (l2 : p.reads.length ≤ 1048576) (l3 : p.writes.length ≤ 1048576) :
    Calls Try.prog 22 #[.agg cs.toArray] w (Copied w p) := by
  obtain ⟨a1, c1, a2, c2, a3, c3, rfl, h1, h2, h3, w1, w2, w3, w4⟩ := plan_cells h
  clear h
  go_enter Try.func22, Try.ntmps22
  go_wp2_with fail
  refine (clone_values _ S _ _ (Rd.agree _ h1 (by exact (((Keep.refl No w).alloc _).alloc _).agreeNo)) l1).mono ?_
  rintro e u1 ⟨x1, y1, rfl, o1, k1⟩
  have b0 := k1.blk (blk_alloc (blk_new w _)) (fun x => x)
  have b1 := k1.blk (blk_new _ _) (fun x => x)
  have kk := (((Keep.refl No w).alloc _).alloc _).thenNo k1
  have hk1 := k1.size
  simp only [World.size_alloc] at b1 o1 hk1
  clear k1
  have c0 := blk_cell b0
  have f0 := blk_fro b0
  go_wp2_with fail
  refine (clone_strings _ S _ _ (Rd.agree _ h2 (by exact (kk.setCell (by simp) _).agreeNo)) l2).mono ?_
  rintro e u2 ⟨x2, y2, rfl, o2, k2⟩
  replace o1 := (o1.agree (agree_set (Fr.not (by omega)) _ _)).agree k2.agreeNo
  replace b0 := k2.blk (blk_set b0 3 _) (fun x => x)
  replace b1 := k2.blk (blk_other b1 (by simp) _) (fun x => x)
  replace kk := (kk.setCell (by simp) _).thenNo k2
  have hk2 := k2.size
  simp only [World.size_setCell] at o2 hk2
  clear k2 c0 f0
  simp at b0
  have c0 := blk_cell b0
  have f0 := blk_fro b0
  go_wp2_with fail
  refine (clone_strings _ S _ _ (Rd.agree _ h3 (by exact (kk.setCell (by simp) _).agreeNo)) l3).mono ?_
  rintro e u3 ⟨x3, y3, rfl, o3, k3⟩
  replace o1 := (o1.agree (agree_set (Fr.not (by omega)) _ _)).agree k3.agreeNo
  replace o2 := (o2.agree (agree_set (Fr.not (by omega)) _ _)).agree k3.agreeNo
  replace b0 := k3.blk (blk_set b0 5 _) (fun x => x)
  replace b1 := k3.blk (blk_other b1 (by simp) _) (fun x => x)
  replace kk := (kk.setCell (by simp) _).thenNo k3
  have hk3 := k3.size
  simp only [World.size_setCell] at o3 hk3
  clear k3 c0 f0
  simp at b0
  have c0 := blk_cell b0
  have f0 := blk_fro b0
  have c1 := blk_cell b1
  have f1 := blk_fro b1
  go_wp2_with fail
  refine bodyPost_ret (v := .agg #[.int .i64 p.client, .int .u64 p.token, .string p.name, .slice x1 p.args.length y1, .int .i64 p.how, .slice x2 p.reads.length y2, .slice x3 p.writes.length y3]) (by simp [results, Try.results22, go_sem, c1]) rfl ⟨_, rfl, ?_, ?_⟩
  · have kf : ∀ W, Keep (fun k => k < w.heap.size + 2) u3 W → Rd planSh W (Fr w.heap.size W.heap.size) [.int .i64 p.client, .int .u64 p.token, .string p.name, .slice x1 p.args.length y1, .int .i64 p.how, .slice x2 p.reads.length y2, .slice x3 p.writes.length y3] p := by
      intro W kW
      have := kW.size
      refine plan_mk p (Own.rd (Own.mono (o1.agree (kW.agree fun k _ hk hm => ?_)) fun k hk => ?_)) (Own.rd (Own.mono (o2.agree (kW.agree fun k _ hk hm => ?_)) fun k hk => ?_)) (Own.rd (Own.mono (o3.agree (kW.agree fun k _ hk hm => ?_)) fun k hk => ?_)) w1 w2 w3 w4 <;> have h1 := hk.1 <;> have h2 := hk.2 <;> first | omega | exact ⟨by omega, by omega⟩
    refine kf _ ?_
    repeat (refine Keep.setCell ?_ (fun _ => by simp) _)
    exact Keep.refl _ _
  · repeat (refine Keep.setNew ?_ (by simp) _)
    exact kk
end Go.Proofs.Ytjillekahongeaa
