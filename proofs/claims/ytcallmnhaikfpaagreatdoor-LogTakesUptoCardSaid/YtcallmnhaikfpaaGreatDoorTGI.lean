/-
  Parts of what is proved for this claim; each declaration is one of the seat's texts.
-/
import Derived.Test.YtcallmnhaikfpaaGreatDoorTGA
import Derived.Test.YtcallmnhaikfpaaGreatDoorTGC
import Derived.Test.YtcallmnhaikfpaaGreatDoorTGF
import Derived.Test.YtcallmnhaikfpaaGreatDoorTGG
import Derived.Test.YtcallmnhaikfpaaGreatDoorTGH
import Derived.Still
import Derived.StillTactics
import Derived.WalkKit
import Derived.WalkSpells
import Derived.WalkLawsBesides
import Derived.ProofKit
import Derived.Deep.Slices
import Derived.Deep.AppendSrc
import Derived.Lib.Hide
import Derived.Recover
import Derived.Defers
import Derived.Deep.QuietTactic
import Derived.BigQuiet
import Derived.Handy
import Derived.Laws.Bits64b
import Derived.Lib.Zigzag
import Derived.OwnWalk
set_option linter.unusedVariables false
set_option linter.unusedSimpArgs false
namespace Go.Proofs.YtcallmnhaikfpaaGreatDoor
open Go Go.RowKit Go.Deep
def Looks (w : World) (x : Value) (e : Ending) (w' : World) : Prop := ∃ n, e = .returned x ∧ w' = w.drewN n
theorem RdrAt.cells {T : TypeId} {w : World} {B : Nat} {S : Nat → Prop} {v : Value} {r : Rs} (h : RdrAt T w B S v r) :
    w.cell? ⟨B, 0, none⟩ = some v ∧ w.cell? ⟨B, 1, none⟩ = some (.int .i64 r.at') ∧ w.cell? ⟨B, 2, none⟩ = some (.int .i64 r.last) ∧ w.cell? ⟨B, 3, none⟩ = some (.int .i64 r.err) ∧ w.cell? ⟨B, 4, none⟩ = some (.int .i64 r.spot) ∧
      w.frozen? ⟨B, 3, none⟩ = false ∧ w.frozen? ⟨B, 4, none⟩ = false :=
  ⟨blk_cell h.blk 0, blk_cell h.blk 1, blk_cell h.blk 2, blk_cell h.blk 3, blk_cell h.blk 4, blk_fro h.blk 3, blk_fro h.blk 4⟩
set_option maxHeartbeats 1000000 in
theorem Why_any (w : World) (B : Nat) (S : Nat → Prop) (v : Value) (r : Rs) (h : RdrAt 141 w B S v r) :
    Calls Tryz.prog 44 #[.pointer (some ⟨B, 0, none⟩)] w (Looks w (.tuple #[.int .i64 r.err, .int .i64 (if r.err = 0 then 0 else (r.spot : Int))])) := by
  obtain ⟨c0, c1, c2, c3, c4, -, -⟩ := h.cells
  clear h
  by_cases he : r.err = 0
  · rw [he] at c3
    rw [if_pos he, he]
    clear he
    go_enter Tryz.func44, Tryz.ntmps44
    go_wp2
    go_ret2
    exact ⟨0, rfl, rfl⟩
  · have e1 : (r.err == 0) = false := by simpa using he
    rw [if_neg he]
    go_enter Tryz.func44, Tryz.ntmps44
    go_wp2
    go_quiet (fail)
    go_wp2
    go_ret2
    exact ⟨_, rfl, rfl⟩
set_option maxHeartbeats 1000000 in
theorem Rest_any (w : World) (B : Nat) (S : Nat → Prop) (v : Value) (r : Rs) (h : RdrAt 141 w B S v r) :
    Calls Tryz.prog 77 #[.pointer (some ⟨B, 0, none⟩)] w (Looks w (.int .i64 r.left)) := by
  obtain ⟨c0, c1, c2, c3, c4, -, -⟩ := h.cells
  obtain ⟨a, c, rfl, -, -, -, -⟩ := bytes_at h.rd
  have j1 : (r.at' : Int) ≤ r.b.length := by have := h.ok.at_le; omega
  have j2 : (r.b.length : Int) ≤ 9223372036854775807 := by have := h.len; omega
  have j3 : ((r.left : Nat) : Int) = if r.err ≠ 0 then 0 else (r.b.length : Int) - r.at' := by
    have := h.ok.at_le
    unfold Rs.left; split <;> omega
  rw [j3]
  clear h j3
  by_cases he : r.err = 0
  · rw [he] at c3
    rw [if_neg (by simpa using he)]
    clear he
    go_enter Tryz.func77, Tryz.ntmps77
    go_wp2
    go_quiet (fail)
    go_wp2
    go_ret
    exact ⟨_, rfl, rfl⟩
  · have e1 : (r.err != 0) = true := by simpa using he
    rw [if_pos he]
    go_enter Tryz.func77, Tryz.ntmps77
    go_wp2
    go_ret
    exact ⟨0, rfl, rfl⟩
set_option maxHeartbeats 1000000 in
theorem Fail_any (w : World) (B : Nat) (S : Nat → Prop) (v : Value) (r : Rs) (h : RdrAt 141 w B S v r) (e : Int) (h0 : 0 ≤ e) (h1 : e < 1000) :
    Calls Tryz.prog 102 #[.pointer (some ⟨B, 0, none⟩), .int .i64 e] w (Reads 141 w B S v (.tuple #[]) (r.fail e)) := by
  obtain ⟨c0, c1, c2, c3, c4, z3, z4⟩ := h.cells
  have HH := Lib.hid h
  have HE := Lib.hid (And.intro h0 h1)
  clear h h0 h1
  by_cases he : r.err = 0
  · by_cases hz : e = 0
    · subst hz
      rw [he] at c3
      have ef : r.fail 0 = r := by unfold Rs.fail; rw [if_neg (by simp)]
      rw [ef]
      clear he ef
      go_enter Tryz.func102, Tryz.ntmps102
      go_wp2
      go_end0
      exact ⟨rfl, HH, Keep.refl _ _⟩
    · have d1 : (e != 0) = true := by simpa using hz
      have ef : r.fail e = { r with err := e, spot := r.last } := by unfold Rs.fail; rw [if_pos ⟨he, hz⟩]
      rw [ef]
      rw [he] at c3
      clear he ef hz
      go_enter Tryz.func102, Tryz.ntmps102
      go_wp2
      go_end0
      have h : RdrAt 141 w B S v r := HH
      exact ⟨rfl, (h.setErr e HE.1 HE.2).setSpot r.last _ rfl h.ok.last_le, keep_own (keep_set _ _ _ _) _ _⟩
  · have d1 : (r.err == 0) = false := by simpa using he
    have ef : r.fail e = r := by unfold Rs.fail; rw [if_neg (fun hh => he hh.1)]
    rw [ef]
    clear he ef
    go_enter Tryz.func102, Tryz.ntmps102
    go_wp2
    go_end0
    exact ⟨rfl, HH, Keep.refl _ _⟩
set_option maxHeartbeats 1000000 in
theorem End_any (w : World) (B : Nat) (S : Nat → Prop) (v : Value) (r : Rs) (h : RdrAt 141 w B S v r) :
    Calls Tryz.prog 47 #[.pointer (some ⟨B, 0, none⟩)] w (Reads 141 w B S v (.int .i64 r.end'.err) r.end') := by
  obtain ⟨c0, c1, c2, c3, c4, z3, z4⟩ := h.cells
  obtain ⟨a, c, rfl, -, -, -, -⟩ := bytes_at h.rd
  have HH := Lib.hid h
  have HA := Lib.hid h.ok.at_le
  clear h
  by_cases he : r.err = 0
  · by_cases hl : r.at' < r.b.length
    · have d1 : (r.at' : Int) < (r.b.length : Int) := by omega
      have ef : r.end' = { r with err := 4, spot := r.at' } := by unfold Rs.end'; rw [if_pos ⟨he, hl⟩]; rfl
      rw [ef]
      rw [he] at c3
      clear he ef hl
      go_enter Tryz.func47, Tryz.ntmps47
      go_wp2
      go_quiet (fail)
      go_wp2
      go_ret
      have h : RdrAt 141 w B S (.slice a r.b.length c) r := HH
      exact ⟨rfl, ((h.drewN _).setErr 4 (by omega) (by omega)).setSpot r.at' _ rfl HA, keep_own (keep_own ((Keep.refl _ _).drewN _) _ _) _ _⟩
    · have d1 : ¬ (r.at' : Int) < (r.b.length : Int) := by omega
      have ef : r.end' = r := by unfold Rs.end'; rw [if_neg (fun hh => hl hh.2)]
      rw [ef, he]
      rw [he] at c3
      clear ef hl he
      go_enter Tryz.func47, Tryz.ntmps47
      go_wp2
      go_quiet (fail)
      go_wp2
      go_ret
      have h : RdrAt 141 w B S (.slice a r.b.length c) r := HH
      exact ⟨rfl, h.drewN _, (Keep.refl _ _).drewN _⟩
  · have d1 : (r.err == 0) = false := by simpa using he
    have ef : r.end' = r := by unfold Rs.end'; rw [if_neg (fun hh => he hh.1)]
    rw [ef]
    clear he ef
    go_enter Tryz.func47, Tryz.ntmps47
    go_wp2
    go_quiet (fail)
    go_wp2
    go_ret
    have h : RdrAt 141 w B S (.slice a r.b.length c) r := HH
    exact ⟨rfl, h.drewN _, (Keep.refl _ _).drewN _⟩
theorem clone_big {P : Program} {w : World} {S : Nat → Prop} {v : Value} {s : Sh} {l : List s.T} (h : Rd (.slice s) w S [v] l) (hf : s.flat = true) (t e ty : TypeId) (i : TypeInfo) (z : Value) (bytes : Nat)
    (ht : P.underlying t = some (.slice e)) (hi : P.info? e = some i) (hz : i.zero = some z) (hsz : i.size = s.size) (hby : i.bytes = bytes) (hzs : z.cells.size = s.size) (hl : l.length ≤ 140737488355328) (hb : l.length * bytes ≤ 140737488355328) :
    ∃ a c w', (Builtin.append_ #[t, t] ty #[.slice (some ⟨w.heap.size, 0, none⟩) 0 0, v]).run P (w.alloc (.cells #[] e)) = .ok (.slice a l.length c) w' ∧ Own s e w' (Fr w.heap.size w'.heap.size) (.slice a l.length c) l ∧ Keep No w w' := by
  obtain ⟨rows, hrl, hr, hsrc⟩ := Rd.rows h
  have h0 : OwnRows (w.alloc (.cells #[] e)) e s.size (.slice (some ⟨w.heap.size, 0, none⟩) 0 0) (some w.heap.size) [] :=
    ⟨fun _ h => (by cases h), .inr ⟨w.heap.size, 0, 0, #[], rfl, rfl, heap_alloc_new w _, Nat.le_refl _, Nat.zero_le _, by simp, by simp⟩⟩
  have hag : Agree S w (w.alloc (.cells #[] e)) := ((Keep.refl No w).alloc _).agreeNo
  obtain ⟨a, c, w', g', hrun, ho, hg', hk, hs⟩ := own_append h0 t t ty i z bytes ht hi hz hsz hby hzs (hsrc P t e ht _ hag) (fun r hr' => by
    obtain ⟨j, hj, rfl⟩ := List.getElem_of_mem hr'
    exact (hr j hj (by omega)).length s) (by simp; omega) (by simpa [hrl] using hb)
  simp only [List.length_nil, Nat.zero_add, hrl, List.nil_append] at hrun ho
  refine ⟨a, c, w', hrun, ?_, ((Keep.refl No w).alloc _).then hk fun k hk hg => ?_⟩
  · refine ⟨g', rows, No, ho, hrl, fun i hi hi' => Rd.ofFlat s hf (hr i hi hi'), fun b hb => ⟨?_, fun x => x⟩, fun _ x => x.elim⟩
    have := ho.lt hb
    rcases hg' with rfl | rfl
    · cases hb; exact ⟨Nat.le_refl _, this⟩
    · cases hb; exact ⟨by simp, this⟩
  · simp only [Option.some.injEq] at hg; omega
theorem Tryz.infoByte : (Tryz.prog.info? 5).map (fun i => (i.zero, i.size, i.bytes)) = some (some (.int .u8 0), 1, 1) := by kernel_rfl
set_option maxHeartbeats 400000 in
theorem clone_bytes (w : World) (S : Nat → Prop) (v : Value) (l : Bytes) (h : Rd bytesSh w S [v] l) (hl : l.length ≤ 140737488355328) :
    Calls Tryz.prog 62 #[v] w (Cloned (.int .u8) 5 w l) := by
  obtain ⟨i0, hi, hz0, hz1, hz2⟩ := info_parts Tryz.infoByte
  obtain ⟨a, c, hv, hc, hn⟩ := Rd.sliceForm h
  obtain rfl : v = .slice a l.length c := by simpa using hv
  clear hv
  have hq := fun (a : Option Addr) (n c : Nat) (w : World) => Lib.run_eql_slice_nil (P := Tryz.prog) w 55 5 a n c 0 0 Tryz.underlying55
  cases a with
  | none =>
    obtain ⟨rfl, rfl⟩ := hn rfl
    go_enter Tryz.func62, Tryz.ntmps62
    go_wp2
    go_ret
    exact ⟨none, 0, rfl, Own.nil _ _ _ _, Keep.refl _ _⟩
  | some a =>
    obtain ⟨a', c', w', hrun, ho, hk⟩ := clone_big h rfl 55 5 55 i0 _ 1 Tryz.underlying55 hi hz0 hz1 hz2 rfl hl (by omega)
    clear h hn hl
    go_enter Tryz.func62, Tryz.ntmps62
    go_wp2_with (at_builtin; refine wpList_app rfl (.tmp 5) (.tmp 6) 55 55 rfl rfl rfl hrun ?_)
    go_ret
    exact ⟨_, _, rfl, ho, hk⟩
theorem Own.plain {s : Sh} {e : TypeId} {w : World} {S : Nat → Prop} {v : Value} {l : List s.T} (h : Own s e w S v l) : PlainV v := by
  obtain ⟨g, rows, T, h1, -⟩ := h
  intro a n c hv
  subst hv
  rcases h1.2 with ⟨-, -, h2⟩ | ⟨b, off, cap, cur, -, h2, -⟩
  · cases h2
  · cases h2; exact ⟨b, off, rfl⟩
def NewRdr (T : TypeId) (w : World) (b : Bytes) (e : Ending) (w' : World) : Prop :=
  ∃ B v, e = .returned (.pointer (some ⟨B, 0, none⟩)) ∧ w.heap.size ≤ B ∧ RdrAt T w' B (Fr w.heap.size B) v (Rs.new b) ∧ Keep No w w'
set_option maxHeartbeats 400000 in
theorem NewReader_any (w : World) (S : Nat → Prop) (v : Value) (l : Bytes) (h : Rd bytesSh w S [v] l) (hl : l.length ≤ 140737488355328) :
    Calls Tryz.prog 41 #[v] w (NewRdr 141 w l) := by
  have hc := clone_bytes w S v l h hl
  have hA := Lib.hid (bytes_all h)
  obtain ⟨a0, c0, rfl, -, -, -, -⟩ := bytes_at h
  clear h hl
  go_enter Tryz.func41, Tryz.ntmps41
  go_wp2_with (go_at_call 62; refine hc.mono ?_; clear hc; rintro e w2 ⟨a, c, rfl, ho, hk⟩)
  go_ret
  exact ⟨w2.heap.size, _, rfl, hk.size, ⟨blk_new w2 _, ho.rd.agree bytesSh ((Keep.refl No w2).alloc _).agreeNo, fun hh => Nat.lt_irrefl _ hh.2, .new hA, ho.plain⟩, hk.alloc _⟩
end Go.Proofs.YtcallmnhaikfpaaGreatDoor
