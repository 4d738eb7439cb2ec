/-
  Parts of what is proved for this claim; each declaration is one of the seat's texts.
-/
import Derived.Test.YtpjcebajkfeacaaGreatDoorJGA
import Derived.Test.YtpjcebajkfeacaaGreatDoorJGC
import Derived.Test.YtpjcebajkfeacaaGreatDoorJGF
import Derived.Test.YtpjcebajkfeacaaGreatDoorJGG
import Derived.Test.YtpjcebajkfeacaaGreatDoorJGH
import Derived.Still
import Derived.StillTactics
import Derived.WalkKit
import Derived.Recover
import Derived.Defers
import Derived.Deep.QuietTactic
import Derived.BigQuiet
import Derived.Handy
import Derived.Laws.Bits64b
import Derived.Lib.Zigzag
import Derived.OwnWalk
set_option linter.unusedVariables false
set_option linter.unusedSimpArgs false
namespace Go.Proofs.YtpjcebajkfeacaaGreatDoor
open Go Go.RowKit Go.Deep
def Looks (w : World) (x : Value) (e : Ending) (w' : World) : Prop := ∃ n, e = .returned x ∧ w' = w.drewN n
theorem RdrAt.cells {T : TypeId} {w : World} {B : Nat} {S : Nat → Prop} {v : Value} {r : Rs} (h : RdrAt T w B S v r) :
    w.cell? ⟨B, 0, none⟩ = some v ∧ w.cell? ⟨B, 1, none⟩ = some (.int .i64 r.at') ∧ w.cell? ⟨B, 2, none⟩ = some (.int .i64 r.last) ∧ w.cell? ⟨B, 3, none⟩ = some (.int .i64 r.err) ∧ w.cell? ⟨B, 4, none⟩ = some (.int .i64 r.spot) ∧
      w.frozen? ⟨B, 3, none⟩ = false ∧ w.frozen? ⟨B, 4, none⟩ = false :=
  ⟨blk_cell h.blk 0, blk_cell h.blk 1, blk_cell h.blk 2, blk_cell h.blk 3, blk_cell h.blk 4, blk_fro h.blk 3, blk_fro h.blk 4⟩
set_option maxHeartbeats 1000000 in
theorem Why_any (w : World) (B : Nat) (S : Nat → Prop) (v : Value) (r : Rs) (h : RdrAt 178 w B S v r) :
    Calls Tryz.prog 61 #[.pointer (some ⟨B, 0, none⟩)] w (Looks w (.tuple #[.int .i64 r.err, .int .i64 (if r.err = 0 then 0 else (r.spot : Int))])) := by
  obtain ⟨c0, c1, c2, c3, c4, -, -⟩ := h.cells
  clear h
  by_cases he : r.err = 0
  · rw [he] at c3
    rw [if_pos he, he]
    clear he
    go_enter Tryz.func61, Tryz.ntmps61
    go_wp2
    go_ret2
    exact ⟨0, rfl, rfl⟩
  · have e1 : (r.err == 0) = false := by simpa using he
    rw [if_neg he]
    go_enter Tryz.func61, Tryz.ntmps61
    go_wp2
    go_quiet (fail)
    go_wp2
    go_ret2
    exact ⟨_, rfl, rfl⟩
set_option maxHeartbeats 1000000 in
theorem Rest_any (w : World) (B : Nat) (S : Nat → Prop) (v : Value) (r : Rs) (h : RdrAt 178 w B S v r) :
    Calls Tryz.prog 59 #[.pointer (some ⟨B, 0, none⟩)] w (Looks w (.int .i64 r.left)) := by
  obtain ⟨c0, c1, c2, c3, c4, -, -⟩ := h.cells
  obtain ⟨a, c, rfl, -, -, -, -⟩ := bytes_at h.rd
  have j1 : (r.at' : Int) ≤ r.b.length := by have := h.ok.at_le; omega
  have j2 : (r.b.length : Int) ≤ 9223372036854775807 := by have := h.len; omega
  have j3 : ((r.left : Nat) : Int) = if r.err ≠ 0 then 0 else (r.b.length : Int) - r.at' := by
    have := h.ok.at_le
    unfold Rs.left; split <;> omega
  rw [j3]
  clear h j3
  by_cases he : r.err = 0
  · rw [he] at c3
    rw [if_neg (by simpa using he)]
    clear he
    go_enter Tryz.func59, Tryz.ntmps59
    go_wp2
    go_quiet (fail)
    go_wp2
    go_ret
    exact ⟨_, rfl, rfl⟩
  · have e1 : (r.err != 0) = true := by simpa using he
    rw [if_pos he]
    go_enter Tryz.func59, Tryz.ntmps59
    go_wp2
    go_ret
    exact ⟨0, rfl, rfl⟩
set_option maxHeartbeats 1000000 in
theorem Fail_any (w : World) (B : Nat) (S : Nat → Prop) (v : Value) (r : Rs) (h : RdrAt 178 w B S v r) (e : Int) (h0 : 0 ≤ e) (h1 : e < 1000) :
    Calls Tryz.prog 58 #[.pointer (some ⟨B, 0, none⟩), .int .i64 e] w (Reads 178 w B S v (.tuple #[]) (r.fail e)) := by
  obtain ⟨c0, c1, c2, c3, c4, z3, z4⟩ := h.cells
  have HH := Lib.hid h
  have HE := Lib.hid (And.intro h0 h1)
  clear h h0 h1
  by_cases he : r.err = 0
  · by_cases hz : e = 0
    · subst hz
      rw [he] at c3
      have ef : r.fail 0 = r := by unfold Rs.fail; rw [if_neg (by simp)]
      rw [ef]
      clear he ef
      go_enter Tryz.func58, Tryz.ntmps58
      go_wp2
      go_end0
      exact ⟨rfl, HH, Keep.refl _ _⟩
    · have d1 : (e != 0) = true := by simpa using hz
      have ef : r.fail e = { r with err := e, spot := r.last } := by unfold Rs.fail; rw [if_pos ⟨he, hz⟩]
      rw [ef]
      rw [he] at c3
      clear he ef hz
      go_enter Tryz.func58, Tryz.ntmps58
      go_wp2
      go_end0
      have h : RdrAt 178 w B S v r := HH
      exact ⟨rfl, (h.setErr e HE.1 HE.2).setSpot r.last _ rfl h.ok.last_le, keep_own (keep_set _ _ _ _) _ _⟩
  · have d1 : (r.err == 0) = false := by simpa using he
    have ef : r.fail e = r := by unfold Rs.fail; rw [if_neg (fun hh => he hh.1)]
    rw [ef]
    clear he ef
    go_enter Tryz.func58, Tryz.ntmps58
    go_wp2
    go_end0
    exact ⟨rfl, HH, Keep.refl _ _⟩
set_option maxHeartbeats 1000000 in
theorem End_any (w : World) (B : Nat) (S : Nat → Prop) (v : Value) (r : Rs) (h : RdrAt 178 w B S v r) :
    Calls Tryz.prog 62 #[.pointer (some ⟨B, 0, none⟩)] w (Reads 178 w B S v (.int .i64 r.end'.err) r.end') := by
  obtain ⟨c0, c1, c2, c3, c4, z3, z4⟩ := h.cells
  obtain ⟨a, c, rfl, -, -, -, -⟩ := bytes_at h.rd
  have HH := Lib.hid h
  have HA := Lib.hid h.ok.at_le
  clear h
  by_cases he : r.err = 0
  · by_cases hl : r.at' < r.b.length
    · have d1 : (r.at' : Int) < (r.b.length : Int) := by omega
      have ef : r.end' = { r with err := 4, spot := r.at' } := by unfold Rs.end'; rw [if_pos ⟨he, hl⟩]; rfl
      rw [ef]
      rw [he] at c3
      clear he ef hl
      go_enter Tryz.func62, Tryz.ntmps62
      go_wp2
      go_quiet (fail)
      go_wp2
      go_ret
      have h : RdrAt 178 w B S (.slice a r.b.length c) r := HH
      exact ⟨rfl, ((h.drewN _).setErr 4 (by omega) (by omega)).setSpot r.at' _ rfl HA, keep_own (keep_own ((Keep.refl _ _).drewN _) _ _) _ _⟩
    · have d1 : ¬ (r.at' : Int) < (r.b.length : Int) := by omega
      have ef : r.end' = r := by unfold Rs.end'; rw [if_neg (fun hh => hl hh.2)]
      rw [ef, he]
      rw [he] at c3
      clear ef hl he
      go_enter Tryz.func62, Tryz.ntmps62
      go_wp2
      go_quiet (fail)
      go_wp2
      go_ret
      have h : RdrAt 178 w B S (.slice a r.b.length c) r := HH
      exact ⟨rfl, h.drewN _, (Keep.refl _ _).drewN _⟩
  · have d1 : (r.err == 0) = false := by simpa using he
    have ef : r.end' = r := by unfold Rs.end'; rw [if_neg (fun hh => he hh.1)]
    rw [ef]
    clear he ef
    go_enter Tryz.func62, Tryz.ntmps62
    go_wp2
    go_quiet (fail)
    go_wp2
    go_ret
    have h : RdrAt 178 w B S (.slice a r.b.length c) r := HH
    exact ⟨rfl, h.drewN _, (Keep.refl _ _).drewN _⟩
theorem clone_big {P : Program} {w : World} {S : Nat → Prop} {v : Value} {s : Sh} {l : List s.T} (h : Rd (.slice s) w S [v] l) (hf : s.flat = true) (t e ty : TypeId) (i : TypeInfo) (z : Value) (bytes : Nat)
    (ht : P.underlying t = some (.slice e)) (hi : P.info? e = some i) (hz : i.zero = some z) (hsz : i.size = s.size) (hby : i.bytes = bytes) (hzs : z.cells.size = s.size) (hl : l.length ≤ 140737488355328) (hb : l.length * bytes ≤ 140737488355328) :
    ∃ a c w', (Builtin.append_ #[t, t] ty #[.slice (some ⟨w.heap.size, 0, none⟩) 0 0, v]).run P (w.alloc (.cells #[] e)) = .ok (.slice a l.length c) w' ∧ Own s e w' (Fr w.heap.size w'.heap.size) (.slice a l.length c) l ∧ Keep No w w' := by
  obtain ⟨rows, hrl, hr, hsrc⟩ := Rd.rows h
  have h0 : OwnRows (w.alloc (.cells #[] e)) e s.size (.slice (some ⟨w.heap.size, 0, none⟩) 0 0) (some w.heap.size) [] :=
    ⟨fun _ h => (by cases h), .inr ⟨w.heap.size, 0, 0, #[], rfl, rfl, heap_alloc_new w _, Nat.le_refl _, Nat.zero_le _, by simp, by simp⟩⟩
  have hag : Agree S w (w.alloc (.cells #[] e)) := ((Keep.refl No w).alloc _).agreeNo
  obtain ⟨a, c, w', g', hrun, ho, hg', hk, hs⟩ := own_append h0 t t ty i z bytes ht hi hz hsz hby hzs (hsrc P t e ht _ hag) (fun r hr' => by
    obtain ⟨j, hj, rfl⟩ := List.getElem_of_mem hr'
    exact (hr j hj (by omega)).length s) (by simp; omega) (by simpa [hrl] using hb)
  simp only [List.length_nil, Nat.zero_add, hrl, List.nil_append] at hrun ho
  refine ⟨a, c, w', hrun, ?_, ((Keep.refl No w).alloc _).then hk fun k hk hg => ?_⟩
  · refine ⟨g', rows, No, ho, hrl, fun i hi hi' => Rd.ofFlat s hf (hr i hi hi'), fun b hb => ⟨?_, fun x => x⟩, fun _ x => x.elim⟩
    have := ho.lt hb
    rcases hg' with rfl | rfl
    · cases hb; exact ⟨Nat.le_refl _, this⟩
    · cases hb; exact ⟨by simp, this⟩
  · simp only [Option.some.injEq] at hg; omega
theorem Tryz.infoByte : (Tryz.prog.info? 5).map (fun i => (i.zero, i.size, i.bytes)) = some (some (.int .u8 0), 1, 1) := by kernel_rfl
set_option maxHeartbeats 400000 in
theorem clone_bytes (w : World) (S : Nat → Prop) (v : Value) (l : Bytes) (h : Rd bytesSh w S [v] l) (hl : l.length ≤ 140737488355328) :
    Calls Tryz.prog 84 #[v] w (Cloned (.int .u8) 5 w l) := by
  obtain ⟨i0, hi, hz0, hz1, hz2⟩ := info_parts Tryz.infoByte
  obtain ⟨a, c, hv, hc, hn⟩ := Rd.sliceForm h
  obtain rfl : v = .slice a l.length c := by simpa using hv
  clear hv
  have hq := fun (a : Option Addr) (n c : Nat) (w : World) => Lib.run_eql_slice_nil (P := Tryz.prog) w 25 5 a n c 0 0 Tryz.underlying25
  cases a with
  | none =>
    obtain ⟨rfl, rfl⟩ := hn rfl
    go_enter Tryz.func84, Tryz.ntmps84
    go_wp2
    go_ret
    exact ⟨none, 0, rfl, Own.nil _ _ _ _, Keep.refl _ _⟩
  | some a =>
    obtain ⟨a', c', w', hrun, ho, hk⟩ := clone_big h rfl 25 5 25 i0 _ 1 Tryz.underlying25 hi hz0 hz1 hz2 rfl hl (by omega)
    clear h hn hl
    go_enter Tryz.func84, Tryz.ntmps84
    go_wp2_with (at_builtin; refine wpList_app rfl (.tmp 5) (.tmp 6) 25 25 rfl rfl rfl hrun ?_)
    go_ret
    exact ⟨_, _, rfl, ho, hk⟩
theorem Own.plain {s : Sh} {e : TypeId} {w : World} {S : Nat → Prop} {v : Value} {l : List s.T} (h : Own s e w S v l) : PlainV v := by
  obtain ⟨g, rows, T, h1, -⟩ := h
  intro a n c hv
  subst hv
  rcases h1.2 with ⟨-, -, h2⟩ | ⟨b, off, cap, cur, -, h2, -⟩
  · cases h2
  · cases h2; exact ⟨b, off, rfl⟩
def NewRdr (T : TypeId) (w : World) (b : Bytes) (e : Ending) (w' : World) : Prop :=
  ∃ B v, e = .returned (.pointer (some ⟨B, 0, none⟩)) ∧ w.heap.size ≤ B ∧ RdrAt T w' B (Fr w.heap.size B) v (Rs.new b) ∧ Keep No w w'
set_option maxHeartbeats 400000 in
theorem NewReader_any (w : World) (S : Nat → Prop) (v : Value) (l : Bytes) (h : Rd bytesSh w S [v] l) (hl : l.length ≤ 140737488355328) :
    Calls Tryz.prog 53 #[v] w (NewRdr 178 w l) := by
  have hc := clone_bytes w S v l h hl
  have hA := Lib.hid (bytes_all h)
  obtain ⟨a0, c0, rfl, -, -, -, -⟩ := bytes_at h
  clear h hl
  go_enter Tryz.func53, Tryz.ntmps53
  go_wp2_with (go_at_call 84; refine hc.mono ?_; clear hc; rintro e w2 ⟨a, c, rfl, ho, hk⟩)
  go_ret
  exact ⟨w2.heap.size, _, rfl, hk.size, ⟨blk_new w2 _, ho.rd.agree bytesSh ((Keep.refl No w2).alloc _).agreeNo, fun hh => Nat.lt_irrefl _ hh.2, .new hA, ho.plain⟩, hk.alloc _⟩
end Go.Proofs.YtpjcebajkfeacaaGreatDoor
namespace Go.Proofs.YtpjcebajkfeacaaGreatDoor
open Go Go.RowKit Go.Deep
theorem num_step (acc k c : Nat) (h : c < 256) (hk : k ≤ 9) (ha : acc < 128 ^ k) (h9 : k = 9 → c ≤ 1) :
    IntKind.u64.wrap ((acc : Int) + IntKind.u64.wrap ((c : Int) % 128 * 2 ^ (7 * k))) = ((acc + c % 128 * 128 ^ k : Nat) : Int) ∧ acc + c % 128 * 128 ^ k < 128 ^ (k + 1) := by
  obtain ⟨-, h2, h3⟩ := uint_step acc k c h hk ha h9
  have e : (2 : Int) ^ (7 * k) = ((128 ^ k : Nat) : Int) := by rw [Int.pow_mul]; norm_cast
  refine ⟨?_, h2⟩
  rw [e, show (c : Int) % 128 = ((c % 128 : Nat) : Int) by omega, ← Int.natCast_mul, wrap_u64_nat _ (by omega), ← Int.natCast_add, wrap_u64_nat _ h3]
set_option maxHeartbeats 4000000 in
theorem number_any (w : World) (S : Nat → Prop) (v : Value) (l : Bytes) (h : Rd bytesSh w S [v] l) :
    Calls Tryz.prog 124 #[v] w fun e w' => e = .returned (.tuple #[.int .u64 (numB l).1, .int .i64 (numB l).2.1, .int .i64 (numB l).2.2]) ∧ w' = w := by
  have hA := bytes_all h
  obtain ⟨a, c0, rfl, -, -, -, h4⟩ := bytes_at h
  have h63 : l.length ≤ 9223372036854775807 := by
    obtain ⟨_, _, -, h1, h2, -⟩ := bytes_at h
    rw [maxLen_is] at h2; omega
  clear h
  go_enter Tryz.func124, Tryz.ntmps124
  go_wp2_with fail
  go_loopw [5, 6] (fun s i wr => ∃ k acc : Nat, k ≤ 9 ∧ i = .int .i64 k ∧ s = .int .u64 acc ∧ acc < 128 ^ k ∧ k ≤ l.length ∧ wr = w ∧ numF (10 - k) k acc (l.drop k) = numB l) (fun _ i _ => 10 - (intOf i).toNat)
  case atStart => exact ⟨0, 0, by omega, rfl, rfl, by simp, by omega, rfl, rfl⟩
  case round =>
    obtain ⟨k, acc, hk, rfl, rfl, ha, hkl, rfl, hn⟩ := hrel
    obtain ⟨f, hf⟩ : ∃ f, 10 - k = f + 1 := ⟨9 - k, by omega⟩
    rw [hf] at hn
    have j9 : (k : Int) < 10 := by omega
    have j8 : (k : Int) ≤ 9 := by omega
    cases hl : l.drop k with
    | nil =>
      rw [hl] at hn
      have hn' : numB l = (0, 0, 3) := hn.symm
      have j1 : ¬ (k : Int) < l.length := by have := congrArg List.length hl; simp at this; omega
      have HN := Lib.hid hn'
      clear hn hn' hf ha hl h4 hA hk hkl h63
      go_wp2_with fail
      go_ret3
      have hn' : numB l = (0, 0, 3) := HN
      rw [hn']
      exact ⟨rfl, rfl⟩
    | cons c t =>
      rw [hl] at hn
      have hi : k < l.length := by have := congrArg List.length hl; simp at this; omega
      have hc : l[k] = c := by
        have := List.getElem_drop (xs := l) (i := k) (j := 0) (h := by rw [List.length_drop]; omega)
        simp only [hl] at this
        simpa using this.symm
      obtain ⟨b, off, rfl, -, -, hcell, -, j0, j1⟩ := h4 k hi
      rw [hc] at hcell j0 j1
      have htl : l.drop (k + 1) = t := by rw [← List.drop_drop, hl]; rfl
      obtain ⟨cn, ecn⟩ : ∃ cn : Nat, c = cn := ⟨c.toNat, by omega⟩
      have e128 : (c % 128).toNat = cn % 128 := by omega
      have i0 : (0 : Int) ≤ (k : Int) := by omega
      have i1 : (k : Int) < (l.length : Int) := by omega
      unfold numF at hn
      rw [e128] at hn
      have HA := Lib.hid ha
      by_cases c1 : k = 9 ∧ 1 < c
      · rw [if_pos c1] at hn
        obtain ⟨c1, c2⟩ := c1
        have HN := Lib.hid hn
        subst c1
        clear hn hf ha hl h4 hA hk hkl h63 hi hc htl ecn e128
        go_wp2_with fail
        go_ret3
        rw [← (show _ = numB l from HN)]
        exact ⟨rfl, rfl⟩
      · rw [if_neg c1] at hn
        have ns := num_step acc k cn (by omega) hk ha (fun h9 => by have : ¬ (1 : Int) < c := fun hh => c1 ⟨h9, hh⟩; omega)
        rw [← ecn] at ns
        have NS := Lib.hid ns
        clear ns
        by_cases c2 : c < 128
        · rw [if_pos c2] at hn
          by_cases c3 : 0 < k ∧ c = 0
          · rw [if_pos c3] at hn
            have HN := Lib.hid hn
            obtain ⟨c5, c6⟩ := c3
            have c7 : (0 : Int) < k := by omega
            subst c6
            by_cases c9 : (k : Int) = 9
            · have c10 : k = 9 := by omega
              subst c10
              clear hn hf ha hl h4 hA hk hkl h63 hi hc htl ecn e128 c5 c1
              go_wp2_with fail
              go_ret3
              rw [← (show _ = numB l from HN)]
              exact ⟨rfl, rfl⟩
            · clear hn hf ha hl h4 hA hk hkl h63 hi hc htl ecn e128 c5 c1
              go_wp2_with fail
              go_ret3
              rw [← (show _ = numB l from HN)]
              exact ⟨rfl, rfl⟩
          · rw [if_neg c3] at hn
            have HN := Lib.hid hn
            by_cases c9 : k = 9
            · have c10 : ¬ (1 : Int) < c := fun hh => c1 ⟨c9, hh⟩
              have c11 : ¬ c = 0 := fun hh => c3 ⟨by omega, hh⟩
              have HE := Lib.hid ecn
              subst c9
              clear hn hf ha hl h4 hA hk hkl h63 hi hc htl ecn e128 c1 c3
              go_wp2_with fail
              go_ret3
              rw [← (show _ = numB l from HN)]
              have hv : IntKind.u64.wrap ((acc : Int) + c % 128 * 9223372036854775808) = ((acc + cn % 128 * 128 ^ 9 : Nat) : Int) := by
                unfold RowKit.Hid at HA HE
                have hp : (128 : Nat) ^ 9 = 9223372036854775808 := by decide
                rw [hp] at HA ⊢
                rw [IntKind.wrap_u64]
                omega
              exact ⟨congrArg (fun x => Ending.returned (Value.tuple #[Value.int .u64 x, .int .i64 10, .int .i64 0])) hv, rfl⟩
            · have c10 : ¬ ((k : Int) = 9) := by omega
              by_cases c11 : k = 0
              · have c12 : ¬ (0 : Int) < k := by omega
                clear hn hf ha hl h4 hA hk hkl h63 hi hc htl ecn e128 c1 c3 c9 c11
                go_wp2_with fail
                go_ret3
                rw [← (show _ = numB l from HN)]
                unfold RowKit.Hid at NS
                exact ⟨congrArg (fun x => Ending.returned (Value.tuple #[Value.int .u64 x, .int .i64 ((k : Int) + 1), .int .i64 0])) NS.1, by first | rfl | trivial⟩
              · have c12 : (0 : Int) < k := by omega
                have c13 : ¬ c = 0 := fun hh => c3 ⟨by omega, hh⟩
                clear hn hf ha hl h4 hA hk hkl h63 hi hc htl ecn e128 c1 c3 c9 c11
                go_wp2_with fail
                go_ret3
                rw [← (show _ = numB l from HN)]
                unfold RowKit.Hid at NS
                exact ⟨congrArg (fun x => Ending.returned (Value.tuple #[Value.int .u64 x, .int .i64 ((k : Int) + 1), .int .i64 0])) NS.1, by first | rfl | trivial⟩
        · rw [if_neg c2] at hn
          have c3 : ¬ ((k : Int) = 9) := by intro hh; exact c1 ⟨by omega, by omega⟩
          have HE := Lib.hid ecn
          have HN := Lib.hid hn
          have HT := Lib.hid htl
          have HI := Lib.hid hi
          have HF := Lib.hid hf
          clear hn hf ha hl h4 hA hk hkl h63 hi hc htl ecn e128 c1
          go_wp2_with fail
          go_roundw
          case rel =>
            unfold RowKit.Hid at NS HT HI HF HN
            refine ⟨k + 1, acc + cn % 128 * 128 ^ k, by omega, by simp, congrArg _ NS.1, NS.2, by omega, by first | rfl | trivial, ?_⟩
            rw [HT, ← HN]; congr 1; omega
          case measure => simp [intOf]; omega
end Go.Proofs.YtpjcebajkfeacaaGreatDoor
namespace Go.Proofs.YtpjcebajkfeacaaGreatDoor
open Go Go.RowKit Go.Deep
set_option maxHeartbeats 1000000 in
theorem fails_any (w : World) (B : Nat) (S : Nat → Prop) (v : Value) (r : Rs) (h : RdrAt 117 w B S v r) (e : Int) (h0 : 0 ≤ e) (h1 : e < 1000) :
    Calls Tryz.prog 125 #[.pointer (some ⟨B, 0, none⟩), .int .i64 e] w (Reads 117 w B S v (.tuple #[]) (r.fails e)) := by
  obtain ⟨c0, c1, c2, c3, c4, z3, z4⟩ := h.cells
  have HH := Lib.hid h
  have HE := Lib.hid (And.intro h0 h1)
  clear h h0 h1
  go_enter Tryz.func125, Tryz.ntmps125
  go_wp2
  go_end0
  have h : RdrAt 117 w B S v r := HH
  exact ⟨rfl, (h.setErr e HE.1 HE.2).setSpot r.at' _ rfl h.ok.at_le, keep_own (keep_set _ _ _ _) _ _⟩
set_option maxHeartbeats 1000000 in
theorem took_any (w : World) (B : Nat) (S : Nat → Prop) (v : Value) (r : Rs) (h : RdrAt 117 w B S v r) (n : Nat) (hn : r.at' + n ≤ r.b.length) :
    Calls Tryz.prog 126 #[.pointer (some ⟨B, 0, none⟩), .int .i64 n] w (Reads 117 w B S v (.tuple #[]) (r.took n)) := by
  obtain ⟨c0, c1, c2, c3, c4, z3, z4⟩ := h.cells
  have z1 := blk_fro h.blk 1
  have z2 := blk_fro h.blk 2
  have HH := Lib.hid h
  have HN := Lib.hid hn
  have h63 := h.len
  have i1 : (r.at' : Int) + n ≤ 9223372036854775807 := by omega
  have i2 : -9223372036854775808 ≤ (r.at' : Int) + n := by omega
  clear h hn h63
  go_enter Tryz.func126, Tryz.ntmps126
  go_wp2
  go_end0
  have h : RdrAt 117 w B S v r := HH
  have hn : r.at' + n ≤ r.b.length := HN
  exact ⟨rfl, (h.setLast r.at' _ rfl h.ok.at_le).setAt (r.at' + n) _ (by simp) hn, keep_own (keep_set _ _ _ _) _ _⟩
set_option maxHeartbeats 1000000 in
theorem rByte_any (w : World) (B : Nat) (S : Nat → Prop) (v : Value) (r : Rs) (h : RdrAt 117 w B S v r) :
    Calls Tryz.prog 127 #[.pointer (some ⟨B, 0, none⟩)] w (Reads 117 w B S v (.int .u8 r.byte.1) r.byte.2) := by
  obtain ⟨c0, c1, c2, c3, c4, z3, z4⟩ := h.cells
  obtain ⟨a, c0', rfl, -, -, -, h4⟩ := bytes_at h.rd
  have hat := h.ok.at_le
  by_cases he : r.err = 0
  · rw [he] at c3
    cases hl : r.rest with
    | nil =>
      have e1 : r.byte = (0, r.fails 3) := by unfold Rs.byte; rw [if_neg (by simpa using he), hl]
      rw [e1]
      have j1 : ¬ (r.at' : Int) < r.b.length := by have := rest_len r; rw [hl] at this; simp at this; omega
      have hf := fun (n : Nat) => fails_any (w.drewN n) B S _ r (h.drewN n) 3 (by omega) (by omega)
      clear h4 hat he hl e1 h
      go_enter Tryz.func127, Tryz.ntmps127
      go_wp2
      go_quiet (fail)
      go_wp2_with (go_at_call 125; refine (hf _).mono ?_; clear hf; rintro e w2 ⟨rfl, hr2, hk2⟩)
      go_ret
      exact ⟨rfl, hr2, ((Keep.refl (One B) w).drewN _).trans hk2⟩
    | cons c t =>
      have e1 : r.byte = (c, r.took 1) := by unfold Rs.byte; rw [if_neg (by simpa using he), hl]
      rw [e1]
      obtain ⟨hi, hc⟩ := rest_cons hl
      obtain ⟨b, off, rfl, hS, hlt, hcell, hfro, j0, j1⟩ := h4 _ hi
      rw [hc] at hcell
      have j2 : (r.at' : Int) < r.b.length := by omega
      have j3 : (0 : Int) ≤ r.at' := by omega
      have hf := fun (n : Nat) => took_any (w.drewN n) B S _ r (h.drewN n) 1 (by omega)
      clear h4 hat he hl e1 h hi hc hS hlt hfro j0 j1
      go_enter Tryz.func127, Tryz.ntmps127
      go_wp2
      go_quiet (fail)
      go_wp2
      go_quiet (fail)
      go_wp2_with (go_at_call 126; refine (hf _).mono ?_; clear hf; rintro e w2 ⟨rfl, hr2, hk2⟩)
      go_ret
      exact ⟨rfl, hr2, ((Keep.refl (One B) w).drewN _).trans hk2⟩
  · have e1 : r.byte = (0, r) := by unfold Rs.byte; rw [if_pos he]
    rw [e1]
    have d1 : (r.err != 0) = true := by simpa using he
    have HH := Lib.hid h
    clear he h h4 hat
    go_enter Tryz.func127, Tryz.ntmps127
    go_wp2
    go_ret
    exact ⟨rfl, HH, Keep.refl _ _⟩
theorem tail_rd {w : World} {S : Nat → Prop} {b off c : Nat} {l : Bytes} (h : Rd bytesSh w S [.slice (some ⟨b, off, none⟩) l.length c] l) (i : Nat) (hi : i ≤ l.length) :
    Rd bytesSh w S [.slice (if c = i then some ⟨b, off, none⟩ else some ⟨b, off + i, none⟩) (l.length - i) (c - i)] (l.drop i) := by
  have hp := Rd.part h i (l.length - i) (by omega)
  rw [List.take_of_length_le (by simp)] at hp
  simp only [Sh.size, Nat.mul_one] at hp
  split
  · rename_i hc
    obtain ⟨a', c', e1, h1, h2, h3, h4⟩ := h
    simp only [List.cons.injEq, Value.slice.injEq, and_true, true_and] at e1
    obtain ⟨rfl, rfl⟩ := e1
    have hl : i = l.length := by omega
    subst hl
    rw [List.drop_length, Nat.sub_self]
    exact ⟨_, _, rfl, Nat.zero_le _, by omega, fun hh => by (cases hh), fun j hj => absurd hj (Nat.not_lt_zero _)⟩
  · exact hp
theorem quiet_call {P : Program} {f : FuncId} {args : Array Value} {w : World} {n : Nat} {v : Value} (h : Calls P f args (w.drewN n) fun e w' => e = .returned v ∧ w' = w.drewN n) : Calls P f args (w.drewN n) fun e w' => e = .returned v ∧ ∃ m, w' = w.drewN m :=
  h.mono fun e w' hh => ⟨hh.1, n, hh.2⟩
def restV (v : Value) (i : Nat) : Value := match v with
  | .slice none _ _ => .slice none 0 0
  | .slice (some a) n c => .slice (if c = i then some a else some (a.add i)) (n - i) (c - i)
  | v => v
theorem number_rest (w : World) (B : Nat) (S : Nat → Prop) (v : Value) (r : Rs) (h : RdrAt 117 w B S v r) (n : Nat) :
    Calls Tryz.prog 124 #[restV v r.at'] (w.drewN n) fun e w' => e = .returned (.tuple #[.int .u64 (numB r.rest).1, .int .i64 (numB r.rest).2.1, .int .i64 (numB r.rest).2.2]) ∧ w' = w.drewN n := by
  obtain ⟨a, c0, rfl, j3, -, hnil, -⟩ := bytes_at h.rd
  have hat := h.ok.at_le
  rw [show r.rest = r.b.drop r.at' from rfl]
  cases a with
  | none =>
    obtain ⟨e1, e2⟩ := hnil rfl
    have hr : r.b.drop r.at' = [] := by rw [e1]; simp
    rw [hr]
    exact number_any _ S _ [] ⟨none, 0, rfl, Nat.le_refl _, by omega, fun _ => ⟨rfl, rfl⟩, fun j hj => absurd hj (Nat.not_lt_zero _)⟩
  | some a =>
    obtain ⟨b, off, rfl⟩ := h.pl a _ _ rfl
    have := number_any (w.drewN n) S _ _ (tail_rd ((h.drewN n).rd) r.at' hat)
    simpa only [restV, Addr.add_lit] using this
set_option maxHeartbeats 2000000 in
theorem rUint_any (w : World) (B : Nat) (S : Nat → Prop) (v : Value) (r : Rs) (h : RdrAt 117 w B S v r) :
    Calls Tryz.prog 65 #[.pointer (some ⟨B, 0, none⟩)] w (Reads 117 w B S v (.int .u64 r.uint.1) r.uint.2) := by
  obtain ⟨c0, c1, c2, c3, c4, z3, z4⟩ := h.cells
  by_cases he : r.err = 0
  · rw [he] at c3
    have hat := h.ok.at_le
    have j1 : (0 : Int) ≤ r.at' := by omega
    have j2 : (r.at' : Int) ≤ r.b.length := by omega
    have hu : r.uint = if (numB r.rest).2.2 ≠ 0 then (0, r.fails (numB r.rest).2.2) else ((numB r.rest).1, r.took (numB r.rest).2.1) := by
      unfold Rs.uint; rw [if_neg (by simpa using he)]
    have hf := fun (n : Nat) => fails_any (w.drewN n) B S v r (h.drewN n) (numB r.rest).2.2 (numB_errlt _).1 (numB_errlt _).2
    have ht := fun (n : Nat) (hz : (numB r.rest).2.2 = 0) => took_any (w.drewN n) B S v r (h.drewN n) (numB r.rest).2.1 (by have := numB_len _ hz; rw [rest_len] at this; omega)
    have hn := number_rest w B S v r h
    obtain ⟨a, c0', rfl, j3, -, hnil, -⟩ := bytes_at h.rd
    have hpl := h.pl
    generalize numB r.rest = nb at hu hf ht hn
    rw [hu]
    have j4 : (r.b.length : Int) ≤ c0' := by omega
    have HH := Lib.hid h
    have HF := Lib.hid hf
    have HT := Lib.hid ht
    have HL := Lib.hid hat
    clear h hf ht hu hat he
    cases a with
    | none =>
      obtain ⟨e1, rfl⟩ := hnil rfl
      have e2 : r.at' = 0 := by have : r.at' ≤ r.b.length := HL; rw [e1] at this; simpa using this
      rw [e2] at c1 hn
      rw [e1] at c0
      simp only [restV] at hn
      clear hnil hpl j1 j2 j3 j4 HL
      by_cases hz : nb.2.2 = 0
      · rw [if_neg (by simpa using hz)]
        rw [hz] at hn
        go_enter Tryz.func65, Tryz.ntmps65
        go_wp2
        go_quiet ((go_at_call 124; exact quiet_call (hn _)))
        go_wp2_with (go_at_call 126; refine (HT _ hz).mono ?_; rintro e w2 ⟨rfl, hr2, hk2⟩)
        go_ret
        exact ⟨rfl, hr2, ((Keep.refl (One B) w).drewN _).trans hk2⟩
      · rw [if_pos hz]
        have d1 : (nb.2.2 != 0) = true := by simpa using hz
        go_enter Tryz.func65, Tryz.ntmps65
        go_wp2
        go_quiet ((go_at_call 124; exact quiet_call (hn _)))
        go_wp2_with (go_at_call 125; refine (HF _).mono ?_; rintro e w2 ⟨rfl, hr2, hk2⟩)
        go_ret
        exact ⟨rfl, hr2, ((Keep.refl (One B) w).drewN _).trans hk2⟩
    | some a =>
      obtain ⟨b, off, rfl⟩ := hpl a _ _ rfl
      simp only [restV, Addr.add_lit] at hn
      clear hnil hpl
      by_cases hz : nb.2.2 = 0
      · rw [if_neg (by simpa using hz)]
        rw [hz] at hn
        go_enter Tryz.func65, Tryz.ntmps65
        go_wp2
        go_quiet ((go_at_call 124; exact quiet_call (hn _)))
        go_wp2_with (go_at_call 126; refine (HT _ hz).mono ?_; rintro e w2 ⟨rfl, hr2, hk2⟩)
        all_goals
          go_ret
          first
          | exact ⟨rfl, hr2, ((Keep.refl (One B) w).drewN _).trans hk2⟩
          | (have hca : c0' = r.at' := by assumption
             rw [hca] at hr2
             exact ⟨rfl, hr2, ((Keep.refl (One B) w).drewN _).trans hk2⟩)
      · rw [if_pos hz]
        have d1 : (nb.2.2 != 0) = true := by simpa using hz
        go_enter Tryz.func65, Tryz.ntmps65
        go_wp2
        go_quiet ((go_at_call 124; exact quiet_call (hn _)))
        go_wp2_with (go_at_call 125; refine (HF _).mono ?_; rintro e w2 ⟨rfl, hr2, hk2⟩)
        all_goals
          go_ret
          first
          | exact ⟨rfl, hr2, ((Keep.refl (One B) w).drewN _).trans hk2⟩
          | (have hca : c0' = r.at' := by assumption
             rw [hca] at hr2
             exact ⟨rfl, hr2, ((Keep.refl (One B) w).drewN _).trans hk2⟩)
  · have e1 : r.uint = (0, r) := by unfold Rs.uint; rw [if_pos he]
    rw [e1]
    have d1 : (r.err != 0) = true := by simpa using he
    have HH := Lib.hid h
    clear he h
    go_enter Tryz.func65, Tryz.ntmps65
    go_wp2
    go_ret
    exact ⟨rfl, HH, Keep.refl _ _⟩
set_option maxHeartbeats 4000000 in
theorem rCount_any (w : World) (B : Nat) (S : Nat → Prop) (v : Value) (r : Rs) (h : RdrAt 117 w B S v r) (most : Int) (hm : most ≤ 9223372036854775807) (hm0 : -9223372036854775808 ≤ most) :
    Calls Tryz.prog 64 #[.pointer (some ⟨B, 0, none⟩), .int .i64 most] w (Reads 117 w B S v (.int .i64 (r.count most).1) (r.count most).2) := by
  obtain ⟨c0, c1, c2, c3, c4, z3, z4⟩ := h.cells
  by_cases he : r.err = 0
  · rw [he] at c3
    have hat := h.ok.at_le
    have j1 : (0 : Int) ≤ r.at' := by omega
    have j2 : (r.at' : Int) ≤ r.b.length := by omega
    have hu : r.count most = if (limB most 6 r.rest).2.2 ≠ 0 then (0, r.fails (limB most 6 r.rest).2.2) else ((limB most 6 r.rest).1, r.took (limB most 6 r.rest).2.1) := by
      unfold Rs.count; rw [if_neg (by simpa using he)]
    unfold limB at hu
    have hf := fun (n : Nat) => fails_any (w.drewN n) B S v r (h.drewN n) (numB r.rest).2.2 (numB_errlt _).1 (numB_errlt _).2
    have hf6 := fun (n : Nat) => fails_any (w.drewN n) B S v r (h.drewN n) 6 (by omega) (by omega)
    have ht := fun (n : Nat) (hz : (numB r.rest).2.2 = 0) => took_any (w.drewN n) B S v r (h.drewN n) (numB r.rest).2.1 (by have := numB_len _ hz; rw [rest_len] at this; omega)
    have hlt := fun hz => (numB_ok h.ok.rest hz).1
    have hn := number_rest w B S v r h
    obtain ⟨a, c0', rfl, j3, -, hnil, -⟩ := bytes_at h.rd
    have hpl := h.pl
    have hnone : a = none → (numB r.rest).2.2 ≠ 0 := fun e => by
      obtain ⟨e1, -⟩ := hnil e
      have : r.rest = [] := by unfold Rs.rest; rw [e1]; simp
      rw [this]; decide
    generalize numB r.rest = nb at hu hf ht hn hlt hnone
    have j4 : (r.b.length : Int) ≤ c0' := by omega
    have HH := Lib.hid h
    have HF := Lib.hid hf
    have HF6 := Lib.hid hf6
    have HT := Lib.hid ht
    have HL := Lib.hid hat
    clear h hf hf6 ht hat he
    by_cases hz : nb.2.2 = 0
    · have hlt := hlt hz
      rw [if_neg (show ¬ nb.2.2 ≠ 0 by simpa using hz)] at hu
      cases a with
      | none => exact absurd hz (hnone rfl)
      | some a =>
        obtain ⟨b, off, rfl⟩ := hpl a _ _ rfl
        simp only [restV, Addr.add_lit] at hn
        rw [hz] at hn
        obtain ⟨n, en⟩ : ∃ n : Int, n = nb.1 := ⟨_, rfl⟩
        rw [← en] at hn
        have n0 : 0 ≤ n := by omega
        have n1 : n ≤ 18446744073709551615 := by omega
        by_cases hm1 : most < 0
        · have e1 : r.count most = (0, r.fails 6) := by rw [hu, if_pos (show most < 0 ∨ most < (nb.1 : Int) from .inl hm1)]; rfl
          rw [e1]
          clear hnil hpl hu hlt hnone e1 en hm hm0
          go_enter Tryz.func64, Tryz.ntmps64
          go_wp2
          go_quiet ((go_at_call 124; exact quiet_call (hn _)))
          go_wp2_with (go_at_call 125; refine (HF6 _).mono ?_; rintro e w2 ⟨rfl, hr2, hk2⟩)
          all_goals
            go_ret
            first
            | exact ⟨rfl, hr2, ((Keep.refl (One B) w).drewN _).trans hk2⟩
            | (have hca : c0' = r.at' := by assumption
               rw [hca] at hr2
               exact ⟨rfl, hr2, ((Keep.refl (One B) w).drewN _).trans hk2⟩)
        · have h5 : 0 ≤ most := by omega
          have h6 : IntKind.u64.wrap most = most := by rw [IntKind.wrap_u64]; omega
          by_cases hm2 : most < nb.1
          · have e1 : r.count most = (0, r.fails 6) := by rw [hu, if_pos (show most < 0 ∨ most < (nb.1 : Int) from .inr hm2)]; rfl
            rw [e1]
            have h7 : n > most := by omega
            clear hnil hpl hu hlt hnone e1 en hm hm0 hm2
            go_enter Tryz.func64, Tryz.ntmps64
            go_wp2
            go_quiet ((go_at_call 124; exact quiet_call (hn _)))
            go_wp2_with (go_at_call 125; refine (HF6 _).mono ?_; rintro e w2 ⟨rfl, hr2, hk2⟩)
            all_goals
              go_ret
              first
              | exact ⟨rfl, hr2, ((Keep.refl (One B) w).drewN _).trans hk2⟩
              | (have hca : c0' = r.at' := by assumption
                 rw [hca] at hr2
                 exact ⟨rfl, hr2, ((Keep.refl (One B) w).drewN _).trans hk2⟩)
          · have e1 : r.count most = (nb.1, r.took nb.2.1) := by rw [hu, if_neg (show ¬ (most < 0 ∨ most < (nb.1 : Int)) from fun hh => hh.elim hm1 hm2)]; rfl
            rw [e1, ← en]
            have h7 : ¬ n > most := by omega
            have h8 : n ≤ 9223372036854775807 := by omega
            clear hnil hpl hu hlt hnone e1 en hm hm0 hm2
            go_enter Tryz.func64, Tryz.ntmps64
            go_wp2
            go_quiet ((go_at_call 124; exact quiet_call (hn _)))
            go_wp2_with (go_at_call 126; refine (HT _ hz).mono ?_; rintro e w2 ⟨rfl, hr2, hk2⟩)
            all_goals
              go_ret
              first
              | exact ⟨rfl, hr2, ((Keep.refl (One B) w).drewN _).trans hk2⟩
              | (have hca : c0' = r.at' := by assumption
                 rw [hca] at hr2
                 exact ⟨rfl, hr2, ((Keep.refl (One B) w).drewN _).trans hk2⟩)
    · rw [if_pos hz] at hu
      have e1 : r.count most = (0, r.fails nb.2.2) := by rw [hu]; simp [hz]
      rw [e1]
      have d1 : (nb.2.2 == 0) = false := by simpa using hz
      have d2 : (nb.2.2 != 0) = true := by simpa using hz
      cases a with
      | none =>
        obtain ⟨e1, rfl⟩ := hnil rfl
        have e2 : r.at' = 0 := by have : r.at' ≤ r.b.length := HL; rw [e1] at this; simpa using this
        rw [e2] at c1 hn
        rw [e1] at c0
        simp only [restV] at hn
        clear hnil hpl j1 j2 j3 j4 HL hnone hu hlt
        go_enter Tryz.func64, Tryz.ntmps64
        go_wp2
        go_quiet ((go_at_call 124; exact quiet_call (hn _)))
        go_wp2_with (go_at_call 125; refine (HF _).mono ?_; rintro e w2 ⟨rfl, hr2, hk2⟩)
        go_ret
        exact ⟨rfl, hr2, ((Keep.refl (One B) w).drewN _).trans hk2⟩
      | some a =>
        obtain ⟨b, off, rfl⟩ := hpl a _ _ rfl
        simp only [restV, Addr.add_lit] at hn
        clear hnil hpl hnone hu hlt
        go_enter Tryz.func64, Tryz.ntmps64
        go_wp2
        go_quiet ((go_at_call 124; exact quiet_call (hn _)))
        go_wp2_with (go_at_call 125; refine (HF _).mono ?_; rintro e w2 ⟨rfl, hr2, hk2⟩)
        all_goals
          go_ret
          first
          | exact ⟨rfl, hr2, ((Keep.refl (One B) w).drewN _).trans hk2⟩
          | (have hca : c0' = r.at' := by assumption
             rw [hca] at hr2
             exact ⟨rfl, hr2, ((Keep.refl (One B) w).drewN _).trans hk2⟩)
  · have e1 : r.count most = (0, r) := by unfold Rs.count; rw [if_pos he]
    rw [e1]
    have d1 : (r.err != 0) = true := by simpa using he
    have HH := Lib.hid h
    clear he h
    go_enter Tryz.func64, Tryz.ntmps64
    go_wp2
    go_ret
    exact ⟨rfl, HH, Keep.refl _ _⟩
end Go.Proofs.YtpjcebajkfeacaaGreatDoor
