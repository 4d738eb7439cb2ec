/-
  Parts of what is proved for this claim; each declaration is one of the seat's texts.
-/
import Derived.Test.YtcallmnhaikfpaaGreatDoorTGA
import Derived.Test.YtcallmnhaikfpaaGreatDoorTGB
import Derived.Test.YtcallmnhaikfpaaGreatDoorTGC
import Derived.Test.YtcallmnhaikfpaaGreatDoorTGD
import Derived.Test.YtcallmnhaikfpaaGreatDoorTGF
import Derived.Test.YtcallmnhaikfpaaGreatDoorTGI
import Derived.Test.YtcallmnhaikfpaaGreatDoorTGJ
import Derived.Still
import Derived.StillTactics
import Derived.WalkKit
import Derived.WalkSpells
import Derived.WalkLawsBesides
import Derived.ProofKit
import Derived.Deep.Slices
import Derived.Deep.AppendSrc
import Derived.Lib.Hide
import Derived.Recover
import Derived.Defers
import Derived.Deep.QuietTactic
import Derived.BigQuiet
import Derived.Handy
import Derived.Laws.Bits64b
import Derived.Lib.Zigzag
import Derived.OwnWalk
set_option linter.unusedVariables false
set_option linter.unusedSimpArgs false
namespace Go.Proofs.YtcallmnhaikfpaaGreatDoor
open Go Go.RowKit Go.Deep
theorem plain_any (c : Int) (w : World) : Calls Tryz.prog 96 #[.int .u8 c] w fun e w' => e = .returned (.bool (plainC c)) ∧ w' = w := by
  unfold plainC
  by_cases h1 : 32 ≤ c
  · by_cases h2 : c ≤ 126
    · go_enter Tryz.func96, Tryz.ntmps96
      go_wp2
      go_ret
      simp [h1, h2]
    · go_enter Tryz.func96, Tryz.ntmps96
      go_wp2
      go_ret
      simp [h1, h2]
  · go_enter Tryz.func96, Tryz.ntmps96
    go_wp2
    go_ret
    simp; omega
theorem bytesOf_get (s : ByteArray) (i : Nat) (h : i < (bytesOf s).length) (h' : i < s.size) : (bytesOf s)[i] = (s[i].toNat : Int) := by
  simp only [bytesOf, List.getElem_map, Array.getElem_toList]; rfl
theorem all_take (l : Bytes) (p : Int → Bool) (k : Nat) (hk : k < l.length) (h : (l.take k).all p = true) : (l.take (k + 1)).all p = p l[k] := by
  rw [List.take_succ_eq_append_getElem hk, List.all_append, h]; simp
theorem all_false (l : Bytes) (p : Int → Bool) (k : Nat) (hk : k < l.length) (h : p l[k] = false) : l.all p = false := by
  rw [Bool.eq_false_iff]; intro hh; rw [List.all_eq_true] at hh; have := hh l[k] (List.getElem_mem hk); rw [h] at this; cases this
set_option maxHeartbeats 1000000 in
theorem printable_any (s : ByteArray) (hs : s.size ≤ 9223372036854775807) (w : World) : Calls Tryz.prog 66 #[.string s] w fun e w' => e = .returned (.bool (plainB s)) ∧ w' = w := by
  go_enter Tryz.func66, Tryz.ntmps66
  go_wp2_with fail
  go_loopw [6] (fun i wr => ∃ k : Nat, k ≤ s.size ∧ i = .int .i64 k ∧ wr = w ∧ ((bytesOf s).take k).all plainC = true) (fun i _ => s.size - (intOf i).toNat)
  case atStart => exact ⟨0, by omega, rfl, rfl, by simp⟩
  case round =>
    obtain ⟨k, hk, rfl, rfl, ha⟩ := hrel
    by_cases hlt : k < s.size
    · have j1 : (k : Int) < s.size := by omega
      have j0 : (0 : Int) ≤ k := by omega
      have hl : k < (bytesOf s).length := by rw [bytesOf_length]; exact hlt
      have hg := bytesOf_get s k hl hlt
      have hc := plain_any (s[k].toNat : Int) wr
      rw [← hg] at hc
      cases hp : plainC (bytesOf s)[k] with
      | true =>
        have hn := all_take _ _ k hl ha
        rw [hp] at hn hc
        rw [hg] at hc
        have HA := Lib.hid hn
        clear hn hp hg ha
        go_wp2_with (go_at_call 96; refine hc.mono ?_; clear hc; rintro e w' ⟨rfl, rfl⟩)
        go_roundw
        case rel => exact ⟨k + 1, by omega, by simp, by first | rfl | trivial, HA⟩
        case measure => simp [intOf]; omega
      | false =>
        have hn := all_false _ _ k hl hp
        rw [hp] at hc
        rw [hg] at hc
        have HA := Lib.hid hn
        clear hn hp hg ha
        go_wp2_with (go_at_call 96; refine hc.mono ?_; clear hc; rintro e w' ⟨rfl, rfl⟩)
        go_ret
        unfold plainB
        rw [show (bytesOf s).all plainC = false from HA]
        exact ⟨rfl, by first | rfl | trivial⟩
    · have j1 : ¬ (k : Int) < s.size := by omega
      have hk2 : k = (bytesOf s).length := by rw [bytesOf_length]; omega
      rw [hk2, List.take_length] at ha
      have HA := Lib.hid ha
      clear ha hk2 hk hlt hs
      go_wp2_with fail
      go_ret
      unfold plainB
      rw [show (bytesOf s).all plainC = true from HA]
      exact ⟨rfl, by first | rfl | trivial⟩
def GivesV (w : World) (x : Val) (e : Ending) (w' : World) : Prop := e = .returned (.agg #[.int .i64 x.kind, .int .i64 x.num, .string x.text]) ∧ Keep No w w'
theorem Of_any (n : Int) (w : World) : Calls Tryz.prog 116 #[.int .i64 n] w (GivesV w (mkVal 1 n noText)) := by
  go_enter Tryz.func116, Tryz.ntmps116
  go_wp2
  refine bodyPost_ret (v := .agg #[.int .i64 1, .int .i64 n, .string noText]) (by simp [results, Tryz.results116, go_sem]; rfl) rfl ⟨rfl, ?_⟩
  exact (Keep.refl _ _).alloc _
theorem Word_any (s : ByteArray) (w : World) : Calls Tryz.prog 118 #[.string s] w (GivesV w (mkVal 2 0 s)) := by
  go_enter Tryz.func118, Tryz.ntmps118
  go_wp2
  refine bodyPost_ret (v := .agg #[.int .i64 2, .int .i64 0, .string s]) (by simp [results, Tryz.results118, go_sem]) rfl ⟨rfl, ?_⟩
  exact (Keep.refl _ _).alloc _
end Go.Proofs.YtcallmnhaikfpaaGreatDoor
namespace Go.Proofs.YtcallmnhaikfpaaGreatDoor
open Go Go.RowKit Go.Deep
def Says (w : World) (b : Bool) (e : Ending) (w' : World) : Prop := e = .returned (.bool b) ∧ Keep No w w'
abbrev Val.agg (v : Val) : Value := .agg #[.int .i64 v.kind, .int .i64 v.num, .string v.text]
theorem empty_iff (t : ByteArray) : (t.toList.isEmpty) = decide (t.size = 0) := by
  rw [toList_is]
  cases t with
  | mk d => show d.toList.isEmpty = decide (d.size = 0); cases d with
    | mk l => cases l <;> simp
theorem size0_iff (t : ByteArray) : t = ByteArray.empty ↔ t.size = 0 := ⟨fun h => by rw [h]; rfl, fun h => size0 h⟩
set_option maxHeartbeats 2000000 in
theorem Valid_any (k n : Int) (t : ByteArray) (ht : t.size ≤ 9223372036854775807) (w : World) : Calls Tryz.prog 40 #[.agg #[.int .i64 k, .int .i64 n, .string t]] w (Says w (mkVal k n t).ok) := by
  have hE := empty_iff t
  have hp := printable_any t ht (w.alloc (.cells #[.int .i64 k, .int .i64 n, .string t] 84))
  by_cases h0 : k = 0
  · subst h0
    by_cases h1 : n = 0
    · subst h1
      by_cases h2 : t.size = 0
      · obtain rfl := size0 h2
        clear hp
        go_enter Tryz.func40, Tryz.ntmps40
        go_wp2
        go_ret
        exact ⟨congrArg (fun b => Ending.returned (Value.bool b)) (by simp [Val.ok, mkVal, Val.kind, Val.num, Val.text, noText_size]), (Keep.refl _ _).alloc _⟩

      · have e2 : t.toList.isEmpty = false := by rw [hE]; simpa using h2
        clear hp
        go_enter Tryz.func40, Tryz.ntmps40
        go_wp2
        go_ret
        exact ⟨congrArg (fun b => Ending.returned (Value.bool b)) (by simp [Val.ok, mkVal, Val.kind, Val.num, Val.text, h2, size0_iff]), (Keep.refl _ _).alloc _⟩

    · have e1 : (n == 0) = false := by simpa using h1
      clear hp
      go_enter Tryz.func40, Tryz.ntmps40
      go_wp2
      go_ret
      exact ⟨congrArg (fun b => Ending.returned (Value.bool b)) (by simp [Val.ok, mkVal, Val.kind, Val.num, Val.text, h1]), (Keep.refl _ _).alloc _⟩

  · by_cases h1 : k = 1
    · subst h1
      by_cases h2 : t.size = 0
      · obtain rfl := size0 h2
        clear hp
        go_enter Tryz.func40, Tryz.ntmps40
        go_wp2
        go_ret
        exact ⟨congrArg (fun b => Ending.returned (Value.bool b)) (by simp [Val.ok, mkVal, Val.kind, Val.num, Val.text, noText_size]), (Keep.refl _ _).alloc _⟩

      · have e2 : t.toList.isEmpty = false := by rw [hE]; simpa using h2
        clear hp
        go_enter Tryz.func40, Tryz.ntmps40
        go_wp2
        go_ret
        exact ⟨congrArg (fun b => Ending.returned (Value.bool b)) (by simp [Val.ok, mkVal, Val.kind, Val.num, Val.text, h2, size0_iff]), (Keep.refl _ _).alloc _⟩

    · by_cases h2 : k = 2
      · subst h2
        by_cases h3 : n = 0
        · subst h3
          by_cases h4 : t.size ≤ 64
          · have h4' : (t.size : Int) ≤ 64 := by omega
            generalize hpb : plainB t = pb at hp
            have HPB := Lib.hid hpb
            clear hpb
            clear hE ht
            go_enter Tryz.func40, Tryz.ntmps40
            go_wp2_with (go_at_call 66; refine hp.mono ?_; clear hp; rintro e w' ⟨rfl, rfl⟩)
            go_ret
            have hpb : plainB t = pb := HPB
            exact ⟨congrArg (fun b => Ending.returned (Value.bool b)) (by simp [Val.ok, mkVal, Val.kind, Val.num, Val.text, h4, hpb]), (Keep.refl _ _).alloc _⟩

          · have h4' : ¬ (t.size : Int) ≤ 64 := by omega
            clear hE ht hp
            go_enter Tryz.func40, Tryz.ntmps40
            go_wp2
            go_ret
            exact ⟨congrArg (fun b => Ending.returned (Value.bool b)) (by simp [Val.ok, mkVal, Val.kind, Val.num, Val.text, h4]), (Keep.refl _ _).alloc _⟩

        · have e1 : (n == 0) = false := by simpa using h3
          clear hp
          go_enter Tryz.func40, Tryz.ntmps40
          go_wp2
          go_ret
          exact ⟨congrArg (fun b => Ending.returned (Value.bool b)) (by simp [Val.ok, mkVal, Val.kind, Val.num, Val.text, h3]), (Keep.refl _ _).alloc _⟩

      · have e0 : (k == 0) = false := by simpa using h0
        have e1 : (k == 1) = false := by simpa using h1
        have e2 : (k == 2) = false := by simpa using h2
        clear hp
        go_enter Tryz.func40, Tryz.ntmps40
        go_wp2
        go_ret
        exact ⟨congrArg (fun b => Ending.returned (Value.bool b)) (by simp [Val.ok, mkVal, Val.kind, Val.num, Val.text, h0, h1, h2]), (Keep.refl _ _).alloc _⟩
end Go.Proofs.YtcallmnhaikfpaaGreatDoor
namespace Go.Proofs.YtcallmnhaikfpaaGreatDoor
open Go Go.RowKit Go.Deep
theorem OwnB.more {w0 w w' : World} {v : Value} {x : Bytes} (h : OwnB w0 w v x) (hk : Keep No w w') : OwnB w0 w' v x :=
  ⟨(h.1.agree (k := hk.agreeNo)).mono fun k hk' => ⟨hk'.1, Nat.lt_of_lt_of_le hk'.2 hk.size⟩, h.2.trans hk⟩
theorem app_byteD {w0 w : World} {v : Value} {l : Bytes} (h : OwnB w0 w v l) (x : Int) (h0 : 0 ≤ x) (h1 : x < 256) (hl : l.length + 1 ≤ 140737488355328) :
    ∃ a c w', (Builtin.append_ #[55, 55] 55 #[v, .slice (some ⟨w.heap.size, 0, none⟩) 1 1]).run Tryz.prog ((w.alloc (.cells #[.int .u8 x] 5)).drew) = .ok (.slice a (l.length + 1) c) w' ∧ OwnB w0 w' (.slice a (l.length + 1) c) (l ++ [x]) :=
  app_src h ((Keep.refl No w).alloc _).drew (xs := [x]) (Src.ofBlock Tryz.underlying55 w.heap.size 1 1 #[.int .u8 x] 5 _ (blk_new w _) rfl (fun u hu => by simp at hu; subst hu; rfl)) (AllB.cons h0 h1 .nil) hl
theorem Keep.back0 {w0 w w1 : World} (h : Keep No w w1) (hk : Keep No w0 w) : Keep No w0 w1 := hk.trans h
theorem OwnB.back {w0 w w1 : World} {v : Value} {x : Bytes} (h : OwnB w0 w1 v x) (hk : Keep No w w0) : OwnB w w1 v x := h.then hk
set_option maxRecDepth 10000 in
set_option maxHeartbeats 4000000 in
theorem vPut_any (w : World) (S : Nat → Prop) (v : Value) (l : Bytes) (h : Rd bytesSh w S [v] l) (k n : Int) (t : ByteArray) (hi : (mkVal k n t).In) (ht : t.size ≤ 9223372036854775807) (hl : l.length + 200 ≤ 140737488355328) :
    Calls Tryz.prog 93 #[v, .agg #[.int .i64 k, .int .i64 n, .string t]] w (Puts w (l ++ (mkVal k n t).bytes)) := by
  have k1 : Keep No w (w.alloc (.cells #[.int .i64 k, .int .i64 n, .string t] 84)) := (Keep.refl No w).alloc _
  have b1 := blk_new w (.cells #[.int .i64 k, .int .i64 n, .string t] 84)
  obtain ⟨a2, c2, w2, hrun, ho1⟩ := clone_bytesApp _ S v l (h.agree bytesSh k1.agreeNo) (by omega)
  obtain ⟨av, cv, rfl, -⟩ := bytes_at h
  have b2 := ho1.2.blk b1 (fun x => x)
  have ho : OwnB w w2 _ l := ho1.back k1
  have hv := Valid_any k n t ht w2
  generalize hsz : w.heap.size = B at b2
  generalize hln : l.length = ln at hrun ho ho1
  have e1 := hi.n0
  have e2 := hi.n1
  have HK1 := Lib.hid (And.intro k1 b1)
  clear h k1 b1
  simp only [World.size_alloc, hsz] at hrun
  by_cases hok : (mkVal k n t).ok = true
  · rw [hok] at hv
    have q : w2.cell? ⟨B, 0, none⟩ = some (.int .i64 k) ∧ w2.cell? ⟨B, 1, none⟩ = some (.int .i64 n) ∧ w2.cell? ⟨B, 2, none⟩ = some (.string t) := ⟨blk_cell b2 0, blk_cell b2 1, blk_cell b2 2⟩
    obtain ⟨q0, q1, q2⟩ := q
    have hlt : l.length + 200 ≤ 140737488355328 := hl
    rcases Val.ok_cases hok with e | ⟨e, -⟩ | ⟨e, e3, h1, h2⟩
    · obtain ⟨rfl, rfl, rfl⟩ : k = 0 ∧ n = 0 ∧ t = noText := by cases e; exact ⟨rfl, rfl, rfl⟩
      have hb : (mkVal 0 0 noText).bytes = [0] := val0_bytes
      rw [hb]
      have hv' := hv.mono (R' := fun e w3 => e = .returned (.bool true) ∧ w3.cell? ⟨B, 0, none⟩ = some (.int .i64 0) ∧
          ∃ a4 c4 w4, (Builtin.append_ #[55, 55] 55 #[.slice a2 ln c2, .slice (some ⟨w3.heap.size, 0, none⟩) 1 1]).run Tryz.prog (w3.alloc (.cells #[.int .u8 0] 5)) = .ok (.slice a4 (ln + 1) c4) w4 ∧ RowKit.Hid (OwnB w w4 (.slice a4 (ln + 1) c4) (l ++ [0]))) (by
        rintro e w3 ⟨rfl, hk⟩
        obtain ⟨a4, c4, w4, h4, h5⟩ := app_byte (ho.more hk) 0 (by omega) (by omega) (by omega)
        rw [hln] at h4 h5
        exact ⟨rfl, blk_cell (hk.blk b2 (fun x => x)) 0, a4, c4, w4, h4, h5⟩)
      clear hv ho ho1 hok hb hi e1 e2 hl ht b2 hln e hlt
      go_enter Tryz.func93, Tryz.ntmps93
      go_wp2_with (at_builtin; refine wpList_app rfl (.tmp 6) (.tmp 7) 55 55 rfl rfl rfl hrun ?_)
      refine hv'.mono ?_
      clear hv' hrun
      rintro e w3 ⟨rfl, r0, a4, c4, w4, hrun4, HO⟩
      go_wp2_with (at_builtin; refine wpList_app rfl (.tmp 34) (.tmp 35) 55 55 rfl rfl rfl hrun4 ?_)
      go_ret
      exact ⟨a4, ln + 1, c4, rfl, HO⟩
    · obtain rfl : k = 1 := e
      have hb : (mkVal 1 n t).bytes = 1 :: uintB (zig n) := by unfold Val.bytes; rw [if_neg (by rw [hok]; simp), if_pos (show (mkVal 1 n t).kind = 1 from rfl)]; rfl
      rw [hb]
      have hv' := hv.mono (R' := fun e w3 => e = .returned (.bool true) ∧ w3.cell? ⟨B, 0, none⟩ = some (.int .i64 1) ∧ w3.cell? ⟨B, 1, none⟩ = some (.int .i64 n) ∧ (w3.alloc (.cells #[.int .u8 1] 5)).cell? ⟨B, 1, none⟩ = some (.int .i64 n) ∧
          ∃ a4 c4 w4, (Builtin.append_ #[55, 55] 55 #[.slice a2 ln c2, .slice (some ⟨w3.heap.size, 0, none⟩) 1 1]).run Tryz.prog ((w3.alloc (.cells #[.int .u8 1] 5)).drew) = .ok (.slice a4 (ln + 1) c4) w4 ∧ w4.cell? ⟨B, 1, none⟩ = some (.int .i64 n) ∧
          Calls Tryz.prog 114 #[.slice a4 (ln + 1) c4, .int .i64 n] w4 fun e w5 => ∃ a m c, e = .returned (.slice a m c) ∧ RowKit.Hid (OwnB w w5 (.slice a m c) (l ++ 1 :: uintB (zig n)))) (by
        rintro e w3 ⟨rfl, hk⟩
        have hb3 := hk.blk b2 (fun x => x)
        obtain ⟨a4, c4, w4, h4, h5⟩ := app_byteD (ho1.more hk) 1 (by omega) (by omega) (by omega)
        rw [hln] at h4 h5
        have hb4 := h5.2.blk HK1.2 (fun x => x)
        rw [hsz] at hb4
        refine ⟨rfl, blk_cell hb3 0, blk_cell hb3 1, blk_cell (blk_alloc hb3) 1, a4, c4, w4, h4, blk_cell hb4 1, ?_⟩
        refine (PutInt_any w4 _ _ (l ++ [1]) h5.rd n e1 e2 (by simp; omega)).mono ?_
        rintro e w5 ⟨a, c, rfl, ho5⟩
        have h6 := ho5.back (h5.2.back0 HK1.1)
        generalize (l ++ [_] ++ _).length = m at h6 ⊢
        rw [List.append_assoc] at h6
        exact ⟨a, m, c, rfl, h6⟩)
      clear hv ho ho1 hok hb hi e1 e2 hl ht b2 hlt hln
      go_enter Tryz.func93, Tryz.ntmps93
      go_wp2_with (at_builtin; refine wpList_app rfl (.tmp 6) (.tmp 7) 55 55 rfl rfl rfl hrun ?_)
      refine hv'.mono ?_
      clear hv' hrun q0 q1 q2
      rintro e w3 ⟨rfl, r0, r1, r1', a4, c4, w4, hrun4, r4, hput⟩
      go_wp2_with fail
      refine wp_region_can [0, 3, 4, 1, 2, 5, 6] [1, 2, 5] [(0, 1), (3, 1), (4, 1), (3, 2), (4, 2)] (by kernel_rfl) (by kernel_rfl) (by kernel_rfl) (by kernel_rfl) (by intro c a d v w h; cases d <;> exact h) ?_
      iterate 3 (refine can_sil rfl rfl (fun K hK => ?_); go_simp; refine hK _ ?_; clear hK K)
      refine can_loud [0, 3, 4] rfl rfl rfl (fun K hK => ?_)
      go_wp2_with fail
      refine Mid.normal (hK _ _ ?_ ?_)
      · simp only [List.forall_mem_cons]
        refine ⟨?_, ?_, ?_, stabs_nil⟩ <;> exact stab_of rfl (fun K hK => by go_simp; exact hK)
      clear hK K
      refine can_loud [3, 4] rfl rfl rfl (fun K hK => ?_)
      refine wpList_app rfl (.tmp 18) (.tmp 19) 55 55 rfl rfl rfl hrun4 ?_
      go_wp2_with fail
      refine Mid.normal (hK _ _ ?_ ?_)
      · simp only [List.forall_mem_cons]
        refine ⟨?_, ?_, stabs_nil⟩ <;> exact stab_of rfl (fun K hK => by go_simp; exact hK)
      clear hK K
      refine can_loud [] rfl rfl rfl (fun K hK => ?_)
      go_wp2_with (go_at_call 114; refine hput.mono ?_; clear hput; rintro e w5 ⟨a5, n5, c5, rfl, HO⟩)
      refine Mid.normal (hK _ _ stabs_nil ?_)
      clear hK K
      refine can_sil rfl rfl (fun K hK => ?_)
      go_simp
      refine hK _ ?_
      clear hK K
      refine can_nil ?_
      go_wp2
      go_ret
      exact ⟨a5, n5, c5, rfl, HO⟩
    · obtain rfl : k = 2 := e
      have h1 : t.size ≤ 64 := h1
      have hb : (mkVal 2 n t).bytes = 2 :: textB t := by
        unfold Val.bytes; rw [if_neg (by rw [hok]; simp), if_neg (show ¬ (mkVal 2 n t).kind = 1 from by show ¬ (2 : Int) = 1; omega), if_pos (show (mkVal 2 n t).kind = 2 from rfl)]; rfl
      rw [hb]
      have hv' := hv.mono (R' := fun e w3 => e = .returned (.bool true) ∧ w3.cell? ⟨B, 0, none⟩ = some (.int .i64 2) ∧ w3.cell? ⟨B, 2, none⟩ = some (.string t) ∧ (w3.alloc (.cells #[.int .u8 2] 5)).cell? ⟨B, 2, none⟩ = some (.string t) ∧
          ∃ a4 c4 w4, (Builtin.append_ #[55, 55] 55 #[.slice a2 ln c2, .slice (some ⟨w3.heap.size, 0, none⟩) 1 1]).run Tryz.prog ((w3.alloc (.cells #[.int .u8 2] 5)).drew) = .ok (.slice a4 (ln + 1) c4) w4 ∧ w4.cell? ⟨B, 2, none⟩ = some (.string t) ∧
          Calls Tryz.prog 37 #[.slice a4 (ln + 1) c4, .string t] w4 fun e w5 => ∃ a m c, e = .returned (.slice a m c) ∧ RowKit.Hid (OwnB w w5 (.slice a m c) (l ++ 2 :: textB t))) (by
        rintro e w3 ⟨rfl, hk⟩
        have hb3 := hk.blk b2 (fun x => x)
        obtain ⟨a4, c4, w4, h4, h5⟩ := app_byteD (ho1.more hk) 2 (by omega) (by omega) (by omega)
        rw [hln] at h4 h5
        have hb4 := h5.2.blk HK1.2 (fun x => x)
        rw [hsz] at hb4
        refine ⟨rfl, blk_cell hb3 0, blk_cell hb3 2, blk_cell (blk_alloc hb3) 2, a4, c4, w4, h4, blk_cell hb4 2, ?_⟩
        refine (PutText_any w4 _ _ (l ++ [2]) h5.rd t (by simp; omega)).mono ?_
        rintro e w5 ⟨a, c, rfl, ho5⟩
        have h6 := ho5.back (h5.2.back0 HK1.1)
        generalize (l ++ [_] ++ _).length = m at h6 ⊢
        rw [List.append_assoc] at h6
        exact ⟨a, m, c, rfl, h6⟩)
      clear hv ho ho1 hok hb hi e1 e2 hl ht b2 hlt hln h1 h2 e3
      go_enter Tryz.func93, Tryz.ntmps93
      go_wp2_with (at_builtin; refine wpList_app rfl (.tmp 6) (.tmp 7) 55 55 rfl rfl rfl hrun ?_)
      refine hv'.mono ?_
      clear hv' hrun q0 q1 q2
      rintro e w3 ⟨rfl, r0, r1, r1', a4, c4, w4, hrun4, r4, hput⟩
      go_wp2_with fail
      refine wp_region_can [0, 3, 4, 1, 2, 5, 6] [1, 2, 5] [(0, 1), (3, 1), (4, 1), (3, 2), (4, 2)] (by kernel_rfl) (by kernel_rfl) (by kernel_rfl) (by kernel_rfl) (by intro c a d v w h; cases d <;> exact h) ?_
      iterate 3 (refine can_sil rfl rfl (fun K hK => ?_); go_simp; refine hK _ ?_; clear hK K)
      refine can_loud [0, 3, 4] rfl rfl rfl (fun K hK => ?_)
      go_wp2_with fail
      refine Mid.normal (hK _ _ ?_ ?_)
      · simp only [List.forall_mem_cons]
        refine ⟨?_, ?_, ?_, stabs_nil⟩ <;> exact stab_of rfl (fun K hK => by go_simp; exact hK)
      clear hK K
      refine can_loud [3, 4] rfl rfl rfl (fun K hK => ?_)
      refine wpList_app rfl (.tmp 28) (.tmp 29) 55 55 rfl rfl rfl hrun4 ?_
      go_wp2_with fail
      refine Mid.normal (hK _ _ ?_ ?_)
      · simp only [List.forall_mem_cons]
        refine ⟨?_, ?_, stabs_nil⟩ <;> exact stab_of rfl (fun K hK => by go_simp; exact hK)
      clear hK K
      refine can_loud [] rfl rfl rfl (fun K hK => ?_)
      go_wp2_with (go_at_call 37; refine hput.mono ?_; clear hput; rintro e w5 ⟨a5, n5, c5, rfl, HO⟩)
      refine Mid.normal (hK _ _ stabs_nil ?_)
      clear hK K
      refine can_sil rfl rfl (fun K hK => ?_)
      go_simp
      refine hK _ ?_
      clear hK K
      refine can_nil ?_
      go_wp2
      go_ret
      exact ⟨a5, n5, c5, rfl, HO⟩
  · rw [Bool.not_eq_true] at hok
    rw [hok] at hv
    have hb : (mkVal k n t).bytes = [] := by unfold Val.bytes; rw [if_pos hok]
    rw [hb, List.append_nil]
    have hv' := hv.mono (R' := fun e w3 => e = .returned (.bool false) ∧ RowKit.Hid (OwnB w w3 (.slice a2 ln c2) l)) (by
      rintro e w3 ⟨rfl, hk⟩
      exact ⟨rfl, ho.more hk⟩)
    have q : w2.cell? ⟨B, 0, none⟩ = some (.int .i64 k) ∧ w2.cell? ⟨B, 1, none⟩ = some (.int .i64 n) ∧ w2.cell? ⟨B, 2, none⟩ = some (.string t) := ⟨blk_cell b2 0, blk_cell b2 1, blk_cell b2 2⟩
    obtain ⟨q0, q1, q2⟩ := q
    clear hv ho ho1 hok hb hi e1 e2 hl ht b2 hln
    go_enter Tryz.func93, Tryz.ntmps93
    go_wp2_with (first | (at_builtin; refine wpList_app rfl (.tmp 6) (.tmp 7) 55 55 rfl rfl rfl hrun ?_) | (go_at_call 40; refine hv'.mono ?_; clear hv'; rintro e w3 ⟨rfl, HO⟩))
    go_ret
    exact ⟨a2, ln, c2, rfl, HO⟩
end Go.Proofs.YtcallmnhaikfpaaGreatDoor
