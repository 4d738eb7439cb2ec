/-
  Parts of what is proved for this claim; each declaration is one of the seat's texts.
-/
import Derived.Test.YtcallmnhaikfpaaGreatDoorTGA
import Derived.Test.YtcallmnhaikfpaaGreatDoorTGC
import Derived.Test.YtcallmnhaikfpaaGreatDoorTGD
import Derived.Test.YtcallmnhaikfpaaGreatDoorTGF
import Derived.Test.YtcallmnhaikfpaaGreatDoorTGG
import Derived.Test.YtcallmnhaikfpaaGreatDoorTGH
import Derived.Test.YtcallmnhaikfpaaGreatDoorTGI
import Derived.Test.YtcallmnhaikfpaaGreatDoorTGK
import Derived.Test.YtcallmnhaikfpaaGreatDoorTGL
import Derived.Test.YtcallmnhaikfpaaGreatDoorTGN
import Derived.Test.YtcallmnhaikfpaaGreatDoorTGT
import Derived.Test.YtcallmnhaikfpaaGreatDoorTGW
import Derived.Test.YtcallmnhaikfpaaGreatDoorTGZ
import Derived.Test.YtcallmnhaikfpaaGreatDoorTHA
import Derived.WalkKit
import Derived.WalkSpells
import Derived.WalkLawsBesides
import Derived.ProofKit
import Derived.Deep.Slices
import Derived.Deep.AppendSrc
import Derived.Lib.Hide
import Derived.Still
import Derived.StillTactics
import Derived.Recover
import Derived.Defers
import Derived.Deep.QuietTactic
import Derived.BigQuiet
import Derived.Handy
import Derived.Laws.Bits64b
import Derived.Lib.Zigzag
import Derived.OwnWalk
import Derived.Deep.DeepCutAuto
import Derived.Lib.Bytealg
import Derived.Laws.Externs
import Derived.Deep.LoopGhost
import Derived.Laws.CopyRow
import Derived.Laws.IdiomCopy
import Derived.Maps.OwnSet
import Derived.Maps.RangeWalk
import Derived.Shelf.SortM.Plain
import Derived.Shelf.SortM.SortNone
import Derived.Ground.SlgmProg
import Derived.Maps.OwnOps
import Derived.Lib.ConvBytes
set_option linter.unusedVariables false
set_option linter.unusedSimpArgs false
namespace Go.Proofs.YtcallmnhaikfpaaGreatDoor
open Go Go.RowKit Go.Deep
theorem keep_bytesWorld (w : World) (e : TypeId) (s : ByteArray) : Keep No w (Lib.bytesWorld w e s) :=
  ⟨by simp [Lib.bytesWorld, World.freeze, World.alloc, World.drew, -World.alloc_eq, -World.drew_eq], by simp [Lib.bytesWorld, World.freeze, World.alloc, World.drew, -World.alloc_eq, -World.drew_eq], by simp [Lib.bytesWorld, World.freeze, World.alloc, World.drew, -World.alloc_eq, -World.drew_eq],
    by rw [Lib.bytesWorld_size]; omega, fun k hk _ => Lib.bytesWorld_at_old w e s k hk⟩
theorem conv_bytes (w : World) (s : ByteArray) (hs : s.size ≤ 9223372036854775807) :
    ∃ c w', (convert 9 55 (.string s)).run Tryz.prog w = .ok (.slice (some ⟨w.heap.size, 0, none⟩) s.size c) w' ∧ Rd bytesSh w' (One w.heap.size) [.slice (some ⟨w.heap.size, 0, none⟩) s.size c] (bytesOf s) ∧ Keep No w w' ∧ w'.heap.size = w.heap.size + 1 := by
  refine ⟨_, _, Lib.run_convert_string_bytes w 9 55 5 s Tryz.underlying9 Tryz.underlying55 Tryz.underlying5, ?_, keep_bytesWorld _ _ _, Lib.bytesWorld_size _ _ _⟩
  have hge := grownCap_ge w s.size 0 5
  refine ⟨_, _, by rw [bytesOf_length], by rw [bytesOf_length]; exact hge, grownCap_le_maxLen _ _ _ _ hs, fun h => (by cases h), fun i hi => ?_⟩
  have hi' : i < s.size := by rw [bytesOf_length] at hi; exact hi
  have hb := bytesOf_allB s (bytesOf s)[i] (List.getElem_mem hi)
  refine ⟨w.heap.size, 0, [.int .u8 (bytesOf s)[i]], rfl, by rw [Lib.bytesWorld_size]; omega, rfl, rfl, ?_, rfl, ?_⟩
  · intro j hj
    obtain rfl : j = 0 := by simpa using hj
    constructor
    · have := Lib.bytesWorld_cell w 5 s i hi'
      simp only [Sh.size, Nat.mul_one, Nat.zero_add, Nat.add_zero]
      rw [this]
      simp [bytesOf, hi']
    · simp only [Sh.size, Nat.mul_one, Nat.zero_add, Nat.add_zero]
      have hlo : ¬ (Lib.bytesCells w 5 s).size ≤ i := by simp [Lib.bytesCells]; omega
      unfold World.frozen?
      simp only [Lib.bytesWorld_at_new]
      simp [hlo]
  · simp [Lit.wf, IntKind.min, IntKind.max, IntKind.signed, IntKind.bits]
    omega
structure EntG (w : World) (B : Nat) (S : Nat → Prop) (v vr : Value) (b : Bytes) (wr : World) (r : Rs) : Prop where
  keep : Keep No w wr
  g0 : wr.heap[w.heap.size]? = some (.cells #[.int .i64 0, .int .i64 0, .int .i64 0, .int .u64 0, .string ⟨#[]⟩, .slice none 0 0, .int .i64 0, .slice none 0 0, .slice none 0 0] 58 (0, 0))
  rd : RdrAt 141 wr B S vr r
  Bw : w.heap.size < B
  rb : r.b = b
  bv : Rd bytesSh wr (Lt w.heap.size) [v] b
theorem EntG.read {w : World} {B : Nat} {S : Nat → Prop} {v vr : Value} {b : Bytes} {wr : World} {r : Rs} (h : EntG w B S v vr b wr r) {x : Value} {r' : Rs} {e : Ending} {w' : World} (hr : Reads 141 wr B S vr x r' e w') (hb : r'.b = r.b) : EntG w B S v vr b w' r' := by
  obtain ⟨-, h1, hk⟩ := hr
  have hB := h.Bw
  exact ⟨h.keep.then hk fun i hi e => by (have : i = B := e; omega), hk.blk h.g0 (fun e => by have : w.heap.size = B := e; omega), h1, hB, hb.trans h.rb, h.bv.agree _ (hk.agree fun i _ hi e => by (have : i = B := e; have : i < w.heap.size := hi; omega))⟩
theorem EntG.more {w : World} {B : Nat} {S : Nat → Prop} {v vr : Value} {b : Bytes} {wr w' : World} {r : Rs} (h : EntG w B S v vr b wr r) (hk : Keep No wr w') : EntG w B S v vr b w' r :=
  ⟨h.keep.trans hk, hk.blk h.g0 (fun x => x), h.rd.agree hk, h.Bw, h.rb, h.bv.agree _ hk.agreeNo⟩
def GivesEI (w : World) (x : Ent × Int) (e : Ending) (w' : World) : Prop := ∃ cs : Array Value, e = .returned (.tuple #[.agg cs, .int .i64 x.2]) ∧ Rd entrySh w' (Fr w.heap.size w'.heap.size) cs.toList x.1 ∧ Keep No w w'
structure EntQ (w : World) (B : Nat) (S : Nat → Prop) (v vr : Value) (b : Bytes) (r : Rs) (F : Nat) (q : Req) (a : Option Addr) (n c : Nat) (wr : World) : Prop where
  ent : EntG w B S v vr b wr r
  blk : wr.heap[F]? = some (.cells #[.int .i64 q.client, .int .u64 q.token, .string q.name, .slice a n c] 38 (0, 0))
  own : Own valueSh 84 wr (Fr (w.heap.size + 1) wr.heap.size) (.slice a n c) q.args
theorem EntQ.more {w : World} {B : Nat} {S : Nat → Prop} {v vr : Value} {b : Bytes} {r : Rs} {F : Nat} {q : Req} {a : Option Addr} {n c : Nat} {wr w' : World} (h : EntQ w B S v vr b r F q a n c wr) (hk : Keep No wr w') : EntQ w B S v vr b r F q a n c w' :=
  ⟨h.ent.more hk, hk.blk h.blk (fun x => x), Own.mono (h.own.agree hk.agreeNo) fun i hi => ⟨hi.1, by have := hi.2; have := hk.size; omega⟩⟩
structure EntR (w : World) (B : Nat) (S : Nat → Prop) (v vr : Value) (b : Bytes) (r : Rs) (F : Nat) (q : Req) (a : Option Addr) (n c : Nat) (F2 : Nat) (f : Fp) (u1 u2 : Value) (wr : World) : Prop where
  q : EntQ w B S v vr b r F q a n c wr
  blk : wr.heap[F2]? = some (.cells #[u1, u2] 41 (0, 0))
  two : Own .str 9 wr (Fr (w.heap.size + 1) wr.heap.size) u1 f.rs ∧ Own .str 9 wr (Fr (w.heap.size + 1) wr.heap.size) u2 f.ws
theorem EntR.more {w : World} {B : Nat} {S : Nat → Prop} {v vr : Value} {b : Bytes} {r : Rs} {F : Nat} {q : Req} {a : Option Addr} {n c F2 : Nat} {f : Fp} {u1 u2 : Value} {wr w' : World} (h : EntR w B S v vr b r F q a n c F2 f u1 u2 wr) (hk : Keep No wr w') : EntR w B S v vr b r F q a n c F2 f u1 u2 w' :=
  ⟨h.q.more hk, hk.blk h.blk (fun x => x), Own.mono (h.two.1.agree hk.agreeNo) fun i hi => ⟨hi.1, by have := hi.2; have := hk.size; omega⟩, Own.mono (h.two.2.agree hk.agreeNo) fun i hi => ⟨hi.1, by have := hi.2; have := hk.size; omega⟩⟩
theorem EntQ.feet {w : World} {B : Nat} {S : Nat → Prop} {v vr : Value} {b : Bytes} {r : Rs} {F : Nat} {q : Req} {a : Option Addr} {n c : Nat} {w0 wr : World} (h : EntQ w B S v vr b r F q a n c wr) {f : Fp} {u1 u2 : Value} (ho : OwnF w0 wr u1 u2 f) (h0 : w.heap.size + 1 ≤ w0.heap.size) : EntR w B S v vr b r F q a n c wr.heap.size f u1 u2 (wr.alloc (.cells #[u1, u2] 41)) := by
  have hk := (Keep.refl No wr).alloc (.cells #[u1, u2] 41)
  obtain ⟨⟨h1, -⟩, ⟨h2, -⟩⟩ := ho
  exact ⟨h.more hk, blk_new _ _, Own.mono (h1.agree hk.agreeNo) fun i hi => ⟨by have := hi.1; omega, by have := hi.2; simp; omega⟩, Own.mono (h2.agree hk.agreeNo) fun i hi => ⟨by have := hi.1; omega, by have := hi.2; simp; omega⟩⟩
theorem left_drop {r : Rs} {b : Bytes} (hb : r.b = b) (he : r.err = 0) : r.rest = b.drop (b.length - r.left) ∧ r.left = r.rest.length := by
  unfold Rs.left Rs.rest
  rw [if_neg (by simpa using he), hb]
  constructor
  · by_cases h : r.at' ≤ b.length
    · rw [show b.length - (b.length - r.at') = r.at' by omega]
    · rw [List.drop_eq_nil_of_le (by omega), List.drop_eq_nil_of_le (by omega)]
  · simp
theorem rd_from {w : World} {S : Nat → Prop} {a0 : Option Addr} {c0 : Nat} {b : Bytes} (h : Rd bytesSh w S [.slice a0 b.length c0] b) (lo : Nat) (hlo : lo ≤ b.length) :
    (c0 = lo → Rd bytesSh w S [.slice a0 (b.length - lo) 0] (b.drop lo)) ∧ (c0 ≠ lo → Rd bytesSh w S [.slice (a0.map (·.add lo)) (b.length - lo) (c0 - lo)] (b.drop lo)) := by
  obtain ⟨a, c, e, h1, h2, h3, h4⟩ := bytes_at h
  simp only [Value.slice.injEq, true_and] at e
  obtain ⟨rfl, rfl⟩ := e
  constructor
  · rintro rfl
    have hd : b.drop c0 = [] := List.drop_eq_nil_of_le (by omega)
    rw [hd]
    refine ⟨a0, 0, by simp; omega, by simp, by simp, fun _ => ⟨rfl, rfl⟩, fun i hi => absurd hi (by simp)⟩
  · intro hne
    cases a0 with
    | none =>
      obtain ⟨rfl, rfl⟩ := h3 rfl
      simp at hlo; omega
    | some a =>
      by_cases hb : b = []
      · subst hb
        obtain rfl : lo = 0 := by simpa using hlo
        obtain ⟨b', off, k⟩ := a
        exact ⟨_, _, by simp; exact ⟨rfl, rfl⟩, by simp, by simpa using h2, fun hh => by simp at hh, fun i hi => absurd hi (by simp)⟩
      · obtain ⟨b', off, ha, -⟩ := h4 0 (List.length_pos_iff.2 hb)
        obtain rfl := Option.some.inj ha
        have := Rd.part h lo (b.length - lo) (by omega)
        rw [List.take_of_length_le (by simp)] at this
        by_cases h0 : lo = 0
        · subst h0; simpa [Sh.size, Addr.add] using this
        · simpa [Sh.size, Addr.add, h0] using this
set_option maxRecDepth 10000 in
set_option maxHeartbeats 2000000 in
theorem getEnt_any (w : World) (S : Nat → Prop) (v : Value) (b : Bytes) (h : Rd bytesSh w S [v] b) (hl : b.length ≤ 140737488355328) :
    Calls Tryz.prog 46 #[v] w (GivesEI w (entGet b)) := by
  have K1 : Keep No w (w.alloc (.cells #[.int .i64 0, .int .i64 0, .int .i64 0, .int .u64 0, .string ⟨#[]⟩, .slice none 0 0, .int .i64 0, .slice none 0 0, .slice none 0 0] 58)) := (Keep.refl No w).alloc _
  have hnew := (NewReader_any _ S v b (h.agree _ K1.agreeNo) hl).mono (R' := fun e w2 => ∃ B Sr vr, e = .returned (.pointer (some ⟨B, 0, none⟩)) ∧ RowKit.Hid (EntG w B Sr v vr b w2 (Rs.new b))) (by
    rintro e w2 ⟨B, vr, rfl, hB, hr, hk⟩
    simp only [World.size_alloc] at hB hr
    exact ⟨B, _, vr, rfl, K1.trans hk, hk.blk (blk_new w _) (fun x => x), hr, by omega, rfl, (h.mono _ (T := Lt w.heap.size) (fun i hi _ => hi)).agree _ (K1.trans hk).agreeNo⟩)
  have hres : entGet b = entGetL b.length b := rfl
  unfold entGetL at hres
  simp only at hres
  obtain ⟨a0, c0, rfl, -⟩ := bytes_at h
  have h63 : b.length ≤ 140737488355328 := hl
  have HR := Lib.hid hres
  clear h K1 hl hres
  go_enter Tryz.func46, Tryz.ntmps46
  go_wp2_with fail
  refine hnew.mono ?_
  clear hnew
  rintro e w2 ⟨B, Sr, vr, rfl, H2⟩
  go_wp2_with fail
  refine (Uint_any w2 B _ vr _ H2.out.rd).mono ?_
  rintro e w3 hr3
  obtain ⟨rfl, -⟩ := id hr3
  have H3 := Lib.hid (H2.out.read hr3 (uint_b _))
  have l3 := uint_lt H2.out.rd.ok
  clear hr3 H2
  generalize (Rs.new b).uint.1 = s at *
  generalize (Rs.new b).uint.2 = r1 at *
  go_wp2_with fail
  refine (Uint_any w3 B _ vr _ H3.out.rd).mono ?_
  rintro e w4 hr4
  obtain ⟨rfl, -⟩ := id hr4
  have H4 := Lib.hid (H3.out.read hr4 (uint_b _))
  have l4 := uint_lt H3.out.rd.ok
  clear hr4 H3
  generalize r1.uint.1 = ep at *
  generalize r1.uint.2 = r2 at *
  go_wp2_with fail
  refine (Text_any w4 B _ vr _ H4.out.rd b.length (by omega) (by omega)).mono ?_
  rintro e w5 hr5
  obtain ⟨rfl, -⟩ := id hr5
  have H5 := Lib.hid (H4.out.read hr5 (text_b _ _))
  have l5 : (r2.text b.length).1.size ≤ b.length := text_le r2 b.length
  clear hr5 H4
  generalize (r2.text b.length).1 = t at *
  generalize (r2.text b.length).2 = r3 at *
  go_wp2_with fail
  refine (Byte_any w5 B _ vr _ H5.out.rd).mono ?_
  rintro e w6 hr6
  obtain ⟨rfl, -⟩ := id hr6
  have H6 := Lib.hid (H5.out.read hr6 (byte_b _))
  have l6 := byte_range H5.out.rd.ok
  clear hr6 H5
  generalize r3.byte.1 = hw at *
  generalize r3.byte.2 = r4 at *
  go_wp2_with fail
  refine (Why_any w6 B _ vr _ H6.out.rd).mono ?_
  rintro e w7 ⟨nq, rfl, rfl⟩
  have H7 := Lib.hid (H6.out.more ((Keep.refl No w6).drewN nq))
  clear H6
  generalize w6.drewN nq = w7 at *
  generalize (if r4.err = 0 then (0 : Int) else (r4.spot : Int)) = spot at *
  go_upto_region 6 with fail
  obtain ⟨bad, hbad⟩ : ∃ bad : Bool, bad = decide (r4.err ≠ 0 ∨ 2 ^ 63 ≤ s ∨ 2 ^ 63 ≤ ep ∨ (hw ≠ 1 ∧ hw ≠ 2)) := ⟨_, rfl⟩
  have HBD := Lib.hid hbad
  have HL := Lib.hid (And.intro l3 (And.intro l4 (And.intro l5 (And.intro l6 h63))))
  clear hbad l3 l4 l5 l6 h63
  go_cut [51] (fun c wx => c = .bool bad ∧ wx = w7)
  case first =>
    by_cases h1 : r4.err = 0
    · have b1 : (r4.err != 0) = false := by simpa using h1
      by_cases h2 : 2 ^ 63 ≤ s
      · have b2 : decide ((9223372036854775807 : Int) < (s : Int)) = true := by simp; omega
        have e := Lib.hid (HBD.out.trans (decide_eq_true (.inr (.inl h2))))
        clear h1 h2
        go_wp2_with fail
        go_meet
        case rel => exact ⟨by rw [e.out], rfl⟩
      · have b2 : decide ((9223372036854775807 : Int) < (s : Int)) = false := by simp; omega
        by_cases h3 : 2 ^ 63 ≤ ep
        · have b3 : decide ((9223372036854775807 : Int) < (ep : Int)) = true := by simp; omega
          have e := Lib.hid (HBD.out.trans (decide_eq_true (.inr (.inr (.inl h3)))))
          clear h1 h2 h3
          go_wp2_with fail
          go_meet
          case rel => exact ⟨by rw [e.out], rfl⟩
        · have b3 : decide ((9223372036854775807 : Int) < (ep : Int)) = false := by simp; omega
          by_cases h4 : hw = 1
          · have b4 : (hw != 1) = false := by simpa using h4
            have e := Lib.hid (HBD.out.trans (decide_eq_false (by omega)))
            clear h1 h2 h3 h4
            go_wp2_with fail
            go_meet
            case rel => exact ⟨by rw [e.out], rfl⟩
          · have b4 : (hw != 1) = true := by simpa using h4
            by_cases h5 : hw = 2
            · have b5 : (hw != 2) = false := by simpa using h5
              have e := Lib.hid (HBD.out.trans (decide_eq_false (by omega)))
              clear h1 h2 h3 h4 h5
              go_wp2_with fail
              go_meet
              case rel => exact ⟨by rw [e.out], rfl⟩
            · have b5 : (hw != 2) = true := by simpa using h5
              have e := Lib.hid (HBD.out.trans (decide_eq_true (by omega)))
              clear h1 h2 h3 h4 h5
              go_wp2_with fail
              go_meet
              case rel => exact ⟨by rw [e.out], rfl⟩
    · have b1 : (r4.err != 0) = true := by simpa using h1
      have e := Lib.hid (HBD.out.trans (decide_eq_true (.inl h1)))
      clear h1
      go_wp2_with fail
      go_meet
      case rel => exact ⟨by rw [e.out], rfl⟩
  case rest =>
    obtain ⟨hc, rfl⟩ := hcut
    subst hc
    have g0 := H7.out.g0
    cases bad with
    | true =>
      have c2 := blk_cell g0
      have f2 := blk_fro g0
      have hcond := of_decide_eq_true HBD.out.symm
      have hr := HR.out
      rw [if_pos hcond] at hr
      have HRR := Lib.hid hr
      clear hcond hr HR HBD
      go_wp2_with fail
      have u2 := blk_all9 g0 (.int .i64 0) (.int .i64 0) (.int .i64 0) (.int .u64 0) (.string ⟨#[]⟩) (.slice none 0 0) (.int .i64 0) (.slice none 0 0) (.slice none 0 0)
      have k2 := keep_all9 wc w.heap.size (.int .i64 0) (.int .i64 0) (.int .i64 0) (.int .u64 0) (.string ⟨#[]⟩) (.slice none 0 0) (.int .i64 0) (.slice none 0 0) (.slice none 0 0)
      clear c2 f2
      have HK2 := Lib.hid k2
      clear k2
      generalize (((((((((wc.setCell ⟨w.heap.size, 0, none⟩ (.int .i64 0)).setCell ⟨w.heap.size, 1, none⟩ (.int .i64 0)).setCell ⟨w.heap.size, 2, none⟩ (.int .i64 0)).setCell ⟨w.heap.size, 3, none⟩ (.int .u64 0)).setCell ⟨w.heap.size, 4, none⟩ (.string ⟨#[]⟩)).setCell ⟨w.heap.size, 5, none⟩ (.slice none 0 0)).setCell ⟨w.heap.size, 6, none⟩ (.int .i64 0)).setCell ⟨w.heap.size, 7, none⟩ (.slice none 0 0)).setCell ⟨w.heap.size, 8, none⟩ (.slice none 0 0)) = w8 at *
      have c5 := blk_cell u2
      refine bodyPost_ret (v := .tuple #[.agg #[.int .i64 0, .int .i64 0, .int .i64 0, .int .u64 0, .string ⟨#[]⟩, .slice none 0 0, .int .i64 0, .slice none 0 0, .slice none 0 0], .int .i64 123]) (by simp [results, Tryz.results46, go_sem, c5]) rfl ?_
      rw [HRR.out]
      exact ⟨_, rfl, rd_ent0 _ _, H7.out.keep.then HK2.out fun i hi e => by have : i = w.heap.size := e; omega⟩
    | false =>
      have hcond := of_decide_eq_false HBD.out.symm
      have hr := HR.out
      rw [if_neg hcond] at hr
      have HRR := Lib.hid hr
      have ht63 := HL.out.2.2.1
      obtain ⟨c8, w8, hconv, hrd8, hk8, hs8⟩ := conv_bytes wc t (by have := HL.out.2.2.2.2; omega)
      have hq := (rqGet_any w8 _ _ _ hrd8).mono (R' := fun e w9 => ∃ a n c, e = .returned (.tuple #[.agg #[.int .i64 (reqGet (bytesOf t)).1.client, .int .u64 (reqGet (bytesOf t)).1.token, .string (reqGet (bytesOf t)).1.name, .slice a n c], .int .i64 (reqGet (bytesOf t)).2.1, .int .i64 (reqGet (bytesOf t)).2.2]) ∧ RowKit.Hid (Own valueSh 84 w9 (Fr w8.heap.size w9.heap.size) (.slice a n c) (reqGet (bytesOf t)).1.args ∧ EntG w B Sr (.slice a0 b.length c0) vr b w9 r4)) (by
        rintro e w9 ⟨a, n, c, rfl, ho, hk9⟩
        exact ⟨a, n, c, rfl, ho, (H7.out.more hk8).more hk9⟩)
      have HG7 := Lib.hid (blk_lt g0)
      have HCD := Lib.hid (And.intro hcond (And.intro ht63 (And.intro hk8 hs8)))
      clear hcond hr HR HBD hrd8 hk8 hs8 ht63 H7 g0
      generalize hqq : reqGet (bytesOf t) = qq at *
      have HQQ := Lib.hid hqq
      clear hqq
      obtain ⟨q, qe, qa⟩ := qq
      simp only at hq
      go_wp2_with fail
      refine hq.mono ?_
      clear hq hconv
      rintro e w9 ⟨a1, n1, c1, rfl, H9⟩
      have HQ0 : RowKit.Hid (EntQ w B Sr (.slice a0 b.length c0) vr b r4 w9.heap.size q a1 n1 c1 (w9.alloc (.cells #[.int .i64 q.client, .int .u64 q.token, .string q.name, .slice a1 n1 c1] 38))) := by
        obtain ⟨h1, h2⟩ := H9.out
        have hs := HCD.out.2.2.2
        have hB := h2.rd.lt
        have hBw := h2.Bw
        have hk := (Keep.refl No w9).alloc (.cells #[.int .i64 q.client, .int .u64 q.token, .string q.name, .slice a1 n1 c1] 38)
        have hwc := HCD.out.2.2.1.size
        refine ⟨h2.more hk, blk_new _ _, Own.mono (h1.agree hk.agreeNo) fun i hi => ⟨?_, by have := hi.2; simp; omega⟩⟩
        have := hi.1
        have := HG7.out
        omega
      clear H9
      go_upto_region 9 with fail
      generalize w9.heap.size = F1 at *
      generalize (w9.alloc (.cells #[.int .i64 q.client, .int .u64 q.token, .string q.name, .slice a1 n1 c1] 38)) = w90 at *
      generalize hft : footGet r4.rest = ft at *
      have HFT := Lib.hid hft
      clear hft
      go_cut [14, 15, 16] (fun p n e wx => ∃ F2 a2 m2 c2 a3 m3 c3, p = .pointer (some ⟨F2, 0, none⟩) ∧ n = .int .i64 ft.2.1 ∧ e = .int .i64 ft.2.2 ∧ RowKit.Hid (EntR w B Sr (.slice a0 b.length c0) vr b r4 F1 q a1 n1 c1 F2 ft.1 (.slice a2 m2 c2) (.slice a3 m3 c3) wx))
      case first =>
        go_wp2_with fail
        refine (Rest_any _ B _ vr r4 HQ0.out.ent.rd).mono ?_
        rintro e w10 ⟨nq2, rfl, rfl⟩
        have HQ1 := Lib.hid (HQ0.out.more ((Keep.refl No _).drewN nq2))
        generalize (w90.drewN nq2) = w10 at *
        have hbv := HQ1.out.ent.bv
        have hle : r4.left ≤ b.length := by
          have h1 := HQ1.out.ent.rb
          unfold Rs.left
          split
          · omega
          · rw [h1]; omega
        have hleft := left_drop HQ1.out.ent.rb (Classical.byContradiction fun hh => HCD.out.1 (.inl hh))
        obtain ⟨lo, hlo⟩ : ∃ lo, lo = b.length - r4.left := ⟨_, rfl⟩
        have hlob : lo ≤ b.length := by omega
        have hfe : footGet (b.drop lo) = ft := by rw [← HFT.out, hleft.1, hlo]
        have hfeet := fun (u : Value) (hu : Rd bytesSh w10 (Lt w.heap.size) [u] (b.drop lo)) => (fGet_any w10 _ u _ hu (by have := HL.out.2.2.2.2; simp; omega)).mono (R' := fun e w11 => ∃ a n c a' n' c', e = .returned (.tuple #[.agg #[.slice a n c, .slice a' n' c'], .int .i64 ft.2.1, .int .i64 ft.2.2]) ∧ RowKit.Hid (OwnF w10 w11 (.slice a n c) (.slice a' n' c') ft.1 ∧ Keep No w10 w11 ∧ EntQ w B Sr (.slice a0 b.length c0) vr b r4 F1 q a1 n1 c1 w11)) (by
          rintro e w11 ⟨a, n, c, a', n', c', rfl, ho, hk⟩
          rw [hfe] at ho ⊢
          exact ⟨a, n, c, a', n', c', rfl, ho, hk, HQ1.out.more hk⟩)
        obtain ⟨hf1, hf2⟩ := rd_from hbv lo hlob
        have HFE := Lib.hid (And.intro hfeet (And.intro hf1 (And.intro hf2 (And.intro hlo hleft))))
        have hsub0 : (b.length : Int) - (r4.left : Int) = (lo : Int) := by omega
        have hw64 : wrap64 (lo : Int) = (lo : Int) := by unfold wrap64; have := HL.out.2.2.2.2; omega
        clear hbv hle hleft hfeet hf1 hf2
        generalize r4.left = lf at *
        clear hlo
        have hw10 := Lib.hid HQ1.out.ent.keep.size
        have hF := Lib.hid (And.intro HQ1.out.ent.rd.lt HQ1.out.ent.Bw)
        by_cases hcl : c0 = lo
        · subst hcl
          go_wp2_with fail
          refine (HFE.out.1 _ (HFE.out.2.1 (by first | rfl | trivial))).mono ?_
          rintro e w11 ⟨a2, m2, c2, a3, m3, c3, rfl, HF⟩
          go_wp2_with fail
          go_meet
          case rel => exact ⟨_, _, _, _, _, _, _, rfl, rfl, rfl, HF.out.2.2.feet HF.out.1 (by have := hF.out; omega)⟩
        · go_wp2_with fail
          refine (HFE.out.1 _ (HFE.out.2.2.1 hcl)).mono ?_
          rintro e w11 ⟨a2, m2, c2, a3, m3, c3, rfl, HF⟩
          go_wp2_with fail
          go_meet
          case rel => exact ⟨_, _, _, _, _, _, _, rfl, rfl, rfl, HF.out.2.2.feet HF.out.1 (by have := hF.out; omega)⟩
      case rest =>
        obtain ⟨F2, a2, m2, c2, a3, m3, c3, rfl, rfl, rfl, HR2⟩ := hcut
        obtain ⟨bad2, hbad2⟩ : ∃ bad : Bool, bad = decide (qe ≠ 0 ∨ ft.2.2 ≠ 0 ∨ ft.2.1 ≠ r4.left) := ⟨_, rfl⟩
        have HB2 := Lib.hid hbad2
        clear hbad2 HQ0
        have HLF : RowKit.Hid (∀ W, EntR w B Sr (.slice a0 b.length c0) vr b r4 F1 q a1 n1 c1 F2 ft.1 (.slice a2 m2 c2) (.slice a3 m3 c3) W → Calls Tryz.prog 77 #[.pointer (some ⟨B, 0, none⟩)] W fun e w' => e = .returned (.int .i64 r4.left) ∧ RowKit.Hid (EntR w B Sr (.slice a0 b.length c0) vr b r4 F1 q a1 n1 c1 F2 ft.1 (.slice a2 m2 c2) (.slice a3 m3 c3) w')) := fun W hW => (Rest_any W B _ vr r4 hW.q.ent.rd).mono (by
          rintro e w' ⟨nq, rfl, rfl⟩
          exact ⟨rfl, hW.more ((Keep.refl No W).drewN nq)⟩)
        generalize hf1 : ft.2.1 = fn at *
        generalize hf2 : ft.2.2 = fe at *
        have HFF := Lib.hid (And.intro hf1 hf2)
        clear hf1 hf2
        generalize r4.left = lf at *
        go_upto_region 10 with fail
        go_cut [83] (fun c wx => c = .bool bad2 ∧ RowKit.Hid (EntR w B Sr (.slice a0 b.length c0) vr b r4 F1 q a1 n1 c1 F2 ft.1 (.slice a2 m2 c2) (.slice a3 m3 c3) wx))
        case first =>
          by_cases h1 : qe = 0
          · have b1 : (qe != 0) = false := by simpa using h1
            by_cases h2 : fe = 0
            · have b2 : (fe != 0) = false := by simpa using h2
              have hcl := HLF.out _ HR2.out
              by_cases h3 : fn = lf
              · have b3 : ((fn : Int) != (lf : Int)) = false := by subst h3; simp
                have e := Lib.hid (HB2.out.trans (decide_eq_false (by omega)))
                clear h1 h2 h3
                go_wp2_with (go_at_call 77; refine hcl.mono ?_; clear hcl; rintro e5 w5 ⟨rfl, HR3⟩)
                go_meet
                case rel => exact ⟨by rw [e.out], HR3⟩
              · have b3 : ((fn : Int) != (lf : Int)) = true := by simp; omega
                have e := Lib.hid (HB2.out.trans (decide_eq_true (by omega)))
                clear h1 h2 h3
                go_wp2_with (go_at_call 77; refine hcl.mono ?_; clear hcl; rintro e5 w5 ⟨rfl, HR3⟩)
                go_meet
                case rel => exact ⟨by rw [e.out], HR3⟩
            · have b2 : (fe != 0) = true := by simpa using h2
              have e := Lib.hid (HB2.out.trans (decide_eq_true (by omega)))
              clear h1 h2
              go_wp2_with fail
              go_meet
              case rel => exact ⟨by rw [e.out], HR2⟩
          · have b1 : (qe != 0) = true := by simpa using h1
            have e := Lib.hid (HB2.out.trans (decide_eq_true (by omega)))
            clear h1
            go_wp2_with fail
            go_meet
            case rel => exact ⟨by rw [e.out], HR2⟩
        case rest =>
          clear HR2
          obtain ⟨rfl, HR3⟩ := hcut
          have g0 := HR3.out.q.ent.g0
          have yF1 := HR3.out.q.blk
          have yF2 := HR3.out.blk
          have cc2 := blk_cell g0
          have ff2 := blk_fro g0
          have hKd := Lib.hid HR3.out.q.ent.keep
          cases bad2 with
          | true =>
            have hcond := of_decide_eq_true HB2.out.symm
            have hr := HRR.out
            rw [if_pos hcond] at hr
            clear HRR
            have HRR := Lib.hid hr
            clear hcond hr HB2 yF1 yF2
            go_wp2_with fail
            have u9 := blk_all9 g0 (.int .i64 0) (.int .i64 0) (.int .i64 0) (.int .u64 0) (.string ⟨#[]⟩) (.slice none 0 0) (.int .i64 0) (.slice none 0 0) (.slice none 0 0)
            have k9 := keep_all9 wc w.heap.size (.int .i64 0) (.int .i64 0) (.int .i64 0) (.int .u64 0) (.string ⟨#[]⟩) (.slice none 0 0) (.int .i64 0) (.slice none 0 0) (.slice none 0 0)
            clear cc2 ff2
            have HK9 := Lib.hid k9
            clear k9
            generalize (((((((((wc.setCell ⟨w.heap.size, 0, none⟩ (.int .i64 0)).setCell ⟨w.heap.size, 1, none⟩ (.int .i64 0)).setCell ⟨w.heap.size, 2, none⟩ (.int .i64 0)).setCell ⟨w.heap.size, 3, none⟩ (.int .u64 0)).setCell ⟨w.heap.size, 4, none⟩ (.string ⟨#[]⟩)).setCell ⟨w.heap.size, 5, none⟩ (.slice none 0 0)).setCell ⟨w.heap.size, 6, none⟩ (.int .i64 0)).setCell ⟨w.heap.size, 7, none⟩ (.slice none 0 0)).setCell ⟨w.heap.size, 8, none⟩ (.slice none 0 0)) = w8 at *
            have c9 := blk_cell u9
            refine bodyPost_ret (v := .tuple #[.agg #[.int .i64 0, .int .i64 0, .int .i64 0, .int .u64 0, .string ⟨#[]⟩, .slice none 0 0, .int .i64 0, .slice none 0 0, .slice none 0 0], .int .i64 123]) (by simp [results, Tryz.results46, go_sem, c9]) rfl ?_
            rw [HRR.out]
            exact ⟨_, rfl, rd_ent0 _ _, hKd.out.then HK9.out fun i hi e => by have : i = w.heap.size := e; omega⟩
          | false =>
            have hcond := of_decide_eq_false HB2.out.symm
            have hr := HRR.out
            rw [if_neg hcond] at hr
            clear HRR
            have HRR := Lib.hid hr
            have p1 := blk_cell yF1
            have p2 := blk_cell yF2
            obtain ⟨hcd, -⟩ := HCD.out
            have hs63 : s < 9223372036854775808 := by omega
            have he63 : ep < 9223372036854775808 := by omega
            have hw12 : hw = 1 ∨ hw = 2 := by omega
            have hw1 : wrap64 (s : Int) = (s : Int) := by unfold wrap64; omega
            have hw2 : wrap64 (ep : Int) = (ep : Int) := by unfold wrap64; omega
            have hw3 : wrap64 hw = hw := by unfold wrap64; omega
            have HW := Lib.hid (And.intro hs63 (And.intro he63 hw12))
            have HQ00 := Lib.hid (show qe = 0 from Classical.byContradiction fun hh => hcond (.inl hh))
            clear hcond hr HB2 yF1 yF2 hcd hs63 he63 hw12
            go_wp2_with fail
            have u9 := blk_all9 g0 (.int .i64 s) (.int .i64 ep) (.int .i64 q.client) (.int .u64 q.token) (.string q.name) (.slice a1 n1 c1) (.int .i64 hw) (.slice a2 m2 c2) (.slice a3 m3 c3)
            have k9 := keep_all9 wc w.heap.size (.int .i64 s) (.int .i64 ep) (.int .i64 q.client) (.int .u64 q.token) (.string q.name) (.slice a1 n1 c1) (.int .i64 hw) (.slice a2 m2 c2) (.slice a3 m3 c3)
            clear cc2 ff2
            have HK9 := Lib.hid k9
            clear k9
            generalize (((((((((wc.setCell ⟨w.heap.size, 0, none⟩ (.int .i64 s)).setCell ⟨w.heap.size, 1, none⟩ (.int .i64 ep)).setCell ⟨w.heap.size, 2, none⟩ (.int .i64 q.client)).setCell ⟨w.heap.size, 3, none⟩ (.int .u64 q.token)).setCell ⟨w.heap.size, 4, none⟩ (.string q.name)).setCell ⟨w.heap.size, 5, none⟩ (.slice a1 n1 c1)).setCell ⟨w.heap.size, 6, none⟩ (.int .i64 hw)).setCell ⟨w.heap.size, 7, none⟩ (.slice a2 m2 c2)).setCell ⟨w.heap.size, 8, none⟩ (.slice a3 m3 c3)) = w8 at *
            have c9 := blk_cell u9
            refine bodyPost_ret (v := .tuple #[.agg #[.int .i64 s, .int .i64 ep, .int .i64 q.client, .int .u64 q.token, .string q.name, .slice a1 n1 c1, .int .i64 hw, .slice a2 m2 c2, .slice a3 m3 c3], .int .i64 0]) (by simp [results, Tryz.results46, go_sem, c9]) rfl ?_
            rw [HRR.out]
            have hK9 := HK9.out
            have h9 : Keep No w w8 := hKd.out.then hK9 fun i hi e => by have : i = w.heap.size := e; omega
            have hs9 := hK9.size
            have hnot : ∀ i, i < wc.heap.size → Fr (w.heap.size + 1) wc.heap.size i → ¬ One w.heap.size i := fun i _ hi e => by have : i = w.heap.size := e; have := hi.1; omega
            have o1 := (Own.agree HR3.out.q.own (hK9.agree hnot)).rd.mono _ (T := Fr w.heap.size w8.heap.size) fun i _ hi => ⟨by have := hi.1; omega, by have := hi.2; omega⟩
            have o2 := (Own.agree HR3.out.two.1 (hK9.agree hnot)).rd.mono _ (T := Fr w.heap.size w8.heap.size) fun i _ hi => ⟨by have := hi.1; omega, by have := hi.2; omega⟩
            have o3 := (Own.agree HR3.out.two.2 (hK9.agree hnot)).rd.mono _ (T := Fr w.heap.size w8.heap.size) fun i _ hi => ⟨by have := hi.1; omega, by have := hi.2; omega⟩
            have hok := reqGet_ok (bytesOf_allB t)
            rw [HQQ.out] at hok
            obtain ⟨-, hck⟩ := hok.2.2.2.2.2.2 HQ00.out
            have hin : q.In := hok.1
            have hnm := nameOk_size ((Req.check_iff q).1 hck).2.2.1
            have z1 : (Lit.int .i64 q.client).wf = true := wf_i64 hin.c0 hin.c1
            have z2 : (Lit.int .u64 q.token).wf = true := by have := hin.t0; have := hin.t1; simp [Lit.wf, IntKind.min, IntKind.max, IntKind.signed, IntKind.bits]; omega
            have hn1 : n1 = q.args.length := by obtain ⟨_, _, e, -⟩ := o1; simp at e; exact e.2.1
            have hrq : Rd requestSh w8 (Fr w.heap.size w8.heap.size) [.int .i64 q.client, .int .u64 q.token, .string q.name, .slice a1 n1 c1] q := ⟨[.int .i64 q.client], _, rfl, ⟨rfl, z1⟩, [.int .u64 q.token], _, rfl, ⟨rfl, z2⟩, [.string q.name], _, rfl, ⟨rfl, by show q.name.size ≤ 9223372036854775807; omega⟩, [_], [], rfl, o1, rfl⟩
            obtain ⟨y1, y2, y3⟩ := HW.out
            have z3 : (Lit.int .i64 hw).wf = true := wf_i64 (by omega) (by omega)
            have hft : Rd footSh w8 (Fr w.heap.size w8.heap.size) [.slice a2 m2 c2, .slice a3 m3 c3] ft.1 := ⟨[_], [_], rfl, o2, [_], [], rfl, o3, rfl⟩
            refine ⟨_, rfl, ent_mk (p := mkPlan q hw ft.1) ⟨[_, _, _, _], [_, _, _], rfl, hrq, [.int .i64 hw], [_, _], rfl, ⟨rfl, z3⟩, [_, _], [], rfl, hft, rfl⟩ (wf_i64 (by omega) (by omega)) (wf_i64 (by omega) (by omega)), h9⟩
end Go.Proofs.YtcallmnhaikfpaaGreatDoor
