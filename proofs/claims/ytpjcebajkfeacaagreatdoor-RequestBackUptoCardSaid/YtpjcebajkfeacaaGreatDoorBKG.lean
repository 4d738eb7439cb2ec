/-
  Parts of what is proved for this claim; each declaration is one of the seat's texts.
-/
import Derived.Test.YtpjcebajkfeacaaGreatDoorBGA
import Derived.Test.YtpjcebajkfeacaaGreatDoorBGC
import Derived.Test.YtpjcebajkfeacaaGreatDoorBGD
import Derived.Test.YtpjcebajkfeacaaGreatDoorBGF
import Derived.Test.YtpjcebajkfeacaaGreatDoorBGJ
import Derived.Test.YtpjcebajkfeacaaGreatDoorBGK
import Derived.Test.YtpjcebajkfeacaaGreatDoorBGL
import Derived.Test.YtpjcebajkfeacaaGreatDoorBGQ
import Derived.Test.YtpjcebajkfeacaaGreatDoorBGU
import Derived.Test.YtpjcebajkfeacaaGreatDoorBGV
import Derived.Test.YtpjcebajkfeacaaGreatDoorBGW
import Derived.Test.YtpjcebajkfeacaaGreatDoorBGX
import Derived.Test.YtpjcebajkfeacaaGreatDoorBHA
import Derived.Test.YtpjcebajkfeacaaGreatDoorBHE
import Derived.Test.YtpjcebajkfeacaaGreatDoorBHF
import Derived.Test.YtpjcebajkfeacaaGreatDoorBHJ
import Derived.Test.YtpjcebajkfeacaaGreatDoorBHL
import Derived.Test.YtpjcebajkfeacaaGreatDoorBHN
import Derived.Test.YtpjcebajkfeacaaGreatDoorBHQ
import Derived.Test.YtpjcebajkfeacaaGreatDoorBHR
import Derived.Test.YtpjcebajkfeacaaGreatDoorBHT
import Derived.Test.YtpjcebajkfeacaaGreatDoorBKA
import Derived.Test.YtpjcebajkfeacaaGreatDoorBKB
import Derived.Test.YtpjcebajkfeacaaGreatDoorBKC
import Derived.Test.YtpjcebajkfeacaaGreatDoorBKF
set_option linter.unusedVariables false
set_option linter.unusedSimpArgs false
namespace Go.Proofs.YtpjcebajkfeacaaGreatDoor
open Go Go.RowKit Go.Deep
theorem reqGet_more (q : Req) (h : q.check = 0) (hi : q.In) (t : Bytes) (ht : t ≠ []) : (reqGet (q.bytes ++ t)).2.1 ≠ 0 := by
  by_cases h10 : 1024 < (q.bytes ++ t).length
  · unfold reqGet
    rw [if_pos h10]
    decide
  obtain ⟨h1, h2, h3, h4, h5⟩ := (Req.check_iff q).1 h
  have hns := nameOk_size h3
  have e0 : q.bytes ++ t = uintB q.client.toNat ++ (uintB q.token.toNat ++ (textB q.name ++ (uintB q.args.length ++ (q.args.flatMap Val.bytes ++ t)))) := by simp [Req.bytes]
  have hs := sees_new (q.bytes ++ t)
  have hs' : (Rs.new (q.bytes ++ t)).Sees (uintB q.client.toNat ++ (uintB q.token.toNat ++ (textB q.name ++ (uintB q.args.length ++ (q.args.flatMap Val.bytes ++ t))))) := by rw [← e0]; exact hs
  obtain ⟨a1, a2⟩ := sees_count (most := 63) hs' (by omega) (by omega)
  have a2' : ((Rs.new (q.bytes ++ t)).count 63).2.Sees _ := a2
  unfold reqGet
  rw [if_neg h10]
  simp only []
  generalize ((Rs.new (q.bytes ++ t)).count 63).2 = r1 at a2' ⊢
  have ht1 := hi.t1
  have ht0 := hi.t0
  obtain ⟨b1, b2⟩ := sees_uint a2' (by omega)
  generalize r1.uint.2 = r2 at b2 ⊢
  obtain ⟨c1, c2⟩ := sees_text (most := 16) b2 (by omega) hns
  have c1' : (r2.text 16).1 = q.name := congrArg Prod.fst c1
  have c2' : (r2.text 16).2.Sees _ := c2
  rw [c1', h3]
  generalize (r2.text 16).2 = r3 at c2' ⊢
  simp only [if_true]
  obtain ⟨d1, d2⟩ := sees_count (most := 8) c2' (by omega) h4
  have d1' : (r3.count 8).1 = q.args.length := congrArg Prod.fst d1
  have d2' : (r3.count 8).2.Sees _ := d2
  rw [d1']
  generalize (r3.count 8).2 = r4 at d2' ⊢
  obtain ⟨r5, e1, e2⟩ := sees_args q.args [] r4 t h5 hi.args d2'
  rw [e1]
  simp only []
  have hlt : r5.at' < r5.b.length := by
    have := congrArg List.length e2.rest
    simp only [Rs.rest, List.length_drop] at this
    have := List.length_pos_iff.2 ht
    omega
  have hend : r5.end'.err ≠ 0 := by
    unfold Rs.end'
    rw [if_pos ⟨e2.err, hlt⟩]
    show (r5.fails 4).err ≠ 0
    show (4 : Int) ≠ 0
    decide
  rw [if_pos hend]
  exact hend
theorem reqGet_pre (q : Req) (h : q.check = 0) (hi : q.In) {k : Nat} (hk : k < q.bytes.length) (hA : AllB q.bytes) : (reqGet (q.bytes.take k)).2.1 ≠ 0 := fun he => by
  have hA' : AllB (q.bytes.take k) := fun x hx => hA x (List.mem_of_mem_take hx)
  obtain ⟨i1, -, -, -, -, -, i2⟩ := reqGet_ok hA'
  obtain ⟨e1, e2⟩ := i2 he
  generalize (reqGet (q.bytes.take k)).1 = z at i1 e1 e2
  have e3 : q.bytes = z.bytes ++ q.bytes.drop k := by rw [← e1, List.take_append_drop]
  have hne : q.bytes.drop k ≠ [] := fun e => by
    have := congrArg List.length e
    simp at this
    omega
  have := reqGet_more z e2 i1 _ hne
  rw [← e3, reqGet_bytes q h hi] at this
  exact this rfl
theorem req_bytes_ne (q : Req) (h : q.check = 0) (hi : q.In) : q.bytes ≠ [] := fun e => by
  have := reqGet_bytes q h hi
  rw [e] at this
  have h2 : (reqGet []).2.1 = 0 := by rw [this]
  revert h2
  decide
end Go.Proofs.YtpjcebajkfeacaaGreatDoor
namespace Go.Proofs.YtpjcebajkfeacaaGreatDoor
open Go Go.RowKit Go.Deep
theorem Req.Fine.inn {q : Req} (h : q.Fine) : q.In := by
  obtain ⟨h1, h2, -⟩ := h.parts
  exact ⟨by omega, by omega, h.t0, h.t1, h.args⟩
theorem print_small {q : Req} (h : q.Fine) : q.print.length ≤ 1048576 := by
  obtain ⟨h1, h2, h3, h4, h5⟩ := h.parts
  have ht0 := h.t0
  have ht1 := h.t1
  have e1 : q.client = (q.client.toNat : Int) := by omega
  have e2 : q.token = (q.token.toNat : Int) := by omega
  have d1 := dec_len q.client.toNat (by omega)
  have d2 := dec_len q.token.toNat (by omega)
  have hns := nameOk_size h3
  have hnl : q.name.data.toList.length = q.name.size := by simp
  have : ∀ l : List Val, (∀ v ∈ l, v.print.length ≤ 200) → (tailP l).length ≤ l.length * 201 := fun l => by
    induction l with
    | nil => intro _; exact Nat.le_refl _
    | cons v l ih =>
      intro hh
      rw [tailP_cons, List.length_cons, List.length_append, List.length_cons]
      have h1 := hh v (by simp)
      have h2 := ih fun x hx => hh x (by simp [hx])
      omega
  have h9 := this q.args fun v hv => print_len (h5 v hv) (h.args v hv)
  rw [print_eq, e1, e2, itoa_nat, itoa_nat]
  simp only [List.length_append, List.length_cons]
  omega
set_option maxRecDepth 10000 in
set_option maxHeartbeats 4000000 in
theorem RequestBack_main (w : World) (ht : Tab w) (he : Errs w) (q : Req) (S : Nat → Prop) (a : Option Addr) (c : Nat) (hq : Rd requestSh w S [.int .i64 q.client, .int .u64 q.token, .string q.name, .slice a q.args.length c] q) (hb : q.Small)
    (raw tl : Bytes) (ar at' : Option Addr) (cr ct : Nat) (T U : Nat → Prop) (hr : Rd bytesSh w T [.slice ar raw.length cr] raw) (hrl : raw.length ≤ 1048576) (htl : Rd bytesSh w U [.slice at' tl.length ct] tl) (hll : tl.length ≤ 1048576) (cut : Int) (hcw : -9223372036854775808 ≤ cut ∧ cut ≤ 9223372036854775807) :
    Calls Tryz.prog 11 #[.agg #[.int .i64 q.client, .int .u64 q.token, .string q.name, .slice a q.args.length c], .slice ar raw.length cr, .int .i64 cut, .slice at' tl.length ct] w fun e w' => e = .returned (.bool true) ∧ Keep No w w' := by
  have k1 := (Keep.refl No w).alloc (.cells #[.int .i64 q.client, .int .u64 q.token, .string q.name, .slice a q.args.length c] 29)
  have HT : RowKit.Hid (TzW w q w.heap.size a c (w.alloc (.cells #[.int .i64 q.client, .int .u64 q.token, .string q.name, .slice a q.args.length c] 29))) :=
    ⟨k1, blk_new _ _, ⟨S, hq.agree _ k1.agreeNo⟩, ht.keep k1, he.keep k1⟩
  obtain ⟨a0, c0, -, h4, w1, w2, w3⟩ := req_cells hq
  have tk : 0 ≤ q.token ∧ q.token < 18446744073709551616 := by
    simp [Lit.wf, IntKind.min, IntKind.max, IntKind.signed, IntKind.bits] at w2; omega
  have hIn : ∀ v ∈ q.args, v.In := fun v hv => by
    obtain ⟨k, hk, rfl⟩ := List.getElem_of_mem hv
    obtain ⟨-, -, -, -, -, -, -, -, hI, -⟩ := vals_get h4 k hk
    exact hI
  have hfine : q.check = 0 → q.Fine := fun h => ⟨h, tk.1, tk.2, hIn⟩
  have HB := Lib.hid (And.intro hb (And.intro tk hfine))
  have HR := Lib.hid (And.intro hr (And.intro hrl (And.intro htl hll)))
  have i20 : (raw.length : Int) ≤ 1048576 := by omega
  have i21 : (tl.length : Int) ≤ 1048576 := by omega
  clear k1 ht he hq hb w1 w2 w3 tk hIn hfine h4 hr hrl htl hll
  go_enter Tryz.func11, Tryz.ntmps11
  go_upto_region 1 with fail
  generalize (w.alloc (.cells #[.int .i64 q.client, .int .u64 q.token, .string q.name, .slice a q.args.length c] 29)) = w1 at *
  generalize w.heap.size = R0 at *
  have q1 := blk_cell HT.out.r0
  have hlong : Calls Tryz.prog 14 #[.agg #[.int .i64 q.client, .int .u64 q.token, .string q.name, .slice a q.args.length c]] w1 fun e w2 => ∃ b, e = .returned (.bool b) ∧ RowKit.Hid (TzW w q R0 a c w2) := by
    obtain ⟨S, hr⟩ := HT.out.rd
    refine (long9_any w1 S _ q hr HB.out.1).mono ?_
    rintro e w2 ⟨b, rfl, hk⟩
    exact ⟨b, rfl, HT.out.more hk⟩
  clear HT
  go_cut [34] (fun t wx => ∃ bad, t = .bool bad ∧ RowKit.Hid (TzW w q R0 a c wx))
  case first =>
    go_wp2_with (go_at_call 14; refine hlong.mono ?_; clear hlong q1; rintro e w2 ⟨b, rfl, H2⟩)
    all_goals
      go_meet
      case rel => exact ⟨_, rfl, H2.out⟩
  case rest =>
    clear q1 hlong
    obtain ⟨bad, rfl, H2⟩ := hcut
    cases bad with
    | true =>
      have hl := (live9_any wc H2.out.tab).mono (R' := fun e w' => e = .returned (.bool true) ∧ RowKit.Hid (Keep No w w')) (by
        rintro e w' ⟨rfl, hk⟩
        exact ⟨rfl, H2.out.keep.trans hk⟩)
      go_wp2_with (go_at_call 13; refine hl.mono ?_; clear hl; rintro e w3 ⟨rfl, H3⟩)
      go_ret
      exact ⟨rfl, H3.out⟩
    | false =>
      generalize wc = w2 at *
      have q2 := blk_cell H2.out.r0
      have HOW : RowKit.Hid (∀ W, TzW w q R0 a c W → Calls Tryz.prog 15 #[.agg #[.int .i64 q.client, .int .u64 q.token, .string q.name, .slice a q.args.length c]] W fun e w4 => ∃ ag cg, e = .returned (.agg #[.int .i64 q.client, .int .u64 q.token, .string q.name, .slice ag q.args.length cg]) ∧ RowKit.Hid (TzW w q R0 a c w4 ∧ Keep No W w4 ∧ ∃ S, Rd requestSh w4 S [.int .i64 q.client, .int .u64 q.token, .string q.name, .slice ag q.args.length cg] q)) := fun W hW => by
        obtain ⟨S, hr⟩ := hW.rd
        refine (own9_any W S _ q hr HB.out.1.args).mono ?_
        rintro e w4 ⟨ag, cg, rfl, h⟩
        exact ⟨ag, cg, rfl, hW.more h.out.2, h.out.2, _, h.out.1⟩
      have how := HOW.out w2 H2.out
      go_wp2_with (go_at_call 15; refine how.mono ?_; clear how q2; rintro e w4 ⟨ag, cg, rfl, H4⟩)
      obtain ⟨X, hX⟩ : ∃ X : Bytes, X = (if q.check = 0 then q.bytes else []) := ⟨_, rfl⟩
      obtain ⟨Y, hY⟩ : ∃ Y : List UInt8, Y = (if q.check = 0 then q.print else []) := ⟨_, rfl⟩
      obtain ⟨ck, hck⟩ : ∃ ck, q.check = ck := ⟨_, rfl⟩
      have hput : Calls Tryz.prog 16 #[.slice none 0 0, .agg #[.int .i64 q.client, .int .u64 q.token, .string q.name, .slice ag q.args.length cg]] w4 fun e w5 => ∃ a5 n5 k5, e = .returned (.tuple #[.slice a5 n5 k5, .int .i64 ck]) ∧ RowKit.Hid (TzW w q R0 a c w5 ∧ n5 = X.length ∧ OwnB w4 w5 (.slice a5 n5 k5) X) := by
        obtain ⟨S, hr⟩ := H4.out.2.2
        have := rqPut_any w4 S No (.slice none 0 0) [] (rd_nil _ _ _) (by simp) _ q hr (by have := HB.out.1.name; omega)
        rw [List.nil_append, ← hX, hck] at this
        refine this.mono ?_
        rintro e w5 ⟨a5, n5, k5, rfl, ho⟩
        obtain ⟨a', c', e', -⟩ := Own.form ho.1
        simp only [Value.slice.injEq] at e'
        exact ⟨a5, n5, k5, rfl, H4.out.1.more ho.2, e'.2.1, ho⟩
      refine hput.mono ?_
      clear hput
      rintro e w5 ⟨ab, nb, cb, rfl, H5⟩
      have q5 := blk_cell H5.out.1.r0
      have how := HOW.out w5 H5.out.1
      clear HOW
      go_wp2_with (go_at_call 15; refine how.mono ?_; clear how q5; rintro e w6 ⟨ag2, cg2, rfl, H6⟩)
      have hpr : Calls Tryz.prog 40 #[.agg #[.int .i64 q.client, .int .u64 q.token, .string q.name, .slice ag2 q.args.length cg2]] w6 fun e w7 => e = .returned (.tuple #[.string (txt Y), .int .i64 ck]) ∧ RowKit.Hid (TzW w q R0 a c w7 ∧ nb = X.length ∧ OwnB w4 w7 (.slice ab nb cb) X) := by
        obtain ⟨S, hr⟩ := H6.out.2.2
        have := rqPrint_any w6 S _ q hr (by have := HB.out.1.name; omega) H6.out.1.tab
        rw [← hY, hck] at this
        refine this.mono ?_
        rintro e w7 ⟨rfl, hk⟩
        exact ⟨rfl, H6.out.1.more hk, H5.out.2.1, H5.out.2.2.more (H6.out.2.1.trans hk)⟩
      refine hpr.mono ?_
      clear hpr H4
      rintro e w7 ⟨rfl, H7⟩
      clear H5 H6 H2
      obtain ⟨ok, hok⟩ : ∃ ok, ((ck : Int) == 0) = ok := ⟨_, rfl⟩
      have HK := Lib.hid (And.intro hX (And.intro hY (And.intro hck hok)))
      have hok1 := hok
      clear hX hY hck hok
      go_upto_if 55 with (go_at_call 12; refine (num_tz _ _).mono ?_; rintro e w20 ⟨rfl, rfl⟩)
      go_cut [14] (fun t wx => RowKit.Hid (TzW w q R0 a c wx))
      case first =>
        cases ok with
        | false =>
          go_wp2_with fail
          go_meet
          case rel => exact H7.out.1
        | true =>
          have hc : q.check = 0 := by rw [HK.out.2.2.1]; simpa using HK.out.2.2.2
          have hf := HB.out.2.2 hc
          have HX := Lib.hid (show X = q.bytes by rw [HK.out.1, if_pos hc])
          have HY := Lib.hid (show Y = q.print by rw [HK.out.2.1, if_pos hc])
          have HF := Lib.hid hf
          clear hc hf hok1
          have hA : AllB X := bytes_all (Own.rd H7.out.2.2.1)
          have HAB := Lib.hid hA
          have hz : reqGet X = (q, 0, 0) := by rw [HX.out]; exact reqGet_bytes q HF.out.ck HF.out.inn
          have hget : Calls Tryz.prog 18 #[.slice ab nb cb] w7 (GivesZ w7 q 0 0) := (rqGet_any w7 _ _ X (Own.rd H7.out.2.2.1)).mono fun e w' h => givesZ hA hz h
          clear hA hz
          go_wp2_with fail
          refine hget.mono ?_
          clear hget
          rintro e w8 ⟨az, cz, rfl, H8⟩
          go_upto_region 9 with fail
          have L9 := Lib.hid (LayR.mk' H8.out.1)
          have k9 := H8.out.2.trans ((Keep.refl No w8).alloc (.cells #[.int .i64 q.client, .int .u64 q.token, .string q.name, .slice az q.args.length cz] 29))
          have H9 := Lib.hid (And.intro (H7.out.1.more k9) (And.intro H7.out.2.1 (H7.out.2.2.more k9)))
          clear H7 H8 k9
          generalize (w8.alloc (.cells #[.int .i64 q.client, .int .u64 q.token, .string q.name, .slice az q.args.length cz] 29)) = w9 at *
          generalize w8.heap.size = P1 at *
          have hps : (txt Y).size ≤ 1048576 := by rw [txt_size, HY.out]; exact print_small HF.out
          have hpa : Calls Tryz.prog 42 #[.string (txt Y)] w9 fun e w10 => ∃ a3 c3, e = .returned (.tuple #[.agg #[.int .i64 q.client, .int .u64 q.token, .string q.name, .slice a3 q.args.length c3], .int .i64 0]) ∧ RowKit.Hid (Rd requestSh w10 (Fr w9.heap.size w10.heap.size) [.int .i64 q.client, .int .u64 q.token, .string q.name, .slice a3 q.args.length c3] q ∧ Keep No w9 w10) := by
            refine (qParse_any (txt Y) hps w9 H9.out.1.errs H9.out.1.tab).mono ?_
            rintro e w10 ⟨q', er, a3, c3, rfl, h⟩
            obtain ⟨h1, h2, h3, h4⟩ := h.out
            obtain ⟨rfl, rfl⟩ := h2.2.2 q HF.out (by rw [txt_data]; exact HY.out)
            exact ⟨a3, c3, rfl, h1, h4⟩
          go_wp2_with fail
          refine hpa.mono ?_
          clear hpa hps
          rintro e w10 ⟨a3, c3, rfl, H10⟩
          go_upto_region 10 with fail
          have k11 := H10.out.2.trans ((Keep.refl No w10).alloc (.cells #[.int .i64 q.client, .int .u64 q.token, .string q.name, .slice a3 q.args.length c3] 29))
          have L11 := Lib.hid (LayR.mk' H10.out.1)
          have M11 := Lib.hid (L9.out.more k11)
          have H11 := Lib.hid (And.intro (H9.out.1.more k11) (And.intro H9.out.2.1 (H9.out.2.2.more k11)))
          clear H9 H10 L9 k11
          generalize (w10.alloc (.cells #[.int .i64 q.client, .int .u64 q.token, .string q.name, .slice a3 q.args.length c3] 29)) = w11 at *
          generalize w10.heap.size = P2 at *
          have d0 := blk_cell H11.out.1.r0
          have d1 := blk_cell M11.out.r0
          have d2 := blk_cell L11.out.r0
          have he1 : Calls Tryz.prog 20 #[.agg #[.int .i64 q.client, .int .u64 q.token, .string q.name, .slice az q.args.length cz], .agg #[.int .i64 q.client, .int .u64 q.token, .string q.name, .slice a q.args.length c]] w11 fun e w12 => e = .returned (.bool true) ∧ w12.heap[P2]? = some (.cells #[.int .i64 q.client, .int .u64 q.token, .string q.name, .slice a3 q.args.length c3] 29 (0, 0)) ∧ w12.heap[R0]? = some (.cells #[.int .i64 q.client, .int .u64 q.token, .string q.name, .slice a q.args.length c] 29 (0, 0)) ∧ RowKit.Hid (TzW w q R0 a c w12 ∧ OwnB w4 w12 (.slice ab nb cb) X ∧ LayR q P2 a3 c3 w12) := by
            obtain ⟨S, r1⟩ := M11.out.rd
            obtain ⟨T, r2⟩ := H11.out.1.rd
            refine (rrqEqual_any w11 S T _ _ q q r1 r2).mono ?_
            rintro e w12 ⟨rfl, hk⟩
            exact ⟨by rw [(Req.eqb_iff _ _).2 rfl], (L11.out.more hk).r0, (H11.out.1.more hk).r0, H11.out.1.more hk, H11.out.2.2.more hk, L11.out.more hk⟩
          have HE2 : RowKit.Hid (∀ W, (TzW w q R0 a c W ∧ OwnB w4 W (.slice ab nb cb) X ∧ LayR q P2 a3 c3 W) → Calls Tryz.prog 20 #[.agg #[.int .i64 q.client, .int .u64 q.token, .string q.name, .slice a3 q.args.length c3], .agg #[.int .i64 q.client, .int .u64 q.token, .string q.name, .slice a q.args.length c]] W fun e w13 => e = .returned (.bool true) ∧ RowKit.Hid (TzW w q R0 a c w13 ∧ OwnB w4 w13 (.slice ab nb cb) X)) := fun W hW => by
            obtain ⟨S, r1⟩ := hW.2.2.rd
            obtain ⟨T, r2⟩ := hW.1.rd
            refine (rrqEqual_any W S T _ _ q q r1 r2).mono ?_
            rintro e w13 ⟨rfl, hk⟩
            exact ⟨by rw [(Req.eqb_iff _ _).2 rfl], hW.1.more hk, hW.2.1.more hk⟩
          have hxl : X.length ≤ 700 := by rw [HX.out]; exact Req.bytes_length HF.out.ck
          have hxp : 0 < X.length := List.length_pos_iff.2 (by rw [HX.out]; exact req_bytes_ne q HF.out.ck HF.out.inn)
          have hnb := H11.out.2.1
          have hn0 : ((nb : Int) == 0) = false := by simp; omega
          have HL := Lib.hid (And.intro hnb (And.intro hxl hxp))
          clear hnb hxl hxp H11 M11 L11
          go_upto_if 93 with (first | (go_at_call 12; refine (num_tz _ _).mono ?_; rintro e w20 ⟨rfl, rfl⟩) | (go_at_call 20; refine he1.mono ?_; clear he1 d0 d1 d2; rintro e w12 ⟨rfl, F2, F0, H12⟩; have d2 := blk_cell F2; have d0 := blk_cell F0) | (go_at_call 20; refine (HE2.out _ H12.out).mono ?_; clear HE2 d2 d0; rintro e w13 ⟨rfl, H13⟩))
          clear F2 F0 H12
          go_cut [14] (fun t wx => RowKit.Hid (TzW w q R0 a c wx ∧ OwnB w4 wx (.slice ab nb cb) X))
          case first =>
            by_cases hcut : 0 ≤ cut
            · have hnb := HL.out.1
              have hxp := HL.out.2.2
              obtain ⟨k, hk⟩ : ∃ k : Nat, cut.tmod (nb : Int) = (k : Int) := ⟨(cut.tmod nb).toNat, (Int.toNat_of_nonneg (Int.tmod_nonneg _ hcut)).symm⟩
              have hkl : k < nb := by have := Int.tmod_lt_of_pos cut (show (0 : Int) < nb by omega); omega
              have hk2 : cut % (nb : Int) = (k : Int) := by rw [← hk, Int.tmod_eq_emod_of_nonneg hcut]
              have ewk : IntKind.i64.wrap (k : Int) = k := wrap_i64 (by omega) (by have := HL.out.2.1; omega)
              have hcap : nb ≤ cb ∧ ∃ A : Addr, ab = some A ∧ Rd bytesSh w13 (Fr w4.heap.size w13.heap.size) [.slice (some A) k cb] (X.take k) := by
                obtain ⟨av, cv, hv, hle⟩ := Own.form H13.out.2.1
                simp only [Value.slice.injEq] at hv
                obtain ⟨rfl, h8, rfl⟩ := hv
                obtain ⟨av, cv, hv, hle', hmax, hnil, hel⟩ := bytes_at (Own.rd H13.out.2.1)
                simp only [Value.slice.injEq] at hv
                obtain ⟨rfl, -, rfl⟩ := hv
                obtain ⟨b, off, h1, -⟩ := hel 0 hxp
                refine ⟨by omega, _, h1, ?_⟩
                have := Own.rd H13.out.2.1
                rw [h1, ← List.take_append_drop k X] at this
                exact rd_front this (by rw [List.length_take]; omega)
              obtain ⟨hcb, A, rfl, hrd⟩ := hcap
              obtain ⟨a14, c14, w14, hrun, ho⟩ := clone_bytesApp w13 _ (.slice (some A) k cb) (X.take k) hrd (by rw [List.length_take]; have := HL.out.2.1; omega)
              have hlk : (X.take k).length = k := by rw [List.length_take]; omega
              rw [hlk] at hrun ho
              obtain ⟨z, er, at9, hz⟩ : ∃ z er at9, reqGet (X.take k) = (z, er, at9) := ⟨_, _, _, rfl⟩
              have hA : AllB (X.take k) := fun x hx => HAB.out x (List.mem_of_mem_take hx)
              have her : er ≠ 0 := by
                have := reqGet_pre q HF.out.ck HF.out.inn (k := k) (by rw [← HX.out]; omega) (by rw [← HX.out]; exact HAB.out)
                rw [← HX.out, hz] at this
                exact this
              have hget : Calls Tryz.prog 18 #[.slice a14 k c14] w14 (GivesZ w14 z er at9) := (rqGet_any w14 _ _ _ (Own.rd ho.1)).mono fun e w' h => givesZ hA hz h
              have h0 : (er == 0) = false := by simpa using her
              have H14 := Lib.hid (And.intro (H13.out.1.more ho.2) (H13.out.2.more ho.2))
              have k0 : (0 : Int) ≤ k := by omega
              have hz1 : ¬ (nb : Int) = 0 := by omega
              have hz2 : ¬ nb = 0 := by omega
              have k3 : (k : Int) ≤ cb := by omega
              clear hA hz her hrd ho hlk hkl hnb hxp hcb H13
              go_wp2_with (first | (go_at_call 12; refine (num_tz _ _).mono ?_; rintro e w20 ⟨rfl, rfl⟩) | (at_builtin; refine wpList_app rfl (.tmp 95) (.tmp 101) 25 25 rfl rfl rfl hrun ?_; clear hrun) | (go_at_call 18; refine hget.mono ?_; clear hget; rintro e w15 ⟨az5, cz5, rfl, H15⟩))
              go_meet
              case rel => exact ⟨H14.out.1.more H15.out.2, H14.out.2.more H15.out.2⟩
            · go_wp2_with fail
              go_meet
              case rel => exact H13.out
          case rest =>
            have H15 := Lib.hid hcut.out
            clear H13 hcut
            generalize wc = w15 at *
            obtain ⟨a16, c16, w16, hrun1, ho1⟩ := clone_bytesApp w15 _ (.slice ab nb cb) X (Own.rd H15.out.2.1) (by have := HL.out.2.1; omega)
            obtain ⟨a17, c17, w17, hrun2, ho2, hk2⟩ := own_bytes ho1.1 (HR.out.2.2.1.agree _ (H15.out.1.keep.trans ho1.2).agreeNo) (by have := HL.out.2.1; have := HR.out.2.2.2; omega)
            obtain ⟨n17, hn17⟩ : ∃ n17, X.length + tl.length = n17 := ⟨_, rfl⟩
            rw [hn17] at hrun2 ho2
            rw [← HL.out.1] at hrun1 hrun2
            have k17 : Keep No w15 w17 := ho1.2.then hk2 fun k hkw hf => by have := hf.1; omega
            have H17 := Lib.hid (H15.out.1.more k17)
            obtain ⟨z, er, at9, hz⟩ : ∃ z er at9, reqGet (X ++ tl) = (z, er, at9) := ⟨_, _, _, rfl⟩
            have hA : AllB (X ++ tl) := bytes_all (Own.rd ho2)
            have hget : Calls Tryz.prog 18 #[.slice a17 n17 c17] w17 (GivesZ w17 z er at9) := (rqGet_any w17 _ _ _ (Own.rd ho2)).mono fun e w' h => givesZ hA hz h
            obtain ⟨bt, hbt⟩ : ∃ bt, ((tl.length : Int) == 0) = bt := ⟨_, rfl⟩
            have h0 : (er == 0) = bt := by
              rw [← hbt]
              cases htl : tl with
              | nil =>
                rw [htl, List.append_nil, HX.out, reqGet_bytes q HF.out.ck HF.out.inn] at hz
                simp only [Prod.mk.injEq] at hz
                rw [← hz.2.1]
                rfl
              | cons x l =>
                have := reqGet_more q HF.out.ck HF.out.inn tl (by rw [htl]; simp)
                rw [← HX.out, hz] at this
                have h1 : (er == 0) = false := by simpa using this
                rw [h1]
                simp
                omega
            clear hA hz ho1 ho2 hk2 k17 hn17 H15
            go_wp2_with (first | (go_at_call 12; refine (num_tz _ _).mono ?_; rintro e w20 ⟨rfl, rfl⟩) | (at_builtin; first | (refine wpList_app rfl (.tmp 111) (.tmp 112) 25 25 rfl rfl rfl hrun1 ?_; clear hrun1) | (refine wpList_app rfl (.tmp 113) (.tmp 114) 25 25 rfl rfl rfl hrun2 ?_; clear hrun2)) | (go_at_call 18; refine hget.mono ?_; clear hget; rintro e w18 ⟨az5, cz5, rfl, H18⟩))
            go_meet
            case rel => exact H17.out.more H18.out.2
      case rest =>
        have H20 := Lib.hid hcut.out
        clear hcut H7 HK hok1
        generalize wc = w20 at *
        obtain ⟨a21, c21, w21, hrun1, ho1⟩ := clone_bytesApp w20 _ _ raw (HR.out.1.agree _ H20.out.keep.agreeNo) (by have := HR.out.2.1; omega)
        obtain ⟨z, er, at9, hz⟩ : ∃ z er at9, reqGet raw = (z, er, at9) := ⟨_, _, _, rfl⟩
        have hA : AllB raw := bytes_all HR.out.1
        have hget : Calls Tryz.prog 18 #[.slice a21 raw.length c21] w21 (GivesZ w21 z er at9) := (rqGet_any w21 _ _ _ (Own.rd ho1.1)).mono fun e w' h => givesZ hA hz h
        have hok := (reqGet_ok hA).2.2.2.2.2.2
        rw [hz] at hok
        have H21 := Lib.hid (H20.out.more ho1.2)
        have HZ := Lib.hid hok
        clear hA hz ho1 hok
        go_upto_region 20 with (first | (at_builtin; refine wpList_app rfl (.tmp 128) (.tmp 129) 25 25 rfl rfl rfl hrun1 ?_; clear hrun1) | (go_at_call 18; refine hget.mono ?_; clear hget; rintro e w22 ⟨az5, cz5, rfl, H22⟩))
        have k23 := H22.out.2.trans ((Keep.refl No w22).alloc (.cells #[.int .i64 z.client, .int .u64 z.token, .string z.name, .slice az5 z.args.length cz5] 29))
        have L23 := Lib.hid (LayR.mk' H22.out.1)
        have H23 := Lib.hid (H21.out.more k23)
        clear H22 H21 H20 k23
        generalize (w22.alloc (.cells #[.int .i64 z.client, .int .u64 z.token, .string z.name, .slice az5 z.args.length cz5] 29)) = w23 at *
        generalize w22.heap.size = P3 at *
        by_cases he : er = 0
        · subst he
          have hzz := HZ.out rfl
          have HZ2 := Lib.hid hzz
          clear hzz HZ
          have d3 := blk_cell L23.out.r0
          have hput : Calls Tryz.prog 16 #[.slice none 0 0, .agg #[.int .i64 z.client, .int .u64 z.token, .string z.name, .slice az5 z.args.length cz5]] w23 fun e w24 => ∃ a5 n5 k5, e = .returned (.tuple #[.slice a5 n5 k5, .int .i64 0]) ∧ RowKit.Hid (TzW w q R0 a c w24 ∧ OwnB w23 w24 (.slice a5 n5 k5) raw) := by
            obtain ⟨S, hr⟩ := L23.out.rd
            have := rqPut_any w23 S No (.slice none 0 0) [] (rd_nil _ _ _) (by simp) _ z hr (by
              obtain ⟨-, -, h3, -⟩ := (Req.check_iff z).1 HZ2.out.2
              have := nameOk_size h3
              omega)
            rw [List.nil_append, if_pos HZ2.out.2, HZ2.out.2] at this
            have e9 : z.bytes = raw := HZ2.out.1.symm
            rw [e9] at this
            refine this.mono ?_
            rintro e w24 ⟨a5, n5, k5, rfl, ho⟩
            exact ⟨a5, n5, k5, rfl, H23.out.more ho.2, ho⟩
          go_upto_region 23 with (first | (go_at_call 12; refine (num_tz _ _).mono ?_; rintro e w20 ⟨rfl, rfl⟩) | (go_at_call 16; refine hput.mono ?_; clear hput d3; rintro e w24 ⟨a5, n5, k5, rfl, H24⟩))
          have e1 := run_string_back (P := Tryz.prog) 25 9 5 a5 k5 n5 Tryz.underlying25 Tryz.underlying5 Tryz.underlying9 (Own.rd H24.out.2.1)
          have e2 := run_string_back (P := Tryz.prog) 25 9 5 ar cr raw.length Tryz.underlying25 Tryz.underlying5 Tryz.underlying9 (HR.out.1.agree _ H24.out.1.keep.agreeNo)
          generalize textOf raw = tX at *
          have hl := (live9_any w24 H24.out.1.tab).mono (R' := fun e w' => e = .returned (.bool true) ∧ RowKit.Hid (Keep No w w')) (by
            rintro e w' ⟨rfl, hk⟩
            exact ⟨rfl, H24.out.1.keep.trans hk⟩)
          go_wp2_with (first | (go_at_call 12; refine (num_tz _ _).mono ?_; rintro e w20 ⟨rfl, rfl⟩) | (go_at_call 13; refine hl.mono ?_; clear hl; rintro e w25 ⟨rfl, H25⟩))
          go_ret
          exact ⟨rfl, H25.out⟩
        · have he' : (er != 0) = true := by simpa using he
          have hl := (live9_any w23 H23.out.tab).mono (R' := fun e w' => e = .returned (.bool true) ∧ RowKit.Hid (Keep No w w')) (by
            rintro e w' ⟨rfl, hk⟩
            exact ⟨rfl, H23.out.keep.trans hk⟩)
          go_wp2_with (first | (go_at_call 12; refine (num_tz _ _).mono ?_; rintro e w20 ⟨rfl, rfl⟩) | (go_at_call 13; refine hl.mono ?_; clear hl; rintro e w24 ⟨rfl, H24⟩))
          go_ret
          exact ⟨rfl, H24.out⟩
end Go.Proofs.YtpjcebajkfeacaaGreatDoor
namespace Go.Proofs.YtpjcebajkfeacaaGreatDoor
open Go Go.RowKit Go.Deep
theorem RequestBack_calls (w : World) (ht : Tab w ∧ Errs w) (cs : List Value) (q : Req) (hq : Rd requestSh w (Lt w.heap.size) cs q) (bq : requestSh.bulk q ≤ 1048576) (v1 : Value) (x1 : Bytes) (h1 : Rd bytesSh w (Lt w.heap.size) [v1] x1) (b1 : bytesSh.bulk x1 ≤ 1048576)
    (x2 : Int) (w2 : (Lit.int .i64 x2).wf = true) (v3 : Value) (x3 : Bytes) (h3 : Rd bytesSh w (Lt w.heap.size) [v3] x3) (b3 : bytesSh.bulk x3 ≤ 1048576) :
    Calls Tryz.prog 11 #[.agg cs.toArray, v1, .int .i64 x2, v3] w fun e w' => e = .returned (.bool true) ∧ Keep No w w' := by
  obtain ⟨a1, c1, e1, -⟩ := id h1
  obtain ⟨a3, c3, e3, -⟩ := id h3
  obtain ⟨a, c, rfl, -⟩ := req_cells hq
  simp only [List.cons.injEq, and_true] at e1 e3
  subst e1
  subst e3
  have hw : -9223372036854775808 ≤ x2 ∧ x2 ≤ 9223372036854775807 := by
    simp [Lit.wf, IntKind.min, IntKind.max, IntKind.signed, IntKind.bits] at w2; omega
  exact RequestBack_main w ht.1 ht.2 q _ a c hq (req_small bq) x1 x3 a1 a3 c1 c3 _ _ h1 (bytes_len x1 b1) h3 (bytes_len x3 b3) x2 hw
end Go.Proofs.YtpjcebajkfeacaaGreatDoor
