/-
  Parts of what is proved for this claim; each declaration is one of the seat's texts.
-/
import Derived.Test.YtpjcebajkfeacaaGreatDoorWGA
import Derived.Test.YtpjcebajkfeacaaGreatDoorWGB
import Derived.Test.YtpjcebajkfeacaaGreatDoorWGC
import Derived.Test.YtpjcebajkfeacaaGreatDoorWGD
import Derived.Test.YtpjcebajkfeacaaGreatDoorWGF
import Derived.Test.YtpjcebajkfeacaaGreatDoorWGJ
import Derived.Test.YtpjcebajkfeacaaGreatDoorWGK
import Derived.Test.YtpjcebajkfeacaaGreatDoorWGL
import Derived.Test.YtpjcebajkfeacaaGreatDoorWGU
import Derived.Test.YtpjcebajkfeacaaGreatDoorWGX
import Derived.Test.YtpjcebajkfeacaaGreatDoorWHB
import Derived.Test.YtpjcebajkfeacaaGreatDoorWHD
import Derived.Test.YtpjcebajkfeacaaGreatDoorWHF
import Derived.Test.YtpjcebajkfeacaaGreatDoorWHL
import Derived.Test.YtpjcebajkfeacaaGreatDoorWHN
import Derived.Test.YtpjcebajkfeacaaGreatDoorWHQ
import Derived.Test.YtpjcebajkfeacaaGreatDoorWHR
import Derived.Test.YtpjcebajkfeacaaGreatDoorWHT
import Derived.Test.YtpjcebajkfeacaaGreatDoorWHU
import Derived.Test.YtpjcebajkfeacaaGreatDoorWHW
import Derived.Test.YtpjcebajkfeacaaGreatDoorWIA
import Derived.Test.YtpjcebajkfeacaaGreatDoorWIB
import Derived.Test.YtpjcebajkfeacaaGreatDoorWIC
import Derived.Test.YtpjcebajkfeacaaGreatDoorWIE
import Derived.Still
import Derived.StillTactics
import Derived.WalkKit
import Derived.Recover
import Derived.Defers
import Derived.Deep.QuietTactic
import Derived.BigQuiet
import Derived.Handy
import Derived.Laws.Bits64b
import Derived.Lib.Zigzag
import Derived.WalkSpells
import Derived.WalkLawsBesides
import Derived.ProofKit
import Derived.Deep.Slices
import Derived.Deep.AppendSrc
import Derived.Lib.Hide
import Derived.Lib.EndianBits
import Derived.OpenShut
import Derived.Deep.LoopGhost
import Derived.Deep.DeepCutAuto
import Derived.OwnWalk
import Derived.Lib.Bytealg
import Derived.Laws.Externs
import Derived.Laws.CopyRow
import Derived.Laws.IdiomCopy
import Derived.Maps.OwnSet
import Derived.Maps.RangeWalk
import Derived.Shelf.SortM.Plain
import Derived.Shelf.SortM.SortNone
import Derived.Ground.SlgmProg
import Derived.Maps.OwnOps
import Derived.Lib.ItoaNum
import Derived.Lib.Join
import Derived.Deep.WholeRow
import Derived.Shelf.Strconv.Itoa4
import Derived.Shelf.Strings.BuilderK
import Derived.Shelf.Strings.OnBuilder
import Derived.Ground.NamesProg
import Derived.Lib.AppendIntMem
import Derived.Lib.UnsafeStr
import Derived.Maps.Views
import Derived.Lib.VarintBits
set_option linter.unusedVariables false
set_option linter.unusedSimpArgs false
namespace Go.Proofs.YtpjcebajkfeacaaGreatDoor
open Go Go.RowKit Go.Deep
theorem rq_in {w : World} {S : Nat → Prop} {cs : List Value} {q : Req} (h : Rd requestSh w S cs q) : q.In := by
  obtain ⟨a, c, rfl, h4, w1, w2, w3⟩ := req_cells h
  simp [Lit.wf, IntKind.min, IntKind.max, IntKind.signed, IntKind.bits] at w1 w2
  refine ⟨by omega, by omega, by omega, by omega, fun v hv => ?_⟩
  obtain ⟨i, hi, rfl⟩ := List.getElem_of_mem hv
  obtain ⟨b, off, -, -, -, -, -, -, h, -⟩ := vals_get h4 i hi
  exact h
structure WhI (w : World) (l : List Req) (k : Nat) (ab : Option Addr) (mb cb : Nat) (aw : Option Addr) (mw cw : Nat) (W : World) : Prop where
  b : WhB w (.slice ab mb cb) ((l.take k).flatMap Req.sealed) (.slice aw mw cw) ((l.take k).filter fun q => decide (q.check = 0)) W
  mb : mb = ((l.take k).flatMap Req.sealed).length
  mw : mw = ((l.take k).filter fun q => decide (q.check = 0)).length
theorem sealed_all (l : List Req) (k : Nat) : ((l.take k).flatMap Req.sealed).length ≤ 1032 * k := by
  induction k with
  | zero => simp
  | succ k ih =>
    by_cases h : k < l.length
    · have := sealed_len l[k]
      rw [List.take_succ_eq_append_getElem h, List.flatMap_append]
      simp only [List.length_append, List.flatMap_cons, List.flatMap_nil, List.append_nil]
      omega
    · rw [List.take_of_length_le (by omega)]
      rw [List.take_of_length_le (by omega)] at ih
      omega
theorem filter_all (l : List Req) (k : Nat) : ((l.take k).filter fun q => decide (q.check = 0)).length ≤ k :=
  Nat.le_trans (List.length_filter_le _ _) (by rw [List.length_take]; omega)
theorem take_sealed (l : List Req) (u : Nat) (h : u < l.length) : (l.take (u + 1)).flatMap Req.sealed = (l.take u).flatMap Req.sealed ++ l[u].sealed := by
  rw [List.take_succ_eq_append_getElem h, List.flatMap_append]
  simp
theorem take_ok (l : List Req) (u : Nat) (h : u < l.length) (hc : l[u].check = 0) : ((l.take (u + 1)).filter fun q => decide (q.check = 0)) = ((l.take u).filter fun q => decide (q.check = 0)) ++ [l[u]] := by
  rw [List.take_succ_eq_append_getElem h, List.filter_append]
  simp [hc]
theorem take_no (l : List Req) (u : Nat) (h : u < l.length) (hc : ¬ l[u].check = 0) : ((l.take (u + 1)).filter fun q => decide (q.check = 0)) = ((l.take u).filter fun q => decide (q.check = 0)) := by
  rw [List.take_succ_eq_append_getElem h, List.filter_append]
  simp [hc]
theorem allF_cut : ∀ (f : Nat) (l : Bytes), (allF f l).1.length + (allF f l).2.1.length ≤ l.length ∧ (allF f l).2.1.length + (allF f l).2.2 ≤ l.length
  | 0, l => by simp [allF]
  | f + 1, l => by
    have ih := allF_cut f (nextB l).2.1
    have hn := nextB_len l
    rw [allF_succ]
    cases hb : (nextB l).1.2.2 with
    | true =>
      have ht := next_took hb
      rw [if_pos rfl]
      simp only [List.length_cons]
      omega
    | false =>
      rw [if_neg (by simp)]
      simp only [List.length_nil]
      omega
structure WhJ (w0 : World) (s : Nat) (B : Bytes) (ab : Option Addr) (mb cb : Nat) (a : Option Addr) (m c : Nat) (W : World) : Prop where
  ex : ∃ T rest acc cur n col, WhW w0 s col cur n (.slice a m c) (acc.map Prod.fst) W ∧ Asked T acc cur n ∧ Idle cur ∧ n + cur.length ≤ T.length ∧ acc.length + cur.length ≤ T.length ∧ m = acc.length ∧ T ++ rest = B ∧ mb = rest.length ∧ ∃ S, Rd bytesSh w0 S [.slice ab mb cb] rest
set_option maxRecDepth 10000 in
set_option maxHeartbeats 4000000 in
theorem RequestWhole_main (w : World) (ht : Tab w) (a0 : Option Addr) (n0 c0 : Nat) (l : List Req) (h0 : Rd (.slice requestSh) w (Lt w.heap.size) [.slice a0 n0 c0] l) (hs : ∀ q ∈ l, q.Small) (b0 : n0 ≤ 1048576)
    (a1 : Option Addr) (n1 c1 : Nat) (cuts : List Int) (h1 : Rd (.slice (.int .i64)) w (Lt w.heap.size) [.slice a1 n1 c1] cuts) (b1 : n1 ≤ 1048576) :
    Calls Tryz.prog 9 #[.slice a0 n0 c0, .slice a1 n1 c1] w fun e w' => e = .returned (.bool true) ∧ Keep No w w' := by
  have hn0 : n0 = l.length := by
    obtain ⟨a', c', e, -⟩ := h0
    simp only [List.cons.injEq, Value.slice.injEq, and_true] at e
    exact e.2.1
  have hn1 : n1 = cuts.length := by
    obtain ⟨a', c', e, -⟩ := h1
    simp only [List.cons.injEq, Value.slice.injEq, and_true] at e
    exact e.2.1
  have hin : ∀ q ∈ l, q.In := fun q hq => by
    obtain ⟨i, hi, rfl⟩ := List.getElem_of_mem hq
    obtain ⟨b, off, aa, ca, -, -, -, -, -, h⟩ := reqs_get h0 i hi
    exact rq_in h
  have HLV := Lib.hid (fun (W : World) (hK : Keep No w W) => ((live9_any W (ht.keep hK)).mono (by
    rintro e w' ⟨rfl, hk⟩
    exact ⟨rfl, hK.trans hk⟩) : Calls Tryz.prog 13 #[] W (fun e w' => e = .returned (.bool true) ∧ RowKit.Hid (Keep No w w'))))
  have HP := Lib.hid (And.intro h0 (And.intro hs (And.intro hin (And.intro hn0 b0))))
  have HC := Lib.hid (And.intro h1 (And.intro hn1 b1))
  have bn0 : (n0 : Int) ≤ 1048576 := by omega
  have bn1 : (n1 : Int) ≤ 1048576 := by omega
  clear ht h0 hs b0 h1 b1 hn0 hn1 hin
  go_enter Tryz.func9, Tryz.ntmps9
  go_wp2_with fail
  go_loopg [5, 6] 101 (fun g x i wr => ∃ k : Nat, k ≤ n0 ∧ k ≤ 101 ∧ g = 101 - k ∧ x = .int .i64 k ∧ i = .int .i64 k ∧ RowKit.Hid (Keep No w wr))
  case atStart => exact ⟨0, by omega, by omega, by omega, rfl, rfl, Keep.refl _ _⟩
  case round =>
    obtain ⟨k, hk, hk2, rfl, rfl, rfl, HK⟩ := hrel
    have j0 : (0 : Int) ≤ (k : Int) := by omega
    by_cases hlt : k < n0 ∧ k ≤ 100
    · have j1 : (k : Int) < (n0 : Int) := by omega
      have j2 : (k : Int) ≤ 100 := by omega
      have hkl : k < l.length := by have := HP.out.2.2.2.1; omega
      obtain ⟨b, off, aa, ca, rfl, p0, p1, p2, p3, hr⟩ := reqs_get (HP.out.1.agree _ HK.out.agreeNo) k hkl
      have hsm := HP.out.2.1 l[k] (List.getElem_mem hkl)
      obtain ⟨q, hq⟩ : ∃ q, l[k] = q := ⟨_, rfl⟩
      rw [hq] at p0 p1 p2 p3 hr hsm
      have HL := Lib.hid hlt
      have hlong := (long9_any wr _ _ q hr hsm).mono (R' := fun e w2 => ∃ b, e = .returned (.bool b) ∧ RowKit.Hid (Keep No w w2)) (by
        rintro e w2 ⟨b, rfl, hk⟩
        exact ⟨b, rfl, HK.out.trans hk⟩)
      clear hlt hkl hq hr hsm hk hk2
      go_wp2_with (first | (go_at_call 14; refine hlong.mono ?_; clear hlong p0 p1 p2 p3; rintro e w2 ⟨bad, rfl, H2⟩; cases bad) | (go_at_call 13; refine (HLV.out _ H2.out).mono ?_; rintro e w3 ⟨rfl, H3⟩))
      · go_roundg (101 - (k + 1))
        case measure => have := HL.out; omega
        case rel => exact ⟨k + 1, by have := HL.out; omega, by have := HL.out; omega, rfl, by simp, by simp, H2.out⟩
      · go_ret
        exact ⟨rfl, H3.out⟩
    · by_cases h100 : k ≤ 100
      · obtain rfl : k = n0 := by omega
        have j1 : (k : Int) ≤ 100 := by omega
        by_cases h300 : n1 ≤ 300
        · have j3 : (n1 : Int) ≤ 300 := by omega
          have HB := Lib.hid (And.intro h100 h300)
          clear hlt h100 h300 hk hk2
          have H0 : RowKit.Hid (WhI w l 0 none 0 0 none 0 0 wr) := ⟨by simpa using (WhB.nil w).more HK.out, by simp, by simp⟩
          clear HK
          generalize wr = w1 at *
          go_wp2_with fail
          go_loopg [7, 8, 9] k (fun g vb vw i wr => ∃ u : Nat, u ≤ k ∧ g = k - u ∧ i = .int .i64 u ∧ ∃ ab mb cb aw mw cw, vb = .slice ab mb cb ∧ vw = .slice aw mw cw ∧ RowKit.Hid (WhI w l u ab mb cb aw mw cw wr))
          case atStart => exact ⟨0, by omega, by omega, rfl, none, 0, 0, none, 0, 0, rfl, rfl, H0.out⟩
          case round =>
            clear H0
            obtain ⟨u, hu, rfl, rfl, ab, mb, cb, aw, mw, cw, rfl, rfl, HI⟩ := hrel
            have i0 : (0 : Int) ≤ (u : Int) := by omega
            by_cases hlt : u < k
            · have i1 : (u : Int) < (k : Int) := by omega
              have hul : u < l.length := by have := HP.out.2.2.2.1; omega
              obtain ⟨b, off, aa, ca, rfl, p0, p1, p2, p3, hr⟩ := reqs_get (HP.out.1.agree _ HI.out.b.keep.agreeNo) u hul
              have HPG := Lib.hid (fun (W : World) (hK : Keep No w W) => (by
                obtain ⟨b', off', aa', ca', e, x0, x1, x2, x3, hr'⟩ := reqs_get (HP.out.1.agree _ hK.agreeNo) u hul
                cases e
                exact ⟨aa', ca', x0, x1, x2, x3, hr'⟩ : ∃ aa ca, W.cell? ⟨b, off + u * 4, none⟩ = some (.int .i64 l[u].client) ∧ W.cell? ⟨b, off + u * 4 + 1, none⟩ = some (.int .u64 l[u].token) ∧ W.cell? ⟨b, off + u * 4 + 2, none⟩ = some (.string l[u].name) ∧ W.cell? ⟨b, off + u * 4 + 3, none⟩ = some (.slice aa l[u].args.length ca) ∧
                  Rd requestSh W (Lt w.heap.size) [.int .i64 l[u].client, .int .u64 l[u].token, .string l[u].name, .slice aa l[u].args.length ca] l[u]))
              have hsm := HP.out.2.1 l[u] (List.getElem_mem hul)
              have ts := take_sealed l u hul
              have tk := take_ok l u hul
              have tn := take_no l u hul
              obtain ⟨q, hq⟩ : ∃ q, l[u] = q := ⟨_, rfl⟩
              rw [hq] at p0 p1 p2 p3 hr hsm HPG ts tk tn
              have how := (own9_any wr _ _ q hr hsm.args).mono (R' := fun e w5 => ∃ ag cg, e = .returned (.agg #[.int .i64 q.client, .int .u64 q.token, .string q.name, .slice ag q.args.length cg]) ∧ RowKit.Hid ((∃ S, Rd requestSh w5 S [.int .i64 q.client, .int .u64 q.token, .string q.name, .slice ag q.args.length cg] q) ∧ Keep No wr w5)) (by
                rintro e w5 ⟨ag, cg, rfl, h⟩
                exact ⟨ag, cg, rfl, ⟨_, h.out.1⟩, h.out.2⟩)
              have HU := Lib.hid (And.intro hlt (And.intro hsm.name (And.intro ts (And.intro tk (And.intro tn (show u ≤ 100 by have := HB.out.1; omega))))))
              clear hlt hul hq hr hsm ts tk tn hu
              go_wp2_with (go_at_call 15; refine how.mono ?_; clear how p0 p1 p2 p3; rintro e w5 ⟨ag, cg, rfl, H5⟩)
              have hseal : Calls Tryz.prog 36 #[.agg #[.int .i64 q.client, .int .u64 q.token, .string q.name, .slice ag q.args.length cg]] w5 fun e w6 => ∃ a6 n6 c6, e = .returned (.tuple #[.slice a6 n6 c6, .int .i64 q.check]) ∧ RowKit.Hid (OwnB w5 w6 (.slice a6 n6 c6) q.sealed ∧ WhI w l u ab mb cb aw mw cw w6) := by
                obtain ⟨S, hr⟩ := H5.out.1
                refine (rqSeal_any w5 S _ q hr (by have := HU.out.2.1; omega)).mono ?_
                rintro e w6 ⟨a6, n6, c6, rfl, ho⟩
                exact ⟨a6, n6, c6, rfl, ho, HI.out.b.more (H5.out.2.trans ho.2), HI.out.mb, HI.out.mw⟩
              refine hseal.mono ?_
              clear hseal H5 HI
              rintro e w6 ⟨a6, n6, c6, rfl, H6⟩
              by_cases hc : q.check = 0
              · rw [hc]
                obtain ⟨a7, c7, w7, hrun7, H7⟩ : ∃ a7 c7 w7, (Builtin.append_ #[25, 25] 25 #[.slice ab mb cb, .slice a6 n6 c6]).run Tryz.prog w6 = .ok (.slice a7 (mb + n6) c7) w7 ∧
                    RowKit.Hid (WhB w (.slice a7 (mb + n6) c7) ((l.take (u + 1)).flatMap Req.sealed) (.slice aw mw cw) ((l.take u).filter fun q => decide (q.check = 0)) w7 ∧ mb + n6 = ((l.take (u + 1)).flatMap Req.sealed).length ∧ mw = ((l.take u).filter fun q => decide (q.check = 0)).length) := by
                  have hi := H6.out.2
                  have hn := H6.out.1.len
                  have := sealed_all l u
                  have := sealed_len q
                  have hu := HU.out.2.2.2.2.2
                  obtain ⟨a7, c7, w7, hrun, hq⟩ := hi.b.bytes H6.out.1.rd (by omega)
                  rw [← hi.mb, ← hn] at hrun hq
                  refine ⟨a7, c7, w7, hrun, ?_⟩
                  rw [HU.out.2.2.1]
                  exact ⟨hq.out, by rw [List.length_append, ← hi.mb, ← hn], hi.mw⟩
                clear H6
                obtain ⟨aa', ca', p0, p1, p2, p3, hr⟩ := HPG.out w7 H7.out.1.keep
                have K8 := (Keep.refl No w7).alloc (.cells #[.int .i64 q.client, .int .u64 q.token, .string q.name, .slice aa' q.args.length ca'] 29)
                have b8 := blk_new w7 (.cells #[.int .i64 q.client, .int .u64 q.token, .string q.name, .slice aa' q.args.length ca'] 29)
                obtain ⟨a9, c9, w9, hrun9, H9⟩ : ∃ a9 c9 w9, (Builtin.append_ #[65, 65] 65 #[.slice aw mw cw, .slice (some ⟨w7.heap.size, 0, none⟩) 1 1]).run Tryz.prog (w7.alloc (.cells #[.int .i64 q.client, .int .u64 q.token, .string q.name, .slice aa' q.args.length ca'] 29)) = .ok (.slice a9 (mw + 1) c9) w9 ∧
                    RowKit.Hid (WhI w l (u + 1) a7 (mb + n6) c7 a9 (mw + 1) c9 w9) := by
                  have hfl := filter_all l u
                  have hu := HU.out.2.2.2.2.2
                  obtain ⟨a9, c9, w9, hrun, hq⟩ := (H7.out.1.more K8).req b8 (hr.agree requestSh K8.agreeNo) (by omega)
                  rw [← H7.out.2.2] at hrun hq
                  refine ⟨a9, c9, w9, hrun, ?_, H7.out.2.1, ?_⟩
                  · rw [HU.out.2.2.2.1 hc]; exact hq.out
                  · rw [HU.out.2.2.2.1 hc, List.length_append, ← H7.out.2.2]; rfl
                clear K8 b8 hr H7 hc
                go_upto_region 18 with (first | (go_at_call 12; refine (num9_eq _ _).mono ?_; rintro e w20 ⟨rfl, rfl⟩) | (at_builtin; refine wpList_app rfl (.tmp 64) (.tmp 65) 25 25 rfl rfl rfl hrun7 ?_; clear hrun7))
                go_wp2_with (at_builtin; refine wpList_app rfl (.tmp 67) (.tmp 72) 65 65 rfl rfl rfl hrun9 ?_; clear hrun9 p0 p1 p2 p3)
                go_roundg (k - (u + 1))
                case measure => have := HU.out.1; omega
                case rel => exact ⟨u + 1, HU.out.1, rfl, by simp, a7, mb + n6, c7, a9, mw + 1, c9, rfl, rfl, H9.out⟩
              · have H7 : RowKit.Hid (WhI w l (u + 1) ab mb cb aw mw cw w6) := by
                  have hi := H6.out.2
                  have e1 : (l.take (u + 1)).flatMap Req.sealed = (l.take u).flatMap Req.sealed := by rw [HU.out.2.2.1, Req.sealed, if_neg hc, List.append_nil]
                  have e2 := HU.out.2.2.2.2.1 hc
                  refine ⟨?_, ?_, ?_⟩
                  · rw [e1, e2]; exact hi.b
                  · rw [e1]; exact hi.mb
                  · rw [e2]; exact hi.mw
                clear H6
                go_wp2_with (go_at_call 12; refine (num9_eq _ _).mono ?_; rintro e w20 ⟨rfl, rfl⟩)
                go_roundg (k - (u + 1))
                case measure => have := HU.out.1; omega
                case rel => exact ⟨u + 1, HU.out.1, rfl, by simp, ab, mb, cb, aw, mw, cw, rfl, rfl, H7.out⟩
            · have i1 : ¬ (u : Int) < (k : Int) := by omega
              obtain rfl : u = k := by omega
              obtain ⟨B, hB⟩ : ∃ B, l.flatMap Req.sealed = B := ⟨_, rfl⟩
              obtain ⟨WL, hWL⟩ : ∃ WL, (l.filter fun q => decide (q.check = 0)) = WL := ⟨_, rfl⟩
              have HW : RowKit.Hid (Keep No w wr ∧ (∃ S, Rd bytesSh wr S [.slice ab mb cb] B) ∧ mb = B.length ∧ (∃ S, Rd (.slice requestSh) wr S [.slice aw mw cw] WL) ∧ mw = WL.length ∧ B.length ≤ 103200 ∧ WL.length ≤ 100) := by
                have hlu : l.take u = l := List.take_of_length_le (by have := HP.out.2.2.2.1; omega)
                obtain ⟨⟨hk, Sb, Sw, hx1, hx2, -⟩, h1, h2⟩ := HI.out
                have h3 := sealed_all l u
                have h4 := filter_all l u
                have h5 := HB.out.1
                rw [hlu, hB] at hx1 h1 h3
                rw [hlu, hWL] at hx2 h2 h4
                exact ⟨hk, ⟨_, Own.rd hx1⟩, h1, ⟨_, hx2.rd⟩, h2, by omega, by omega⟩
              have HX := Lib.hid (And.intro hB hWL)
              clear hB hWL HI hu hlt
              generalize wr = w0 at *
              have hnew := (newStream_any w0).mono (R' := fun e w3 => e = .returned (.pointer (some ⟨w0.heap.size, 0, none⟩)) ∧ w3 = w0.alloc (.cells #[.slice none 0 0, .int .i64 0] 144)) (by
                rintro e w3 ⟨rfl, rfl⟩
                exact ⟨rfl, rfl⟩)
              go_upto_region 20 with (go_at_call 30; refine hnew.mono ?_; clear hnew; rintro e w3 ⟨rfl, rfl⟩)
              have H3 : RowKit.Hid (WhJ w0 w0.heap.size B ab mb cb none 0 0 (w0.alloc (.cells #[.slice none 0 0, .int .i64 0] 144))) := by
                obtain ⟨col0, hst⟩ := WhW.start (w := w0)
                exact ⟨[], B, [], [], 0, col0, hst, Asked.nil, Idle.nil, by simp, by simp, rfl, rfl, HW.out.2.2.1, HW.out.2.1⟩
              generalize (w0.alloc (.cells #[.slice none 0 0, .int .i64 0] 144)) = w3 at *
              generalize w0.heap.size = s at *
              go_wp2_with fail
              go_loopg [7, 13, 14] (n1 + 1) (fun g vb va i wx => ∃ v : Nat, v ≤ n1 + 1 ∧ g = n1 + 1 - v ∧ i = .int .i64 v ∧ ∃ ab mb cb a m c, vb = .slice ab mb cb ∧ va = .slice a m c ∧ (v ≤ n1 ∨ mb = 0) ∧ RowKit.Hid (WhJ w0 s B ab mb cb a m c wx))
              case atStart => exact ⟨0, by omega, by omega, rfl, ab, mb, cb, none, 0, 0, rfl, rfl, .inl (Nat.zero_le _), H3.out⟩
              case round =>
                clear H3
                obtain ⟨v, hv, rfl, rfl, ab, mb, cb, a, m, c, rfl, rfl, hvz, HJ⟩ := hrel
                have i2 : (0 : Int) ≤ (v : Int) := by omega
                by_cases hmb : 0 < mb
                · have i3 : (0 : Int) < (mb : Int) := by omega
                  have hv1 : v ≤ n1 := by omega
                  have hbc : mb ≤ cb ∧ ∃ b off, ab = some ⟨b, off, none⟩ := by
                    obtain ⟨T, rest, acc, cur, n, col, hw, hA, hI, hn1, hac, hm, hTr, hmr, S, hrd⟩ := HJ.out.ex
                    obtain ⟨a', c', hv, hle, hmax, hnil, hel⟩ := bytes_at hrd
                    simp only [Value.slice.injEq] at hv
                    obtain ⟨rfl, -, rfl⟩ := hv
                    obtain ⟨b, off, e, -⟩ := hel 0 (by omega)
                    exact ⟨by omega, b, off, e⟩
                  obtain ⟨hcb, bb, bo, rfl⟩ := hbc
                  have hmt : mb ≤ 103200 := by
                    obtain ⟨T, rest, acc, cur, n, col, hw, hA, hI, hn1, hac, hm, hTr, hmr, S, hrd⟩ := HJ.out.ex
                    have h1 := HW.out.2.2.2.2.2.1
                    rw [← hTr, List.length_append] at h1
                    omega
                  have HV := Lib.hid (And.intro hv1 (And.intro hcb (And.intro hmt hmb)))
                  have i4 : (mb : Int) ≤ 103200 := by omega
                  clear hvz hv hmb hcb hmt hv1
                  go_upto_region 27 with fail
                  go_cut [102] (fun t wx => ∃ bad, t = .bool bad ∧ wx = wr ∧ (bad = true → ∃ (kc : Nat) (h : v < cuts.length), cuts[v] = (kc : Int) ∧ kc ≤ mb ∧ v < n1) ∧ (bad = false → True))
                  case first =>
                    by_cases hvn : v < n1
                    · have i5 : (v : Int) < (n1 : Int) := by omega
                      have hkw : Keep No w wr := by
                        obtain ⟨T, rest, acc, cur, n, col, hw, -⟩ := HJ.out.ex
                        exact HW.out.1.trans hw.keep
                      have hvl : v < cuts.length := by have := HC.out.2.1; omega
                      obtain ⟨b, off, rfl, -, -, p0, -⟩ := ints_get (HC.out.1.agree _ hkw.agreeNo) v hvl
                      obtain ⟨cv, hcv⟩ : ∃ cv, cuts[v] = cv := ⟨_, rfl⟩
                      rw [hcv] at p0
                      have HN := Lib.hid (show v < n1 ∧ ∃ h : v < cuts.length, cuts[v] = cv from ⟨hvn, hvl, hcv⟩)
                      clear hvn hkw hvl hcv
                      by_cases hc0 : 0 ≤ cv
                      · by_cases hcm : cv < (mb : Int)
                        · obtain ⟨kc, rfl⟩ : ∃ kc : Nat, cv = (kc : Int) := ⟨cv.toNat, by omega⟩
                          have HN2 := Lib.hid (show kc ≤ mb by omega)
                          go_wp2_with fail
                          go_meet
                          case rel => exact ⟨_, rfl, rfl, fun _ => ⟨kc, HN.out.2.1, HN.out.2.2, HN2.out, HN.out.1⟩, fun _ => trivial⟩
                        · go_wp2_with fail
                          go_meet
                          case rel => exact ⟨_, rfl, rfl, (fun h => by first | cases h | (exfalso; simp at h; omega)), fun _ => trivial⟩
                      · go_wp2_with fail
                        go_meet
                        case rel => exact ⟨_, rfl, rfl, (fun h => by first | cases h | (exfalso; simp at h; omega)), fun _ => trivial⟩
                    · have i5 : ¬ (v : Int) < (n1 : Int) := by omega
                      clear hvn
                      go_wp2_with fail
                      go_meet
                      case rel => exact ⟨_, rfl, rfl, (fun h => by first | cases h | (exfalso; simp at h; omega)), fun _ => trivial⟩
                  case rest =>
                    obtain ⟨bad, rfl, rfl, hbad, -⟩ := hcut
                    have HBD := Lib.hid hbad
                    clear hbad
                    generalize wc = wr at *
                    go_upto_if 102 with fail
                    go_cut [15] (fun t wx => ∃ kk : Nat, t = .int .i64 kk ∧ kk ≤ mb ∧ (n1 ≤ v → kk = mb) ∧ wx = wr)
                    case first =>
                      cases bad with
                      | true =>
                        obtain ⟨kc, hvl, hcv, hkm, hvn⟩ := HBD.out rfl
                        have hkw : Keep No w wr := by
                          obtain ⟨T, rest, acc, cur, n, col, hw, -⟩ := HJ.out.ex
                          exact HW.out.1.trans hw.keep
                        obtain ⟨b, off, rfl, -, -, p0, -⟩ := ints_get (HC.out.1.agree _ hkw.agreeNo) v hvl
                        rw [hcv] at p0
                        have i5 : (v : Int) < (n1 : Int) := by omega
                        have HN2 := Lib.hid (And.intro hkm hvn)
                        clear hcv hvl hkm hvn hkw
                        go_wp2_with fail
                        go_meet
                        case rel => exact ⟨kc, rfl, HN2.out.1, fun h => by have := HN2.out.2; omega, rfl⟩
                      | false =>
                        go_wp2_with fail
                        go_meet
                        case rel => exact ⟨mb, rfl, Nat.le_refl _, fun _ => rfl, rfl⟩
                    case rest =>
                      obtain ⟨kk, rfl, hkk, hkl, rfl⟩ := hcut
                      first | generalize wc = w4 at * | generalize wr = w4 at *
                      obtain ⟨T, rest, acc, cur, n, col, hw, hA, hI, hn1, hac, hm, hTr, hmr, S, hrd⟩ := HJ.out.ex
                      have hBl : T.length + rest.length ≤ 103200 := by
                        have := HW.out.2.2.2.2.2.1
                        rw [← hTr, List.length_append] at this
                        exact this
                      have htk := rd_take (hrd.agree _ hw.keep.agreeNo) kk (by omega)
                      have hfrom := rdb_from hrd kk (by omega)
                      simp only [Option.map, Addr.add_lit] at hfrom
                      have hlk : (rest.take kk).length = kk := by rw [List.length_take]; omega
                      obtain ⟨ac, cc, w5, hrun5, ho5⟩ := clone_bytesApp w4 _ _ (rest.take kk) htk (by omega)
                      rw [hlk] at hrun5 ho5
                      have hfeed := (hw.more ho5.2).feedS ho5.rd (by omega)
                      have HG := Lib.hid (And.intro hA (And.intro hI (And.intro hn1 (And.intro hac (And.intro hm (And.intro hTr (And.intro hmr (And.intro hBl (And.intro hkk (And.intro hkl (And.intro hlk hfrom)))))))))))
                      have hcb := HV.out.2.1
                      have i6 : (kk : Int) ≤ (cb : Int) := by omega
                      have i7 : (0 : Int) ≤ (kk : Int) := by omega
                      have i8 : (kk : Int) ≤ (mb : Int) := by omega
                      have i9 : (mb : Int) ≤ (cb : Int) := by omega
                      have i10 : ¬ (n1 : Int) < (v : Int) := by have := HV.out.1; omega
                      clear hw hA hI hn1 hac hm hTr hmr hrd hBl htk hlk ho5 hkk hkl hfrom HBD HJ hcb
                      go_upto_region 30 with (first | (at_builtin; refine wpList_app rfl (.tmp 108) (.tmp 111) 25 25 rfl rfl rfl hrun5 ?_; clear hrun5) | (go_at_call 31; refine hfeed.mono ?_; clear hfeed; rintro e w6 ⟨rfl, H6⟩))
                      go_upto_region 31 with fail
                      generalize (if cb = kk then some (⟨bb, bo, none⟩ : Addr) else some (⟨bb, bo + kk, none⟩ : Addr)) = ab' at *
                      obtain ⟨X, cur', k', hX⟩ : ∃ X cur' k', allF 20000 (cur ++ rest.take kk) = (X, cur', k') := ⟨_, _, _, rfl⟩
                      obtain ⟨mx, hmx⟩ : ∃ mx, X.length = mx := ⟨_, rfl⟩
                      have HN : RowKit.Hid (Asked (T ++ rest.take kk) (acc ++ X) cur' (n + k') ∧ Idle cur' ∧ n + k' + cur'.length ≤ (T ++ rest.take kk).length ∧ (acc ++ X).length + cur'.length ≤ (T ++ rest.take kk).length ∧ (T ++ rest.take kk) ++ rest.drop kk = B ∧ mb - kk = (rest.drop kk).length ∧ (∀ x ∈ X, x.2 = 0) ∧ X.length = mx ∧ acc.length = m ∧ acc.length + X.length ≤ 103200 ∧ (v + 1 ≤ n1 ∨ mb - kk = 0) ∧ v ≤ n1) := by
                        obtain ⟨hA, hI, hn1, hac, hm, hTr, hmr, hBl, hkk, hkl, hlk, hfrom⟩ := HG.out
                        have hc := allF_cut 20000 (cur ++ rest.take kk)
                        have he := allF_eight 20000 (cur ++ rest.take kk) (by rw [List.length_append, hlk]; omega)
                        have hid := tell_idle _ (cur ++ rest.take kk) (Nat.le_refl _)
                        rw [← he, hX] at hid
                        have ha := (hA.feed (rest.take kk)).allF 20000
                        rw [hX] at ha hc
                        simp only [List.length_append, hlk] at hc
                        have hcat : (T ++ rest.take kk) ++ rest.drop kk = B := by rw [List.append_assoc, List.take_append_drop, hTr]
                        have hB := HX.out.1
                        have hz := whole_part HP.out.2.2.1 ha (hcat.trans hB.symm)
                        refine ⟨ha, hid, by rw [List.length_append, hlk]; omega, by rw [List.length_append, List.length_append, hlk]; omega, hcat, by rw [List.length_drop, hmr], fun x hx => hz x (List.mem_append_right _ hx), hmx, hm.symm, by omega, ?_, HV.out.1⟩
                        by_cases h : v + 1 ≤ n1
                        · exact .inl h
                        · have := hkl (by omega); exact .inr (by omega)
                      have hall : Calls Tryz.prog 33 #[.pointer (some ⟨s, 0, none⟩)] w6 fun e w7 => ∃ ax cx af cf, e = .returned (.tuple #[.slice ax mx cx, .slice af mx cf]) ∧
                          RowKit.Hid ((∃ col', WhW w0 s col' cur' (n + k') (.slice a m c) (acc.map Prod.fst) w7 ∧ Own requestSh 29 w7 (fun i => col' i = 8) (.slice ax mx cx) (X.map Prod.fst)) ∧ ∃ S, Rd (.slice (.int .i64)) w7 S [.slice af mx cf] (X.map Prod.snd)) := by
                        obtain ⟨col6, h6⟩ := H6.out
                        obtain ⟨hA, hI, hn1, hac, hm, hTr, hmr, hBl, hkk, hkl, hlk, hfrom⟩ := HG.out
                        have := h6.allS (by rw [List.length_append, hlk]; omega) (by omega) hX
                        rw [hmx] at this
                        exact this
                      have hfr := HG.out.2.2.2.2.2.2.2.2.2.2.2
                      have HFR := Lib.hid hfr
                      clear hX hmx H6 HG hfr i6 i7 i8 i9
                      go_upto_region 34 with (go_at_call 33; refine hall.mono ?_; clear hall; rintro e w7 ⟨ax, cx, af, cf, rfl, H7⟩)
                      clear i10
                      have jx : (mx : Int) ≤ 103200 := by have := HN.out; omega
                      go_wp2_with fail
                      go_loopg [18] mx (fun g i wx => ∃ y : Nat, y ≤ mx ∧ g = mx - y ∧ i = .int .i64 y ∧ wx = w7)
                      case atStart => exact ⟨0, by omega, by omega, rfl, rfl⟩
                      case round =>
                        obtain ⟨y, hy, rfl, rfl, rfl⟩ := hrel
                        have y0 : (0 : Int) ≤ (y : Int) := by omega
                        by_cases hym : y < mx
                        · have y1 : (y : Int) < (mx : Int) := by omega
                          obtain ⟨S, hrg⟩ := H7.out.2
                          have hyl : y < (X.map Prod.snd).length := by rw [List.length_map]; have := HN.out.2.2.2.2.2.2.2.1; omega
                          obtain ⟨b, off, rfl, -, -, p0, -⟩ := ints_get hrg y hyl
                          have hz0 : (X.map Prod.snd)[y] = 0 := by
                            rw [List.getElem_map]
                            exact HN.out.2.2.2.2.2.2.1 _ (List.getElem_mem _)
                          rw [hz0] at p0
                          have HY := Lib.hid hym
                          clear hrg hyl hz0 hym hy
                          go_wp2_with fail
                          go_roundg (mx - (y + 1))
                          case measure => have := HY.out; omega
                          case rel => exact ⟨y + 1, HY.out, rfl, by simp, rfl⟩
                        · have y1 : ¬ (y : Int) < (mx : Int) := by omega
                          clear hym hy
                          obtain ⟨a9, c9, w9, hrun9, H9⟩ : ∃ a9 c9 w9, (Builtin.append_ #[65, 65] 65 #[.slice a m c, .slice ax mx cx]).run Tryz.prog wr = .ok (.slice a9 (m + mx) c9) w9 ∧
                              RowKit.Hid (WhJ w0 s B ab' (mb - kk) (cb - kk) a9 (m + mx) c9 w9) := by
                            obtain ⟨⟨col', h1, h2⟩, -⟩ := H7.out
                            obtain ⟨g1, g2, g3, g4, g5, g6, g7, g8, g9, g10, -⟩ := HN.out
                            obtain ⟨a9, c9, w9, hrun, hq⟩ := h1.appA h2 (by rw [List.length_map, List.length_map]; omega)
                            rw [List.length_map, List.length_map, g8, g9] at hrun hq
                            obtain ⟨col9, hq⟩ := hq.out
                            refine ⟨a9, c9, w9, hrun, T ++ rest.take kk, rest.drop kk, acc ++ X, cur', n + k', col9, ?_, g1, g2, g3, g4, by rw [List.length_append, g8, g9], g5, g6, S, HFR.out⟩
                            rw [List.map_append]
                            exact hq
                          go_wp2_with (at_builtin; refine wpList_app rfl (.tmp 141) (.tmp 142) 65 65 rfl rfl rfl hrun9 ?_; clear hrun9)
                          go_roundg (n1 + 1 - (v + 1))
                          case measure => have := HN.out.2.2.2.2.2.2.2.2.2.2.2; omega
                          case rel => exact ⟨v + 1, by have := HN.out.2.2.2.2.2.2.2.2.2.2.2; omega, rfl, by simp, ab', mb - kk, cb - kk, a9, m + mx, c9, rfl, rfl, HN.out.2.2.2.2.2.2.2.2.2.2.1, H9.out⟩
                · have hmb0 : mb = 0 := by omega
                  have i3 : ¬ (0 : Int) < (mb : Int) := by omega
                  have hF : RowKit.Hid (Keep No w wr ∧ (∃ S, StreamIn wr s S [] 0) ∧ (∃ S, Rd (.slice requestSh) wr S [.slice a m c] WL) ∧ (∃ S, Rd (.slice requestSh) wr S [.slice aw mw cw] WL) ∧ m = mw ∧ mw = WL.length ∧ WL.length ≤ 100) := by
                    obtain ⟨T, rest, acc, cur, n, col, hw, hA, hI, hn1, hac, hm, hTr, hmr, S, hrd⟩ := HJ.out.ex
                    obtain ⟨hk, -, -, ⟨S2, hrw⟩, hmw, -, hw1⟩ := HW.out
                    have hre : rest = [] := List.length_eq_zero_iff.1 (by omega)
                    rw [hre, List.append_nil] at hTr
                    obtain ⟨g1, rfl, rfl⟩ := whole_all HP.out.2.2.1 hA hI (hTr.trans HX.out.1.symm)
                    rw [HX.out.2] at g1
                    have hla := hw.la
                    rw [g1] at hla
                    refine ⟨hk.trans hw.keep, ⟨_, hw.st⟩, ⟨_, Own.rd hla⟩, ⟨S2, hrw.agree _ hw.keep.agreeNo⟩, ?_, hmw, hw1⟩
                    rw [hm, hmw, ← g1, List.length_map]
                  obtain rfl : m = mw := hF.out.2.2.2.2.1
                  have jm : (m : Int) ≤ 100 := by have := hF.out; omega
                  have hks : Calls Tryz.prog 34 #[.pointer (some ⟨s, 0, none⟩)] wr fun e w' => e = .returned (.int .i64 0) ∧ wr = w' := by
                    obtain ⟨S, h1⟩ := hF.out.2.1
                    exact skipped_any wr _ S [] 0 h1
                  have hkr : Calls Tryz.prog 35 #[.pointer (some ⟨s, 0, none⟩)] wr fun e w' => e = .returned (.int .i64 0) ∧ wr = w' := by
                    obtain ⟨S, h1⟩ := hF.out.2.1
                    exact rest_any wr _ S [] 0 h1
                  clear HJ hvz hv hmb hmb0
                  generalize wr = w5 at *
                  go_upto_region 42 with (first | (go_at_call 34; refine hks.mono ?_; rintro e w6 ⟨rfl, rfl⟩) | (go_at_call 35; refine hkr.mono ?_; rintro e w6 ⟨rfl, rfl⟩))
                  clear hks hkr
                  have H5 : RowKit.Hid (Keep No w w5 ∧ (∃ S, Rd (.slice requestSh) w5 S [.slice a m c] WL) ∧ ∃ S, Rd (.slice requestSh) w5 S [.slice aw m cw] WL) := ⟨hF.out.1, hF.out.2.2.1, hF.out.2.2.2.1⟩
                  have HML := Lib.hid hF.out.2.2.2.2.2
                  clear hF
                  go_wp2_with fail
                  go_loopg [19] m (fun g i wx => ∃ y : Nat, y ≤ m ∧ g = m - y ∧ i = .int .i64 y ∧ RowKit.Hid (Keep No w wx ∧ (∃ S, Rd (.slice requestSh) wx S [.slice a m c] WL) ∧ ∃ S, Rd (.slice requestSh) wx S [.slice aw m cw] WL))
                  case atStart => exact ⟨0, by omega, by omega, rfl, H5.out⟩
                  case round =>
                    clear H5
                    obtain ⟨y, hy, rfl, rfl, HI⟩ := hrel
                    have y0 : (0 : Int) ≤ (y : Int) := by omega
                    by_cases hym : y < m
                    · have y1 : (y : Int) < (m : Int) := by omega
                      have hyl : y < WL.length := by have := HML.out; omega
                      obtain ⟨z, hz⟩ : ∃ z, WL[y] = z := ⟨_, rfl⟩
                      have HE := Lib.hid hym
                      go_upto_region 45 with fail
                      have kd : Keep No wr wr.drew := (Keep.refl No wr).drew
                      have HD : RowKit.Hid (Keep No w wr.drew ∧ (∃ S, Rd (.slice requestSh) wr.drew S [.slice a m c] WL) ∧ ∃ S, Rd (.slice requestSh) wr.drew S [.slice aw m cw] WL) := ⟨HI.out.1.trans kd, HI.out.2.1.imp fun _ x => x.agree _ kd.agreeNo, HI.out.2.2.imp fun _ x => x.agree _ kd.agreeNo⟩
                      clear HI hy hym kd
                      refine wp_region_canw [0, 1, 2, 3, 4, 5, 6, 7, 8, 9] [8] [] (by kernel_rfl) (by kernel_rfl) (by kernel_rfl) (by kernel_rfl) (by intro c a d v w h; cases d <;> exact h) ?_
                      generalize wr.drew = w6 at *
                      obtain ⟨S1, hra⟩ := HD.out.2.1
                      obtain ⟨b1, o1, aa, ca, rfl, p0, p1, p2, p3, hr1⟩ := reqs_get hra y hyl
                      obtain ⟨S2, hrb⟩ := HD.out.2.2
                      obtain ⟨b2, o2, ab2, cb2, rfl, q0, q1, q2, q3, hr2⟩ := reqs_get hrb y hyl
                      rw [hz] at p0 p1 p2 p3 hr1 q0 q1 q2 q3 hr2
                      have heq := (rrqEqual_any w6 _ _ _ _ z z hr1 hr2).mono (R' := fun e w7 => e = .returned (.bool true) ∧ RowKit.Hid (Keep No w w7 ∧ (∃ S, Rd (.slice requestSh) w7 S [.slice (some ⟨b1, o1, none⟩) m c] WL) ∧ ∃ S, Rd (.slice requestSh) w7 S [.slice (some ⟨b2, o2, none⟩) m cw] WL)) (by
                        rintro e w7 ⟨rfl, hk⟩
                        exact ⟨by rw [(Req.eqb_iff z z).2 rfl], HD.out.1.trans hk, HD.out.2.1.imp fun _ x => x.agree _ hk.agreeNo, HD.out.2.2.imp fun _ x => x.agree _ hk.agreeNo⟩)
                      clear hra hrb hr1 hr2 HD hz hyl
                      iterate 8 (refine canw_sil rfl rfl (fun K hK => ?_); go_simp; refine hK _ ?_; clear hK K)
                      refine canw_loud [] rfl rfl rfl (fun K hK => ?_)
                      go_wp2_with (go_at_call 20; refine heq.mono ?_; clear heq p0 p1 p2 p3 q0 q1 q2 q3; rintro e w7 ⟨rfl, H7⟩)
                      refine Mid.normal (hK _ _ stabs_nil ?_)
                      clear hK K
                      iterate 1 (refine canw_sil rfl rfl (fun K hK => ?_); go_simp; refine hK _ ?_; clear hK K)
                      refine canw_nil ?_
                      go_wp2_with fail
                      go_roundg (m - (y + 1))
                      case measure => have := HE.out; omega
                      case rel => exact ⟨y + 1, HE.out, rfl, by simp, H7.out⟩
                    · have y1 : ¬ (y : Int) < (m : Int) := by omega
                      clear hym hy
                      go_wp2_with (go_at_call 13; refine (HLV.out _ HI.out.1).mono ?_; rintro e w7 ⟨rfl, HL⟩)
                      go_ret
                      exact ⟨rfl, HL.out⟩
        · have j3 : ¬ (n1 : Int) ≤ 300 := by omega
          clear hlt h100 h300 hk hk2
          go_wp2_with (go_at_call 13; refine (HLV.out _ HK.out).mono ?_; rintro e w3 ⟨rfl, H3⟩)
          go_ret
          exact ⟨rfl, H3.out⟩
      · obtain rfl : k = 101 := by omega
        have j2 : ¬ ((101 : Nat) : Int) ≤ 100 := by omega
        have HQ := Lib.hid hk
        clear hlt h100 hk2
        by_cases hlt : 101 < n0
        · have j1 : ((101 : Nat) : Int) < (n0 : Int) := by omega
          clear hlt hk
          go_wp2_with (go_at_call 13; refine (HLV.out _ HK.out).mono ?_; rintro e w3 ⟨rfl, H3⟩)
          go_ret
          exact ⟨rfl, H3.out⟩
        · have j1 : ¬ ((101 : Nat) : Int) < (n0 : Int) := by omega
          clear hlt hk
          go_wp2_with (go_at_call 13; refine (HLV.out _ HK.out).mono ?_; rintro e w3 ⟨rfl, H3⟩)
          go_ret
          exact ⟨rfl, H3.out⟩
end Go.Proofs.YtpjcebajkfeacaaGreatDoor
namespace Go.Proofs.YtpjcebajkfeacaaGreatDoor
open Go Go.RowKit Go.Deep
theorem reqs_bulk (l : List Req) : l.length ≤ (l.map requestSh.bulk).sum ∧ ∀ q ∈ l, requestSh.bulk q ≤ (l.map requestSh.bulk).sum := by
  induction l with
  | nil => exact ⟨Nat.le_refl _, fun q h => by cases h⟩
  | cons p l ih =>
    have e : requestSh.bulk p = (1 + (1 + ((p.name.size + 1) + (((p.args.map valueSh.bulk).sum + 1) + 0)))) + 1 := rfl
    simp only [List.map_cons, List.sum_cons, List.length_cons]
    refine ⟨by omega, fun q hq => ?_⟩
    rcases List.mem_cons.1 hq with rfl | hq
    · omega
    · have := ih.2 q hq; omega
theorem ints_bulk (l : List Int) : (l.map (Sh.int .i64).bulk).sum = l.length := by
  induction l with
  | nil => rfl
  | cons x l ih => simp only [List.map_cons, List.sum_cons, List.length_cons, ih]; show 1 + _ = _; omega
theorem RequestWhole_calls (w : World) (ht : Tab w) (v0 : Value) (x0 : List Req) (h0 : Rd (.slice requestSh) w (Lt w.heap.size) [v0] x0) (b0 : (Sh.slice requestSh).bulk x0 ≤ 1048576) (v1 : Value) (x1 : List Int) (h1 : Rd (.slice (.int .i64)) w (Lt w.heap.size) [v1] x1) (b1 : (Sh.slice (.int .i64)).bulk x1 ≤ 1048576) :
    Calls Tryz.prog 9 #[v0, v1] w fun e w' => e = .returned (.bool true) ∧ Keep No w w' := by
  have e0 : (Sh.slice requestSh).bulk x0 = (x0.map requestSh.bulk).sum + 1 := rfl
  have e1 : (Sh.slice (.int .i64)).bulk x1 = (x1.map (Sh.int .i64).bulk).sum + 1 := rfl
  have hb := reqs_bulk x0
  have hi := ints_bulk x1
  obtain ⟨a0, c0, e2, -⟩ := id h0
  obtain ⟨a1, c1, e3, -⟩ := id h1
  simp only [List.cons.injEq, and_true] at e2 e3
  subst e2
  subst e3
  exact RequestWhole_main w ht a0 _ c0 x0 h0 (fun q hq => req_small (by have := hb.2 q hq; omega)) (by have := hb.1; omega) a1 _ c1 x1 h1 (by omega)
end Go.Proofs.YtpjcebajkfeacaaGreatDoor
